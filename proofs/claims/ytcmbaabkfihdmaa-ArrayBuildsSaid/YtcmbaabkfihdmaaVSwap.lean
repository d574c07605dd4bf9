/- Neighbours change places; an operation is taken first. -/
import Derived.Test.YtcmbaabkfihdmaaVReg
set_option linter.unusedVariables false
set_option linter.unusedSimpArgs false
namespace Go.V
open Go

def ldSta : MOp → MOp → Bool
  | .ld _ _ (.t p), .sta av _ _ _ => av.contains p
  | _, _ => false
def callAlloc : MOp → MOp → Bool
  | .callF _ _, .alloc _ _ => true
  | .callZ _ _, .alloc _ _ => true
  | _, _ => false
def classPair (x y : MOp) : Bool := x.isPure || y.isPure || (x.isRead && (y.isRead || y.isPush)) || ldSta x y || callAlloc x y
def apartPair (x y : IOp) : Bool :=
  (match x.dst with | some d => !y.looks d && y.dst != some d | none => true) && (match y.dst with | some d => !x.looks d | none => true)
/-- 'x' stands ahead of 'y': may 'y' be carried out first? -/
def okPair (x y : IOp) : Bool := apartPair x y && classPair x.op y.op

/-- One step: its value, the memory behind it. -/
inductive Core (C : CallRel) (mem : List AObj) (e : Opd → AV) (o : IOp) : AV → List AObj → Prop
  | go {v m} : (o.g = none ∨ ∃ t b, o.g = some (t, b) ∧ e (.t t) = .bool b) → OpR C mem e o.op v m → Core C mem e o v m
  | no {t b} : o.g = some (t, b) → (e (.t t) = .bool (!b) ∨ e (.t t) = .tup []) → Core C mem e o (.tup []) mem

theorem stepR_core {C : CallRel} {s s' : St} {o : IOp} : StepR C s o s' ↔ ∃ v m, Core C s.mem (ev s.env) o v m ∧ s' = ⟨putE s.env o.dst v, m⟩ := by
  constructor
  · intro h
    cases h with
    | go h1 h2 => exact ⟨_, _, .go h1 h2, rfl⟩
    | no h1 h2 => exact ⟨_, _, .no h1 h2, rfl⟩
  · rintro ⟨v, m, h, rfl⟩
    cases h with
    | go h1 h2 => exact .go h1 h2
    | no h1 h2 => exact .no h1 h2

theorem Core.congr {C : CallRel} {mem m : List AObj} {e e' : Opd → AV} {o : IOp} {v : AV} (h1 : ∀ x ∈ o.op.opds, e x = e' x) (h2 : ∀ t b, o.g = some (t, b) → e (.t t) = e' (.t t)) (h : Core C mem e o v m) : Core C mem e' o v m := by
  cases h with
  | go g1 g2 =>
    refine .go ?_ (OpR_congr h1 g2)
    rcases g1 with g1 | ⟨t, b, g1, g3⟩
    · exact .inl g1
    · exact .inr ⟨t, b, g1, by rw [← h2 t b g1]; exact g3⟩
  | no g1 g2 => exact .no g1 (by rw [← h2 _ _ g1]; exact g2)

theorem Core.pure {C : CallRel} {mem m : List AObj} (mem' : List AObj) {e : Opd → AV} {o : IOp} {v : AV} (hp : o.op.isPure = true) (h : Core C mem e o v m) : m = mem ∧ Core C mem' e o v mem' := by
  cases h with
  | go g1 g2 => exact ⟨(OpR_pure mem' hp g2).1, .go g1 (OpR_pure mem' hp g2).2⟩
  | no g1 g2 => exact ⟨rfl, .no g1 g2⟩
theorem Core.read {C : CallRel} {mem mem' m : List AObj} (hg : Grow mem mem') {e : Opd → AV} {o : IOp} {v : AV} (hp : o.op.isRead = true) (h : Core C mem e o v m) : m = mem ∧ Core C mem' e o v mem' := by
  cases h with
  | go g1 g2 => exact ⟨(OpR_read hg hp g2).1, .go g1 (OpR_read hg hp g2).2⟩
  | no g1 g2 => exact ⟨rfl, .no g1 g2⟩
theorem Core.push {C : CallRel} {mem m : List AObj} {e : Opd → AV} {o : IOp} {v : AV} (hp : o.op.isPush = true) (h : Core C mem e o v m) : Grow mem m := by
  cases h with
  | go g1 g2 => exact OpR_push hp g2
  | no g1 g2 => exact Grow.refl _

theorem getE_put {env : Env} {d : Option Nat} {v : AV} {n : Nat} (h : d ≠ some n) : getE (putE env d v) n = getE env n := by
  cases d with
  | none => rfl
  | some d =>
    simp only [putE, getE]
    rw [if_neg (fun h' => h (by rw [h']))]
theorem getE_put_same {env : Env} {d : Nat} {v : AV} : getE (putE env (some d) v) d = v := by simp [putE, getE]

theorem looks_ev {o : IOp} {env : Env} {d : Option Nat} {v : AV} (h : ∀ k, d = some k → o.looks k = false) :
    (∀ x ∈ o.op.opds, ev env x = ev (putE env d v) x) ∧ (∀ t b, o.g = some (t, b) → ev env (.t t) = ev (putE env d v) (.t t)) := by
  constructor
  · intro x hx
    cases x with
    | k => rfl
    | t n =>
      simp only [ev]
      rw [getE_put]
      intro hd
      have := h n hd
      simp only [IOp.looks, Bool.or_eq_false_iff, List.any_eq_false] at this
      exact this.1 _ hx (by simp [Opd.isT])
  · intro t b hg
    simp only [ev]
    rw [getE_put]
    intro hd
    have := h t hd
    simp [IOp.looks, hg] at this

/-- Adopted slices: what they become depends on how many objects there are. -/
theorem adopt_len : ∀ (cs : List AV) (L : Nat), ∃ ds ext, ∀ mem : List AObj, mem.length = L → adopt cs mem = (ds, mem ++ ext)
  | [], L => ⟨[], [], fun mem _ => by simp [adopt]⟩
  | c :: cs, L => by
    have key : (∃ ty sz, c = .nilsl ty sz) ∨ ∀ mem, adopt (c :: cs) mem = (c :: (adopt cs mem).1, (adopt cs mem).2) := by cases c <;> simp [adopt]
    rcases key with ⟨ty, sz, rfl⟩ | key
    · obtain ⟨ds, ext, h⟩ := adopt_len cs (L + 1)
      refine ⟨.arr L 0 :: ds, ⟨false, ty, sz, 0, 0, [], false⟩ :: ext, fun mem hm => ?_⟩
      simp only [adopt]
      rw [h _ (by simp [hm]), hm]
      simp
    · obtain ⟨ds, ext, h⟩ := adopt_len cs L
      exact ⟨c :: ds, ext, fun mem hm => by rw [key, h _ hm]⟩

theorem freeze_append {ns : List Nat} {a b : List AObj} (h : ∀ n ∈ ns, n < a.length) : freeze ns (a ++ b) = freeze ns a ++ b := by
  apply List.ext_getElem?
  intro i
  unfold freeze
  rw [List.getElem?_mapIdx]
  by_cases hi : i < a.length
  · rw [List.getElem?_append_left hi, List.getElem?_append_left (by simpa using hi), List.getElem?_mapIdx]
  · rw [List.getElem?_append_right (by omega), List.getElem?_append_right (by simp; omega), List.length_mapIdx]
    have : ns.contains i = false := by
      simp only [List.contains_eq_mem, decide_eq_false_iff_not]
      exact fun hm => hi (h i hm)
    rw [this]
    simp
theorem freeze_length {ns : List Nat} {a : List AObj} : (freeze ns a).length = a.length := by simp [freeze]

theorem call_alloc {C : CallRel} {mem m1 m2 : List AObj} {e e1 : Opd → AV} {x y : MOp} {v1 v2 : AV} (hk : callAlloc x y = true) (h1 : OpR C mem e x v1 m1) (h2 : OpR C m1 e1 y v2 m2) :
    ∃ m, OpR C mem e1 y v2 m ∧ OpR C m e x v1 m2 := by
  have key : ∀ {xs : List Opd} {as : List AV} {ty : Nat} {cs : List AV}, xs.mapM (fun x => snap mem 10 (e x)) = some as → OpR C (freeze (xs.flatMap fun x => refs mem 10 (e x)) mem) e1 (.alloc ty cs) v2 m2 →
      ∃ ext, OpR C mem e1 (.alloc ty cs) v2 (mem ++ ext) ∧ m2 = freeze (xs.flatMap fun x => refs mem 10 (e x)) mem ++ ext := by
    intro xs as ty cs hs h2
    cases h2 with
    | op h2 =>
      simp only [evalOp, Option.some.injEq, Prod.mk.injEq] at h2
      obtain ⟨e2, e3⟩ := h2
      obtain ⟨ds, ext, ha⟩ := adopt_len cs mem.length
      have ha1 := ha mem rfl
      have ha2 := ha (freeze (xs.flatMap fun x => refs mem 10 (e x)) mem) freeze_length
      rw [ha2] at e2 e3
      refine ⟨ext ++ [⟨true, ty, cs.length, 0, 1, ds, false⟩], .op ?_, ?_⟩
      · simp only [evalOp, Option.some.injEq, Prod.mk.injEq]
        rw [ha1]
        refine ⟨?_, by simp⟩
        rw [← e2]
        simp [freeze_length]
      · rw [← e3]
        simp
  have lt : ∀ {xs : List Opd} {as : List AV}, xs.mapM (fun x => snap mem 10 (e x)) = some as → ∀ n ∈ xs.flatMap (fun x => refs mem 10 (e x)), n < mem.length := by
    intro xs as hs n hn
    obtain ⟨x, hx, hn⟩ := List.mem_flatMap.1 hn
    obtain ⟨y, hy⟩ := mapM_all hs x hx
    exact ((snap_mono (Grow.refl mem) 10).1 _ _ hy).2.2 n hn
  have rf : ∀ {xs : List Opd} {as : List AV} {ext : List AObj}, xs.mapM (fun x => snap mem 10 (e x)) = some as → xs.mapM (fun x => snap (mem ++ ext) 10 (e x)) = some as ∧ xs.flatMap (fun x => refs (mem ++ ext) 10 (e x)) = xs.flatMap (fun x => refs mem 10 (e x)) := by
    intro xs as ext hs
    refine ⟨mapM_mono (fun x hx y hy => ((snap_mono (Grow.append mem ext) 10).1 _ _ hy).1) hs, flatMap_congr' (fun x hx => ?_)⟩
    obtain ⟨y, hy⟩ := mapM_all hs x hx
    exact ((snap_mono (Grow.append mem ext) 10).1 _ _ hy).2.1
  cases h1 with
  | @callF f xs as r g1 g2 =>
    cases y <;> simp only [callAlloc, Bool.false_eq_true] at hk
    obtain ⟨ext, k1, k2⟩ := key g1 h2
    refine ⟨_, k1, ?_⟩
    obtain ⟨r1, r2⟩ := rf (ext := ext) g1
    rw [k2, ← freeze_append (lt g1), ← r2]
    exact .callF r1 g2
  | @callZ f xs as r m r' g1 g2 g3 =>
    cases y <;> simp only [callAlloc, Bool.false_eq_true] at hk
    obtain ⟨ext, k1, k2⟩ := key g1 h2
    refine ⟨_, k1, ?_⟩
    obtain ⟨r1, r2⟩ := rf (ext := ext) g1
    rw [k2, ← freeze_append (lt g1), ← r2]
    exact .callZ r1 g2 g3
  | op g1 => cases y <;> cases x <;> simp only [callAlloc, Bool.false_eq_true] at hk <;> simp [evalOp] at g1
  | _ => cases y <;> simp [callAlloc] at hk

/-- All objects but one have stayed. -/
def GrowX (k : Nat) (mem mem' : List AObj) : Prop := ∀ (n : Nat) (o : AObj), n ≠ k → mem[n]? = some o → ∃ b, mem'[n]? = some { o with fr := b }

theorem storeOp_grow {mem m : List AObj} {n : Nat} {a x v : AV} (h : storeOp mem n a x = some (v, m)) : ∃ k g i, a = .loc k g i ∧ GrowX k mem m := by
  unfold storeOp at h
  split at h
  · rename_i k g i
    refine ⟨k, g, i, rfl, ?_⟩
    split at h
    · rename_i o ho
      split at h
      · rename_i cs hcs
        split at h
        · rename_i hc
          split at h
          · simp only [Option.some.injEq, Prod.mk.injEq] at h
            rw [← h.2]
            intro n' o' hn ho'
            obtain ⟨b, hb⟩ := Grow.adopt cs mem n' o' ho'
            exact ⟨b, by rw [List.getElem?_set_ne (Ne.symm hn)]; exact hb⟩
          · split at h
            · split at h
              · cases h
              · simp only [Option.some.injEq, Prod.mk.injEq] at h
                rw [← h.2]
                intro n' o' hn ho'
                obtain ⟨b, hb⟩ := Grow.freeze (refsL mem 9 true cs) mem n' o' ho'
                exact ⟨b, by rw [List.getElem?_set_ne (Ne.symm hn)]; exact hb⟩
            · cases h
        · cases h
      · cases h
    · cases h
  · cases h

theorem ld_sta {C : CallRel} {mem m2 : List AObj} {e e1 : Opd → AV} {x y : MOp} {v1 v2 : AV} {m1 : List AObj} (hk : ldSta x y = true) (he : ∀ z ∈ x.opds, e z = e1 z) (h1 : OpR C mem e x v1 m1) (h2 : OpR C m1 e1 y v2 m2) :
    m1 = mem ∧ OpR C m2 e x v1 m2 := by
  unfold ldSta at hk
  split at hk
  · rename_i agg n p av n' a z
    cases h1 with
    | op h1 =>
      have hm : m1 = mem := (evalOp_read (Grow.refl mem) rfl h1).1
      subst hm
      refine ⟨rfl, .op ?_⟩
      cases h2 with
      | op h2 =>
        simp only [evalOp] at h2
        split at h2
        · rename_i hav
          rw [List.all_eq_true] at hav
          have hp := hav p (by simpa using hk)
          obtain ⟨k, g, i, ha, hgx⟩ := storeOp_grow h2
          rw [← he (.t p) (by simp [MOp.opds]), ha] at hp
          simp only [evalOp] at h1 ⊢
          split at h1
          · rename_i hpp; rw [hpp] at hp; simp [apartOf] at hp
          · rename_i q g' i' hpp
            rw [hpp] at hp
            simp only [apartOf, bne_iff_ne, ne_eq] at hp
            split at h1
            · rename_i o ho
              have : ∃ b, geto m2 q g' = some { o with fr := b } := by
                unfold geto at ho ⊢
                split at ho
                · rename_i o' ho'
                  split at ho
                  · rename_i hgg
                    obtain rfl := Option.some.inj ho
                    obtain ⟨b, hb⟩ := hgx q o' hp ho'
                    exact ⟨b, by rw [hb]; simp [hgg]⟩
                  · cases ho
                · cases ho
              obtain ⟨b, hb⟩ := this
              obtain ⟨v', h3, h4⟩ := Option.map_eq_some_iff.1 h1
              simp only [Prod.mk.injEq] at h4
              obtain ⟨rfl, _⟩ := h4
              rw [hb]
              simp only [h3, Option.map_some]
            · cases h1
          · cases h1
        · cases h2
  · cases hk

def Like (s t : St) : Prop := s.mem = t.mem ∧ ∀ n, getE s.env n = getE t.env n
theorem Like.refl (s : St) : Like s s := ⟨rfl, fun _ => rfl⟩
theorem Like.symm {s t : St} (h : Like s t) : Like t s := ⟨h.1.symm, fun n => (h.2 n).symm⟩
theorem Like.trans {s t u : St} (h : Like s t) (k : Like t u) : Like s u := ⟨h.1.trans k.1, fun n => (h.2 n).trans (k.2 n)⟩
theorem Like.ev {s t : St} (h : Like s t) : ev s.env = ev t.env := by
  funext x
  cases x with
  | t n => exact h.2 n
  | k => rfl
theorem Like.put {env env' : Env} (h : ∀ n, getE env n = getE env' n) (d : Option Nat) (v : AV) : ∀ n, getE (putE env d v) n = getE (putE env' d v) n := by
  intro n
  cases d with
  | none => exact h n
  | some d => simp only [putE, getE, h n]

theorem StepR.like {C : CallRel} {s s' t : St} {o : IOp} (h : StepR C s o s') (hl : Like s t) : ∃ t', StepR C t o t' ∧ Like s' t' := by
  obtain ⟨v, m, h1, rfl⟩ := stepR_core.1 h
  rw [hl.1, hl.ev] at h1
  exact ⟨_, stepR_core.2 ⟨v, m, h1, rfl⟩, rfl, Like.put hl.2 _ _⟩
theorem RegR.like {C : CallRel} {ops : List IOp} {s s' t : St} (h : RegR C ops s s') (hl : Like s t) : ∃ t', RegR C ops t t' ∧ Like s' t' := by
  induction h generalizing t with
  | nil => exact ⟨t, .nil, hl⟩
  | cons h1 _ ih =>
    obtain ⟨t1, h2, h3⟩ := h1.like hl
    obtain ⟨t2, h4, h5⟩ := ih h3
    exact ⟨t2, .cons h2 h4, h5⟩

theorem put_comm {env : Env} {x y : Option Nat} {v u : AV} (h : ∀ d, x = some d → y ≠ some d) : ∀ n, getE (putE (putE env x v) y u) n = getE (putE (putE env y u) x v) n := by
  intro n
  cases x with
  | none => rfl
  | some d =>
    cases y with
    | none => rfl
    | some k =>
      have := h d rfl
      simp only [putE, getE]
      by_cases h1 : k = n
      · by_cases h2 : d = n
        · subst h1; subst h2; exact absurd rfl this
        · simp [h1, h2]
      · simp [h1]

theorem swap {C : CallRel} {s s1 s2 : St} {x y : IOp} (hp : okPair x y = true) (h1 : StepR C s x s1) (h2 : StepR C s1 y s2) : ∃ t1 t2, StepR C s y t1 ∧ StepR C t1 x t2 ∧ Like t2 s2 := by
  simp only [okPair, Bool.and_eq_true, apartPair] at hp
  obtain ⟨⟨ha, hb⟩, hc⟩ := hp
  have a1 : ∀ d, x.dst = some d → y.looks d = false ∧ y.dst ≠ some d := fun d hd => by
    rw [hd] at ha
    simpa using ha
  have a2 : ∀ d, y.dst = some d → x.looks d = false := fun d hd => by
    rw [hd] at hb
    simpa using hb
  obtain ⟨v1, m1, c1, rfl⟩ := stepR_core.1 h1
  obtain ⟨v2, m2, c2, rfl⟩ := stepR_core.1 h2
  simp only at c2
  obtain ⟨l1, l2⟩ := looks_ev (env := s.env) (v := v1) (fun d hd => (a1 d hd).1)
  obtain ⟨l3, l4⟩ := looks_ev (env := s.env) (v := v2) a2
  have c2' : Core C m1 (ev s.env) y v2 m2 := c2.congr (fun z hz => (l1 z hz).symm) (fun t b hg => (l2 t b hg).symm)
  have fin : ∀ m, Core C s.mem (ev s.env) y v2 m → Core C m (ev s.env) x v1 m2 → ∃ t1 t2, StepR C s y t1 ∧ StepR C t1 x t2 ∧ Like t2 ⟨putE (putE s.env x.dst v1) y.dst v2, m2⟩ := fun m k1 k2 =>
    ⟨_, _, stepR_core.2 ⟨v2, m, k1, rfl⟩, stepR_core.2 ⟨v1, m2, k2.congr l3 l4, rfl⟩, rfl, fun n => (put_comm (fun d hd => (a1 d hd).2) n).symm⟩
  simp only [classPair, Bool.or_eq_true, Bool.and_eq_true] at hc
  rcases hc with (((hc | hc) | ⟨hr, hc⟩) | hc) | hc
  · obtain ⟨rfl, k⟩ := c1.pure m2 hc
    exact fin m2 c2' k
  · obtain ⟨rfl, k⟩ := c2'.pure s.mem hc
    exact fin s.mem k c1
  · have hm : m1 = s.mem := (c1.read (Grow.refl _) hr).1
    rw [hm] at c2'
    have hg : Grow s.mem m2 := by
      rcases hc with hc | hc
      · rw [(c2'.read (Grow.refl _) hc).1]; exact Grow.refl _
      · exact c2'.push hc
    exact fin m2 c2' (c1.read hg hr).2
  · cases c1 with
    | no g1 g2 => exact fin m2 c2' (.no g1 g2)
    | go g1 g2 =>
      cases c2' with
      | no k1 k2 =>
        exact fin s.mem (.no k1 k2) (.go g1 g2)
      | go k1 k2 =>
        obtain ⟨r1, r2⟩ := ld_sta hc (fun _ _ => rfl) g2 k2
        rw [r1] at k2
        exact fin m2 (.go k1 k2) (.go g1 r2)
  · cases c1 with
    | no g1 g2 => exact fin m2 c2' (.no g1 g2)
    | go g1 g2 =>
      cases c2' with
      | no k1 k2 => exact fin s.mem (.no k1 k2) (.go g1 g2)
      | go k1 k2 =>
        obtain ⟨m, r1, r2⟩ := call_alloc hc g2 k2
        exact fin m (.go k1 r1) (.go g1 r2)

/-- An operation is taken first. -/
theorem front {C : CallRel} {y : IOp} : ∀ {pre post : List IOp} {s s' : St}, (∀ x ∈ pre, okPair x y = true) → RegR C (pre ++ y :: post) s s' → ∃ s1 s2, StepR C s y s1 ∧ RegR C (pre ++ post) s1 s2 ∧ Like s2 s'
  | [], post, s, s', _, h => by
    cases h with | cons h1 h2 => exact ⟨_, _, h1, h2, Like.refl _⟩
  | x :: pre, post, s, s', hp, h => by
    cases h with
    | cons h1 h2 =>
      obtain ⟨s1, s2, h3, h4, h5⟩ := front (fun z hz => hp z (by simp [hz])) h2
      obtain ⟨t1, t2, k1, k2, k3⟩ := swap (hp x (by simp)) h1 h3
      obtain ⟨u, k4, k5⟩ := h4.like k3.symm
      exact ⟨t1, u, k1, .cons k2 k4, k5.symm.trans h5⟩

end Go.V
