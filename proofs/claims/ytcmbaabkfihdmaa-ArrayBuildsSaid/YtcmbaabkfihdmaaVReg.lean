/- Which neighbours in a region may change places. -/
import Derived.Test.YtcmbaabkfihdmaaVWp
set_option linter.unusedVariables false
set_option linter.unusedSimpArgs false
namespace Go.V
open Go

/-! ### What an operation looks at -/
def MOp.opds : MOp → List Opd
  | .bad | .alloc _ _ => []
  | .newnil _ _ => []
  | .mov x | .box _ _ x | .ldf _ _ x | .ld _ _ x | .nilchk x | .neg x | .not x | .conv _ x | .mk _ _ _ x | .mk0 _ _ _ x | .s2b x | .b2s x | .faddr _ x | .fld _ _ _ x | .len x | .lenf x | .slen x | .ext x _ => [x]
  | .pick c a b => [c, a, b]
  | .build _ ps => ps.map (·.2.2)
  | .bsl _ _ xs | .mkfn _ xs | .callP _ xs | .callR _ xs | .callF _ xs | .callO _ xs | .callZ _ xs | .callG _ xs | .callM _ xs => xs
  | .callV x xs => x :: xs
  | .st _ a x => [a, x]
  | .sta av _ a x => a :: x :: av.map .t
  | .bin _ x y | .binb _ x y | .binp _ x y | .bins _ _ x y | .cpy _ x y | .iaddr _ x y | .iaddrf _ x y | .sidx x y | .app _ _ _ x y | .mx x y | .mn x y => [x, y]
  | .cut _ x lo hi | .scut x lo hi => x :: (lo.toList ++ hi.toList)

def Opd.isT (d : Nat) : Opd → Bool
  | .t n => n == d
  | _ => false
def IOp.looks (o : IOp) (d : Nat) : Bool := o.op.opds.any (Opd.isT d) || (match o.g with | some (t, _) => t == d | none => false)

theorem fillAll_congr {e e' : Opd → AV} : ∀ {ps : List (Nat × Nat × Opd)} {cs : List AV}, (∀ x ∈ ps.map (·.2.2), e x = e' x) → fillAll ps e cs = fillAll ps e' cs
  | [], cs, h => rfl
  | (off, n, x) :: ps, cs, h => by
    simp only [fillAll]
    rw [h x (by simp)]
    split
    · split
      · exact fillAll_congr (fun y hy => h y (by simp at hy ⊢; exact .inr hy))
      · rfl
    · rfl

theorem mapM_congr {α β : Type} {f g : α → Option β} : ∀ {l : List α}, (∀ x ∈ l, f x = g x) → l.mapM f = l.mapM g
  | [], h => rfl
  | x :: l, h => by
    rw [List.mapM_cons, List.mapM_cons, h x (by simp), mapM_congr (fun y hy => h y (by simp [hy]))]
theorem flatMap_congr' {α β : Type} {f g : α → List β} : ∀ {l : List α}, (∀ x ∈ l, f x = g x) → l.flatMap f = l.flatMap g
  | [], h => rfl
  | x :: l, h => by
    rw [List.flatMap_cons, List.flatMap_cons, h x (by simp), flatMap_congr' (fun y hy => h y (by simp [hy]))]
theorem bound_congr {e e' : Opd → AV} {lo : Option Opd} (h : ∀ x ∈ lo.toList, e x = e' x) (d m : Nat) : bound lo e d m = bound lo e' d m := by
  cases lo with
  | none => rfl
  | some x => simp only [bound]; rw [h x (by simp)]
theorem cutOp_congr {mem : List AObj} {sz : Nat} {x : AV} {e e' : Opd → AV} {lo hi : Option Opd} (h1 : ∀ x ∈ lo.toList, e x = e' x) (h2 : ∀ x ∈ hi.toList, e x = e' x) : cutOp mem sz x lo hi e = cutOp mem sz x lo hi e' := by
  have k1 : ∀ d m, bound lo e d m = bound lo e' d m := bound_congr h1
  have k2 : ∀ d m, bound hi e d m = bound hi e' d m := bound_congr h2
  unfold cutOp
  simp only [k1, k2]

theorem evalOp_congr {mem : List AObj} {e e' : Opd → AV} {io : MOp} (h : ∀ x ∈ io.opds, e x = e' x) : evalOp mem e io = evalOp mem e' io := by
  cases io
  case build zero ps => simp only [evalOp]; rw [fillAll_congr (by simpa only [MOp.opds] using h)]
  case bsl ty sz xs =>
    simp only [evalOp]
    simp only [MOp.opds] at h
    rw [mapM_congr (f := fun x => (cellsOf (e x)).bind fun cs => if cs.length = sz then snapL mem 9 true cs else none) (g := fun x => (cellsOf (e' x)).bind fun cs => if cs.length = sz then snapL mem 9 true cs else none) (fun x hx => by rw [h x hx]),
      flatMap_congr' (f := fun x => refsL mem 9 true ((cellsOf (e x)).getD [])) (g := fun x => refsL mem 9 true ((cellsOf (e' x)).getD [])) (fun x hx => by rw [h x hx])]
  case mkfn f xs =>
    simp only [evalOp]
    simp only [MOp.opds] at h
    rw [List.map_congr_left h]
  case sta av n a x =>
    simp only [MOp.opds, List.mem_cons, List.mem_map] at h
    simp only [evalOp]
    rw [h a (.inl rfl), h x (.inr (.inl rfl))]
    have : (av.all fun t => apartOf (e (.t t)) (e' a)) = (av.all fun t => apartOf (e' (.t t)) (e' a)) := by
      have hh : ∀ t ∈ av, e (.t t) = e' (.t t) := fun t ht => h _ (.inr (.inr ⟨t, ht, rfl⟩))
      clear h
      induction av with
      | nil => rfl
      | cons t av ih => simp only [List.all_cons]; rw [hh t (by simp), ih (fun s hs => hh s (by simp [hs]))]
    rw [this]
  case cut sz x lo hi =>
    simp only [MOp.opds, List.mem_cons, List.mem_append] at h
    simp only [evalOp]
    rw [h x (.inl rfl), cutOp_congr (fun y hy => h y (.inr (.inl hy))) (fun y hy => h y (.inr (.inr hy)))]
  case scut x lo hi =>
    simp only [MOp.opds, List.mem_cons, List.mem_append] at h
    simp only [evalOp]
    rw [h x (.inl rfl)]
    have k1 : ∀ d m, bound lo e d m = bound lo e' d m := bound_congr (fun y hy => h y (.inr (.inl hy)))
    have k2 : ∀ d m, bound hi e d m = bound hi e' d m := bound_congr (fun y hy => h y (.inr (.inr hy)))
    simp only [k1, k2]
  all_goals
    simp only [MOp.opds, List.mem_cons, List.mem_singleton, List.not_mem_nil, or_false, false_or, forall_eq_or_imp, forall_eq, false_implies, implies_true] at h
    simp only [evalOp, h]

theorem OpR_congr {C : CallRel} {mem : List AObj} {e e' : Opd → AV} {io : MOp} {v : AV} {m : List AObj} (h : ∀ x ∈ io.opds, e x = e' x) (hr : OpR C mem e io v m) : OpR C mem e' io v m := by
  have k1 : ∀ {xs : List Opd} {k : Nat} {mem : List AObj}, (∀ x ∈ xs, e x = e' x) → xs.mapM (fun x => snap mem k (e x)) = xs.mapM (fun x => snap mem k (e' x)) := fun hx => mapM_congr (fun x hm => by rw [hx x hm])
  have k2 : ∀ {xs : List Opd} {k : Nat}, (∀ x ∈ xs, e x = e' x) → xs.flatMap (fun x => refs mem k (e x)) = xs.flatMap (fun x => refs mem k (e' x)) := fun hx => flatMap_congr' (fun x hm => by rw [hx x hm])
  cases hr with
  | op hv => exact .op (by rw [← evalOp_congr h]; exact hv)
  | @callP f xs as r h1 h2 => have h : ∀ x ∈ xs, e x = e' x := h; exact .callP (by rw [← k1 h]; exact h1) h2
  | @callR f xs as r h1 h2 h3 => have h : ∀ x ∈ xs, e x = e' x := h; exact .callR (by rw [← k1 h]; exact h1) h2 h3
  | @callF f xs as r h1 h2 => have h : ∀ x ∈ xs, e x = e' x := h; rw [k2 h]; exact .callF (by rw [← k1 h]; exact h1) h2
  | @callO f xs as r m h1 h2 h3 h4 => have h : ∀ x ∈ xs, e x = e' x := h; rw [k2 h]; exact .callO (by rw [← k1 h]; exact h1) h2 h3 h4
  | @callZ f xs as r m r' h1 h2 h3 => have h : ∀ x ∈ xs, e x = e' x := h; rw [k2 h]; exact .callZ (by rw [← k1 h]; exact h1) h2 h3
  | @callG f xs r m h0 h1 h2 h3 =>
    have h : ∀ x ∈ xs, e x = e' x := h
    exact .callG (by rw [List.all_eq_true] at h0 ⊢; exact fun x hx => by rw [← h x hx]; exact h0 x hx) (by rw [← List.map_congr_left h]; exact h1) h2 h3
  | @callM f xs r m h1 => have h : ∀ x ∈ xs, e x = e' x := h; exact .callM (by rw [← List.map_congr_left h]; exact h1)
  | callV h1 h2 h3 h4 h5 =>
    simp only [MOp.opds, List.mem_cons, forall_eq_or_imp] at h
    exact .callV (by rw [← h.1]; exact h1) (by rw [← k1 h.2]; exact h2) h3 h4 h5

/-! ### The memory has grown; the old objects have stayed but for being frozen -/
def Grow (mem mem' : List AObj) : Prop := ∀ (n : Nat) (o : AObj), mem[n]? = some o → ∃ b, mem'[n]? = some { o with fr := b }
theorem Grow.refl (mem : List AObj) : Grow mem mem := fun n o h => ⟨o.fr, h⟩
theorem Grow.trans {a b c : List AObj} (h1 : Grow a b) (h2 : Grow b c) : Grow a c := fun n o h => by
  obtain ⟨x, hx⟩ := h1 n o h
  obtain ⟨y, hy⟩ := h2 n _ hx
  exact ⟨y, hy⟩
theorem Grow.append (a b : List AObj) : Grow a (a ++ b) := fun n o h => ⟨o.fr, by rw [List.getElem?_append_left (List.getElem?_eq_some_iff.1 h).1]; exact h⟩
theorem Grow.freeze (ns : List Nat) (a : List AObj) : Grow a (freeze ns a) := fun n o h => by
  unfold Go.V.freeze
  rw [List.getElem?_mapIdx, h]
  simp only [Option.map_some]
  split
  · exact ⟨true, rfl⟩
  · exact ⟨o.fr, rfl⟩
theorem Grow.adopt : ∀ (cs : List AV) (mem : List AObj), Grow mem (adopt cs mem).2
  | [], mem => Grow.refl _
  | c :: cs, mem => by
    cases c <;> simp only [Go.V.adopt] <;> first | exact Grow.adopt cs _ | exact (Grow.append _ _).trans (Grow.adopt cs _)

theorem Grow.geto {mem mem' : List AObj} (h : Grow mem mem') {n g : Nat} {o : AObj} (hg : geto mem n g = some o) : ∃ b, geto mem' n g = some { o with fr := b } := by
  unfold Go.V.geto at *
  split at hg
  · rename_i p hp
    split at hg
    · rename_i hgg
      obtain rfl := Option.some.inj hg
      obtain ⟨b, hb⟩ := h n p hp
      exact ⟨b, by rw [hb]; simp [hgg]⟩
    · cases hg
  · cases hg

theorem geto_lt {mem : List AObj} {n g : Nat} {o : AObj} (hg : geto mem n g = some o) : n < mem.length := by
  unfold geto at hg
  split at hg
  · rename_i p hp; exact (List.getElem?_eq_some_iff.1 hp).1
  · cases hg

theorem Grow.rowOf {mem mem' : List AObj} (h : Grow mem mem') {v : AV} {r : Nat × Nat × List AV} (hr : rowOf mem v = some r) : rowOf mem' v = some r := by
  cases v <;> simp only [Go.V.rowOf] at hr ⊢ <;> first | exact hr | skip
  all_goals
    split at hr
    · rename_i o ho
      obtain ⟨b, hb⟩ := h.geto ho
      rw [hb]
      exact hr
    · cases hr

theorem mapM_mono {α β : Type} {f g : α → Option β} : ∀ {l : List α} {r : List β}, (∀ x ∈ l, ∀ y, f x = some y → g x = some y) → l.mapM f = some r → l.mapM g = some r
  | [], r, h, hr => hr
  | x :: l, r, h, hr => by
    rw [List.mapM_cons] at hr ⊢
    simp only [Option.bind_eq_bind, Option.pure_def, Option.bind_eq_some_iff] at hr ⊢
    obtain ⟨y, h1, ys, h2, h3⟩ := hr
    exact ⟨y, h x (by simp) y h1, ys, mapM_mono (fun z hz => h z (by simp [hz])) h2, h3⟩
theorem mapM_all {α β : Type} {f : α → Option β} : ∀ {l : List α} {r : List β}, l.mapM f = some r → ∀ x ∈ l, ∃ y, f x = some y
  | [], r, h, x, hx => by cases hx
  | z :: l, r, h, x, hx => by
    rw [List.mapM_cons] at h
    simp only [Option.bind_eq_bind, Option.pure_def, Option.bind_eq_some_iff] at h
    obtain ⟨y, h1, ys, h2, h3⟩ := h
    rcases List.mem_cons.1 hx with rfl | hx
    · exact ⟨y, h1⟩
    · exact mapM_all h2 x hx

theorem snap_mono {mem mem' : List AObj} (h : Grow mem mem') : ∀ (k : Nat),
    (∀ a a', snap mem k a = some a' → snap mem' k a = some a' ∧ refs mem' k a = refs mem k a ∧ ∀ n ∈ refs mem k a, n < mem.length) ∧
    (∀ b cs cs', snapL mem k b cs = some cs' → snapL mem' k b cs = some cs' ∧ refsL mem' k b cs = refsL mem k b cs ∧ ∀ n ∈ refsL mem k b cs, n < mem.length) := by
  intro k
  induction k with
  | zero => exact ⟨fun a a' h => by simp [snap] at h, fun b cs cs' h => by simp [snapL] at h⟩
  | succ k ih =>
    obtain ⟨ih1, ih2⟩ := ih
    refine ⟨fun a a' hs => ?_, fun b cs cs' hs => ?_⟩
    · cases a with
      | arr n g =>
        simp only [snap] at hs ⊢
        split at hs
        · rename_i o ho
          obtain ⟨cs, h1, rfl⟩ := Option.map_eq_some_iff.1 hs
          obtain ⟨b, hb⟩ := h.geto ho
          obtain ⟨h2, h3, h4⟩ := ih2 _ _ _ h1
          simp only [refs, hb, ho, h2, h3, Option.map_some, List.mem_cons, true_and]
          rintro x (rfl | hx)
          · exact geto_lt ho
          · exact h4 x hx
        · cases hs
      | loc n g i =>
        simp only [snap] at hs ⊢
        split at hs
        · rename_i o ho
          obtain ⟨cs, h1, rfl⟩ := Option.map_eq_some_iff.1 hs
          obtain ⟨b, hb⟩ := h.geto ho
          obtain ⟨h2, h3, h4⟩ := ih2 _ _ _ h1
          simp only [refs, hb, ho, h2, h3, Option.map_some, List.mem_cons, true_and]
          rintro x (rfl | hx)
          · exact geto_lt ho
          · exact h4 x hx
        · cases hs
      | msl n g off len =>
        simp only [snap] at hs ⊢
        split at hs
        · rename_i o ho
          obtain ⟨b, hb⟩ := h.geto ho
          simp only [refs, hb, List.mem_singleton, true_and]
          exact ⟨hs, fun x hx => by rw [hx]; exact geto_lt ho⟩
        · cases hs
      | agg cs =>
        simp only [snap] at hs ⊢
        obtain ⟨cs', h1, rfl⟩ := Option.map_eq_some_iff.1 hs
        obtain ⟨h2, h3, h4⟩ := ih2 _ _ _ h1
        simp only [refs, h2, h3, Option.map_some, true_and]
        exact h4
      | tup cs =>
        simp only [snap] at hs ⊢
        obtain ⟨cs', h1, rfl⟩ := Option.map_eq_some_iff.1 hs
        obtain ⟨h2, h3, h4⟩ := ih2 _ _ _ h1
        simp only [refs, h2, h3, Option.map_some, true_and]
        exact h4
      | fn f cs =>
        simp only [snap] at hs ⊢
        obtain ⟨cs', h1, rfl⟩ := Option.map_eq_some_iff.1 hs
        obtain ⟨h2, h3, h4⟩ := ih2 _ _ _ h1
        simp only [refs, h2, h3, Option.map_some, true_and]
        exact h4
      | _ => simp only [snap, refs] at hs ⊢; exact ⟨hs, trivial, fun n hn => by cases hn⟩
    · cases b with
      | false => simp only [snapL, refsL] at hs ⊢; exact ⟨hs, trivial, fun n hn => by cases hn⟩
      | true =>
        simp only [snapL, refsL] at hs ⊢
        have hall := mapM_all hs
        refine ⟨mapM_mono (fun x hx y hy => (ih1 x y hy).1) hs, flatMap_congr' (fun x hx => ?_), fun n hn => ?_⟩
        · obtain ⟨y, hy⟩ := hall x hx; exact (ih1 x y hy).2.1
        · obtain ⟨x, hx, hn⟩ := List.mem_flatMap.1 hn
          obtain ⟨y, hy⟩ := hall x hx
          exact (ih1 x y hy).2.2 n hn

/-! ### Classes -/
def MOp.isPure : MOp → Bool
  | .mov _ | .pick _ _ _ | .build _ _ | .ldf _ _ _ | .bin _ _ _ | .binb _ _ _ | .bins _ _ _ _ | .neg _ | .not _ | .conv _ _ | .fld _ _ _ _ | .iaddrf _ _ _ | .sidx _ _ | .lenf _ | .slen _ | .scut _ _ _ | .ext _ _ | .mx _ _ | .mn _ _ | .callP _ _ | .mkfn _ _ | .s2b _ => true
  | _ => false
def MOp.isRead : MOp → Bool
  | .binp _ _ _ | .ld _ _ _ | .nilchk _ | .faddr _ _ | .iaddr _ _ _ | .len _ | .b2s _ | .callR _ _ | .callV _ _ | .cut _ _ _ _ => true
  | io => io.isPure
def MOp.isPush : MOp → Bool
  | .alloc _ _ | .box _ _ _ | .bsl _ _ _ | .mk _ _ _ _ | .mk0 _ _ _ _ | .newnil _ _ | .callF _ _ | .callO _ _ | .callZ _ _ | .callG _ _ => true
  | _ => false

theorem evalOp_pure {mem mem' m : List AObj} {e : Opd → AV} {io : MOp} (hp : io.isPure = true) {v : AV} (h : evalOp mem e io = some (v, m)) : m = mem ∧ evalOp mem' e io = some (v, mem') := by
  cases io <;> simp only [MOp.isPure, Bool.false_eq_true] at hp <;> simp only [evalOp] at h ⊢
  case mov => simp only [Option.some.injEq, Prod.mk.injEq] at h ⊢; exact ⟨h.2.symm, h.1, trivial⟩
  case mkfn => simp only [Option.some.injEq, Prod.mk.injEq] at h ⊢; exact ⟨h.2.symm, h.1, trivial⟩
  all_goals
    repeat' split at h
    all_goals first
      | (exfalso; exact Option.noConfusion h)
      | (simp only [Option.some.injEq, Prod.mk.injEq, Option.map_eq_some_iff, Option.bind_eq_some_iff] at h ⊢; grind)
      | grind

theorem OpR_pure {C : CallRel} {mem m : List AObj} (mem' : List AObj) {e : Opd → AV} {io : MOp} (hp : io.isPure = true) {v : AV} (h : OpR C mem e io v m) : m = mem ∧ OpR C mem' e io v mem' := by
  cases h with
  | op h => exact ⟨(evalOp_pure (mem' := mem') hp h).1, .op (evalOp_pure hp h).2⟩
  | callP h1 h2 => exact ⟨rfl, .callP h1 h2⟩
  | _ => simp [MOp.isPure] at hp

theorem evalOp_read {mem mem' m : List AObj} (hg : Grow mem mem') {e : Opd → AV} {io : MOp} (hp : io.isRead = true) {v : AV} (h : evalOp mem e io = some (v, m)) : m = mem ∧ evalOp mem' e io = some (v, mem') := by
  by_cases hq : io.isPure = true
  · exact evalOp_pure hq h
  cases io <;> simp only [MOp.isRead, MOp.isPure, Bool.false_eq_true, not_true_eq_false, not_false_eq_true] at hp hq
  case ld agg n x =>
    simp only [evalOp] at h ⊢
    split at h
    · obtain ⟨v', h1, h2⟩ := Option.map_eq_some_iff.1 h
      simp only [Prod.mk.injEq] at h2
      obtain ⟨rfl, rfl⟩ := h2
      exact ⟨rfl, by rw [h1]; rfl⟩
    · split at h
      · rename_i o ho
        obtain ⟨b, hb⟩ := hg.geto ho
        obtain ⟨v', h1, h2⟩ := Option.map_eq_some_iff.1 h
        simp only [Prod.mk.injEq] at h2
        obtain ⟨rfl, rfl⟩ := h2
        exact ⟨rfl, by rw [hb]; simp only [h1, Option.map_some]⟩
      · cases h
    · cases h
  case binp op x y =>
    simp only [evalOp] at h ⊢
    obtain ⟨v', h1, h2⟩ := Option.map_eq_some_iff.1 h
    simp only [Prod.mk.injEq] at h2
    obtain ⟨rfl, rfl⟩ := h2
    refine ⟨rfl, ?_⟩
    have : nilV op (nilArg mem' (e x)) (e y) = some v' := by
      generalize e x = a at h1 ⊢
      cases a with
      | loc n g i =>
        simp only [nilArg] at h1 ⊢
        split at h1
        · rename_i o ho
          obtain ⟨b, hb⟩ := hg.geto ho
          rw [hb]
          exact h1
        · cases he : e y <;> rw [he] at h1 <;> simp [nilV] at h1
      | _ => exact h1
    rw [this]; rfl
  case nilchk x =>
    simp only [evalOp] at h ⊢
    split at h
    · simp only [Option.some.injEq, Prod.mk.injEq] at h
      obtain ⟨rfl, rfl⟩ := h
      exact ⟨rfl, rfl⟩
    · obtain ⟨o, h1, h2⟩ := Option.map_eq_some_iff.1 h
      obtain ⟨b, hb⟩ := hg.geto h1
      simp only [Prod.mk.injEq] at h2
      obtain ⟨rfl, rfl⟩ := h2
      exact ⟨rfl, by rw [hb]; rfl⟩
    · cases h
  case faddr off x =>
    simp only [evalOp] at h ⊢
    split at h
    · simp only [Option.some.injEq, Prod.mk.injEq] at h
      obtain ⟨rfl, rfl⟩ := h
      exact ⟨rfl, rfl⟩
    · obtain ⟨o, h1, h2⟩ := Option.map_eq_some_iff.1 h
      obtain ⟨b, hb⟩ := hg.geto h1
      simp only [Prod.mk.injEq] at h2
      obtain ⟨rfl, rfl⟩ := h2
      exact ⟨rfl, by rw [hb]; rfl⟩
    · cases h
  case iaddr sz x i =>
    simp only [evalOp] at h ⊢
    split at h
    · split at h
      · split at h
        · simp only [Option.some.injEq, Prod.mk.injEq] at h
          obtain ⟨rfl, rfl⟩ := h
          rename_i hc
          exact ⟨rfl, by rw [if_pos hc]⟩
        · cases h
      · split at h
        · rename_i o ho
          obtain ⟨b, hb⟩ := hg.geto ho
          split at h
          · rename_i hc
            simp only [Option.some.injEq, Prod.mk.injEq] at h
            obtain ⟨rfl, rfl⟩ := h
            exact ⟨rfl, by rw [hb]; exact if_pos hc⟩
          · cases h
        · cases h
      · split at h
        · rename_i o ho
          obtain ⟨b, hb⟩ := hg.geto ho
          split at h
          · rename_i hc
            simp only [Option.some.injEq, Prod.mk.injEq] at h
            obtain ⟨rfl, rfl⟩ := h
            exact ⟨rfl, by rw [hb]; exact if_pos hc⟩
          · cases h
        · cases h
      · cases h
    · cases h
  case len x =>
    simp only [evalOp] at h ⊢
    obtain ⟨r, h1, h2⟩ := Option.map_eq_some_iff.1 h
    simp only [Prod.mk.injEq] at h2
    obtain ⟨rfl, rfl⟩ := h2
    exact ⟨rfl, by rw [hg.rowOf h1]; rfl⟩
  case b2s x =>
    simp only [evalOp] at h ⊢
    obtain ⟨r, h1, h2⟩ := Option.bind_eq_some_iff.1 h
    split at h2
    · rename_i hc
      obtain ⟨s, h3, h4⟩ := Option.map_eq_some_iff.1 h2
      simp only [Prod.mk.injEq] at h4
      obtain ⟨rfl, rfl⟩ := h4
      exact ⟨rfl, by rw [hg.rowOf h1]; simp only [Option.bind_some, if_pos hc, h3, Option.map_some]⟩
    · cases h2
  case callR => simp [evalOp] at h
  case callV => simp [evalOp] at h
  case cut sz x lo hi =>
    simp only [evalOp] at h ⊢
    obtain ⟨u, h1, h2⟩ := Option.map_eq_some_iff.1 h
    simp only [Prod.mk.injEq] at h2
    obtain ⟨rfl, rfl⟩ := h2
    refine ⟨rfl, ?_⟩
    have : cutOp mem' sz (e x) lo hi e = some u := by
      unfold cutOp at h1 ⊢
      split at h1
      · exact h1
      · split at h1
        · rename_i o ho
          obtain ⟨b, hb⟩ := hg.geto ho
          rw [hb]; exact h1
        · cases h1
      · split at h1
        · rename_i o ho
          obtain ⟨b, hb⟩ := hg.geto ho
          rw [hb]; exact h1
        · cases h1
      · cases h1
    rw [this]; rfl

theorem OpR_read {C : CallRel} {mem mem' m : List AObj} (hg : Grow mem mem') {e : Opd → AV} {io : MOp} (hp : io.isRead = true) {v : AV} (h : OpR C mem e io v m) : m = mem ∧ OpR C mem' e io v mem' := by
  cases h with
  | op h => exact ⟨(evalOp_read hg hp h).1, .op (evalOp_read hg hp h).2⟩
  | callP h1 h2 => exact ⟨rfl, .callP h1 h2⟩
  | callR h1 h2 h3 => exact ⟨rfl, .callR (mapM_mono (fun x hx y hy => ((snap_mono hg 10).1 _ _ hy).1) h1) h2 h3⟩
  | callV h1 h2 h3 h4 h5 => exact ⟨rfl, .callV h1 (mapM_mono (fun x hx y hy => ((snap_mono hg 10).1 _ _ hy).1) h2) (mapM_mono (fun x hx y hy => ((snap_mono hg 10).1 _ _ hy).1) h3) h4 h5⟩
  | _ => simp [MOp.isRead, MOp.isPure] at hp

theorem OpR_push {C : CallRel} {mem m : List AObj} {e : Opd → AV} {io : MOp} (hp : io.isPush = true) {v : AV} (h : OpR C mem e io v m) : Grow mem m := by
  cases h with
  | callF h1 h2 => exact Grow.freeze _ _
  | callO h1 h2 h3 h4 => exact (Grow.freeze _ _).trans (Grow.append _ _)
  | callZ h1 h2 h3 => exact Grow.freeze _ _
  | callG h0 h1 h2 h3 => exact Grow.append _ _
  | op h =>
    cases io <;> simp only [MOp.isPush, Bool.false_eq_true] at hp <;> simp only [evalOp] at h
    case newnil => simp only [Option.some.injEq, Prod.mk.injEq] at h; rw [← h.2]; exact Grow.append _ _
    case alloc => simp only [Option.some.injEq, Prod.mk.injEq] at h; rw [← h.2]; exact (Grow.adopt _ _).trans (Grow.append _ _)
    case box =>
      split at h
      · split at h
        · simp only [Option.some.injEq, Prod.mk.injEq] at h; rw [← h.2]; exact (Grow.adopt _ _).trans (Grow.append _ _)
        · cases h
      · cases h
    case bsl =>
      split at h
      · simp only [Option.some.injEq, Prod.mk.injEq] at h; rw [← h.2]; exact (Grow.freeze _ _).trans (Grow.append _ _)
      · cases h
    case mk =>
      split at h
      · split at h
        · simp only [Option.some.injEq, Prod.mk.injEq] at h; rw [← h.2]; exact Grow.append _ _
        · cases h
      · cases h
    case mk0 =>
      split at h
      · split at h
        · simp only [Option.some.injEq, Prod.mk.injEq] at h; rw [← h.2]; exact Grow.append _ _
        · cases h
      · cases h
    all_goals cases h
  | _ => simp [MOp.isPush] at hp

end Go.V
