/- Regions: in the text's order, and in whatever order is drawn. -/
import Derived.Test.YtcmbaabkfihdmaaVOk
import Derived.Test.YtcmbaabkfihdmaaVSwap
import Derived.Orders
import Derived.LoopN
set_option linter.unusedVariables false
set_option linter.unusedSimpArgs false
namespace Go.V
open Go

/-- The picture fits the frame and the world; since the function's beginning (w0 ..) all has gone as it should. -/
def SR (w0 : World) (fz0 : Nat → Prop) (mem0 : List AObj) (ρ0 : List Value) (N : Nat) (s : St) (a : Act) (w : World) : Prop :=
  ∃ (fz : Nat → Prop) (ρ : List Value), Ext w0 fz0 mem0 ρ0 w fz s.mem ρ ∧ Mem w fz s.mem ρ ∧ EnvR w fz s.mem ρ s.env a ∧ a.tmps.size = N ∧ a.defers = []

theorem EnvR.like {w : World} {fz : Nat → Prop} {mem : List AObj} {ρ : List Value} {env env' : Env} {a : Act} (h : EnvR w fz mem ρ env a) (hl : ∀ n, getE env n = getE env' n) : EnvR w fz mem ρ env' a :=
  fun n hn => by rw [← hl n]; exact h n hn

theorem SR.like {w0 : World} {fz0 : Nat → Prop} {mem0 : List AObj} {ρ0 : List Value} {N : Nat} {s t : St} {a : Act} {w : World} (h : SR w0 fz0 mem0 ρ0 N s a w) (hl : Like s t) : SR w0 fz0 mem0 ρ0 N t a w := by
  obtain ⟨fz, ρ, h1, h2, h3, h4, h5⟩ := h
  rw [hl.1] at h1 h2 h3
  exact ⟨fz, ρ, h1, h2, h3.like hl.2, h4, h5⟩

theorem put_size {a : Act} {d : Option Nat} {v : Value} : (a.put d v).tmps.size = a.tmps.size := by
  cases d <;> simp [Act.put]
theorem put_defers {a : Act} {d : Option Nat} {v : Value} : (a.put d v).defers = a.defers := by
  cases d <;> simp [Act.put]

theorem EnvR.put {w w' : World} {fz fz' : Nat → Prop} {mem mem' : List AObj} {ρ ρ' : List Value} {env : Env} {a : Act} (he : EnvR w fz mem ρ env a) (hx : Ext w fz mem ρ w' fz' mem' ρ') {d : Option Nat} {v : AV} {u : Value} (hr : Rep w' fz' mem' ρ' v u) :
    EnvR w' fz' mem' ρ' (putE env d v) (a.put d u) := by
  intro n hn
  rw [put_size] at hn
  cases d with
  | none => exact (he n hn).ext hx
  | some d =>
    simp only [putE, getE, Act.put]
    by_cases h : d = n
    · subst h
      rw [if_pos rfl]
      have : (a.tmps.setIfInBounds d u).getD d undef = u := by simp [hn]
      rw [this]
      exact hr
    · rw [if_neg h]
      have : (a.tmps.setIfInBounds d u).getD n undef = a.tmps.getD n undef := by simp [Array.getElem?_setIfInBounds_ne h]
      rw [this]
      exact (he n hn).ext hx

def okGuard (ops : Array Oper) : Option (Nat × Bool) → Option (Nat × Bool) → Bool
  | none, none => true
  | some (j, b), some (t, b') => b == b' && (match ops[j]? with | some o => o.dst == some t | none => false)
  | _, _ => false

def okOper (P : Program) (N : Nat) (ops : Array Oper) (o : Oper) (i : IOp) : Bool :=
  o.dst == i.dst && okGuard ops o.guard i.g && (match i.g with | some (t, _) => decide (t < N) | none => true) && okIO P N o.op i.op

def okAt (P : Program) (N : Nat) (ops : Array Oper) (j : Nat) (i : IOp) : Bool :=
  match ops[j]? with
  | some o => okOper P N ops o i
  | none => false

section
variable {P : Program} {C : CallRel} {w0 : World} {fz0 : Nat → Prop} {mem0 : List AObj} {ρ0 : List Value} {N : Nat}

theorem step_ok (hC : CallsOk P C) {ops : Array Oper} {j : Nat} {i : IOp} {s s' : St} {a : Act} {w : World} {Q : Exit → Act → World → Prop} {K : Act → World → Prop} (hk : okAt P N ops j i = true) (hs : SR w0 fz0 mem0 ρ0 N s a w) (h : StepR C s i s')
    (hK : ∀ a' w', SR w0 fz0 mem0 ρ0 N s' a' w' → K a' w') : wpOp P ops Q j K a w := by
  unfold okAt at hk
  unfold wpOp
  split at hk
  · rename_i o ho
    simp only [ho]
    simp only [okOper, Bool.and_eq_true, beq_iff_eq] at hk
    obtain ⟨⟨⟨h1, h2⟩, h3⟩, h4⟩ := hk
    obtain ⟨fz, ρ, e1, e2, e3, e4, e5⟩ := hs
    have wanted : ∀ {t b : _} {c : Bool}, i.g = some (t, b) → ev s.env (.t t) = .bool c → (Region.wanted o (yielded ops a.tmps) = (c == b)) := by
      intro t b c hg hc
      rw [hg] at h2 h3
      unfold okGuard at h2
      split at h2
      · rename_i q; cases q
      · rename_i j' b1 t' b' hgo q
        simp only [Option.some.injEq, Prod.mk.injEq] at q
        obtain ⟨rfl, rfl⟩ := q
        simp only [Bool.and_eq_true, beq_iff_eq] at h2
        obtain ⟨rfl, h2⟩ := h2
        split at h2
        · rename_i o' ho'
          simp only [beq_iff_eq] at h2
          simp only [decide_eq_true_eq] at h3
          have h6 := e3 t (by omega)
          simp only [ev] at hc
          rw [hc] at h6
          have h7 := rep_bool h6
          have h8 : a.tmps[t]? = some (.bool c) := by
            have ht : t < a.tmps.size := by omega
            rw [Array.getElem?_eq_getElem ht]
            simpa [Array.getD, ht] using h7
          simp only [Region.wanted, hgo, yielded, ho', Option.bind_some, h2, h8]
          cases c <;> cases b1 <;> rfl
        · cases h2
      · cases h2
    have unwanted : ∀ {t b : _}, i.g = some (t, b) → ev s.env (.t t) = .tup [] → Region.wanted o (yielded ops a.tmps) = false := by
      intro t b hg hc
      rw [hg] at h2 h3
      unfold okGuard at h2
      split at h2
      · rename_i q; cases q
      · rename_i j' b1 t' b' hgo q
        simp only [Option.some.injEq, Prod.mk.injEq] at q
        obtain ⟨rfl, rfl⟩ := q
        simp only [Bool.and_eq_true, beq_iff_eq] at h2
        obtain ⟨rfl, h2⟩ := h2
        split at h2
        · rename_i o' ho'
          simp only [beq_iff_eq] at h2
          simp only [decide_eq_true_eq] at h3
          have h6 := e3 t (by omega)
          simp only [ev] at hc
          rw [hc] at h6
          obtain ⟨vs, h7, _⟩ := rg_tup_rep h6
          have h8 : a.tmps[t]? = some (.tuple vs) := by
            have ht : t < a.tmps.size := by omega
            rw [Array.getElem?_eq_getElem ht]
            simpa [Array.getD, ht] using h7
          simp only [Region.wanted, hgo, yielded, ho', Option.bind_some, h2, h8]
          cases b1 <;> rfl
        · cases h2
      · cases h2
    have wnone : i.g = none → Region.wanted o (yielded ops a.tmps) = true := by
      intro hg
      rw [hg] at h2
      unfold okGuard at h2
      split at h2
      · rename_i q _; simp only [Region.wanted, q]
      · rename_i q; cases q
      · cases h2
    cases h with
    | go g1 g2 =>
      have hw : Region.wanted o (yielded ops a.tmps) = true := by
        rcases g1 with g1 | ⟨t, b, g1, g3⟩
        · exact wnone g1
        · rw [wanted g1 g3]; simp
      rw [if_pos hw]
      rw [← e4] at h4
      refine .inl (opR_ok hC e2 e3 h4 g2 _ _ (fun u w' fz' ρ' k1 k2 k3 => hK _ _ ⟨fz', ρ', e1.trans k1, k2, ?_, by rw [put_size]; exact e4, by rw [put_defers]; exact e5⟩))
      rw [← h1]
      exact e3.put k1 k3
    | no g1 g2 =>
      rename_i t b
      have hw : Region.wanted o (yielded ops a.tmps) = false := by
        rcases g2 with g2 | g2
        · rw [wanted g1 g2]; cases b <;> rfl
        · exact unwanted g1 g2
      rw [if_neg (by rw [hw]; decide)]
      refine hK _ _ ⟨fz, ρ, e1, e2, ?_, by rw [put_size]; exact e4, by rw [put_defers]; exact e5⟩
      rw [← h1]
      exact e3.put Ext.refl (.gr (.tup rfl (fun j c u h => by simp at h)))
  · cases hk

def okList (P : Program) (N : Nat) (ops : Array Oper) : List Nat → List IOp → Bool
  | [], [] => true
  | j :: js, i :: is => okAt P N ops j i && okList P N ops js is
  | _, _ => false

theorem regT_ok (hC : CallsOk P C) {ops : Array Oper} {Q : Exit → Act → World → Prop} : ∀ {js : List Nat} {is : List IOp} {s s' : St} {a : Act} {w : World}, okList P N ops js is = true → SR w0 fz0 mem0 ρ0 N s a w → RegR C is s s' →
    (∀ a' w', SR w0 fz0 mem0 ρ0 N s' a' w' → Q .normal a' w') → wpOps P ops Q js a w
  | [], [], s, s', a, w, _, hs, h, hQ => by
    cases h
    exact hQ a w hs
  | j :: js, i :: is, s, s', a, w, hk, hs, h, hQ => by
    simp only [okList, Bool.and_eq_true] at hk
    cases h with
    | cons h1 h2 =>
      rw [wpOps_cons]
      exact step_ok hC hk.1 hs h1 (fun a' w' hs' => regT_ok hC hk.2 hs' h2 hQ)
  | [], _ :: _, _, _, _, _, hk, _, _, _ => by cases hk
  | _ :: _, [], _, _, _, _, hk, _, _, _ => by cases hk

/-! ### Drawn orders -/
def reach (ops : Array Oper) : Nat → Nat → Nat → Bool
  | 0, _, _ => false
  | n + 1, i, k => match ops[i]? with
    | some o => (o.after.any fun e => Region.binds .any e && e.on == k) || (o.after.any fun e => Region.binds .any e && reach ops n e.on k)
    | none => false

def okDrawn (ops : Array Oper) : List Nat → List (Nat × IOp) → Bool
  | _, [] => true
  | done, (i, o) :: rest =>
    (match ops[i]? with | some p => p.after.all (fun e => !Region.binds .any e || done.contains e.on) | none => false) && !(done.contains i) && decide (∀ q ∈ rest, q.1 ≠ i) &&
      rest.all (fun q => okPair o q.2 || reach ops 12 q.1 i) && okDrawn ops (i :: done) rest

def listedB (listed : Array Bool) (j : Nat) : Prop := listed.getD j false = true
def Down (ops : Array Oper) (listed : Array Bool) : Prop := ∀ (j : Nat) (o : Oper), listedB listed j → ops[j]? = some o → ∀ e ∈ o.after, Region.binds .any e = true → listedB listed e.on

theorem reach_listed {ops : Array Oper} {listed : Array Bool} (hd : Down ops listed) : ∀ {n i k : Nat}, (∀ o, ops[i]? = some o → ∀ e ∈ o.after, Region.binds .any e = true → listedB listed e.on) → reach ops n i k = true → listedB listed k
  | 0, _, _, _, h => by cases h
  | n + 1, i, k, hi, h => by
    simp only [reach] at h
    split at h
    · rename_i o ho
      simp only [Bool.or_eq_true, Array.any_eq_true', Bool.and_eq_true, beq_iff_eq] at h
      rcases h with ⟨e, he, hb, hk⟩ | ⟨e, he, hb, hk⟩
      · rw [← hk]; exact hi o ho e he hb
      · exact reach_listed hd (fun o' ho' => hd e.on o' (hi o ho e he hb) ho') hk
    · cases h

/-- What a pair in the list owes, the first standing ahead of the second. -/
def PairR (ops : Array Oper) (p q : Nat × IOp) : Prop :=
  p.1 ≠ q.1 ∧ (okPair p.2 q.2 = true ∨ reach ops 12 q.1 p.1 = true) ∧ ∀ o, ops[p.1]? = some o → ∀ e ∈ o.after, Region.binds .any e = true → e.on ≠ q.1

theorem okDrawn_spec {ops : Array Oper} : ∀ {l : List (Nat × IOp)} {done : List Nat}, okDrawn ops done l = true → l.Pairwise (PairR ops) ∧
    (∀ p ∈ l, p.1 ∉ done ∧ ∃ o, ops[p.1]? = some o ∧ ∀ e ∈ o.after, Region.binds .any e = true → e.on ≠ p.1 ∧ (e.on ∈ done ∨ ∃ q ∈ l, q.1 = e.on))
  | [], done, h => ⟨.nil, fun p hp => by cases hp⟩
  | (i, o) :: rest, done, h => by
    simp only [okDrawn, Bool.and_eq_true, Bool.not_eq_true', decide_eq_true_eq, List.all_eq_true, Bool.or_eq_true] at h
    obtain ⟨⟨⟨⟨h1, h2⟩, h3⟩, h4⟩, h5⟩ := h
    obtain ⟨k1, k2⟩ := okDrawn_spec h5
    have h2' : i ∉ done := by simpa using h2
    split at h1
    · rename_i p hp
      rw [Array.all_eq_true'] at h1
      have h6 : ∀ e ∈ p.after, Region.binds .any e = true → e.on ∈ done := fun e he hb => by
        have := h1 e he
        simpa [hb] using this
      refine ⟨.cons (fun q hq => ⟨Ne.symm (h3 q hq), h4 q hq, fun o' ho' e he hb heq => ?_⟩) k1, fun q hq => ?_⟩
      · simp only [hp, Option.some.injEq] at ho'
        subst ho'
        have h7 := h6 e he hb
        have h8 := (k2 q hq).1
        rw [heq] at h7
        exact h8 (by simp [h7])
      · rcases List.mem_cons.1 hq with rfl | hq
        · exact ⟨h2', p, hp, fun e he hb => ⟨fun heq => h2' (by have h9 := h6 e he hb; rw [heq] at h9; exact h9), .inl (h6 e he hb)⟩⟩
        · obtain ⟨g1, o', g2, g3⟩ := k2 q hq
          refine ⟨fun hm => g1 (by simp [hm]), o', g2, fun e he hb => ?_⟩
          obtain ⟨g4, g5⟩ := g3 e he hb
          refine ⟨g4, ?_⟩
          rcases g5 with g5 | ⟨r, hr, hre⟩
          · rcases List.mem_cons.1 g5 with h | h
            · exact .inr ⟨(i, o), by simp, h.symm⟩
            · exact .inl h
          · exact .inr ⟨r, by simp [hr], hre⟩
    · cases h1

theorem getD_true_of {listed : Array Bool} {j : Nat} (h : listed.getD j true = false) : ¬ listedB listed j := by
  intro h'
  unfold listedB at h'
  rcases Nat.lt_or_ge j listed.size with hl | hl
  · simp [hl] at h h'; rw [h] at h'; cases h'
  · simp [Array.getElem?_eq_none hl] at h

theorem any_ok (hC : CallsOk P C) {ops : Array Oper} {Q : Exit → Act → World → Prop} {s' : St} (hQ : ∀ a' w', SR w0 fz0 mem0 ρ0 N s' a' w' → Q .normal a' w') :
    ∀ (fuel : Nat) (todo : List (Nat × IOp)) (listed : Array Bool) (s s2 : St) (a : Act) (w : World), todo.length = fuel → listed.size = ops.size → RegR C (todo.map (·.2)) s s2 → Like s2 s' → SR w0 fz0 mem0 ρ0 N s a w →
      (∀ p ∈ todo, okAt P N ops p.1 p.2 = true) → todo.Pairwise (PairR ops) → (∀ p ∈ todo, ∀ o, ops[p.1]? = some o → ∀ e ∈ o.after, Region.binds .any e = true → e.on ≠ p.1 ∧ e.on < ops.size) →
      (∀ p ∈ todo, listed.getD p.1 true = false) → (∀ j, j < ops.size → listedB listed j ∨ ∃ p ∈ todo, p.1 = j) → Down ops listed → wpAny P .any ops Q fuel listed a w := by
  intro fuel
  induction fuel with
  | zero =>
    intro todo listed s s2 a w hlen hsz hreg hlike hs hat hpw hself hun hcov hdown
    obtain rfl := List.length_eq_zero_iff.1 hlen
    cases hreg
    refine ⟨List.eq_nil_iff_forall_not_mem.2 fun j hj => ?_, hQ a w (hs.like hlike)⟩
    obtain ⟨h1, o, h2, h3⟩ := mem_ready.1 hj
    rcases hcov j (Array.getElem?_eq_some_iff.1 h2).1 with h | ⟨p, hp, _⟩
    · exact getD_true_of h1 h
    · cases hp
  | succ fuel ih =>
    intro todo listed s s2 a w hlen hsz hreg hlike hs hat hpw hself hun hcov hdown
    refine ⟨fun h0 => ?_, fun i hi => ?_⟩
    · -- the first of the list is ready
      exfalso
      cases todo with
      | nil => simp at hlen
      | cons p rest =>
        have hp := hat p (by simp)
        unfold okAt at hp
        split at hp
        · rename_i o ho
          have : p.1 ∈ Region.ready .any ops listed := by
            refine mem_ready.2 ⟨hun p (by simp), o, ho, fun e he hb => ?_⟩
            obtain ⟨k1, k2⟩ := hself p (by simp) o ho e he hb
            rcases hcov e.on k2 with h | ⟨q, hq, hqe⟩
            · exact h
            · rcases List.mem_cons.1 hq with rfl | hq
              · exact absurd hqe.symm k1
              · have := (List.pairwise_cons.1 hpw).1 q hq
                exact absurd hqe.symm (this.2.2 o ho e he hb)
          rw [h0] at this
          cases this
        · cases hp
    · obtain ⟨h1, o, h2, h3⟩ := mem_ready.1 hi
      have hilt := (Array.getElem?_eq_some_iff.1 h2).1
      have hmem : ∃ p ∈ todo, p.1 = i := by
        rcases hcov i hilt with h | h
        · exact absurd h (getD_true_of h1)
        · exact h
      obtain ⟨⟨i', io⟩, hp, rfl⟩ := hmem
      obtain ⟨pre, post, rfl⟩ := List.append_of_mem hp
      have hpre : ∀ x ∈ pre.map (·.2), okPair x io = true := by
        intro x hx
        obtain ⟨p, hp', rfl⟩ := List.mem_map.1 hx
        have hR := (List.pairwise_append.1 hpw).2.2 p hp' (i', io) (by simp)
        rcases hR.2.1 with h | h
        · exact h
        · exfalso
          have hl := reach_listed hdown (fun o' ho' e he hb => by
            simp only at ho'
            rw [h2] at ho'
            obtain rfl := Option.some.inj ho'
            exact h3 e he hb) h
          exact getD_true_of (hun p (by simp [hp'])) hl
      rw [List.map_append, List.map_cons] at hreg
      obtain ⟨t1, t2, f1, f2, f3⟩ := front hpre hreg
      refine step_ok hC (hat _ hp) hs f1 (fun a' w' hs' => ?_)
      have hsub : ∀ p, p ∈ pre ++ post → p ∈ pre ++ (i', io) :: post := fun p hp => by
        rcases List.mem_append.1 hp with h | h
        · exact List.mem_append.2 (.inl h)
        · exact List.mem_append.2 (.inr (by simp [h]))
      have hpw' : (pre ++ post).Pairwise (PairR ops) := hpw.sublist (List.Sublist.append_left (List.sublist_cons_self _ _) _)
      have hne : ∀ p ∈ pre ++ post, p.1 ≠ i' := fun p hp => by
        rcases List.mem_append.1 hp with h | h
        · exact ((List.pairwise_append.1 hpw).2.2 p h (i', io) (by simp)).1
        · exact Ne.symm ((List.pairwise_cons.1 (List.pairwise_append.1 hpw).2.1).1 p h).1
      have hmono : ∀ j, listedB listed j → listedB (listed.setIfInBounds i' true) j := fun j hj => getD_set_true hj
      have hnow : listedB (listed.setIfInBounds i' true) i' := by
        unfold listedB
        simp [hsz, hilt]
      refine ih (pre ++ post) _ t1 t2 a' w' (by simp at hlen ⊢; omega) (by simpa using hsz) (by rw [List.map_append]; exact f2) (f3.trans hlike) hs' (fun p hp => hat p (hsub p hp)) hpw' (fun p hp => hself p (hsub p hp)) (fun p hp => ?_) (fun j hj => ?_) ?_
      · rw [getD_set_ne true (Ne.symm (hne p hp))]
        exact hun p (hsub p hp)
      · rcases hcov j hj with h | ⟨p, hp, rfl⟩
        · exact .inl (hmono j h)
        · by_cases h : p.1 = i'
          · rw [h]; exact .inl hnow
          · refine .inr ⟨p, ?_, rfl⟩
            rcases List.mem_append.1 hp with h' | h'
            · exact List.mem_append.2 (.inl h')
            · rcases List.mem_cons.1 h' with h' | h'
              · rw [h'] at h; exact absurd rfl h
              · exact List.mem_append.2 (.inr h')
      · intro j o' hj ho' e he hb
        by_cases h : j = i'
        · subst h
          simp only at h2
          rw [h2] at ho'
          obtain rfl := Option.some.inj ho'
          exact hmono _ (h3 e he hb)
        · have : listedB listed j := by
            unfold listedB at hj ⊢
            rwa [getD_set_ne false (Ne.symm h)] at hj
          exact hmono _ (hdown j o' this ho' e he hb)

theorem SR.drew {s : St} {a : Act} {w : World} (h : SR w0 fz0 mem0 ρ0 N s a w) : SR w0 fz0 mem0 ρ0 N s a { w with drawn := w.drawn + 1 } := by
  obtain ⟨fz, ρ, h1, h2, h3, h4, h5⟩ := h
  have ho : Old w { w with drawn := w.drawn + 1 } := ⟨rfl, rfl, rfl, Nat.le_refl _, fun _ _ => rfl⟩
  obtain ⟨k1, k2⟩ := h2.old ho
  exact ⟨fz, ρ, h1.trans k1, k2, fun n hn => (h3 n hn).ext k1, h4, h5⟩

def okRegion (P : Program) (N : Nat) (ops : Array Oper) (draw : Bool) : Option (List Nat) → List IOp → Bool
  | none, is => !draw && okList P N ops (List.range ops.size) is
  | some js, is => draw && js.length == ops.size && is.length == ops.size && okList P N ops js is && okDrawn ops [] (js.zip is) && (List.range ops.size).all js.contains

theorem okList_zip {ops : Array Oper} : ∀ {js : List Nat} {is : List IOp}, okList P N ops js is = true → ∀ p ∈ js.zip is, okAt P N ops p.1 p.2 = true
  | [], [], _, p, hp => by simp at hp
  | j :: js, i :: is, h, p, hp => by
    simp only [okList, Bool.and_eq_true] at h
    simp only [List.zip_cons_cons, List.mem_cons] at hp
    rcases hp with rfl | hp
    · exact h.1
    · exact okList_zip h.2 p hp
  | [], _ :: _, h, _, _ => by cases h
  | _ :: _, [], h, _, _ => by cases h

theorem region_ok (hC : CallsOk P C) (hm : P.follows .mixedOrders = true) {id : Nat} {ops : Array Oper} {draw : Bool} {perm : Option (List Nat)} {is : List IOp} {Q : Exit → Act → World → Prop} {s s' : St} {a : Act} {w : World}
    (hk : okRegion P N ops draw perm is = true) (hs : SR w0 fz0 mem0 ρ0 N s a w) (h : RegR C is s s') (hQ : ∀ a' w', SR w0 fz0 mem0 ρ0 N s' a' w' → Q .normal a' w') : (Code.region id ops draw).wp P Q a w := by
  cases perm with
  | none =>
    simp only [okRegion, Bool.and_eq_true, Bool.not_eq_true'] at hk
    obtain ⟨rfl, hk⟩ := hk
    exact wp_region (regT_ok hC hk hs h hQ)
  | some js =>
    simp only [okRegion, Bool.and_eq_true, beq_iff_eq, List.all_eq_true, List.mem_range] at hk
    obtain ⟨⟨⟨⟨⟨rfl, h1⟩, h2⟩, h3⟩, h4⟩, h5⟩ := hk
    obtain ⟨k1, k2⟩ := okDrawn_spec h4
    have hmap : (js.zip is).map (·.2) = is := by
      rw [List.map_snd_zip]; omega
    have hmap1 : (js.zip is).map (·.1) = js := by
      rw [List.map_fst_zip]; omega
    refine wp_region_any hm (any_ok hC hQ ops.size (js.zip is) _ s s' a _ (by simp [h1, h2]) (by simp) (by rw [hmap]; exact h) (Like.refl _) hs.drew (okList_zip h3) k1 (fun p hp o ho e he hb => ?_) (fun p hp => ?_) (fun j hj => ?_) ?_)
    · obtain ⟨_, o', g1, g2⟩ := k2 p hp
      rw [ho] at g1
      obtain rfl := Option.some.inj g1
      obtain ⟨g3, g4⟩ := g2 e he hb
      refine ⟨g3, ?_⟩
      rcases g4 with g4 | ⟨q, hq, hqe⟩
      · cases g4
      · obtain ⟨_, o', g5, _⟩ := k2 q hq
        rw [← hqe]
        exact (Array.getElem?_eq_some_iff.1 g5).1
    · obtain ⟨_, o', g5, _⟩ := k2 p hp
      have := (Array.getElem?_eq_some_iff.1 g5).1
      simp [this]
    · refine .inr ?_
      have := h5 j hj
      rw [← hmap1] at this
      simp only [List.contains_eq_mem, decide_eq_true_eq, List.mem_map] at this
      exact this
    · intro j o' hj
      unfold listedB at hj
      rcases Nat.lt_or_ge j ops.size with hl | hl <;> simp [hl] at hj

end
end Go.V
