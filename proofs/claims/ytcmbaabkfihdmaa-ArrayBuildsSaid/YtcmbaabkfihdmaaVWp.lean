/- The small form's meaning once more, as a transformer of what is asked behind: for reckoning by 'simp'. -/
import Derived.Test.YtcmbaabkfihdmaaVDef
set_option linter.unusedVariables false
namespace Go.V
open Go

def wpO (C : CallRel) (mem : List AObj) (e : Opd → AV) (K : AV → List AObj → Prop) : MOp → Prop
  | .callP f xs => ∃ as r, xs.mapM (fun x => snap [] 10 (e x)) = some as ∧ C f as [] r [] ∧ K r mem
  | .callR f xs => ∃ as r, xs.mapM (fun x => snap mem 10 (e x)) = some as ∧ C f as [] r [] ∧ scalars r = true ∧ K r mem
  | .callF f xs => ∃ as r, xs.mapM (fun x => snap mem 10 (e x)) = some as ∧ C f as [] r [] ∧ K r (freeze (xs.flatMap fun x => refs mem 10 (e x)) mem)
  | .callO f xs => ∃ as r m, xs.mapM (fun x => snap mem 10 (e x)) = some as ∧ C f as [] r m ∧ (m.all made) = true ∧ ownishR r = true ∧ K (shiftR mem.length r) (freeze (xs.flatMap fun x => refs mem 10 (e x)) mem ++ m.map (shiftO mem.length))
  | .callZ f xs => ∃ as r m r', xs.mapM (fun x => snap mem 10 (e x)) = some as ∧ C f as [] r m ∧ snap m 10 r = some r' ∧ K r' (freeze (xs.flatMap fun x => refs mem 10 (e x)) mem)
  | .callG f xs => (xs.all fun x => plainArg (e x)) = true ∧ ∃ r m, C f (xs.map e) [] r m ∧ (m.all made) = true ∧ ownishR r = true ∧ K (shiftR mem.length r) (mem ++ m.map (shiftO mem.length))
  | .callM f xs => ∃ r m, C f (xs.map e) mem r m ∧ K r m
  | .callV x xs => ∃ f caps as bs r, e x = .fn f caps ∧ xs.mapM (fun x => snap mem 10 (e x)) = some as ∧ caps.mapM (fun c => snap mem 10 c) = some bs ∧ C f (as ++ bs) [] r [] ∧ scalars r = true ∧ K r mem
  | io => match evalOp mem e io with
    | some (v, m) => K v m
    | none => False

def wpR (C : CallRel) (Q : St → Prop) : List IOp → St → Prop
  | [], s => Q s
  | o :: os, s => match o.g with
    | none => wpO C s.mem (ev s.env) (fun v m => wpR C Q os ⟨putE s.env o.dst v, m⟩) o.op
    | some (t, b) => match getE s.env t with
      | .bool c => if c = b then wpO C s.mem (ev s.env) (fun v m => wpR C Q os ⟨putE s.env o.dst v, m⟩) o.op else wpR C Q os ⟨putE s.env o.dst (.tup []), s.mem⟩
      | .tup [] => wpR C Q os ⟨putE s.env o.dst (.tup []), s.mem⟩
      | _ => False

def rounds (R : (X → St → Prop) → St → Prop) (live : List Nat) (keep : Option (Nat × List Nat)) (Q : X → St → Prop) : Nat → St → Prop
  | 0, _ => False
  | n + 1, s => match headOf live keep s with
    | some s0 => R (fun x s1 => match x with | .nrm => rounds R live keep Q n s1 | x => Q x s1) s0
    | none => False

def wp (C : CallRel) : IR → (X → St → Prop) → St → Prop
  | .skip, Q, s => Q .nrm s
  | .ret, Q, s => Q .ret s
  | .exit id, Q, s => Q (.exit id) s
  | .reg _ ops, Q, s => wpR C (Q .nrm) ops s
  | .seq a b, Q, s => wp C a (fun x s1 => match x with | .nrm => wp C b Q s1 | x => Q x s1) s
  | .cond c a b, Q, s => match ev s.env c with
    | .bool t => if t = true then wp C a Q s else wp C b Q s
    | _ => False
  | .block id a, Q, s => wp C a (fun x s1 => match x with | .exit j => if j = id then Q .nrm s1 else Q (.exit j) s1 | x => Q x s1) s
  | .loop live keep a, Q, s => ∃ n, rounds (wp C a) live keep Q n s
  | .lv live a, Q, s => wp C a Q ⟨live.map fun n => (n, getE s.env n), s.mem⟩

theorem wpO_opR {C : CallRel} {mem : List AObj} {e : Opd → AV} {K : AV → List AObj → Prop} {io : MOp} (h : wpO C mem e K io) : ∃ v m, OpR C mem e io v m ∧ K v m := by
  cases io
  case callP f xs => obtain ⟨as, r, h1, h2, h3⟩ := h; exact ⟨_, _, .callP h1 h2, h3⟩
  case callR f xs => obtain ⟨as, r, h1, h2, h3, h4⟩ := h; exact ⟨_, _, .callR h1 h2 h3, h4⟩
  case callF f xs => obtain ⟨as, r, h1, h2, h3⟩ := h; exact ⟨_, _, .callF h1 h2, h3⟩
  case callO f xs => obtain ⟨as, r, m, h1, h2, h3, h5, h4⟩ := h; exact ⟨_, _, .callO h1 h2 h3 h5, h4⟩
  case callZ f xs => obtain ⟨as, r, m, r', h1, h2, h3, h4⟩ := h; exact ⟨_, _, .callZ h1 h2 h3, h4⟩
  case callG f xs => obtain ⟨h0, r, m, h1, h2, h3, h4⟩ := h; exact ⟨_, _, .callG h0 h1 h2 h3, h4⟩
  case callM f xs => obtain ⟨r, m, h1, h2⟩ := h; exact ⟨_, _, .callM h1, h2⟩
  case callV x xs => obtain ⟨f, caps, as, bs, r, h0, h1, h2, h3, h4, h5⟩ := h; exact ⟨_, _, .callV h0 h1 h2 h3 h4, h5⟩
  all_goals
    simp only [wpO] at h
    split at h
    · rename_i hv; exact ⟨_, _, .op hv, h⟩
    · exact h.elim

theorem wpR_regR {C : CallRel} {Q : St → Prop} : ∀ {ops : List IOp} {s : St}, wpR C Q ops s → ∃ s', RegR C ops s s' ∧ Q s'
  | [], s, h => ⟨s, .nil, h⟩
  | o :: os, s, h => by
    simp only [wpR] at h
    split at h
    · rename_i hg
      obtain ⟨v, m, h1, h2⟩ := wpO_opR h
      obtain ⟨s', h3, h4⟩ := wpR_regR h2
      exact ⟨s', .cons (.go (.inl hg) h1) h3, h4⟩
    · rename_i t b hg
      split at h
      · rename_i c hc
        split at h
        · rename_i hcb
          subst hcb
          obtain ⟨v, m, h1, h2⟩ := wpO_opR h
          obtain ⟨s', h3, h4⟩ := wpR_regR h2
          exact ⟨s', .cons (.go (.inr ⟨t, c, hg, hc⟩) h1) h3, h4⟩
        · rename_i hcb
          obtain ⟨s', h3, h4⟩ := wpR_regR h
          refine ⟨s', .cons (.no hg ?_) h3, h4⟩
          refine .inl ?_
          simp only [ev, hc]
          cases c <;> cases b <;> simp_all
      · rename_i hc
        obtain ⟨s', h3, h4⟩ := wpR_regR h
        exact ⟨s', .cons (.no hg (.inr hc)) h3, h4⟩
      · exact h.elim

theorem wp_exec {C : CallRel} : ∀ {c : IR} {Q : X → St → Prop} {s : St}, wp C c Q s → ∃ x s', Exec C c s x s' ∧ Q x s'
  | .skip, Q, s, h => ⟨_, _, .skip, h⟩
  | .ret, Q, s, h => ⟨_, _, .ret, h⟩
  | .exit id, Q, s, h => ⟨_, _, .exit, h⟩
  | .reg d ops, Q, s, h => by
    obtain ⟨s', h1, h2⟩ := wpR_regR h
    exact ⟨_, _, .reg h1, h2⟩
  | .seq a b, Q, s, h => by
    obtain ⟨x, s1, h1, h2⟩ := wp_exec (c := a) h
    cases x with
    | nrm =>
      obtain ⟨x, s2, h3, h4⟩ := wp_exec (c := b) h2
      exact ⟨_, _, .seqN h1 h3, h4⟩
    | exit id => exact ⟨_, _, .seqX h1 (by simp), h2⟩
    | ret => exact ⟨_, _, .seqX h1 (by simp), h2⟩
  | .cond c a b, Q, s, h => by
    simp only [wp] at h
    split at h
    · rename_i t ht
      split at h
      · rename_i h'; subst h'
        obtain ⟨x, s1, h1, h2⟩ := wp_exec (c := a) h
        exact ⟨_, _, .condT ht h1, h2⟩
      · rename_i h'
        obtain rfl : t = false := by simpa using h'
        obtain ⟨x, s1, h1, h2⟩ := wp_exec (c := b) h
        exact ⟨_, _, .condF ht h1, h2⟩
    · exact h.elim
  | .block id a, Q, s, h => by
    obtain ⟨x, s1, h1, h2⟩ := wp_exec (c := a) h
    cases x with
    | nrm => exact ⟨_, _, .blockX h1 (by simp), h2⟩
    | exit j =>
      simp only at h2
      split at h2
      · rename_i hj; subst hj; exact ⟨_, _, .blockE h1, h2⟩
      · rename_i hj; exact ⟨_, _, .blockX h1 (by simpa using hj), h2⟩
    | ret => exact ⟨_, _, .blockX h1 (by simp), h2⟩
  | .lv live a, Q, s, h => by
    obtain ⟨x, s1, h1, h2⟩ := wp_exec (c := a) h
    exact ⟨_, _, .lv h1, h2⟩
  | .loop live keep a, Q, s, h => by
    obtain ⟨n, h⟩ := h
    induction n generalizing s with
    | zero => exact h.elim
    | succ n ih =>
      simp only [rounds] at h
      split at h
      · rename_i s0 hs0
        obtain ⟨x, s1, h1, h2⟩ := wp_exec (c := a) h
        cases x with
        | nrm =>
          obtain ⟨x, s2, h3, h4⟩ := ih _ h2
          exact ⟨_, _, .loopN hs0 h1 h3, h4⟩
        | exit id => exact ⟨_, _, .loopX hs0 h1 (by simp), h2⟩
        | ret => exact ⟨_, _, .loopX hs0 h1 (by simp), h2⟩
      · exact h.elim

/-- What a function hands back. -/
def outOf (md : Md) (mem : List AObj) (r : AV) (mem' : List AObj) (s : St) (rv : AV) : Prop :=
  match md with
  | .pure => mem = [] ∧ mem' = [] ∧ snap s.mem 10 rv = some r
  | .own => mem = [] ∧ ownOut s.mem rv = some (r, mem')
  | .ref => r = rv ∧ mem' = s.mem

theorem CallN_mono {tab : Nat → Option IFn} {E : CallRel} : ∀ {n m : Nat}, n ≤ m → ∀ {f as mem r mem'}, CallN tab E n f as mem r mem' → CallN tab E m f as mem r mem' := by
  intro n m h
  induction h with
  | refl => exact fun h => h
  | step _ ih => exact fun h => .inl (ih h)

theorem OpR_mono {C C' : CallRel} (hC : ∀ {f as mem r mem'}, C f as mem r mem' → C' f as mem r mem') {mem e io v m} (h : OpR C mem e io v m) : OpR C' mem e io v m := by
  cases h with
  | op h => exact .op h
  | callP h1 h2 => exact .callP h1 (hC h2)
  | callR h1 h2 h3 => exact .callR h1 (hC h2) h3
  | callF h1 h2 => exact .callF h1 (hC h2)
  | callO h1 h2 h3 h4 => exact .callO h1 (hC h2) h3 h4
  | callZ h1 h2 h3 => exact .callZ h1 (hC h2) h3
  | callG h0 h1 h2 h3 => exact .callG h0 (hC h1) h2 h3
  | callM h1 => exact .callM (hC h1)
  | callV h1 h2 h3 h4 h5 => exact .callV h1 h2 h3 (hC h4) h5

theorem OpR_fin {tab : Nat → Option IFn} {E : CallRel} {mem e io v m} (h : OpR (Call tab E) mem e io v m) : ∃ n, OpR (CallN tab E n) mem e io v m := by
  cases h with
  | op h => exact ⟨0, .op h⟩
  | callP h1 h2 => obtain ⟨n, h2⟩ := h2; exact ⟨n, .callP h1 h2⟩
  | callR h1 h2 h3 => obtain ⟨n, h2⟩ := h2; exact ⟨n, .callR h1 h2 h3⟩
  | callF h1 h2 => obtain ⟨n, h2⟩ := h2; exact ⟨n, .callF h1 h2⟩
  | callO h1 h2 h3 h4 => obtain ⟨n, h2⟩ := h2; exact ⟨n, .callO h1 h2 h3 h4⟩
  | callZ h1 h2 h3 => obtain ⟨n, h2⟩ := h2; exact ⟨n, .callZ h1 h2 h3⟩
  | callG h0 h1 h2 h3 => obtain ⟨n, h1⟩ := h1; exact ⟨n, .callG h0 h1 h2 h3⟩
  | callM h1 => obtain ⟨n, h1⟩ := h1; exact ⟨n, .callM h1⟩
  | callV h1 h2 h3 h4 h5 => obtain ⟨n, h4⟩ := h4; exact ⟨n, .callV h1 h2 h3 h4 h5⟩

theorem StepR_mono {C C' : CallRel} (hC : ∀ {f as mem r mem'}, C f as mem r mem' → C' f as mem r mem') {s o s'} (h : StepR C s o s') : StepR C' s o s' := by
  cases h with
  | go h1 h2 => exact .go h1 (OpR_mono hC h2)
  | no h1 h2 => exact .no h1 h2
theorem RegR_mono {C C' : CallRel} (hC : ∀ {f as mem r mem'}, C f as mem r mem' → C' f as mem r mem') {ops s s'} (h : RegR C ops s s') : RegR C' ops s s' := by
  induction h with
  | nil => exact .nil
  | cons h1 _ ih => exact .cons (StepR_mono hC h1) ih
theorem Exec_mono {C C' : CallRel} (hC : ∀ {f as mem r mem'}, C f as mem r mem' → C' f as mem r mem') {c s x s'} (h : Exec C c s x s') : Exec C' c s x s' := by
  induction h with
  | skip => exact .skip
  | ret => exact .ret
  | exit => exact .exit
  | reg h => exact .reg (RegR_mono hC h)
  | seqN _ _ i1 i2 => exact .seqN i1 i2
  | seqX _ h i1 => exact .seqX i1 h
  | condT h _ i => exact .condT h i
  | condF h _ i => exact .condF h i
  | blockE _ i => exact .blockE i
  | blockX _ h i => exact .blockX i h
  | lv _ i => exact .lv i
  | loopN h _ _ i1 i2 => exact .loopN h i1 i2
  | loopX h _ h2 i => exact .loopX h i h2

theorem StepR_fin {tab : Nat → Option IFn} {E : CallRel} {s o s'} (h : StepR (Call tab E) s o s') : ∃ n, StepR (CallN tab E n) s o s' := by
  cases h with
  | go h1 h2 => obtain ⟨n, h2⟩ := OpR_fin h2; exact ⟨n, .go h1 h2⟩
  | no h1 h2 => exact ⟨0, .no h1 h2⟩
theorem RegR_fin {tab : Nat → Option IFn} {E : CallRel} {ops s s'} (h : RegR (Call tab E) ops s s') : ∃ n, RegR (CallN tab E n) ops s s' := by
  induction h with
  | nil => exact ⟨0, .nil⟩
  | cons h1 _ ih =>
    obtain ⟨n, h1⟩ := StepR_fin h1
    obtain ⟨m, h2⟩ := ih
    exact ⟨max n m, .cons (StepR_mono (CallN_mono (Nat.le_max_left _ _)) h1) (RegR_mono (CallN_mono (Nat.le_max_right _ _)) h2)⟩
theorem Exec_fin {tab : Nat → Option IFn} {E : CallRel} {c s x s'} (h : Exec (Call tab E) c s x s') : ∃ n, Exec (CallN tab E n) c s x s' := by
  induction h with
  | skip => exact ⟨0, .skip⟩
  | ret => exact ⟨0, .ret⟩
  | exit => exact ⟨0, .exit⟩
  | reg h => obtain ⟨n, h⟩ := RegR_fin h; exact ⟨n, .reg h⟩
  | seqN _ _ i1 i2 =>
    obtain ⟨n, h1⟩ := i1; obtain ⟨m, h2⟩ := i2
    exact ⟨max n m, .seqN (Exec_mono (CallN_mono (Nat.le_max_left _ _)) h1) (Exec_mono (CallN_mono (Nat.le_max_right _ _)) h2)⟩
  | seqX _ h i1 => obtain ⟨n, h1⟩ := i1; exact ⟨n, .seqX h1 h⟩
  | condT h _ i => obtain ⟨n, h1⟩ := i; exact ⟨n, .condT h h1⟩
  | condF h _ i => obtain ⟨n, h1⟩ := i; exact ⟨n, .condF h h1⟩
  | blockE _ i => obtain ⟨n, h1⟩ := i; exact ⟨n, .blockE h1⟩
  | blockX _ h i => obtain ⟨n, h1⟩ := i; exact ⟨n, .blockX h1 h⟩
  | lv _ i => obtain ⟨n, h1⟩ := i; exact ⟨n, .lv h1⟩
  | loopN h _ _ i1 i2 =>
    obtain ⟨n, h1⟩ := i1; obtain ⟨m, h2⟩ := i2
    exact ⟨max n m, .loopN h (Exec_mono (CallN_mono (Nat.le_max_left _ _)) h1) (Exec_mono (CallN_mono (Nat.le_max_right _ _)) h2)⟩
  | loopX h _ h2 i => obtain ⟨n, h1⟩ := i; exact ⟨n, .loopX h h1 h2⟩

/-- How a call is shown: the body's transformer. -/
theorem Call.of {tab : Nat → Option IFn} {E : CallRel} {f : Nat} {as : List AV} {mem : List AObj} {r : AV} {mem' : List AObj} (fn : IFn) (hf : tab f = some fn) (h1 : as.length = fn.nparams) (h2 : as.length ≤ fn.ntmps)
    (h : wp (Call tab E) fn.body (fun x s => (x = .nrm ∨ x = .ret) ∧ ∃ rv, resAll s fn.res = some rv ∧ outOf fn.md mem r mem' s rv) ⟨argsE 0 as, mem⟩) : Call tab E f as mem r mem' := by
  obtain ⟨x, s, h3, h4, rv, h5, h6⟩ := wp_exec h
  obtain ⟨n, h3⟩ := Exec_fin h3
  refine ⟨n + 1, .inr ⟨fn, s, x, rv, hf, h1, h2, h3, h4, h5, ?_⟩⟩
  unfold outOf at h6
  exact h6

end Go.V
