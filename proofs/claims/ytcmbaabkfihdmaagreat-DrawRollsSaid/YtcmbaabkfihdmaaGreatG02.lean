/- The texts VLoop VGlue, one behind the other. Conditions: each text's own. -/
import Derived.Test.YtcmbaabkfihdmaaGreatG01
import Derived.Below
/- Loops, and small facts for reckoning. -/
set_option linter.unusedVariables false
set_option linter.unusedSimpArgs false
namespace Go.V
open Go

theorem opR_wpO {C : CallRel} {mem : List AObj} {e : Opd → AV} {io : MOp} {v : AV} {m : List AObj} {K : AV → List AObj → Prop} (h : OpR C mem e io v m) (hK : K v m) : wpO C mem e K io := by
  cases h with
  | callP h1 h2 => exact ⟨_, _, h1, h2, hK⟩
  | callR h1 h2 h3 => exact ⟨_, _, h1, h2, h3, hK⟩
  | callF h1 h2 => exact ⟨_, _, h1, h2, hK⟩
  | callO h1 h2 h3 h4 => exact ⟨_, _, _, h1, h2, h3, h4, hK⟩
  | callZ h1 h2 h3 => exact ⟨_, _, _, _, h1, h2, h3, hK⟩
  | callG h0 h1 h2 h3 => exact ⟨h0, _, _, h1, h2, h3, hK⟩
  | callM h1 => exact ⟨_, _, h1, hK⟩
  | callV h0 h1 h2 h3 h4 => exact ⟨_, _, _, _, _, h0, h1, h2, h3, h4, hK⟩
  | op h =>
    cases io
    case callP => simp [evalOp] at h
    case callR => simp [evalOp] at h
    case callF => simp [evalOp] at h
    case callO => simp [evalOp] at h
    case callZ => simp [evalOp] at h
    case callG => simp [evalOp] at h
    case callM => simp [evalOp] at h
    case callV => simp [evalOp] at h
    all_goals simp only [wpO, h]; exact hK
theorem regR_wpR {C : CallRel} {ops : List IOp} {s s' : St} {Q : St → Prop} (h : RegR C ops s s') (hQ : Q s') : wpR C Q ops s := by
  induction h with
  | nil => exact hQ
  | cons h1 _ ih =>
    have ih := ih hQ
    cases h1 with
    | go g1 g2 =>
      rcases g1 with g1 | ⟨t, b, g1, g3⟩
      · simp only [wpR, g1]; exact opR_wpO g2 ih
      · simp only [ev] at g3
        simp only [wpR, g1, g3, if_true]
        exact opR_wpO g2 ih
    | no g1 g2 =>
      simp only [ev] at g2
      rcases g2 with g2 | g2
      · simp only [wpR, g1, g2]
        rw [if_neg (by simp)]
        exact ih
      · simp only [wpR, g1, g2]
        exact ih
theorem exec_wp {C : CallRel} {c : IR} {s s' : St} {x : X} (h : Exec C c s x s') : ∀ {Q : X → St → Prop}, Q x s' → wp C c Q s := by
  induction h with
  | skip => exact fun h => h
  | ret => exact fun h => h
  | exit => exact fun h => h
  | reg h => exact fun hQ => regR_wpR h hQ
  | seqN _ _ i1 i2 => exact fun hQ => i1 (i2 hQ)
  | @seqX _ _ _ x _ _ hx i1 =>
    intro Q hQ
    refine i1 ?_
    cases x with
    | nrm => exact absurd rfl hx
    | exit => exact hQ
    | ret => exact hQ
  | condT hc _ i => intro Q hQ; simp only [wp, hc, if_true]; exact i hQ
  | condF hc _ i => intro Q hQ; simp only [wp, hc, Bool.false_eq_true, if_false]; exact i hQ
  | blockE _ i => intro Q hQ; exact i (by simpa using hQ)
  | @blockX id _ _ x _ _ hx i =>
    intro Q hQ
    refine i ?_
    cases x with
    | nrm => exact hQ
    | exit j => simp only; rw [if_neg (fun h => hx (by rw [h]))]; exact hQ
    | ret => exact hQ
  | lv _ i => exact fun hQ => i hQ
  | loopN hh _ _ i1 i2 =>
    intro Q hQ
    obtain ⟨n, hn⟩ := i2 hQ
    refine ⟨n + 1, ?_⟩
    simp only [rounds, hh]
    exact i1 hn
  | @loopX _ _ _ _ _ x _ hh _ hx i =>
    intro Q hQ
    refine ⟨1, ?_⟩
    simp only [rounds, hh]
    refine i ?_
    cases x with
    | nrm => exact absurd rfl hx
    | exit => exact hQ
    | ret => exact hQ

theorem wp_mono {C : CallRel} {c : IR} {Q Q' : X → St → Prop} {s : St} (hQ : ∀ x s, Q x s → Q' x s) (h : wp C c Q s) : wp C c Q' s := by
  obtain ⟨x, s', h1, h2⟩ := wp_exec h
  exact exec_wp h1 (hQ _ _ h2)

/-- A loop by an invariant that bears a number, which every round lowers. -/
theorem wp_loop_inv {C : CallRel} {live : List Nat} {keep : Option (Nat × List Nat)} {a : IR} {Q : X → St → Prop} {s : St} (I : Nat → St → Prop) (N : Nat) (h0 : ∃ s0, headOf live keep s = some s0 ∧ I N s0)
    (step : ∀ n s0, I n s0 → wp C a (fun x s1 => match x with | .nrm => ∃ s2, headOf live keep s1 = some s2 ∧ ∃ m, m < n ∧ I m s2 | x => Q x s1) s0) : wp C (.loop live keep a) Q s := by
  induction N using Nat.strongRecOn generalizing s with
  | _ N ih =>
    obtain ⟨s0, h1, h2⟩ := h0
    obtain ⟨x, s1, hx, hq⟩ := wp_exec (step N s0 h2)
    cases x with
    | nrm =>
      obtain ⟨s2, g1, m, g2, g3⟩ := hq
      obtain ⟨n, hn⟩ := ih m g2 ⟨s2, g1, g3⟩
      refine ⟨n + 1, ?_⟩
      simp only [rounds, h1]
      exact exec_wp hx hn
    | exit id =>
      refine ⟨1, ?_⟩
      simp only [rounds, h1]
      exact exec_wp hx hq
    | ret =>
      refine ⟨1, ?_⟩
      simp only [rounds, h1]
      exact exec_wp hx hq

/-- What is owed at a body's end. -/
def Out (fn : IFn) (mem : List AObj) (r : AV) (mem' : List AObj) (s : St) : Prop :=
  match resAll s fn.res with
  | some rv => outOf fn.md mem r mem' s rv
  | none => False
def Fin (fn : IFn) (mem : List AObj) (r : AV) (mem' : List AObj) (x : X) (s : St) : Prop :=
  match x with
  | .exit _ => False
  | .nrm => Out fn mem r mem' s
  | .ret => Out fn mem r mem' s
theorem Call.go {tab : Nat → Option IFn} {E : CallRel} {f : Nat} {as : List AV} {mem : List AObj} {r : AV} {mem' : List AObj} (fn : IFn) (c : IR) (hc : fn.body = c) (hf : tab f = some fn) (h1 : as.length = fn.nparams) (h2 : (decide (fn.nparams ≤ fn.ntmps)) = true)
    (h : wp (Call tab E) c (Fin fn mem r mem') ⟨argsE 0 as, mem⟩) : Call tab E f as mem r mem' := by
  subst hc
  refine Call.of fn hf h1 (by rw [h1]; simpa using h2) (wp_mono (fun x s hx => ?_) h)
  have : ∀ s, Out fn mem r mem' s → ∃ rv, resAll s fn.res = some rv ∧ outOf fn.md mem r mem' s rv := fun s h => by
    unfold Out at h
    split at h
    · rename_i rv hrv; exact ⟨rv, hrv, h⟩
    · exact h.elim
  cases x with
  | exit => exact hx.elim
  | nrm => exact ⟨.inl rfl, this s hx⟩
  | ret => exact ⟨.inr rfl, this s hx⟩

/-! ### A machine for reckoning by 'simp': no binders, nothing behind is looked at before its time -/
inductive Item where
  | code (c : IR)
  | ops (os : List IOp)
  | endb (id : Nat)

def Mach (C : CallRel) (Q : X → St → Prop) : List Item → X → St → Prop
  | [], x, s => Q x s
  | .code c :: k, .nrm, s => wp C c (Mach C Q k) s
  | .code _ :: k, x, s => Mach C Q k x s
  | .ops os :: k, .nrm, s => wpR C (Mach C Q k .nrm) os s
  | .ops _ :: k, x, s => Mach C Q k x s
  | .endb id :: k, .exit j, s => if j = id then Mach C Q k .nrm s else Mach C Q k (.exit j) s
  | .endb _ :: k, x, s => Mach C Q k x s

section
variable {C : CallRel} {Q : X → St → Prop} {k : List Item} {s : St}
/-- Behind a condition. -/
def MachB (C : CallRel) (Q : X → St → Prop) (v : AV) (a b : IR) (k : List Item) (s : St) : Prop :=
  match v with
  | .bool t => Mach C Q (.code (if t then a else b) :: k) .nrm s
  | _ => False
/-- Behind an operation. -/
def MachV (C : CallRel) (Q : X → St → Prop) (r : Option (AV × List AObj)) (d : Option Nat) (os : List IOp) (k : List Item) (env : Env) : Prop :=
  match r with
  | some (v, m) => Mach C Q (.ops os :: k) .nrm ⟨putE env d v, m⟩
  | none => False
/-- Behind a guard. -/
def MachG (C : CallRel) (Q : X → St → Prop) (v : AV) (b : Bool) (d : Option Nat) (io : MOp) (os : List IOp) (k : List Item) (s : St) : Prop :=
  match v with
  | .bool c => if c = b then Mach C Q (.ops (⟨d, io, none⟩ :: os) :: k) .nrm s else Mach C Q (.ops os :: k) .nrm ⟨putE s.env d (.tup []), s.mem⟩
  | .tup [] => Mach C Q (.ops os :: k) .nrm ⟨putE s.env d (.tup []), s.mem⟩
  | _ => False
inductive CK where
  | P | R | F | O | Z | G | M | V
/-- Ahead of a call: the arguments. -/
def MachA (C : CallRel) (Q : X → St → Prop) (c : CK) (f : Nat) (as : Option (List AV)) (ns : List Nat) (d : Option Nat) (os : List IOp) (k : List Item) (s : St) : Prop :=
  match as with
  | none => False
  | some as => match c with
    | .P => ∃ r, C f as [] r [] ∧ Mach C Q (.ops os :: k) .nrm ⟨putE s.env d r, s.mem⟩
    | .R => ∃ r, C f as [] r [] ∧ scalars r = true ∧ Mach C Q (.ops os :: k) .nrm ⟨putE s.env d r, s.mem⟩
    | .F => ∃ r, C f as [] r [] ∧ Mach C Q (.ops os :: k) .nrm ⟨putE s.env d r, freeze ns s.mem⟩
    | .O => ∃ r m, C f as [] r m ∧ (m.all made) = true ∧ ownishR r = true ∧ Mach C Q (.ops os :: k) .nrm ⟨putE s.env d (shiftR s.mem.length r), freeze ns s.mem ++ m.map (shiftO s.mem.length)⟩
    | .Z => ∃ r m r', C f as [] r m ∧ snap m 10 r = some r' ∧ Mach C Q (.ops os :: k) .nrm ⟨putE s.env d r', freeze ns s.mem⟩
    | .G => (as.all plainArg) = true ∧ ∃ r m, C f as [] r m ∧ (m.all made) = true ∧ ownishR r = true ∧ Mach C Q (.ops os :: k) .nrm ⟨putE s.env d (shiftR s.mem.length r), s.mem ++ m.map (shiftO s.mem.length)⟩
    | .M => ∃ r m, C f as s.mem r m ∧ Mach C Q (.ops os :: k) .nrm ⟨putE s.env d r, m⟩
    | .V => ∃ r, C f as [] r [] ∧ scalars r = true ∧ Mach C Q (.ops os :: k) .nrm ⟨putE s.env d r, s.mem⟩
def MachF (C : CallRel) (Q : X → St → Prop) (v : AV) (as : Option (List AV)) (d : Option Nat) (os : List IOp) (k : List Item) (s : St) : Prop :=
  match v with
  | .fn f caps => match caps.mapM (fun c => snap s.mem 10 c) with
    | some bs => MachA C Q .V f (as.map (· ++ bs)) [] d os k s
    | none => False
  | _ => False

theorem mNil {x : X} : Mach C Q [] x s = Q x s := by cases x <;> rfl
theorem mSkip : Mach C Q (.code .skip :: k) .nrm s = Mach C Q k .nrm s := Eq.trans rfl rfl
theorem mRet : Mach C Q (.code .ret :: k) .nrm s = Mach C Q k .ret s := Eq.trans rfl rfl
theorem mExit {id : Nat} : Mach C Q (.code (.exit id) :: k) .nrm s = Mach C Q k (.exit id) s := Eq.trans rfl rfl
theorem mReg {p : Option (List Nat)} {os : List IOp} : Mach C Q (.code (.reg p os) :: k) .nrm s = Mach C Q (.ops os :: k) .nrm s := Eq.trans rfl rfl
theorem mSeq {a b : IR} : Mach C Q (.code (.seq a b) :: k) .nrm s = Mach C Q (.code a :: .code b :: k) .nrm s := by
  simp only [Mach, wp]
  congr 1
  funext x s1
  cases x <;> rfl
theorem mCond {c : Opd} {a b : IR} : Mach C Q (.code (.cond c a b) :: k) .nrm s = MachB C Q (ev s.env c) a b k s := by
  simp only [Mach, wp, MachB]
  cases ev s.env c with
  | bool t => cases t <;> simp
  | _ => rfl
theorem mTrue {a b : IR} : MachB C Q (.bool true) a b k s = Mach C Q (.code a :: k) .nrm s := Eq.trans rfl rfl
theorem mFalse {a b : IR} : MachB C Q (.bool false) a b k s = Mach C Q (.code b :: k) .nrm s := Eq.trans rfl rfl
theorem mBlock {id : Nat} {a : IR} : Mach C Q (.code (.block id a) :: k) .nrm s = Mach C Q (.code a :: .endb id :: k) .nrm s := by
  simp only [Mach, wp]
  congr 1
  funext x s1
  cases x <;> rfl
theorem mLv {live : List Nat} {a : IR} : Mach C Q (.code (.lv live a) :: k) .nrm s = Mach C Q (.code a :: k) .nrm ⟨live.map fun n => (n, getE s.env n), s.mem⟩ := Eq.trans rfl rfl
theorem mCodeE {c : IR} {id : Nat} : Mach C Q (.code c :: k) (.exit id) s = Mach C Q k (.exit id) s := Eq.trans rfl rfl
theorem mCodeR {c : IR} : Mach C Q (.code c :: k) .ret s = Mach C Q k .ret s := Eq.trans rfl rfl
theorem mEndN {id : Nat} : Mach C Q (.endb id :: k) .nrm s = Mach C Q k .nrm s := Eq.trans rfl rfl
theorem mEndR {id : Nat} : Mach C Q (.endb id :: k) .ret s = Mach C Q k .ret s := Eq.trans rfl rfl
theorem mEndE {id j : Nat} : Mach C Q (.endb id :: k) (.exit j) s = if j = id then Mach C Q k .nrm s else Mach C Q k (.exit j) s := Eq.trans rfl rfl
theorem mOps : Mach C Q (.ops [] :: k) .nrm s = Mach C Q k .nrm s := Eq.trans rfl rfl
theorem mSome {v : AV} {m : List AObj} {d : Option Nat} {os : List IOp} {env : Env} : MachV C Q (some (v, m)) d os k env = Mach C Q (.ops os :: k) .nrm ⟨putE env d v, m⟩ := Eq.trans rfl rfl
theorem mGuard {d : Option Nat} {io : MOp} {t : Nat} {b : Bool} {os : List IOp} : Mach C Q (.ops (⟨d, io, some (t, b)⟩ :: os) :: k) .nrm s = MachG C Q (getE s.env t) b d io os k s := by
  simp only [Mach, wpR, MachG]
  rfl
theorem mGtt {d : Option Nat} {io : MOp} {os : List IOp} : MachG C Q (.bool true) true d io os k s = Mach C Q (.ops (⟨d, io, none⟩ :: os) :: k) .nrm s := Eq.trans rfl rfl
theorem mGff {d : Option Nat} {io : MOp} {os : List IOp} : MachG C Q (.bool false) false d io os k s = Mach C Q (.ops (⟨d, io, none⟩ :: os) :: k) .nrm s := Eq.trans rfl rfl
theorem mGu {b : Bool} {d : Option Nat} {io : MOp} {os : List IOp} : MachG C Q (.tup []) b d io os k s = Mach C Q (.ops os :: k) .nrm ⟨putE s.env d (.tup []), s.mem⟩ := Eq.trans rfl rfl
theorem mGtf {d : Option Nat} {io : MOp} {os : List IOp} : MachG C Q (.bool true) false d io os k s = Mach C Q (.ops os :: k) .nrm ⟨putE s.env d (.tup []), s.mem⟩ := by simp [MachG]
theorem mGft {d : Option Nat} {io : MOp} {os : List IOp} : MachG C Q (.bool false) true d io os k s = Mach C Q (.ops os :: k) .nrm ⟨putE s.env d (.tup []), s.mem⟩ := by simp [MachG]

variable {d : Option Nat} {os : List IOp} {f : Nat} {xs : List Opd}
theorem mCallP : Mach C Q (.ops (⟨d, .callP f xs, none⟩ :: os) :: k) .nrm s = MachA C Q .P f (xs.mapM fun x => snap [] 10 (ev s.env x)) [] d os k s := by
  simp only [Mach, wpR, wpO, MachA]
  refine propext ⟨fun ⟨as, r, h1, h2, h3⟩ => ?_, fun h => ?_⟩
  · rw [h1]; exact ⟨r, h2, h3⟩
  · split at h
    · exact h.elim
    · rename_i as has; obtain ⟨r, h2, h3⟩ := h; exact ⟨as, r, has, h2, h3⟩
theorem mCallR : Mach C Q (.ops (⟨d, .callR f xs, none⟩ :: os) :: k) .nrm s = MachA C Q .R f (xs.mapM fun x => snap s.mem 10 (ev s.env x)) [] d os k s := by
  simp only [Mach, wpR, wpO, MachA]
  refine propext ⟨fun ⟨as, r, h1, h2, h4, h3⟩ => ?_, fun h => ?_⟩
  · rw [h1]; exact ⟨r, h2, h4, h3⟩
  · split at h
    · exact h.elim
    · rename_i as has; obtain ⟨r, h2, h4, h3⟩ := h; exact ⟨as, r, has, h2, h4, h3⟩
theorem mCallF : Mach C Q (.ops (⟨d, .callF f xs, none⟩ :: os) :: k) .nrm s = MachA C Q .F f (xs.mapM fun x => snap s.mem 10 (ev s.env x)) (xs.flatMap fun x => refs s.mem 10 (ev s.env x)) d os k s := by
  simp only [Mach, wpR, wpO, MachA]
  refine propext ⟨fun ⟨as, r, h1, h2, h3⟩ => ?_, fun h => ?_⟩
  · rw [h1]; exact ⟨r, h2, h3⟩
  · split at h
    · exact h.elim
    · rename_i as has; obtain ⟨r, h2, h3⟩ := h; exact ⟨as, r, has, h2, h3⟩
theorem mCallO : Mach C Q (.ops (⟨d, .callO f xs, none⟩ :: os) :: k) .nrm s = MachA C Q .O f (xs.mapM fun x => snap s.mem 10 (ev s.env x)) (xs.flatMap fun x => refs s.mem 10 (ev s.env x)) d os k s := by
  simp only [Mach, wpR, wpO, MachA]
  refine propext ⟨fun ⟨as, r, m, h1, h2, h4, h5, h3⟩ => ?_, fun h => ?_⟩
  · rw [h1]; exact ⟨r, m, h2, h4, h5, h3⟩
  · split at h
    · exact h.elim
    · rename_i as has; obtain ⟨r, m, h2, h4, h5, h3⟩ := h; exact ⟨as, r, m, has, h2, h4, h5, h3⟩
theorem mCallZ : Mach C Q (.ops (⟨d, .callZ f xs, none⟩ :: os) :: k) .nrm s = MachA C Q .Z f (xs.mapM fun x => snap s.mem 10 (ev s.env x)) (xs.flatMap fun x => refs s.mem 10 (ev s.env x)) d os k s := by
  simp only [Mach, wpR, wpO, MachA]
  refine propext ⟨fun ⟨as, r, m, r', h1, h2, h4, h3⟩ => ?_, fun h => ?_⟩
  · rw [h1]; exact ⟨r, m, r', h2, h4, h3⟩
  · split at h
    · exact h.elim
    · rename_i as has; obtain ⟨r, m, r', h2, h4, h3⟩ := h; exact ⟨as, r, m, r', has, h2, h4, h3⟩
theorem mCallG : Mach C Q (.ops (⟨d, .callG f xs, none⟩ :: os) :: k) .nrm s = MachA C Q .G f (some (xs.map (ev s.env))) [] d os k s := by
  simp only [Mach, wpR, wpO, MachA, List.all_map, Function.comp_def]
theorem mCallM : Mach C Q (.ops (⟨d, .callM f xs, none⟩ :: os) :: k) .nrm s = MachA C Q .M f (some (xs.map (ev s.env))) [] d os k s := Eq.trans rfl rfl
theorem mCallV {x : Opd} : Mach C Q (.ops (⟨d, .callV x xs, none⟩ :: os) :: k) .nrm s = MachF C Q (ev s.env x) (xs.mapM fun x => snap s.mem 10 (ev s.env x)) d os k s := by
  simp only [Mach, wpR, wpO, MachF, MachA]
  refine propext ⟨fun ⟨f, caps, as, bs, r, h0, h1, h2, h3, h4, h5⟩ => ?_, fun h => ?_⟩
  · rw [h0, h1]; simp only [h2, Option.map_some]; exact ⟨r, h3, h4, h5⟩
  · split at h
    · rename_i f caps hf
      split at h
      · rename_i bs hbs
        split at h
        · exact h.elim
        · rename_i as has
          obtain ⟨as', h1, rfl⟩ := Option.map_eq_some_iff.1 has
          obtain ⟨r, h3, h4, h5⟩ := h
          exact ⟨f, caps, as', bs, r, hf, h1, hbs, h3, h4, h5⟩
      · exact h.elim
    · exact h.elim
theorem goP {as : List AV} {ns : List Nat} {r : AV} (h : C f as [] r []) (hk : Mach C Q (.ops os :: k) .nrm ⟨putE s.env d r, s.mem⟩) : MachA C Q .P f (some as) ns d os k s := ⟨r, h, hk⟩
theorem goR {as : List AV} {ns : List Nat} {r : AV} (h : C f as [] r []) (hs : scalars r = true) (hk : Mach C Q (.ops os :: k) .nrm ⟨putE s.env d r, s.mem⟩) : MachA C Q .R f (some as) ns d os k s := ⟨r, h, hs, hk⟩
theorem goF {as : List AV} {ns : List Nat} {r : AV} (h : C f as [] r []) (hk : Mach C Q (.ops os :: k) .nrm ⟨putE s.env d r, freeze ns s.mem⟩) : MachA C Q .F f (some as) ns d os k s := ⟨r, h, hk⟩
theorem goO {as : List AV} {ns : List Nat} {r : AV} {m : List AObj} (h : C f as [] r m) (h1 : (m.all fun o => !o.box) = true) (h2 : ownishR r = true) (hk : Mach C Q (.ops os :: k) .nrm ⟨putE s.env d (shiftR s.mem.length r), freeze ns s.mem ++ m⟩) : MachA C Q .O f (some as) ns d os k s := by
  rw [List.all_eq_true] at h1
  refine ⟨r, m, h, List.all_eq_true.2 (fun o ho => by simp only [made, h1 o ho, Bool.true_or]), h2, ?_⟩
  have : m.map (shiftO s.mem.length) = m := by
    conv => rhs; rw [← List.map_id m]
    refine List.map_congr_left (fun o ho => ?_)
    have := h1 o ho
    simp only [Bool.not_eq_true'] at this
    simp only [shiftO, this, Bool.false_eq_true, if_false, id]
  rw [this]
  exact hk
theorem goB {as : List AV} {ns : List Nat} {r : AV} {m : List AObj} (h : C f as [] r m) (h1 : (m.all made) = true) (h2 : ownishR r = true) (hk : Mach C Q (.ops os :: k) .nrm ⟨putE s.env d (shiftR s.mem.length r), freeze ns s.mem ++ m.map (shiftO s.mem.length)⟩) : MachA C Q .O f (some as) ns d os k s := ⟨r, m, h, h1, h2, hk⟩
theorem goZ {as : List AV} {ns : List Nat} {r r' : AV} {m : List AObj} (h : C f as [] r m) (h1 : snap m 10 r = some r') (hk : Mach C Q (.ops os :: k) .nrm ⟨putE s.env d r', freeze ns s.mem⟩) : MachA C Q .Z f (some as) ns d os k s := ⟨r, m, r', h, h1, hk⟩
theorem goM {as : List AV} {ns : List Nat} {r : AV} {m : List AObj} (h : C f as s.mem r m) (hk : Mach C Q (.ops os :: k) .nrm ⟨putE s.env d r, m⟩) : MachA C Q .M f (some as) ns d os k s := ⟨r, m, h, hk⟩
theorem mO_mov {x : Opd} : Mach C Q (.ops (⟨d, .mov x, none⟩ :: os) :: k) .nrm s = MachV C Q (evalOp s.mem (ev s.env) (.mov x)) d os k s.env := Eq.trans rfl rfl
theorem mO_newnil {a b : Nat} : Mach C Q (.ops (⟨d, .newnil a b, none⟩ :: os) :: k) .nrm s = MachV C Q (evalOp s.mem (ev s.env) (.newnil a b)) d os k s.env := Eq.trans rfl rfl
theorem mO_pick {x y z : Opd} : Mach C Q (.ops (⟨d, .pick x y z, none⟩ :: os) :: k) .nrm s = MachV C Q (evalOp s.mem (ev s.env) (.pick x y z)) d os k s.env := Eq.trans rfl rfl
theorem mO_alloc {n : Nat} {cs : List AV} : Mach C Q (.ops (⟨d, .alloc n cs, none⟩ :: os) :: k) .nrm s = MachV C Q (evalOp s.mem (ev s.env) (.alloc n cs)) d os k s.env := Eq.trans rfl rfl
theorem mO_box {a b : Nat} {x : Opd} : Mach C Q (.ops (⟨d, .box a b x, none⟩ :: os) :: k) .nrm s = MachV C Q (evalOp s.mem (ev s.env) (.box a b x)) d os k s.env := Eq.trans rfl rfl
theorem mO_build {zz : List AV} {ps : List (Nat × Nat × Opd)} : Mach C Q (.ops (⟨d, .build zz ps, none⟩ :: os) :: k) .nrm s = MachV C Q (evalOp s.mem (ev s.env) (.build zz ps)) d os k s.env := Eq.trans rfl rfl
theorem mO_bsl {a b : Nat} {xs : List Opd} : Mach C Q (.ops (⟨d, .bsl a b xs, none⟩ :: os) :: k) .nrm s = MachV C Q (evalOp s.mem (ev s.env) (.bsl a b xs)) d os k s.env := Eq.trans rfl rfl
theorem mO_bslF {a b : Nat} {xs : List Opd} : Mach C Q (.ops (⟨d, .bslF a b xs, none⟩ :: os) :: k) .nrm s = MachV C Q (evalOp s.mem (ev s.env) (.bslF a b xs)) d os k s.env := Eq.trans rfl rfl
theorem mO_ldf {g : Bool} {n : Nat} {x : Opd} : Mach C Q (.ops (⟨d, .ldf g n x, none⟩ :: os) :: k) .nrm s = MachV C Q (evalOp s.mem (ev s.env) (.ldf g n x)) d os k s.env := Eq.trans rfl rfl
theorem mO_ld {g : Bool} {n : Nat} {x : Opd} : Mach C Q (.ops (⟨d, .ld g n x, none⟩ :: os) :: k) .nrm s = MachV C Q (evalOp s.mem (ev s.env) (.ld g n x)) d os k s.env := Eq.trans rfl rfl
theorem mO_st {n : Nat} {x y : Opd} : Mach C Q (.ops (⟨d, .st n x y, none⟩ :: os) :: k) .nrm s = MachV C Q (evalOp s.mem (ev s.env) (.st n x y)) d os k s.env := Eq.trans rfl rfl
theorem mO_sta {av : List Nat} {n : Nat} {x y : Opd} : Mach C Q (.ops (⟨d, .sta av n x y, none⟩ :: os) :: k) .nrm s = MachV C Q (evalOp s.mem (ev s.env) (.sta av n x y)) d os k s.env := Eq.trans rfl rfl
theorem mO_nilchk {x : Opd} : Mach C Q (.ops (⟨d, .nilchk x, none⟩ :: os) :: k) .nrm s = MachV C Q (evalOp s.mem (ev s.env) (.nilchk x)) d os k s.env := Eq.trans rfl rfl
theorem mO_bin {b : Bin} {x y : Opd} : Mach C Q (.ops (⟨d, .bin b x y, none⟩ :: os) :: k) .nrm s = MachV C Q (evalOp s.mem (ev s.env) (.bin b x y)) d os k s.env := Eq.trans rfl rfl
theorem mO_binb {b : Bin} {x y : Opd} : Mach C Q (.ops (⟨d, .binb b x y, none⟩ :: os) :: k) .nrm s = MachV C Q (evalOp s.mem (ev s.env) (.binb b x y)) d os k s.env := Eq.trans rfl rfl
theorem mO_binp {b : Bin} {x y : Opd} : Mach C Q (.ops (⟨d, .binp b x y, none⟩ :: os) :: k) .nrm s = MachV C Q (evalOp s.mem (ev s.env) (.binp b x y)) d os k s.env := Eq.trans rfl rfl
theorem mO_bins {b : Bin} {sig : List Nat} {x y : Opd} : Mach C Q (.ops (⟨d, .bins b sig x y, none⟩ :: os) :: k) .nrm s = MachV C Q (evalOp s.mem (ev s.env) (.bins b sig x y)) d os k s.env := Eq.trans rfl rfl
theorem mO_neg {x : Opd} : Mach C Q (.ops (⟨d, .neg x, none⟩ :: os) :: k) .nrm s = MachV C Q (evalOp s.mem (ev s.env) (.neg x)) d os k s.env := Eq.trans rfl rfl
theorem mO_com {x : Opd} : Mach C Q (.ops (⟨d, .com x, none⟩ :: os) :: k) .nrm s = MachV C Q (evalOp s.mem (ev s.env) (.com x)) d os k s.env := Eq.trans rfl rfl
theorem mO_not {x : Opd} : Mach C Q (.ops (⟨d, .not x, none⟩ :: os) :: k) .nrm s = MachV C Q (evalOp s.mem (ev s.env) (.not x)) d os k s.env := Eq.trans rfl rfl
theorem mO_conv {kk : IntKind} {x : Opd} : Mach C Q (.ops (⟨d, .conv kk x, none⟩ :: os) :: k) .nrm s = MachV C Q (evalOp s.mem (ev s.env) (.conv kk x)) d os k s.env := Eq.trans rfl rfl
theorem mO_mk {a b : Nat} {zz : List AV} {x : Opd} : Mach C Q (.ops (⟨d, .mk a b zz x, none⟩ :: os) :: k) .nrm s = MachV C Q (evalOp s.mem (ev s.env) (.mk a b zz x)) d os k s.env := Eq.trans rfl rfl
theorem mO_mk0 {a b c : Nat} {x : Opd} : Mach C Q (.ops (⟨d, .mk0 a b c x, none⟩ :: os) :: k) .nrm s = MachV C Q (evalOp s.mem (ev s.env) (.mk0 a b c x)) d os k s.env := Eq.trans rfl rfl
theorem mO_s2b {x : Opd} : Mach C Q (.ops (⟨d, .s2b x, none⟩ :: os) :: k) .nrm s = MachV C Q (evalOp s.mem (ev s.env) (.s2b x)) d os k s.env := Eq.trans rfl rfl
theorem mO_b2s {x : Opd} : Mach C Q (.ops (⟨d, .b2s x, none⟩ :: os) :: k) .nrm s = MachV C Q (evalOp s.mem (ev s.env) (.b2s x)) d os k s.env := Eq.trans rfl rfl
theorem mO_cpy {n : Nat} {x y : Opd} : Mach C Q (.ops (⟨d, .cpy n x y, none⟩ :: os) :: k) .nrm s = MachV C Q (evalOp s.mem (ev s.env) (.cpy n x y)) d os k s.env := Eq.trans rfl rfl
theorem mO_cut {n : Nat} {x : Opd} {lo hi : Option Opd} : Mach C Q (.ops (⟨d, .cut n x lo hi, none⟩ :: os) :: k) .nrm s = MachV C Q (evalOp s.mem (ev s.env) (.cut n x lo hi)) d os k s.env := Eq.trans rfl rfl
theorem mO_faddr {n : Nat} {x : Opd} : Mach C Q (.ops (⟨d, .faddr n x, none⟩ :: os) :: k) .nrm s = MachV C Q (evalOp s.mem (ev s.env) (.faddr n x)) d os k s.env := Eq.trans rfl rfl
theorem mO_fld {g : Bool} {a b : Nat} {x : Opd} : Mach C Q (.ops (⟨d, .fld g a b x, none⟩ :: os) :: k) .nrm s = MachV C Q (evalOp s.mem (ev s.env) (.fld g a b x)) d os k s.env := Eq.trans rfl rfl
theorem mO_iaddr {n : Nat} {x y : Opd} : Mach C Q (.ops (⟨d, .iaddr n x y, none⟩ :: os) :: k) .nrm s = MachV C Q (evalOp s.mem (ev s.env) (.iaddr n x y)) d os k s.env := Eq.trans rfl rfl
theorem mO_iaddrf {n : Nat} {x y : Opd} : Mach C Q (.ops (⟨d, .iaddrf n x y, none⟩ :: os) :: k) .nrm s = MachV C Q (evalOp s.mem (ev s.env) (.iaddrf n x y)) d os k s.env := Eq.trans rfl rfl
theorem mO_sidx {x y : Opd} : Mach C Q (.ops (⟨d, .sidx x y, none⟩ :: os) :: k) .nrm s = MachV C Q (evalOp s.mem (ev s.env) (.sidx x y)) d os k s.env := Eq.trans rfl rfl
theorem mO_len {x : Opd} : Mach C Q (.ops (⟨d, .len x, none⟩ :: os) :: k) .nrm s = MachV C Q (evalOp s.mem (ev s.env) (.len x)) d os k s.env := Eq.trans rfl rfl
theorem mO_lenf {x : Opd} : Mach C Q (.ops (⟨d, .lenf x, none⟩ :: os) :: k) .nrm s = MachV C Q (evalOp s.mem (ev s.env) (.lenf x)) d os k s.env := Eq.trans rfl rfl
theorem mO_slen {x : Opd} : Mach C Q (.ops (⟨d, .slen x, none⟩ :: os) :: k) .nrm s = MachV C Q (evalOp s.mem (ev s.env) (.slen x)) d os k s.env := Eq.trans rfl rfl
theorem mO_scut {x : Opd} {lo hi : Option Opd} : Mach C Q (.ops (⟨d, .scut x lo hi, none⟩ :: os) :: k) .nrm s = MachV C Q (evalOp s.mem (ev s.env) (.scut x lo hi)) d os k s.env := Eq.trans rfl rfl
theorem mO_app {a b c : Nat} {x y : Opd} : Mach C Q (.ops (⟨d, .app a b c x y, none⟩ :: os) :: k) .nrm s = MachV C Q (evalOp s.mem (ev s.env) (.app a b c x y)) d os k s.env := Eq.trans rfl rfl
theorem mO_ext {x : Opd} {n : Nat} : Mach C Q (.ops (⟨d, .ext x n, none⟩ :: os) :: k) .nrm s = MachV C Q (evalOp s.mem (ev s.env) (.ext x n)) d os k s.env := Eq.trans rfl rfl
theorem mO_mx {x y : Opd} : Mach C Q (.ops (⟨d, .mx x y, none⟩ :: os) :: k) .nrm s = MachV C Q (evalOp s.mem (ev s.env) (.mx x y)) d os k s.env := Eq.trans rfl rfl
theorem mO_mn {x y : Opd} : Mach C Q (.ops (⟨d, .mn x y, none⟩ :: os) :: k) .nrm s = MachV C Q (evalOp s.mem (ev s.env) (.mn x y)) d os k s.env := Eq.trans rfl rfl
theorem mO_mkfn {f : Nat} {xs : List Opd} : Mach C Q (.ops (⟨d, .mkfn f xs, none⟩ :: os) :: k) .nrm s = MachV C Q (evalOp s.mem (ev s.env) (.mkfn f xs)) d os k s.env := Eq.trans rfl rfl
/-- At a loop body's end. -/
def LoopQ (live : List Nat) (keep : Option (Nat × List Nat)) (I : Nat → St → Prop) (n : Nat) (Q : X → St → Prop) (x : X) (s1 : St) : Prop :=
  match x with
  | .nrm => ∃ s2, headOf live keep s1 = some s2 ∧ ∃ m, m < n ∧ I m s2
  | x => Q x s1
theorem loopQ_exit {live : List Nat} {keep : Option (Nat × List Nat)} {I : Nat → St → Prop} {n id : Nat} : LoopQ live keep I n (Mach C Q k) (.exit id) s = Mach C Q k (.exit id) s := Eq.trans rfl rfl
theorem loopQ_ret {live : List Nat} {keep : Option (Nat × List Nat)} {I : Nat → St → Prop} {n : Nat} : LoopQ live keep I n (Mach C Q k) .ret s = Mach C Q k .ret s := Eq.trans rfl rfl
theorem mLoop {live : List Nat} {keep : Option (Nat × List Nat)} {a : IR} (I : Nat → St → Prop) (N : Nat) (h0 : ∃ s0, headOf live keep s = some s0 ∧ I N s0)
    (step : ∀ n s0, I n s0 → Mach C (LoopQ live keep I n (Mach C Q k)) [.code a] .nrm s0) : Mach C Q (.code (.loop live keep a) :: k) .nrm s := by
  refine wp_loop_inv I N h0 (fun n s0 hi => ?_)
  have := step n s0 hi
  simp only [Mach] at this
  refine wp_mono (fun x s1 hx => ?_) this
  cases x <;> exact hx
theorem loopQ_go {live : List Nat} {keep : Option (Nat × List Nat)} {I : Nat → St → Prop} {n : Nat} {Q : X → St → Prop} {s2 : St} (h : headOf live keep s = some s2) (m : Nat) (hm : m < n) (hI : I m s2) : LoopQ live keep I n Q .nrm s := ⟨s2, h, m, hm, hI⟩
end
theorem finRet {fn : IFn} {mem : List AObj} {r : AV} {mem' : List AObj} {s : St} : Fin fn mem r mem' .ret s = Out fn mem r mem' s := Eq.trans rfl rfl
theorem finNrm {fn : IFn} {mem : List AObj} {r : AV} {mem' : List AObj} {s : St} : Fin fn mem r mem' .nrm s = Out fn mem r mem' s := Eq.trans rfl rfl
theorem Call.mach {tab : Nat → Option IFn} {E : CallRel} {f : Nat} {as : List AV} {mem : List AObj} {r : AV} {mem' : List AObj} (fn : IFn) (c : IR) (hc : fn.body = c) (hf : tab f = some fn) (h1 : as.length = fn.nparams) (h2 : (decide (fn.nparams ≤ fn.ntmps)) = true)
    (h : Mach (Call tab E) (Fin fn mem r mem') [.code c] .nrm ⟨argsE 0 as, mem⟩) : Call tab E f as mem r mem' :=
  Call.go fn c hc hf h1 h2 h

/-- Cells of numbers. -/
def nums (k : IntKind) (l : List Int) : List AV := l.map (.int k)
def ints (l : List Int) : AV := .sl l.length 1 (nums .i64 l)

theorem sub_nums {k : IntKind} {l : List Int} {i : Nat} (h : i < l.length) : sub false 1 (nums k l) (i * 1) = some (.int k (l.getD i 0)) := by
  simp only [sub, nums, List.length_map, Nat.mul_one, Bool.false_eq_true, if_false, if_true]
  rw [if_pos (by omega), List.getElem?_map, List.getElem?_eq_getElem h]
  simp [List.getD, h]

theorem freeze_nil {mem : List AObj} : freeze [] mem = mem := by
  apply List.ext_getElem?
  intro i
  simp [freeze]
theorem nums_length {k : IntKind} {l : List Int} : (nums k l).length = l.length := by simp [nums]
theorem fill_nums {k : IntKind} {l : List Int} {i : Nat} {v : Int} : fillIn (nums k l) (i * 1) [.int k v] = nums k (l.take i ++ v :: l.drop (i + 1)) := by
  simp [fillIn, nums, List.map_take, List.map_drop]
theorem flat_nums {k : IntKind} {v : Int} : ∀ {n : Nat}, (List.replicate n [AV.int k v]).flatten = nums k (List.replicate n v)
  | 0 => rfl
  | n + 1 => by rw [List.replicate_succ, List.flatten_cons, flat_nums, List.replicate_succ]; rfl

theorem ar_add {k : IntKind} {x y : Int} : arith .add k x y = some (.int k (k.wrap (x + y))) := rfl
theorem ar_sub {k : IntKind} {x y : Int} : arith .sub k x y = some (.int k (k.wrap (x - y))) := rfl
theorem ar_mul {k : IntKind} {x y : Int} : arith .mul k x y = some (.int k (k.wrap (x * y))) := rfl
theorem ar_quo {k : IntKind} {x y : Int} : arith .quo k x y = if y = 0 then none else some (.int k (k.wrap (x.tdiv y))) := rfl
theorem ar_rem {k : IntKind} {x y : Int} : arith .rem k x y = if y = 0 then none else some (.int k (x.tmod y)) := rfl
theorem ar_eq {k : IntKind} {x y : Int} : arith .eq k x y = some (.bool (x == y)) := rfl
theorem ar_ne {k : IntKind} {x y : Int} : arith .ne k x y = some (.bool (x != y)) := rfl
theorem ar_lt {k : IntKind} {x y : Int} : arith .lt k x y = some (.bool (decide (x < y))) := rfl
theorem ar_le {k : IntKind} {x y : Int} : arith .le k x y = some (.bool (decide (x ≤ y))) := rfl
theorem ar_gt {k : IntKind} {x y : Int} : arith .gt k x y = some (.bool (decide (x > y))) := rfl
theorem ar_ge {k : IntKind} {x y : Int} : arith .ge k x y = some (.bool (decide (x ≥ y))) := rfl
theorem ar_and {k : IntKind} {x y : Int} : arith .and k x y = some (.int k (k.wrap (BitVec.ofInt k.bits x &&& BitVec.ofInt k.bits y).toNat)) := rfl
theorem ar_or {k : IntKind} {x y : Int} : arith .or k x y = some (.int k (k.wrap (BitVec.ofInt k.bits x ||| BitVec.ofInt k.bits y).toNat)) := rfl
theorem ar_xor {k : IntKind} {x y : Int} : arith .xor k x y = some (.int k (k.wrap (BitVec.ofInt k.bits x ^^^ BitVec.ofInt k.bits y).toNat)) := rfl
theorem nat0 : ((0 : Nat) : Int) = 0 := rfl

theorem wrap_i64 {n : Int} (h1 : -9223372036854775808 ≤ n) (h2 : n ≤ 9223372036854775807) : IntKind.i64.wrap n = n := by
  simp only [IntKind.wrap, IntKind.bits, IntKind.signed]
  simp
  omega

end Go.V

/- From the small form to the row's own words. -/
set_option linter.unusedVariables false
namespace Go.V
open Go Go.RowKit

theorem walk_of {P : Program} {tab : Nat → Option IFn} {E : CallRel} (hE : CallsOk P E) (hm : P.follows .mixedOrders = true) (ht : ∀ f i, tab f = some i → okFun P f i = true) {f : Nat} {as : List AV} {b : Bool} (h : Call tab E f as [] (.bool b) []) {W : World} {vals : Array Value}
    (hsz : vals.size = as.length) (hr : ∀ (j : Nat) (c : AV) (u : Value), as[j]? = some c → vals[j]? = some u → RG W (fun b => b < W.heap.size) c u) :
    Calls P f vals W fun e W' => e = .returned (.bool b) ∧ Below W.heap.size W W' := by
  refine (call_ok hE hm ht h W (fun b => b < W.heap.size) [] vals ⟨rfl, fun n o v h => by simp at h, fun n m u v b _ h => by simp at h, fun b h => h⟩ hsz (fun j c u hc hu => .gr (hr j c u hc hu))).mono fun e W' hh => ?_
  obtain ⟨v, fz', ρ', rfl, e1, e2, e3⟩ := hh
  refine ⟨by rw [rep_bool e3], e1.os, e1.tape, e1.output, e1.size, fun k hk => e1.fzblk k hk⟩

/-- A row of numbers that came as an argument. -/
theorem rg_row {k : IntKind} {W : World} {a : Option Addr} {len cap : Nat} {zs : List Int}
    (h : (a = none ∧ len = 0 ∧ cap = 0 ∧ zs = []) ∨ ∃ x, a = some x ∧ len ≤ cap ∧ zs.length = cap ∧ (∀ i, i < zs.length → W.cell? (x.add i) = some (.int k (zs.getD i 0)))) :
    RG W (fun b => b < W.heap.size) (.sl (zs.take len).length 1 (nums k (zs.take len))) (.slice a len cap) := by
  rcases h with ⟨rfl, rfl, rfl, rfl⟩ | ⟨x, rfl, h1, h2, h3⟩
  · exact .sl0
  · have hlen : (zs.take len).length = len := by simp; omega
    rw [hlen]
    by_cases h0 : len = 0
    · subst h0
      simp only [List.take_zero, nums, List.map_nil]
      exact .sl0
    · obtain ⟨b, o, sp⟩ := x
      have hc0 := h3 0 (by omega)
      have hsp : sp = none := by
        simp only [Addr.add, if_true, World.cell?] at hc0
        split at hc0
        · split at hc0
          · cases hc0
          · rename_i hh; simpa using hh
        · cases hc0
      subst hsp
      have hcell : ∀ i, i < zs.length → W.cell? ⟨b, o + i, none⟩ = some (.int k (zs.getD i 0)) := by
        intro i hi
        have := h3 i hi
        unfold Addr.add at this
        split at this
        · rename_i hi0; subst hi0; simpa using this
        · exact this
      have hb : b < W.heap.size := by
        have := hcell 0 (by omega)
        unfold World.cell? at this
        split at this
        · rename_i hh; exact (Array.getElem?_eq_some_iff.1 hh).1
        · cases this
      have hget : ∀ (j : Nat), j < len → ((zs.take len).map (Value.int k))[j]? = some (.int k (zs.getD j 0)) := by
        intro j hj
        rw [List.getElem?_map, List.getElem?_take, if_pos hj, List.getElem?_eq_getElem (by omega)]
        simp [List.getD, show j < zs.length by omega]
      refine .sl (vs := (zs.take len).map (Value.int k)) (by omega) h1 (by simp [nums]; omega) (by simp [nums]) hb (fun u hu => ?_) (fun j u hu => ?_) (fun j c u hc hu => ?_)
      · obtain ⟨n, _, rfl⟩ := List.mem_map.1 hu; rfl
      · have hj : j < len := by
          have := (List.getElem?_eq_some_iff.1 hu).1
          simp at this; omega
        rw [hget j hj] at hu
        rw [← hu]
        exact hcell j (by omega)
      · rw [nums, List.getElem?_map] at hc
        rw [List.getElem?_map] at hu
        obtain ⟨n, hn, rfl⟩ := Option.map_eq_some_iff.1 hc
        rw [hn] at hu
        simp only [Option.map_some, Option.some.injEq] at hu
        subst hu
        exact .int

end Go.V
