/- The texts VLoop VGlue VIr0, one behind the other. Conditions: each text's own. -/
import Derived.Test.YtlejgleocnemoabGreatG01
import Derived.Below
import Derived.Test.YtlejgleocnemoabGreatG00
set_option linter.unusedSimpArgs false
set_option linter.unusedVariables false
namespace Go.V
open Go
theorem opR_wpO {C : CallRel} {mem : List AObj} {e : Opd → AV} {io : MOp} {v : AV} {m : List AObj} {K : AV → List AObj → Prop} (h : OpR C mem e io v m) (hK : K v m) : wpO C mem e K io := by
  cases h with
  | callP h1 h2 => exact ⟨_, _, h1, h2, hK⟩
  | callR h1 h2 h3 => exact ⟨_, _, h1, h2, h3, hK⟩
  | callF h1 h2 => exact ⟨_, _, h1, h2, hK⟩
  | callO h1 h2 h3 h4 => exact ⟨_, _, _, h1, h2, h3, h4, hK⟩
  | callZ h1 h2 h3 => exact ⟨_, _, _, _, h1, h2, h3, hK⟩
  | callG h0 h1 h2 h3 => exact ⟨h0, _, _, h1, h2, h3, hK⟩
  | callM h1 => exact ⟨_, _, h1, hK⟩
  | callV h0 h1 h2 h3 h4 => exact ⟨_, _, _, _, _, h0, h1, h2, h3, h4, hK⟩
  | op h =>
    cases io
    case callP => simp [evalOp] at h
    case callR => simp [evalOp] at h
    case callF => simp [evalOp] at h
    case callO => simp [evalOp] at h
    case callZ => simp [evalOp] at h
    case callG => simp [evalOp] at h
    case callM => simp [evalOp] at h
    case callV => simp [evalOp] at h
    all_goals simp only [wpO, h]; exact hK
theorem regR_wpR {C : CallRel} {ops : List IOp} {s s' : St} {Q : St → Prop} (h : RegR C ops s s') (hQ : Q s') : wpR C Q ops s := by
  induction h with
  | nil => exact hQ
  | cons h1 _ ih =>
    have ih := ih hQ
    cases h1 with
    | go g1 g2 =>
      rcases g1 with g1 | ⟨t, b, g1, g3⟩
      · simp only [wpR, g1]; exact opR_wpO g2 ih
      · simp only [ev] at g3
        simp only [wpR, g1, g3, if_true]
        exact opR_wpO g2 ih
    | no g1 g2 =>
      simp only [ev] at g2
      rcases g2 with g2 | g2
      · simp only [wpR, g1, g2]
        rw [if_neg (by simp)]
        exact ih
      · simp only [wpR, g1, g2]
        exact ih
theorem exec_wp {C : CallRel} {c : IR} {s s' : St} {x : X} (h : Exec C c s x s') : ∀ {Q : X → St → Prop}, Q x s' → wp C c Q s := by
  induction h with
  | skip => exact fun h => h
  | ret => exact fun h => h
  | exit => exact fun h => h
  | reg h => exact fun hQ => regR_wpR h hQ
  | seqN _ _ i1 i2 => exact fun hQ => i1 (i2 hQ)
  | @seqX _ _ _ x _ _ hx i1 =>
    intro Q hQ
    refine i1 ?_
    cases x with
    | nrm => exact absurd rfl hx
    | exit => exact hQ
    | ret => exact hQ
  | condT hc _ i => intro Q hQ; simp only [wp, hc, if_true]; exact i hQ
  | condF hc _ i => intro Q hQ; simp only [wp, hc, Bool.false_eq_true, if_false]; exact i hQ
  | blockE _ i => intro Q hQ; exact i (by simpa using hQ)
  | @blockX id _ _ x _ _ hx i =>
    intro Q hQ
    refine i ?_
    cases x with
    | nrm => exact hQ
    | exit j => simp only; rw [if_neg (fun h => hx (by rw [h]))]; exact hQ
    | ret => exact hQ
  | lv _ i => exact fun hQ => i hQ
  | loopN hh _ _ i1 i2 =>
    intro Q hQ
    obtain ⟨n, hn⟩ := i2 hQ
    refine ⟨n + 1, ?_⟩
    simp only [rounds, hh]
    exact i1 hn
  | @loopX _ _ _ _ _ x _ hh _ hx i =>
    intro Q hQ
    refine ⟨1, ?_⟩
    simp only [rounds, hh]
    refine i ?_
    cases x with
    | nrm => exact absurd rfl hx
    | exit => exact hQ
    | ret => exact hQ
theorem wp_mono {C : CallRel} {c : IR} {Q Q' : X → St → Prop} {s : St} (hQ : ∀ x s, Q x s → Q' x s) (h : wp C c Q s) : wp C c Q' s := by
  obtain ⟨x, s', h1, h2⟩ := wp_exec h
  exact exec_wp h1 (hQ _ _ h2)
theorem wp_loop_inv {C : CallRel} {live : List Nat} {keep : Option (Nat × List Nat)} {a : IR} {Q : X → St → Prop} {s : St} (I : Nat → St → Prop) (N : Nat) (h0 : ∃ s0, headOf live keep s = some s0 ∧ I N s0)
    (step : ∀ n s0, I n s0 → wp C a (fun x s1 => match x with | .nrm => ∃ s2, headOf live keep s1 = some s2 ∧ ∃ m, m < n ∧ I m s2 | x => Q x s1) s0) : wp C (.loop live keep a) Q s := by
  induction N using Nat.strongRecOn generalizing s with
  | _ N ih =>
    obtain ⟨s0, h1, h2⟩ := h0
    obtain ⟨x, s1, hx, hq⟩ := wp_exec (step N s0 h2)
    cases x with
    | nrm =>
      obtain ⟨s2, g1, m, g2, g3⟩ := hq
      obtain ⟨n, hn⟩ := ih m g2 ⟨s2, g1, g3⟩
      refine ⟨n + 1, ?_⟩
      simp only [rounds, h1]
      exact exec_wp hx hn
    | exit id =>
      refine ⟨1, ?_⟩
      simp only [rounds, h1]
      exact exec_wp hx hq
    | ret =>
      refine ⟨1, ?_⟩
      simp only [rounds, h1]
      exact exec_wp hx hq
def Out (fn : IFn) (mem : List AObj) (r : AV) (mem' : List AObj) (s : St) : Prop :=
  match resAll s fn.res with
  | some rv => outOf fn.md mem r mem' s rv
  | none => False
def Fin (fn : IFn) (mem : List AObj) (r : AV) (mem' : List AObj) (x : X) (s : St) : Prop :=
  match x with
  | .exit _ => False
  | .nrm => Out fn mem r mem' s
  | .ret => Out fn mem r mem' s
theorem Call.go {tab : Nat → Option IFn} {E : CallRel} {f : Nat} {as : List AV} {mem : List AObj} {r : AV} {mem' : List AObj} (fn : IFn) (c : IR) (hc : fn.body = c) (hf : tab f = some fn) (h1 : as.length = fn.nparams) (h2 : (decide (fn.nparams ≤ fn.ntmps)) = true)
    (h : wp (Call tab E) c (Fin fn mem r mem') ⟨argsE 0 as, mem⟩) : Call tab E f as mem r mem' := by
  subst hc
  refine Call.of fn hf h1 (by rw [h1]; simpa using h2) (wp_mono (fun x s hx => ?_) h)
  have : ∀ s, Out fn mem r mem' s → ∃ rv, resAll s fn.res = some rv ∧ outOf fn.md mem r mem' s rv := fun s h => by
    unfold Out at h
    split at h
    · rename_i rv hrv; exact ⟨rv, hrv, h⟩
    · exact h.elim
  cases x with
  | exit => exact hx.elim
  | nrm => exact ⟨.inl rfl, this s hx⟩
  | ret => exact ⟨.inr rfl, this s hx⟩
inductive Item where
  | code (c : IR)
  | ops (os : List IOp)
  | endb (id : Nat)
def Mach (C : CallRel) (Q : X → St → Prop) : List Item → X → St → Prop
  | [], x, s => Q x s
  | .code c :: k, .nrm, s => wp C c (Mach C Q k) s
  | .code _ :: k, x, s => Mach C Q k x s
  | .ops os :: k, .nrm, s => wpR C (Mach C Q k .nrm) os s
  | .ops _ :: k, x, s => Mach C Q k x s
  | .endb id :: k, .exit j, s => if j = id then Mach C Q k .nrm s else Mach C Q k (.exit j) s
  | .endb _ :: k, x, s => Mach C Q k x s
section
variable {C : CallRel} {Q : X → St → Prop} {k : List Item} {s : St}
def MachB (C : CallRel) (Q : X → St → Prop) (v : AV) (a b : IR) (k : List Item) (s : St) : Prop :=
  match v with
  | .bool t => Mach C Q (.code (if t then a else b) :: k) .nrm s
  | _ => False
def MachV (C : CallRel) (Q : X → St → Prop) (r : Option (AV × List AObj)) (d : Option Nat) (os : List IOp) (k : List Item) (env : Env) : Prop :=
  match r with
  | some (v, m) => Mach C Q (.ops os :: k) .nrm ⟨putE env d v, m⟩
  | none => False
def MachG (C : CallRel) (Q : X → St → Prop) (v : AV) (b : Bool) (d : Option Nat) (io : MOp) (os : List IOp) (k : List Item) (s : St) : Prop :=
  match v with
  | .bool c => if c = b then Mach C Q (.ops (⟨d, io, none⟩ :: os) :: k) .nrm s else Mach C Q (.ops os :: k) .nrm ⟨putE s.env d (.tup []), s.mem⟩
  | .tup [] => Mach C Q (.ops os :: k) .nrm ⟨putE s.env d (.tup []), s.mem⟩
  | _ => False
inductive CK where
  | P | R | F | O | Z | G | M | V
def MachA (C : CallRel) (Q : X → St → Prop) (c : CK) (f : Nat) (as : Option (List AV)) (ns : List Nat) (d : Option Nat) (os : List IOp) (k : List Item) (s : St) : Prop :=
  match as with
  | none => False
  | some as => match c with
    | .P => ∃ r, C f as [] r [] ∧ Mach C Q (.ops os :: k) .nrm ⟨putE s.env d r, s.mem⟩
    | .R => ∃ r, C f as [] r [] ∧ scalars r = true ∧ Mach C Q (.ops os :: k) .nrm ⟨putE s.env d r, s.mem⟩
    | .F => ∃ r, C f as [] r [] ∧ Mach C Q (.ops os :: k) .nrm ⟨putE s.env d r, freeze ns s.mem⟩
    | .O => ∃ r m, C f as [] r m ∧ (m.all made) = true ∧ ownishR r = true ∧ Mach C Q (.ops os :: k) .nrm ⟨putE s.env d (shiftR s.mem.length r), freeze ns s.mem ++ m.map (shiftO s.mem.length)⟩
    | .Z => ∃ r m r', C f as [] r m ∧ snap m 10 r = some r' ∧ Mach C Q (.ops os :: k) .nrm ⟨putE s.env d r', freeze ns s.mem⟩
    | .G => (as.all plainArg) = true ∧ ∃ r m, C f as [] r m ∧ (m.all made) = true ∧ ownishR r = true ∧ Mach C Q (.ops os :: k) .nrm ⟨putE s.env d (shiftR s.mem.length r), s.mem ++ m.map (shiftO s.mem.length)⟩
    | .M => ∃ r m, C f as s.mem r m ∧ Mach C Q (.ops os :: k) .nrm ⟨putE s.env d r, m⟩
    | .V => ∃ r, C f as [] r [] ∧ scalars r = true ∧ Mach C Q (.ops os :: k) .nrm ⟨putE s.env d r, s.mem⟩
def MachF (C : CallRel) (Q : X → St → Prop) (v : AV) (as : Option (List AV)) (d : Option Nat) (os : List IOp) (k : List Item) (s : St) : Prop :=
  match v with
  | .fn f caps => match caps.mapM (fun c => snap s.mem 10 c) with
    | some bs => MachA C Q .V f (as.map (· ++ bs)) [] d os k s
    | none => False
  | _ => False
theorem mNil {x : X} : Mach C Q [] x s = Q x s := by cases x <;> rfl
theorem mSkip : Mach C Q (.code .skip :: k) .nrm s = Mach C Q k .nrm s := Eq.trans rfl rfl
theorem mRet : Mach C Q (.code .ret :: k) .nrm s = Mach C Q k .ret s := Eq.trans rfl rfl
theorem mExit {id : Nat} : Mach C Q (.code (.exit id) :: k) .nrm s = Mach C Q k (.exit id) s := Eq.trans rfl rfl
theorem mReg {p : Option (List Nat)} {os : List IOp} : Mach C Q (.code (.reg p os) :: k) .nrm s = Mach C Q (.ops os :: k) .nrm s := Eq.trans rfl rfl
theorem mSeq {a b : IR} : Mach C Q (.code (.seq a b) :: k) .nrm s = Mach C Q (.code a :: .code b :: k) .nrm s := by
  simp only [Mach, wp]
  congr 1
  funext x s1
  cases x <;> rfl
theorem mCond {c : Opd} {a b : IR} : Mach C Q (.code (.cond c a b) :: k) .nrm s = MachB C Q (ev s.env c) a b k s := by
  simp only [Mach, wp, MachB]
  cases ev s.env c with
  | bool t => cases t <;> simp
  | _ => rfl
theorem mTrue {a b : IR} : MachB C Q (.bool true) a b k s = Mach C Q (.code a :: k) .nrm s := Eq.trans rfl rfl
theorem mFalse {a b : IR} : MachB C Q (.bool false) a b k s = Mach C Q (.code b :: k) .nrm s := Eq.trans rfl rfl
theorem mBlock {id : Nat} {a : IR} : Mach C Q (.code (.block id a) :: k) .nrm s = Mach C Q (.code a :: .endb id :: k) .nrm s := by
  simp only [Mach, wp]
  congr 1
  funext x s1
  cases x <;> rfl
theorem mLv {live : List Nat} {a : IR} : Mach C Q (.code (.lv live a) :: k) .nrm s = Mach C Q (.code a :: k) .nrm ⟨live.map fun n => (n, getE s.env n), s.mem⟩ := Eq.trans rfl rfl
theorem mCodeE {c : IR} {id : Nat} : Mach C Q (.code c :: k) (.exit id) s = Mach C Q k (.exit id) s := Eq.trans rfl rfl
theorem mCodeR {c : IR} : Mach C Q (.code c :: k) .ret s = Mach C Q k .ret s := Eq.trans rfl rfl
theorem mEndN {id : Nat} : Mach C Q (.endb id :: k) .nrm s = Mach C Q k .nrm s := Eq.trans rfl rfl
theorem mEndR {id : Nat} : Mach C Q (.endb id :: k) .ret s = Mach C Q k .ret s := Eq.trans rfl rfl
theorem mEndE {id j : Nat} : Mach C Q (.endb id :: k) (.exit j) s = if j = id then Mach C Q k .nrm s else Mach C Q k (.exit j) s := Eq.trans rfl rfl
theorem mOps : Mach C Q (.ops [] :: k) .nrm s = Mach C Q k .nrm s := Eq.trans rfl rfl
theorem mSome {v : AV} {m : List AObj} {d : Option Nat} {os : List IOp} {env : Env} : MachV C Q (some (v, m)) d os k env = Mach C Q (.ops os :: k) .nrm ⟨putE env d v, m⟩ := Eq.trans rfl rfl
theorem mGuard {d : Option Nat} {io : MOp} {t : Nat} {b : Bool} {os : List IOp} : Mach C Q (.ops (⟨d, io, some (t, b)⟩ :: os) :: k) .nrm s = MachG C Q (getE s.env t) b d io os k s := by
  simp only [Mach, wpR, MachG]
  rfl
theorem mGtt {d : Option Nat} {io : MOp} {os : List IOp} : MachG C Q (.bool true) true d io os k s = Mach C Q (.ops (⟨d, io, none⟩ :: os) :: k) .nrm s := Eq.trans rfl rfl
theorem mGff {d : Option Nat} {io : MOp} {os : List IOp} : MachG C Q (.bool false) false d io os k s = Mach C Q (.ops (⟨d, io, none⟩ :: os) :: k) .nrm s := Eq.trans rfl rfl
theorem mGu {b : Bool} {d : Option Nat} {io : MOp} {os : List IOp} : MachG C Q (.tup []) b d io os k s = Mach C Q (.ops os :: k) .nrm ⟨putE s.env d (.tup []), s.mem⟩ := Eq.trans rfl rfl
theorem mGtf {d : Option Nat} {io : MOp} {os : List IOp} : MachG C Q (.bool true) false d io os k s = Mach C Q (.ops os :: k) .nrm ⟨putE s.env d (.tup []), s.mem⟩ := by simp [MachG]
theorem mGft {d : Option Nat} {io : MOp} {os : List IOp} : MachG C Q (.bool false) true d io os k s = Mach C Q (.ops os :: k) .nrm ⟨putE s.env d (.tup []), s.mem⟩ := by simp [MachG]
variable {d : Option Nat} {os : List IOp} {f : Nat} {xs : List Opd}
theorem mCallP : Mach C Q (.ops (⟨d, .callP f xs, none⟩ :: os) :: k) .nrm s = MachA C Q .P f (xs.mapM fun x => snap [] 10 (ev s.env x)) [] d os k s := by
  simp only [Mach, wpR, wpO, MachA]
  refine propext ⟨fun ⟨as, r, h1, h2, h3⟩ => ?_, fun h => ?_⟩
  · rw [h1]; exact ⟨r, h2, h3⟩
  · split at h
    · exact h.elim
    · rename_i as has; obtain ⟨r, h2, h3⟩ := h; exact ⟨as, r, has, h2, h3⟩
theorem mCallR : Mach C Q (.ops (⟨d, .callR f xs, none⟩ :: os) :: k) .nrm s = MachA C Q .R f (xs.mapM fun x => snap s.mem 10 (ev s.env x)) [] d os k s := by
  simp only [Mach, wpR, wpO, MachA]
  refine propext ⟨fun ⟨as, r, h1, h2, h4, h3⟩ => ?_, fun h => ?_⟩
  · rw [h1]; exact ⟨r, h2, h4, h3⟩
  · split at h
    · exact h.elim
    · rename_i as has; obtain ⟨r, h2, h4, h3⟩ := h; exact ⟨as, r, has, h2, h4, h3⟩
theorem mCallF : Mach C Q (.ops (⟨d, .callF f xs, none⟩ :: os) :: k) .nrm s = MachA C Q .F f (xs.mapM fun x => snap s.mem 10 (ev s.env x)) (xs.flatMap fun x => refs s.mem 10 (ev s.env x)) d os k s := by
  simp only [Mach, wpR, wpO, MachA]
  refine propext ⟨fun ⟨as, r, h1, h2, h3⟩ => ?_, fun h => ?_⟩
  · rw [h1]; exact ⟨r, h2, h3⟩
  · split at h
    · exact h.elim
    · rename_i as has; obtain ⟨r, h2, h3⟩ := h; exact ⟨as, r, has, h2, h3⟩
theorem mCallO : Mach C Q (.ops (⟨d, .callO f xs, none⟩ :: os) :: k) .nrm s = MachA C Q .O f (xs.mapM fun x => snap s.mem 10 (ev s.env x)) (xs.flatMap fun x => refs s.mem 10 (ev s.env x)) d os k s := by
  simp only [Mach, wpR, wpO, MachA]
  refine propext ⟨fun ⟨as, r, m, h1, h2, h4, h5, h3⟩ => ?_, fun h => ?_⟩
  · rw [h1]; exact ⟨r, m, h2, h4, h5, h3⟩
  · split at h
    · exact h.elim
    · rename_i as has; obtain ⟨r, m, h2, h4, h5, h3⟩ := h; exact ⟨as, r, m, has, h2, h4, h5, h3⟩
theorem mCallZ : Mach C Q (.ops (⟨d, .callZ f xs, none⟩ :: os) :: k) .nrm s = MachA C Q .Z f (xs.mapM fun x => snap s.mem 10 (ev s.env x)) (xs.flatMap fun x => refs s.mem 10 (ev s.env x)) d os k s := by
  simp only [Mach, wpR, wpO, MachA]
  refine propext ⟨fun ⟨as, r, m, r', h1, h2, h4, h3⟩ => ?_, fun h => ?_⟩
  · rw [h1]; exact ⟨r, m, r', h2, h4, h3⟩
  · split at h
    · exact h.elim
    · rename_i as has; obtain ⟨r, m, r', h2, h4, h3⟩ := h; exact ⟨as, r, m, r', has, h2, h4, h3⟩
theorem mCallG : Mach C Q (.ops (⟨d, .callG f xs, none⟩ :: os) :: k) .nrm s = MachA C Q .G f (some (xs.map (ev s.env))) [] d os k s := by
  simp only [Mach, wpR, wpO, MachA, List.all_map, Function.comp_def]
theorem mCallM : Mach C Q (.ops (⟨d, .callM f xs, none⟩ :: os) :: k) .nrm s = MachA C Q .M f (some (xs.map (ev s.env))) [] d os k s := Eq.trans rfl rfl
theorem mCallV {x : Opd} : Mach C Q (.ops (⟨d, .callV x xs, none⟩ :: os) :: k) .nrm s = MachF C Q (ev s.env x) (xs.mapM fun x => snap s.mem 10 (ev s.env x)) d os k s := by
  simp only [Mach, wpR, wpO, MachF, MachA]
  refine propext ⟨fun ⟨f, caps, as, bs, r, h0, h1, h2, h3, h4, h5⟩ => ?_, fun h => ?_⟩
  · rw [h0, h1]; simp only [h2, Option.map_some]; exact ⟨r, h3, h4, h5⟩
  · split at h
    · rename_i f caps hf
      split at h
      · rename_i bs hbs
        split at h
        · exact h.elim
        · rename_i as has
          obtain ⟨as', h1, rfl⟩ := Option.map_eq_some_iff.1 has
          obtain ⟨r, h3, h4, h5⟩ := h
          exact ⟨f, caps, as', bs, r, hf, h1, hbs, h3, h4, h5⟩
      · exact h.elim
    · exact h.elim
theorem goP {as : List AV} {ns : List Nat} {r : AV} (h : C f as [] r []) (hk : Mach C Q (.ops os :: k) .nrm ⟨putE s.env d r, s.mem⟩) : MachA C Q .P f (some as) ns d os k s := ⟨r, h, hk⟩
theorem goR {as : List AV} {ns : List Nat} {r : AV} (h : C f as [] r []) (hs : scalars r = true) (hk : Mach C Q (.ops os :: k) .nrm ⟨putE s.env d r, s.mem⟩) : MachA C Q .R f (some as) ns d os k s := ⟨r, h, hs, hk⟩
theorem goF {as : List AV} {ns : List Nat} {r : AV} (h : C f as [] r []) (hk : Mach C Q (.ops os :: k) .nrm ⟨putE s.env d r, freeze ns s.mem⟩) : MachA C Q .F f (some as) ns d os k s := ⟨r, h, hk⟩
theorem goO {as : List AV} {ns : List Nat} {r : AV} {m : List AObj} (h : C f as [] r m) (h1 : (m.all fun o => !o.box) = true) (h2 : ownishR r = true) (hk : Mach C Q (.ops os :: k) .nrm ⟨putE s.env d (shiftR s.mem.length r), freeze ns s.mem ++ m⟩) : MachA C Q .O f (some as) ns d os k s := by
  rw [List.all_eq_true] at h1
  refine ⟨r, m, h, List.all_eq_true.2 (fun o ho => by simp only [made, h1 o ho, Bool.true_or]), h2, ?_⟩
  have : m.map (shiftO s.mem.length) = m := by
    conv => rhs; rw [← List.map_id m]
    refine List.map_congr_left (fun o ho => ?_)
    have := h1 o ho
    simp only [Bool.not_eq_true'] at this
    simp only [shiftO, this, Bool.false_eq_true, if_false, id]
  rw [this]
  exact hk
theorem goZ {as : List AV} {ns : List Nat} {r r' : AV} {m : List AObj} (h : C f as [] r m) (h1 : snap m 10 r = some r') (hk : Mach C Q (.ops os :: k) .nrm ⟨putE s.env d r', freeze ns s.mem⟩) : MachA C Q .Z f (some as) ns d os k s := ⟨r, m, r', h, h1, hk⟩
theorem goM {as : List AV} {ns : List Nat} {r : AV} {m : List AObj} (h : C f as s.mem r m) (hk : Mach C Q (.ops os :: k) .nrm ⟨putE s.env d r, m⟩) : MachA C Q .M f (some as) ns d os k s := ⟨r, m, h, hk⟩
theorem goV {as : List AV} {ns : List Nat} {r : AV} (h : C f as [] r []) (hs : scalars r = true) (hk : Mach C Q (.ops os :: k) .nrm ⟨putE s.env d r, s.mem⟩) : MachA C Q .V f (some as) ns d os k s := ⟨r, h, hs, hk⟩
theorem mO_mov {x : Opd} : Mach C Q (.ops (⟨d, .mov x, none⟩ :: os) :: k) .nrm s = MachV C Q (evalOp s.mem (ev s.env) (.mov x)) d os k s.env := Eq.trans rfl rfl
theorem mO_newnil {a b : Nat} : Mach C Q (.ops (⟨d, .newnil a b, none⟩ :: os) :: k) .nrm s = MachV C Q (evalOp s.mem (ev s.env) (.newnil a b)) d os k s.env := Eq.trans rfl rfl
theorem mO_pick {x y z : Opd} : Mach C Q (.ops (⟨d, .pick x y z, none⟩ :: os) :: k) .nrm s = MachV C Q (evalOp s.mem (ev s.env) (.pick x y z)) d os k s.env := Eq.trans rfl rfl
theorem mO_alloc {n : Nat} {cs : List AV} : Mach C Q (.ops (⟨d, .alloc n cs, none⟩ :: os) :: k) .nrm s = MachV C Q (evalOp s.mem (ev s.env) (.alloc n cs)) d os k s.env := Eq.trans rfl rfl
theorem mO_box {a b : Nat} {x : Opd} : Mach C Q (.ops (⟨d, .box a b x, none⟩ :: os) :: k) .nrm s = MachV C Q (evalOp s.mem (ev s.env) (.box a b x)) d os k s.env := Eq.trans rfl rfl
theorem mO_build {zz : List AV} {ps : List (Nat × Nat × Opd)} : Mach C Q (.ops (⟨d, .build zz ps, none⟩ :: os) :: k) .nrm s = MachV C Q (evalOp s.mem (ev s.env) (.build zz ps)) d os k s.env := Eq.trans rfl rfl
theorem mO_bsl {a b : Nat} {xs : List Opd} : Mach C Q (.ops (⟨d, .bsl a b xs, none⟩ :: os) :: k) .nrm s = MachV C Q (evalOp s.mem (ev s.env) (.bsl a b xs)) d os k s.env := Eq.trans rfl rfl
theorem mO_bslF {a b : Nat} {xs : List Opd} : Mach C Q (.ops (⟨d, .bslF a b xs, none⟩ :: os) :: k) .nrm s = MachV C Q (evalOp s.mem (ev s.env) (.bslF a b xs)) d os k s.env := Eq.trans rfl rfl
theorem mO_ldf {g : Bool} {n : Nat} {x : Opd} : Mach C Q (.ops (⟨d, .ldf g n x, none⟩ :: os) :: k) .nrm s = MachV C Q (evalOp s.mem (ev s.env) (.ldf g n x)) d os k s.env := Eq.trans rfl rfl
theorem mO_ld {g : Bool} {n : Nat} {x : Opd} : Mach C Q (.ops (⟨d, .ld g n x, none⟩ :: os) :: k) .nrm s = MachV C Q (evalOp s.mem (ev s.env) (.ld g n x)) d os k s.env := Eq.trans rfl rfl
theorem mO_st {n : Nat} {x y : Opd} : Mach C Q (.ops (⟨d, .st n x y, none⟩ :: os) :: k) .nrm s = MachV C Q (evalOp s.mem (ev s.env) (.st n x y)) d os k s.env := Eq.trans rfl rfl
theorem mO_sta {av : List Nat} {n : Nat} {x y : Opd} : Mach C Q (.ops (⟨d, .sta av n x y, none⟩ :: os) :: k) .nrm s = MachV C Q (evalOp s.mem (ev s.env) (.sta av n x y)) d os k s.env := Eq.trans rfl rfl
theorem mO_nilchk {x : Opd} : Mach C Q (.ops (⟨d, .nilchk x, none⟩ :: os) :: k) .nrm s = MachV C Q (evalOp s.mem (ev s.env) (.nilchk x)) d os k s.env := Eq.trans rfl rfl
theorem mO_bin {b : Bin} {x y : Opd} : Mach C Q (.ops (⟨d, .bin b x y, none⟩ :: os) :: k) .nrm s = MachV C Q (evalOp s.mem (ev s.env) (.bin b x y)) d os k s.env := Eq.trans rfl rfl
theorem mO_binb {b : Bin} {x y : Opd} : Mach C Q (.ops (⟨d, .binb b x y, none⟩ :: os) :: k) .nrm s = MachV C Q (evalOp s.mem (ev s.env) (.binb b x y)) d os k s.env := Eq.trans rfl rfl
theorem mO_binp {b : Bin} {x y : Opd} : Mach C Q (.ops (⟨d, .binp b x y, none⟩ :: os) :: k) .nrm s = MachV C Q (evalOp s.mem (ev s.env) (.binp b x y)) d os k s.env := Eq.trans rfl rfl
theorem mO_bins {b : Bin} {sig : List Nat} {x y : Opd} : Mach C Q (.ops (⟨d, .bins b sig x y, none⟩ :: os) :: k) .nrm s = MachV C Q (evalOp s.mem (ev s.env) (.bins b sig x y)) d os k s.env := Eq.trans rfl rfl
theorem mO_neg {x : Opd} : Mach C Q (.ops (⟨d, .neg x, none⟩ :: os) :: k) .nrm s = MachV C Q (evalOp s.mem (ev s.env) (.neg x)) d os k s.env := Eq.trans rfl rfl
theorem mO_com {x : Opd} : Mach C Q (.ops (⟨d, .com x, none⟩ :: os) :: k) .nrm s = MachV C Q (evalOp s.mem (ev s.env) (.com x)) d os k s.env := Eq.trans rfl rfl
theorem mO_not {x : Opd} : Mach C Q (.ops (⟨d, .not x, none⟩ :: os) :: k) .nrm s = MachV C Q (evalOp s.mem (ev s.env) (.not x)) d os k s.env := Eq.trans rfl rfl
theorem mO_conv {kk : IntKind} {x : Opd} : Mach C Q (.ops (⟨d, .conv kk x, none⟩ :: os) :: k) .nrm s = MachV C Q (evalOp s.mem (ev s.env) (.conv kk x)) d os k s.env := Eq.trans rfl rfl
theorem mO_mk {a b : Nat} {zz : List AV} {x : Opd} : Mach C Q (.ops (⟨d, .mk a b zz x, none⟩ :: os) :: k) .nrm s = MachV C Q (evalOp s.mem (ev s.env) (.mk a b zz x)) d os k s.env := Eq.trans rfl rfl
theorem mO_mk0 {a b c : Nat} {x : Opd} : Mach C Q (.ops (⟨d, .mk0 a b c x, none⟩ :: os) :: k) .nrm s = MachV C Q (evalOp s.mem (ev s.env) (.mk0 a b c x)) d os k s.env := Eq.trans rfl rfl
theorem mO_s2b {x : Opd} : Mach C Q (.ops (⟨d, .s2b x, none⟩ :: os) :: k) .nrm s = MachV C Q (evalOp s.mem (ev s.env) (.s2b x)) d os k s.env := Eq.trans rfl rfl
theorem mO_b2s {x : Opd} : Mach C Q (.ops (⟨d, .b2s x, none⟩ :: os) :: k) .nrm s = MachV C Q (evalOp s.mem (ev s.env) (.b2s x)) d os k s.env := Eq.trans rfl rfl
theorem mO_cpy {n : Nat} {x y : Opd} : Mach C Q (.ops (⟨d, .cpy n x y, none⟩ :: os) :: k) .nrm s = MachV C Q (evalOp s.mem (ev s.env) (.cpy n x y)) d os k s.env := Eq.trans rfl rfl
theorem mO_cut {n : Nat} {x : Opd} {lo hi : Option Opd} : Mach C Q (.ops (⟨d, .cut n x lo hi, none⟩ :: os) :: k) .nrm s = MachV C Q (evalOp s.mem (ev s.env) (.cut n x lo hi)) d os k s.env := Eq.trans rfl rfl
theorem mO_faddr {n : Nat} {x : Opd} : Mach C Q (.ops (⟨d, .faddr n x, none⟩ :: os) :: k) .nrm s = MachV C Q (evalOp s.mem (ev s.env) (.faddr n x)) d os k s.env := Eq.trans rfl rfl
theorem mO_fld {g : Bool} {a b : Nat} {x : Opd} : Mach C Q (.ops (⟨d, .fld g a b x, none⟩ :: os) :: k) .nrm s = MachV C Q (evalOp s.mem (ev s.env) (.fld g a b x)) d os k s.env := Eq.trans rfl rfl
theorem mO_iaddr {n : Nat} {x y : Opd} : Mach C Q (.ops (⟨d, .iaddr n x y, none⟩ :: os) :: k) .nrm s = MachV C Q (evalOp s.mem (ev s.env) (.iaddr n x y)) d os k s.env := Eq.trans rfl rfl
theorem mO_iaddrf {n : Nat} {x y : Opd} : Mach C Q (.ops (⟨d, .iaddrf n x y, none⟩ :: os) :: k) .nrm s = MachV C Q (evalOp s.mem (ev s.env) (.iaddrf n x y)) d os k s.env := Eq.trans rfl rfl
theorem mO_sidx {x y : Opd} : Mach C Q (.ops (⟨d, .sidx x y, none⟩ :: os) :: k) .nrm s = MachV C Q (evalOp s.mem (ev s.env) (.sidx x y)) d os k s.env := Eq.trans rfl rfl
theorem mO_len {x : Opd} : Mach C Q (.ops (⟨d, .len x, none⟩ :: os) :: k) .nrm s = MachV C Q (evalOp s.mem (ev s.env) (.len x)) d os k s.env := Eq.trans rfl rfl
theorem mO_lenf {x : Opd} : Mach C Q (.ops (⟨d, .lenf x, none⟩ :: os) :: k) .nrm s = MachV C Q (evalOp s.mem (ev s.env) (.lenf x)) d os k s.env := Eq.trans rfl rfl
theorem mO_slen {x : Opd} : Mach C Q (.ops (⟨d, .slen x, none⟩ :: os) :: k) .nrm s = MachV C Q (evalOp s.mem (ev s.env) (.slen x)) d os k s.env := Eq.trans rfl rfl
theorem mO_scut {x : Opd} {lo hi : Option Opd} : Mach C Q (.ops (⟨d, .scut x lo hi, none⟩ :: os) :: k) .nrm s = MachV C Q (evalOp s.mem (ev s.env) (.scut x lo hi)) d os k s.env := Eq.trans rfl rfl
theorem mO_app {a b c : Nat} {x y : Opd} : Mach C Q (.ops (⟨d, .app a b c x y, none⟩ :: os) :: k) .nrm s = MachV C Q (evalOp s.mem (ev s.env) (.app a b c x y)) d os k s.env := Eq.trans rfl rfl
theorem mO_ext {x : Opd} {n : Nat} : Mach C Q (.ops (⟨d, .ext x n, none⟩ :: os) :: k) .nrm s = MachV C Q (evalOp s.mem (ev s.env) (.ext x n)) d os k s.env := Eq.trans rfl rfl
theorem mO_mx {x y : Opd} : Mach C Q (.ops (⟨d, .mx x y, none⟩ :: os) :: k) .nrm s = MachV C Q (evalOp s.mem (ev s.env) (.mx x y)) d os k s.env := Eq.trans rfl rfl
theorem mO_mn {x y : Opd} : Mach C Q (.ops (⟨d, .mn x y, none⟩ :: os) :: k) .nrm s = MachV C Q (evalOp s.mem (ev s.env) (.mn x y)) d os k s.env := Eq.trans rfl rfl
theorem mO_mkfn {f : Nat} {xs : List Opd} : Mach C Q (.ops (⟨d, .mkfn f xs, none⟩ :: os) :: k) .nrm s = MachV C Q (evalOp s.mem (ev s.env) (.mkfn f xs)) d os k s.env := Eq.trans rfl rfl
def LoopQ (live : List Nat) (keep : Option (Nat × List Nat)) (I : Nat → St → Prop) (n : Nat) (Q : X → St → Prop) (x : X) (s1 : St) : Prop :=
  match x with
  | .nrm => ∃ s2, headOf live keep s1 = some s2 ∧ ∃ m, m < n ∧ I m s2
  | x => Q x s1
theorem loopQ_exit {live : List Nat} {keep : Option (Nat × List Nat)} {I : Nat → St → Prop} {n id : Nat} : LoopQ live keep I n (Mach C Q k) (.exit id) s = Mach C Q k (.exit id) s := Eq.trans rfl rfl
theorem loopQ_ret {live : List Nat} {keep : Option (Nat × List Nat)} {I : Nat → St → Prop} {n : Nat} : LoopQ live keep I n (Mach C Q k) .ret s = Mach C Q k .ret s := Eq.trans rfl rfl
theorem mLoop {live : List Nat} {keep : Option (Nat × List Nat)} {a : IR} (I : Nat → St → Prop) (N : Nat) (h0 : ∃ s0, headOf live keep s = some s0 ∧ I N s0)
    (step : ∀ n s0, I n s0 → Mach C (LoopQ live keep I n (Mach C Q k)) [.code a] .nrm s0) : Mach C Q (.code (.loop live keep a) :: k) .nrm s := by
  refine wp_loop_inv I N h0 (fun n s0 hi => ?_)
  have := step n s0 hi
  simp only [Mach] at this
  refine wp_mono (fun x s1 hx => ?_) this
  cases x <;> exact hx
theorem loopQ_go {live : List Nat} {keep : Option (Nat × List Nat)} {I : Nat → St → Prop} {n : Nat} {Q : X → St → Prop} {s2 : St} (h : headOf live keep s = some s2) (m : Nat) (hm : m < n) (hI : I m s2) : LoopQ live keep I n Q .nrm s := ⟨s2, h, m, hm, hI⟩
end
theorem finRet {fn : IFn} {mem : List AObj} {r : AV} {mem' : List AObj} {s : St} : Fin fn mem r mem' .ret s = Out fn mem r mem' s := Eq.trans rfl rfl
theorem finNrm {fn : IFn} {mem : List AObj} {r : AV} {mem' : List AObj} {s : St} : Fin fn mem r mem' .nrm s = Out fn mem r mem' s := Eq.trans rfl rfl
theorem Call.mach {tab : Nat → Option IFn} {E : CallRel} {f : Nat} {as : List AV} {mem : List AObj} {r : AV} {mem' : List AObj} (fn : IFn) (c : IR) (hc : fn.body = c) (hf : tab f = some fn) (h1 : as.length = fn.nparams) (h2 : (decide (fn.nparams ≤ fn.ntmps)) = true)
    (h : Mach (Call tab E) (Fin fn mem r mem') [.code c] .nrm ⟨argsE 0 as, mem⟩) : Call tab E f as mem r mem' :=
  Call.go fn c hc hf h1 h2 h
def nums (k : IntKind) (l : List Int) : List AV := l.map (.int k)
def ints (l : List Int) : AV := .sl l.length 1 (nums .i64 l)
theorem sub_nums {k : IntKind} {l : List Int} {i : Nat} (h : i < l.length) : sub false 1 (nums k l) (i * 1) = some (.int k (l.getD i 0)) := by
  simp only [sub, nums, List.length_map, Nat.mul_one, Bool.false_eq_true, if_false, if_true]
  rw [if_pos (by omega), List.getElem?_map, List.getElem?_eq_getElem h]
  simp [List.getD, h]
theorem freeze_nil {mem : List AObj} : freeze [] mem = mem := by
  apply List.ext_getElem?
  intro i
  simp [freeze]
theorem nums_length {k : IntKind} {l : List Int} : (nums k l).length = l.length := by simp [nums]
theorem fill_nums {k : IntKind} {l : List Int} {i : Nat} {v : Int} : fillIn (nums k l) (i * 1) [.int k v] = nums k (l.take i ++ v :: l.drop (i + 1)) := by
  simp [fillIn, nums, List.map_take, List.map_drop]
theorem flat_nums {k : IntKind} {v : Int} : ∀ {n : Nat}, (List.replicate n [AV.int k v]).flatten = nums k (List.replicate n v)
  | 0 => rfl
  | n + 1 => by rw [List.replicate_succ, List.flatten_cons, flat_nums, List.replicate_succ]; rfl
theorem ar_add {k : IntKind} {x y : Int} : arith .add k x y = some (.int k (k.wrap (x + y))) := rfl
theorem ar_sub {k : IntKind} {x y : Int} : arith .sub k x y = some (.int k (k.wrap (x - y))) := rfl
theorem ar_mul {k : IntKind} {x y : Int} : arith .mul k x y = some (.int k (k.wrap (x * y))) := rfl
theorem ar_quo {k : IntKind} {x y : Int} : arith .quo k x y = if y = 0 then none else some (.int k (k.wrap (x.tdiv y))) := rfl
theorem ar_rem {k : IntKind} {x y : Int} : arith .rem k x y = if y = 0 then none else some (.int k (x.tmod y)) := rfl
theorem ar_eq {k : IntKind} {x y : Int} : arith .eq k x y = some (.bool (x == y)) := rfl
theorem ar_ne {k : IntKind} {x y : Int} : arith .ne k x y = some (.bool (x != y)) := rfl
theorem ar_lt {k : IntKind} {x y : Int} : arith .lt k x y = some (.bool (decide (x < y))) := rfl
theorem ar_le {k : IntKind} {x y : Int} : arith .le k x y = some (.bool (decide (x ≤ y))) := rfl
theorem ar_gt {k : IntKind} {x y : Int} : arith .gt k x y = some (.bool (decide (x > y))) := rfl
theorem ar_ge {k : IntKind} {x y : Int} : arith .ge k x y = some (.bool (decide (x ≥ y))) := rfl
theorem ar_and {k : IntKind} {x y : Int} : arith .and k x y = some (.int k (k.wrap (BitVec.ofInt k.bits x &&& BitVec.ofInt k.bits y).toNat)) := rfl
theorem ar_or {k : IntKind} {x y : Int} : arith .or k x y = some (.int k (k.wrap (BitVec.ofInt k.bits x ||| BitVec.ofInt k.bits y).toNat)) := rfl
theorem ar_xor {k : IntKind} {x y : Int} : arith .xor k x y = some (.int k (k.wrap (BitVec.ofInt k.bits x ^^^ BitVec.ofInt k.bits y).toNat)) := rfl
theorem nat0 : ((0 : Nat) : Int) = 0 := rfl
theorem wrap_i64 {n : Int} (h1 : -9223372036854775808 ≤ n) (h2 : n ≤ 9223372036854775807) : IntKind.i64.wrap n = n := by
  simp only [IntKind.wrap, IntKind.bits, IntKind.signed]
  simp
  omega
end Go.V

namespace Go.V
open Go Go.RowKit
theorem walk_of {P : Program} {tab : Nat → Option IFn} {E : CallRel} (hE : CallsOk P E) (hm : P.follows .mixedOrders = true) (ht : ∀ f i, tab f = some i → okFun P f i = true) {f : Nat} {as : List AV} {b : Bool} (h : Call tab E f as [] (.bool b) []) {W : World} {vals : Array Value}
    (hsz : vals.size = as.length) (hr : ∀ (j : Nat) (c : AV) (u : Value), as[j]? = some c → vals[j]? = some u → RG W (fun b => b < W.heap.size) c u) :
    Calls P f vals W fun e W' => e = .returned (.bool b) ∧ Below W.heap.size W W' := by
  refine (call_ok hE hm ht h W (fun b => b < W.heap.size) [] vals ⟨rfl, fun n o v h => by simp at h, fun n m u v b _ h => by simp at h, fun b h => h⟩ hsz (fun j c u hc hu => .gr (hr j c u hc hu))).mono fun e W' hh => ?_
  obtain ⟨v, fz', ρ', rfl, e1, e2, e3⟩ := hh
  refine ⟨by rw [rep_bool e3], e1.os, e1.tape, e1.output, e1.size, fun k hk => e1.fzblk k hk⟩
theorem rg_row {k : IntKind} {W : World} {a : Option Addr} {len cap : Nat} {zs : List Int}
    (h : (a = none ∧ len = 0 ∧ cap = 0 ∧ zs = []) ∨ ∃ x, a = some x ∧ len ≤ cap ∧ zs.length = cap ∧ (∀ i, i < zs.length → W.cell? (x.add i) = some (.int k (zs.getD i 0)))) :
    RG W (fun b => b < W.heap.size) (.sl (zs.take len).length 1 (nums k (zs.take len))) (.slice a len cap) := by
  rcases h with ⟨rfl, rfl, rfl, rfl⟩ | ⟨x, rfl, h1, h2, h3⟩
  · exact .sl0
  · have hlen : (zs.take len).length = len := by simp; omega
    rw [hlen]
    by_cases h0 : len = 0
    · subst h0
      simp only [List.take_zero, nums, List.map_nil]
      exact .sl0
    · obtain ⟨b, o, sp⟩ := x
      have hc0 := h3 0 (by omega)
      have hsp : sp = none := by
        simp only [Addr.add, if_true, World.cell?] at hc0
        split at hc0
        · split at hc0
          · cases hc0
          · rename_i hh; simpa using hh
        · cases hc0
      subst hsp
      have hcell : ∀ i, i < zs.length → W.cell? ⟨b, o + i, none⟩ = some (.int k (zs.getD i 0)) := by
        intro i hi
        have := h3 i hi
        unfold Addr.add at this
        split at this
        · rename_i hi0; subst hi0; simpa using this
        · exact this
      have hb : b < W.heap.size := by
        have := hcell 0 (by omega)
        unfold World.cell? at this
        split at this
        · rename_i hh; exact (Array.getElem?_eq_some_iff.1 hh).1
        · cases this
      have hget : ∀ (j : Nat), j < len → ((zs.take len).map (Value.int k))[j]? = some (.int k (zs.getD j 0)) := by
        intro j hj
        rw [List.getElem?_map, List.getElem?_take, if_pos hj, List.getElem?_eq_getElem (by omega)]
        simp [List.getD, show j < zs.length by omega]
      refine .sl (vs := (zs.take len).map (Value.int k)) (by omega) h1 (by simp [nums]; omega) (by simp [nums]) hb (fun u hu => ?_) (fun j u hu => ?_) (fun j c u hc hu => ?_)
      · obtain ⟨n, _, rfl⟩ := List.mem_map.1 hu; rfl
      · have hj : j < len := by
          have := (List.getElem?_eq_some_iff.1 hu).1
          simp at this; omega
        rw [hget j hj] at hu
        rw [← hu]
        exact hcell j (by omega)
      · rw [nums, List.getElem?_map] at hc
        rw [List.getElem?_map] at hu
        obtain ⟨n, hn, rfl⟩ := Option.map_eq_some_iff.1 hc
        rw [hn] at hu
        simp only [Option.map_some, Option.some.injEq] at hu
        subst hu
        exact .int
end Go.V

namespace Go.Proofs.YtlejgleocnemoabGreat.I
open Go Go.V
def c7 : IR :=
 .seq (.reg none [⟨some 3, .box 26 4 (.t 0), none⟩,
  ⟨some 4, .box 26 4 (.t 1), none⟩,
  ⟨some 6, .mov (.k (.bool false)), none⟩])
 (.lv [2, 3, 4] (.seq (.seq (.reg none [⟨some 11, .ld true 4 (.t 3), none⟩,
  ⟨some 12, .callP 16 [.t 11], none⟩,
  ⟨some 13, .not (.t 12), none⟩,
  ⟨some 14, .mov (.t 13), none⟩,
  ⟨some 15, .ld true 4 (.t 4), (some (14, false))⟩,
  ⟨some 16, .callP 16 [.t 15], (some (14, false))⟩,
  ⟨some 17, .not (.t 16), (some (14, false))⟩,
  ⟨some 18, .pick (.t 14) (.k (.bool true)) (.t 17), none⟩])
 (.lv [2, 3, 4, 18] (.cond (.t 18) (.lv [] (.seq (.reg none [⟨some 19, .callP 17 [], none⟩,
  ⟨some 6, .mov (.t 19), none⟩])
 (.ret)))
 (.skip))))
 (.lv [2, 3, 4] (.seq (.reg (some [0, 1, 2, 3, 4, 5, 6, 7, 8, 9, 10, 11, 12]) [⟨some 21, .ld true 4 (.t 4), none⟩,
  ⟨some 22, .callP 11 [.t 21], none⟩,
  ⟨some 23, .ld true 4 (.t 3), none⟩,
  ⟨some 24, .callP 11 [.t 23], none⟩,
  ⟨some 25, .mov (.t 2), none⟩,
  ⟨some 26, .callP 19 [.t 25], none⟩,
  ⟨some 27, .callP 26 [.t 22, .t 24, .t 26], none⟩,
  ⟨some 20, .mov (.t 27), none⟩,
  ⟨some 28, .ext (.t 20) 0, none⟩,
  ⟨some 29, .ext (.t 20) 1, none⟩,
  ⟨some 7, .alloc 31 [.nilsl 3 1, .bool false, .nilsl 21 1, .nilsl 57 3, .bool false], none⟩,
  ⟨none, .st 5 (.t 7) (.t 28), none⟩,
  ⟨some 8, .mov (.t 29), none⟩])
 (.lv [2, 3, 4, 7, 8] (.seq (.reg (some [0, 1, 2, 3, 4, 5, 6, 7, 8, 9, 10]) [⟨some 31, .ld true 4 (.t 4), none⟩,
  ⟨some 32, .ld true 4 (.t 3), none⟩,
  ⟨some 33, .mov (.t 2), none⟩,
  ⟨some 34, .callP 19 [.t 33], none⟩,
  ⟨some 35, .callP 27 [.t 31, .t 32, .t 34], none⟩,
  ⟨some 30, .mov (.t 35), none⟩,
  ⟨some 36, .ext (.t 30) 0, none⟩,
  ⟨some 37, .ext (.t 30) 1, none⟩,
  ⟨some 9, .alloc 26 [.nilsl 3 1, .bool false, .nilsl 21 1, .nilsl 66 3], none⟩,
  ⟨none, .st 4 (.t 9) (.t 36), none⟩,
  ⟨some 10, .mov (.t 37), none⟩])
 (.lv [3, 4, 7, 8, 9, 10] (.seq (.reg (some [0, 1, 2, 3, 4, 5, 6, 7, 8, 9, 10, 11, 12, 13, 14, 15, 16, 17, 18, 19, 20]) [⟨some 38, .ld true 5 (.t 7), none⟩,
  ⟨some 39, .mov (.t 8), none⟩,
  ⟨some 40, .ld true 4 (.t 9), none⟩,
  ⟨some 41, .mov (.t 10), none⟩,
  ⟨some 42, .callR 21 [.t 38, .t 39, .t 40, .t 41], none⟩,
  ⟨some 43, .mov (.t 42), none⟩,
  ⟨some 44, .ld true 4 (.t 3), (some (43, true))⟩,
  ⟨some 45, .callP 11 [.t 44], (some (43, true))⟩,
  ⟨some 46, .ld true 4 (.t 4), (some (43, true))⟩,
  ⟨some 47, .callP 11 [.t 46], (some (43, true))⟩,
  ⟨some 48, .callP 29 [.t 45, .t 47], (some (43, true))⟩,
  ⟨some 49, .callP 30 [.t 48], (some (43, true))⟩,
  ⟨some 50, .ld true 4 (.t 3), (some (43, true))⟩,
  ⟨some 51, .ld true 4 (.t 4), (some (43, true))⟩,
  ⟨some 52, .callP 31 [.t 50, .t 51], (some (43, true))⟩,
  ⟨some 53, .callP 28 [.t 49, .t 52], (some (43, true))⟩,
  ⟨some 54, .pick (.t 43) (.t 53) (.k (.bool false)), none⟩,
  ⟨some 55, .mov (.t 54), none⟩,
  ⟨some 56, .callP 17 [], (some (55, true))⟩,
  ⟨some 57, .pick (.t 55) (.t 56) (.k (.bool false)), none⟩,
  ⟨some 6, .mov (.t 57), none⟩])
 (.ret)))))))))
def i7 : IFn := ⟨3, 58, c7, [.t 6], .pure⟩
def c11 : IR :=
 .seq (.reg none [⟨some 1, .box 26 4 (.t 0), none⟩,
  ⟨some 2, .alloc 31 [.nilsl 3 1, .bool false, .nilsl 21 1, .nilsl 57 3, .bool false], none⟩])
 (.lv [1, 2] (.seq (.reg none [⟨some 6, .ld true 4 (.t 1), none⟩,
  ⟨some 7, .callP 45 [.t 6], none⟩,
  ⟨some 5, .mov (.t 7), none⟩,
  ⟨some 8, .ext (.t 5) 0, none⟩,
  ⟨some 9, .ext (.t 5) 1, none⟩,
  ⟨some 3, .alloc 31 [.nilsl 3 1, .bool false, .nilsl 21 1, .nilsl 57 3, .bool false], none⟩,
  ⟨none, .st 5 (.t 3) (.t 8), none⟩,
  ⟨some 4, .mov (.t 9), none⟩])
 (.lv [2, 3] (.seq (.reg none [⟨some 10, .ld true 5 (.t 3), none⟩,
  ⟨none, .st 5 (.t 2) (.t 10), none⟩])
 (.ret)))))
def i11 : IFn := ⟨1, 11, c11, [.c 2 true 5], .pure⟩
def c16 : IR :=
 .seq (.reg none [⟨some 1, .box 26 4 (.t 0), none⟩,
  ⟨some 2, .mov (.k (.bool false)), none⟩])
 (.lv [1] (.seq (.reg none [⟨some 3, .ld true 4 (.t 1), none⟩,
  ⟨some 4, .callP 32 [.t 3, .k (.int .i64 120)], none⟩,
  ⟨some 2, .mov (.t 4), none⟩])
 (.ret)))
def i16 : IFn := ⟨1, 5, c16, [.t 2], .pure⟩
def c17 : IR :=
 .seq (.reg none [⟨some 0, .mov (.k (.bool false)), none⟩])
 (.lv [] (.seq (.reg none [⟨some 8, .callP 35 [.k (.int .i64 3)], none⟩,
  ⟨some 9, .callP 55 [.t 8, .k (.int .i64 1)], none⟩,
  ⟨some 7, .mov (.t 9), none⟩,
  ⟨some 10, .ext (.t 7) 0, none⟩,
  ⟨some 11, .ext (.t 7) 1, none⟩,
  ⟨some 1, .alloc 31 [.nilsl 3 1, .bool false, .nilsl 21 1, .nilsl 57 3, .bool false], none⟩,
  ⟨none, .st 5 (.t 1) (.t 10), none⟩,
  ⟨some 2, .mov (.t 11), none⟩])
 (.lv [1, 2] (.seq (.reg none [⟨some 13, .bsl 3 1 [.k (.int .i64 5), .k (.int .i64 7)], none⟩,
  ⟨some 14, .callF 34 [.t 13], none⟩,
  ⟨some 15, .bsl 3 1 [.k (.int .i64 7), .k (.int .i64 6)], none⟩,
  ⟨some 16, .callF 34 [.t 15], none⟩,
  ⟨some 17, .callP 26 [.t 14, .t 16, .k (.int .i64 1)], none⟩,
  ⟨some 12, .mov (.t 17), none⟩,
  ⟨some 18, .ext (.t 12) 0, none⟩,
  ⟨some 19, .ext (.t 12) 1, none⟩,
  ⟨some 3, .alloc 31 [.nilsl 3 1, .bool false, .nilsl 21 1, .nilsl 57 3, .bool false], none⟩,
  ⟨none, .st 5 (.t 3) (.t 18), none⟩,
  ⟨some 4, .mov (.t 19), none⟩])
 (.lv [1, 2, 3, 4] (.seq (.reg none [⟨some 21, .bsl 3 1 [.k (.int .i64 3), .k (.int .i64 1), .k (.int .i64 2)], none⟩,
  ⟨some 22, .callF 34 [.t 21], none⟩,
  ⟨some 23, .callP 18 [.t 22, .k (.bool false), .k (.int .i64 1)], none⟩,
  ⟨some 20, .mov (.t 23), none⟩,
  ⟨some 24, .ext (.t 20) 0, none⟩,
  ⟨some 25, .ext (.t 20) 1, none⟩,
  ⟨some 5, .alloc 31 [.nilsl 3 1, .bool false, .nilsl 21 1, .nilsl 57 3, .bool false], none⟩,
  ⟨none, .st 5 (.t 5) (.t 24), none⟩,
  ⟨some 6, .mov (.t 25), none⟩])
 (.lv [1, 2, 3, 4, 5, 6] (.seq (.reg (some [0, 1, 2, 3, 4, 5, 6, 7, 8, 9, 10, 11, 12, 13, 14, 15, 16, 17, 18, 19]) [⟨some 26, .ld true 5 (.t 1), none⟩,
  ⟨some 27, .mov (.t 2), none⟩,
  ⟨some 28, .bsl 3 1 [.k (.int .i64 1), .k (.int .i64 2), .k (.int .i64 3)], none⟩,
  ⟨some 29, .callF 56 [.t 28], none⟩,
  ⟨some 30, .callR 21 [.t 26, .t 27, .t 29, .k (.int .i64 0)], none⟩,
  ⟨some 31, .mov (.t 30), none⟩,
  ⟨some 32, .ld true 5 (.t 3), (some (31, true))⟩,
  ⟨some 33, .mov (.t 4), (some (31, true))⟩,
  ⟨some 34, .bsl 3 1 [.k (.int .i64 2), .k (.int .i64 3)], (some (31, true))⟩,
  ⟨some 35, .callF 56 [.t 34], (some (31, true))⟩,
  ⟨some 36, .callR 21 [.t 32, .t 33, .t 35, .k (.int .i64 0)], (some (31, true))⟩,
  ⟨some 37, .pick (.t 31) (.t 36) (.k (.bool false)), none⟩,
  ⟨some 38, .mov (.t 37), none⟩,
  ⟨some 39, .ld true 5 (.t 5), (some (38, true))⟩,
  ⟨some 40, .mov (.t 6), (some (38, true))⟩,
  ⟨some 41, .bsl 3 1 [.k (.int .i64 2), .k (.int .i64 3), .k (.int .i64 1)], (some (38, true))⟩,
  ⟨some 42, .callF 56 [.t 41], (some (38, true))⟩,
  ⟨some 43, .callR 21 [.t 39, .t 40, .t 42, .k (.int .i64 0)], (some (38, true))⟩,
  ⟨some 44, .pick (.t 38) (.t 43) (.k (.bool false)), none⟩,
  ⟨some 0, .mov (.t 44), none⟩])
 (.ret)))))))))
def i17 : IFn := ⟨0, 45, c17, [.t 0], .pure⟩
def b18_0 : IR :=
 .seq (.reg none [⟨some 23, .bin .lt (.t 22) (.t 21), none⟩])
 (.lv [2, 6, 8, 21, 22, 23] (.seq (.cond (.t 23) (.skip)
 (.exit 0))
 (.lv [2, 6, 8, 21, 22] (.seq (.block 1 (.seq (.reg none [⟨some 24, .mov (.t 22), none⟩,
  ⟨some 9, .mov (.t 24), none⟩])
 (.lv [2, 6, 8, 9, 21, 22] (.reg none [⟨some 25, .mov (.t 8), none⟩,
  ⟨some 26, .mov (.t 9), none⟩,
  ⟨some 27, .iaddr 1 (.t 25) (.t 26), none⟩,
  ⟨some 28, .ld false 1 (.t 27), none⟩,
  ⟨some 29, .mov (.t 2), none⟩,
  ⟨some 30, .bin .add (.t 28) (.t 29), none⟩,
  ⟨some 31, .iaddr 1 (.t 25) (.t 26), none⟩,
  ⟨none, .st 1 (.t 31) (.t 30), none⟩]))))
 (.lv [2, 6, 8, 21, 22] (.reg none [⟨some 32, .bin .add (.t 22) (.k (.int .i64 1)), none⟩,
  ⟨some 22, .mov (.t 32), none⟩]))))))
def k18_0 : IR :=
 .seq (.reg none [⟨some 33, .mov (.t 8), none⟩,
  ⟨some 34, .callF 34 [.t 33], none⟩,
  ⟨none, .st 5 (.t 6) (.t 34), none⟩,
  ⟨some 7, .mov (.k (.int .i64 0)), none⟩])
 (.ret)
def c18 : IR :=
 .seq (.reg none [⟨some 3, .box 31 5 (.t 0), none⟩,
  ⟨some 6, .alloc 31 [.nilsl 3 1, .bool false, .nilsl 21 1, .nilsl 57 3, .bool false], none⟩,
  ⟨some 7, .mov (.k (.int .i64 0)), none⟩])
 (.lv [1, 2, 3, 6] (.seq (.seq (.reg none [⟨some 10, .ld true 5 (.t 3), none⟩,
  ⟨some 11, .callP 38 [.t 10], none⟩,
  ⟨some 12, .bin .ne (.t 11) (.k (.int .i64 1)), none⟩])
 (.lv [1, 2, 3, 6, 12] (.cond (.t 12) (.lv [6] (.seq (.reg none [⟨some 13, .build [.nilsl 3 1, .bool false, .nilsl 21 1, .nilsl 57 3, .bool false] [], none⟩,
  ⟨none, .st 5 (.t 6) (.t 13), none⟩,
  ⟨some 7, .mov (.k (.int .i64 23)), none⟩])
 (.ret)))
 (.skip))))
 (.lv [1, 2, 3, 6] (.seq (.reg none [⟨some 14, .ld true 5 (.t 3), none⟩,
  ⟨some 15, .callO 57 [.t 14], none⟩,
  ⟨some 8, .mov (.t 15), none⟩])
 (.lv [1, 2, 3, 6, 8] (.seq (.seq (.reg none [⟨some 16, .mov (.t 1), none⟩])
 (.lv [2, 3, 6, 8, 16] (.cond (.t 16) (.lv [2, 3, 6, 8] (.reg none [⟨some 17, .mov (.t 8), none⟩,
  ⟨some 18, .mkfn 59 [.t 3], none⟩,
  ⟨some 19, .callM 58 [.t 17, .t 18], none⟩]))
 (.skip))))
 (.lv [2, 6, 8] (.seq (.seq (.reg none [⟨some 20, .mov (.t 8), none⟩,
  ⟨some 21, .len (.t 20), none⟩,
  ⟨some 22, .mov (.k (.int .i64 0)), none⟩])
 (.lv [2, 6, 8, 21, 22] (.block 0 (.loop [2, 6, 8, 21, 22] (some (6, [])) b18_0))))
 k18_0))))))))
def i18 : IFn := ⟨3, 35, c18, [.c 6 true 5, .t 7], .pure⟩
def c19 : IR :=
 .seq (.reg none [⟨some 2, .mov (.k (.int .i64 0)), none⟩])
 (.lv [0] (.seq (.seq (.reg none [⟨some 3, .mov (.t 0), none⟩])
 (.lv [3] (.cond (.t 3) (.lv [] (.seq (.reg none [⟨some 2, .mov (.k (.int .i64 1)), none⟩])
 (.ret)))
 (.skip))))
 (.lv [] (.seq (.reg none [⟨some 2, .mov (.k (.int .i64 0)), none⟩])
 (.ret)))))
def i19 : IFn := ⟨1, 4, c19, [.t 2], .pure⟩
def c21 : IR :=
 .seq (.reg none [⟨some 4, .box 31 5 (.t 0), none⟩,
  ⟨some 6, .box 26 4 (.t 2), none⟩,
  ⟨some 8, .mov (.k (.bool false)), none⟩])
 (.lv [1, 3, 4, 6] (.seq (.seq (.reg none [⟨some 9, .mov (.t 1), none⟩,
  ⟨some 10, .mov (.t 3), none⟩,
  ⟨some 11, .bin .ne (.t 9) (.t 10), none⟩])
 (.lv [3, 4, 6, 11] (.cond (.t 11) (.lv [] (.seq (.reg none [⟨some 8, .mov (.k (.bool false)), none⟩])
 (.ret)))
 (.skip))))
 (.lv [3, 4, 6] (.seq (.seq (.reg none [⟨some 12, .mov (.t 3), none⟩,
  ⟨some 13, .bin .ne (.t 12) (.k (.int .i64 0)), none⟩])
 (.lv [4, 6, 13] (.cond (.t 13) (.lv [4] (.seq (.reg none [⟨some 14, .ld true 5 (.t 4), none⟩,
  ⟨some 15, .callP 23 [.t 14], none⟩,
  ⟨some 16, .bin .eq (.t 15) (.k (.int .i64 0)), none⟩,
  ⟨some 8, .mov (.t 16), none⟩])
 (.ret)))
 (.skip))))
 (.lv [4, 6] (.seq (.reg (some [0, 1, 2, 3, 4]) [⟨some 17, .ld true 5 (.t 4), none⟩,
  ⟨some 18, .callP 30 [.t 17], none⟩,
  ⟨some 19, .ld true 4 (.t 6), none⟩,
  ⟨some 20, .callP 28 [.t 18, .t 19], none⟩,
  ⟨some 8, .mov (.t 20), none⟩])
 (.ret)))))))
def i21 : IFn := ⟨4, 21, c21, [.t 8], .pure⟩
def b22_0 : IR :=
 .seq (.reg none [⟨some 20, .bin .lt (.t 19) (.t 18), none⟩])
 (.lv [4, 17, 18, 19, 20] (.seq (.cond (.t 20) (.skip)
 (.exit 0))
 (.lv [4, 17, 18, 19] (.seq (.block 1 (.seq (.reg none [⟨some 21, .iaddrf 3 (.t 17) (.t 19), none⟩,
  ⟨some 22, .ldf true 3 (.t 21), none⟩,
  ⟨some 6, .alloc 57 [.nilsl 162 1, .bool false, .nilsl 162 1], none⟩,
  ⟨none, .st 3 (.t 6) (.t 22), none⟩])
 (.lv [4, 6, 17, 18, 19] (.seq (.reg none [⟨some 24, .ld true 3 (.t 6), none⟩,
  ⟨some 25, .callR 65 [.t 24], none⟩,
  ⟨some 23, .mov (.t 25), none⟩,
  ⟨some 26, .ext (.t 23) 0, none⟩,
  ⟨some 27, .ext (.t 23) 1, none⟩,
  ⟨some 7, .mov (.t 26), none⟩,
  ⟨some 8, .mov (.t 27), none⟩])
 (.lv [4, 7, 8, 17, 18, 19] (.seq (.seq (.reg none [⟨some 28, .mov (.t 8), none⟩,
  ⟨some 29, .not (.t 28), none⟩])
 (.lv [4, 7, 17, 18, 19, 29] (.cond (.t 29) (.lv [] (.seq (.reg none [⟨some 2, .newnil 3 1, none⟩,
  ⟨some 3, .mov (.k (.bool false)), none⟩])
 (.ret)))
 (.skip))))
 (.lv [4, 7, 17, 18, 19] (.reg none [⟨some 30, .mov (.t 4), none⟩,
  ⟨some 31, .mov (.t 7), none⟩,
  ⟨some 32, .bsl 3 1 [.t 31], none⟩,
  ⟨some 33, .app 3 1 8 (.t 30) (.t 32), none⟩,
  ⟨some 4, .mov (.t 33), none⟩]))))))))
 (.lv [4, 17, 18, 19] (.reg none [⟨some 34, .bin .add (.t 19) (.k (.int .i64 1)), none⟩,
  ⟨some 19, .mov (.t 34), none⟩]))))))
def k22_0 : IR :=
 .seq (.reg none [⟨some 35, .mov (.t 4), none⟩,
  ⟨some 2, .mov (.t 35), none⟩,
  ⟨some 3, .mov (.k (.bool true)), none⟩])
 (.ret)
def c22 : IR :=
 .seq (.reg none [⟨some 1, .box 31 5 (.t 0), none⟩,
  ⟨some 2, .newnil 3 1, none⟩,
  ⟨some 3, .mov (.k (.bool false)), none⟩])
 (.lv [1] (.seq (.seq (.reg none [⟨some 9, .faddr 1 (.t 1), none⟩,
  ⟨some 10, .ld false 1 (.t 9), none⟩,
  ⟨some 11, .mov (.t 10), none⟩,
  ⟨some 12, .ld true 5 (.t 1), (some (11, true))⟩,
  ⟨some 13, .callP 23 [.t 12], (some (11, true))⟩,
  ⟨some 14, .bin .gt (.t 13) (.k (.int .i64 0)), (some (11, true))⟩,
  ⟨some 15, .pick (.t 11) (.t 14) (.k (.bool false)), none⟩])
 (.lv [1, 15] (.cond (.t 15) (.lv [] (.seq (.reg none [⟨some 2, .newnil 3 1, none⟩,
  ⟨some 3, .mov (.k (.bool false)), none⟩])
 (.ret)))
 (.skip))))
 (.lv [1] (.seq (.reg none [⟨some 4, .newnil 3 1, none⟩])
 (.lv [1, 4] (.seq (.seq (.reg none [⟨some 16, .faddr 3 (.t 1), none⟩,
  ⟨some 17, .ld false 1 (.t 16), none⟩,
  ⟨some 18, .lenf (.t 17), none⟩,
  ⟨some 19, .mov (.k (.int .i64 0)), none⟩])
 (.lv [4, 17, 18, 19] (.block 0 (.loop [4, 17, 18, 19] (some (3, [])) b22_0))))
 k22_0))))))
def i22 : IFn := ⟨1, 36, c22, [.t 2, .t 3], .own⟩
def c23 : IR :=
 .seq (.reg none [⟨some 1, .box 31 5 (.t 0), none⟩,
  ⟨some 2, .mov (.k (.int .i64 0)), none⟩])
 (.lv [1] (.seq (.reg none [⟨some 3, .faddr 2 (.t 1), none⟩,
  ⟨some 4, .ld false 1 (.t 3), none⟩,
  ⟨some 5, .lenf (.t 4), none⟩,
  ⟨some 6, .faddr 3 (.t 1), none⟩,
  ⟨some 7, .ld false 1 (.t 6), none⟩,
  ⟨some 8, .lenf (.t 7), none⟩,
  ⟨some 9, .bin .add (.t 5) (.t 8), none⟩,
  ⟨some 2, .mov (.t 9), none⟩])
 (.ret)))
def i23 : IFn := ⟨1, 10, c23, [.t 2], .pure⟩
def c24 : IR :=
 .seq (.reg none [⟨some 2, .box 31 5 (.t 0), none⟩,
  ⟨some 4, .alloc 57 [.nilsl 162 1, .bool false, .nilsl 162 1], none⟩])
 (.lv [1, 2, 4] (.seq (.seq (.reg none [⟨some 5, .mov (.t 1), none⟩,
  ⟨some 6, .bin .lt (.t 5) (.k (.int .i64 0)), none⟩,
  ⟨some 7, .mov (.t 6), none⟩,
  ⟨some 8, .mov (.t 1), (some (7, false))⟩,
  ⟨some 9, .faddr 3 (.t 2), (some (7, false))⟩,
  ⟨some 10, .ld false 1 (.t 9), (some (7, false))⟩,
  ⟨some 11, .lenf (.t 10), (some (7, false))⟩,
  ⟨some 12, .bin .ge (.t 8) (.t 11), (some (7, false))⟩,
  ⟨some 13, .pick (.t 7) (.k (.bool true)) (.t 12), none⟩])
 (.lv [1, 2, 4, 13] (.cond (.t 13) (.lv [4] (.seq (.reg none [⟨some 14, .build [.nilsl 162 1, .bool false, .nilsl 162 1] [], none⟩,
  ⟨none, .st 3 (.t 4) (.t 14), none⟩])
 (.ret)))
 (.skip))))
 (.lv [1, 2, 4] (.seq (.reg none [⟨some 15, .faddr 3 (.t 2), none⟩,
  ⟨some 16, .ld false 1 (.t 15), none⟩,
  ⟨some 17, .mov (.t 1), none⟩,
  ⟨some 18, .iaddrf 3 (.t 16) (.t 17), none⟩,
  ⟨some 19, .ldf true 3 (.t 18), none⟩,
  ⟨none, .st 3 (.t 4) (.t 19), none⟩])
 (.ret)))))
def i24 : IFn := ⟨2, 20, c24, [.c 4 true 3], .pure⟩
def c25 : IR :=
 .seq (.reg none [⟨some 2, .box 57 3 (.t 0), none⟩,
  ⟨some 3, .box 57 3 (.t 1), none⟩,
  ⟨some 4, .mov (.k (.int .i64 0)), none⟩])
 (.lv [2, 3] (.seq (.reg (some [0, 1, 2, 3, 6, 7, 8, 4, 5, 9, 10, 11, 12, 13]) [⟨some 5, .faddr 0 (.t 2), none⟩,
  ⟨some 6, .ld true 2 (.t 5), none⟩,
  ⟨some 7, .ld true 3 (.t 3), none⟩,
  ⟨some 8, .callP 67 [.t 7], none⟩,
  ⟨some 11, .faddr 0 (.t 3), none⟩,
  ⟨some 12, .ld true 2 (.t 11), none⟩,
  ⟨some 13, .ld true 3 (.t 2), none⟩,
  ⟨some 9, .bsl 55 2 [.t 8], none⟩,
  ⟨some 10, .callF 66 [.t 6, .t 9], none⟩,
  ⟨some 14, .callP 67 [.t 13], none⟩,
  ⟨some 15, .bsl 55 2 [.t 14], none⟩,
  ⟨some 16, .callF 66 [.t 12, .t 15], none⟩,
  ⟨some 17, .callP 68 [.t 10, .t 16], none⟩,
  ⟨some 4, .mov (.t 17), none⟩])
 (.ret)))
def i25 : IFn := ⟨2, 18, c25, [.t 4], .pure⟩
def b26_0 : IR :=
 .seq (.reg none [⟨some 20, .bin .lt (.t 19) (.t 18), none⟩])
 (.lv [2, 4, 6, 8, 18, 19, 20] (.seq (.cond (.t 20) (.skip)
 (.exit 0))
 (.lv [2, 4, 6, 8, 18, 19] (.seq (.block 1 (.seq (.reg none [⟨some 21, .mov (.t 19), none⟩,
  ⟨some 9, .mov (.t 21), none⟩])
 (.lv [2, 4, 6, 8, 9, 18, 19] (.reg none [⟨some 22, .mov (.t 8), none⟩,
  ⟨some 23, .mov (.t 9), none⟩,
  ⟨some 24, .iaddr 1 (.t 22) (.t 23), none⟩,
  ⟨some 25, .ld false 1 (.t 24), none⟩,
  ⟨some 26, .mov (.t 2), none⟩,
  ⟨some 27, .bin .add (.t 25) (.t 26), none⟩,
  ⟨some 28, .iaddr 1 (.t 22) (.t 23), none⟩,
  ⟨none, .st 1 (.t 28) (.t 27), none⟩]))))
 (.lv [2, 4, 6, 8, 18, 19] (.reg none [⟨some 29, .bin .add (.t 19) (.k (.int .i64 1)), none⟩,
  ⟨some 19, .mov (.t 29), none⟩]))))))
def k26_0 : IR :=
 .seq (.reg none [⟨some 30, .ld true 5 (.t 4), none⟩,
  ⟨some 31, .callP 53 [.t 30], none⟩,
  ⟨some 32, .mov (.t 8), none⟩,
  ⟨some 33, .callF 70 [.t 31, .t 32], none⟩,
  ⟨none, .st 5 (.t 6) (.t 33), none⟩,
  ⟨some 7, .mov (.k (.int .i64 0)), none⟩])
 (.ret)
def c26 : IR :=
 .seq (.reg none [⟨some 3, .box 31 5 (.t 0), none⟩,
  ⟨some 4, .box 31 5 (.t 1), none⟩,
  ⟨some 6, .alloc 31 [.nilsl 3 1, .bool false, .nilsl 21 1, .nilsl 57 3, .bool false], none⟩,
  ⟨some 7, .mov (.k (.int .i64 0)), none⟩])
 (.lv [2, 3, 4, 6] (.seq (.seq (.reg none [⟨some 10, .ld true 5 (.t 3), none⟩,
  ⟨some 11, .callP 38 [.t 10], none⟩,
  ⟨some 12, .bin .gt (.t 11) (.k (.int .i64 1)), none⟩])
 (.lv [2, 3, 4, 6, 12] (.cond (.t 12) (.lv [6] (.seq (.reg none [⟨some 13, .build [.nilsl 3 1, .bool false, .nilsl 21 1, .nilsl 57 3, .bool false] [], none⟩,
  ⟨none, .st 5 (.t 6) (.t 13), none⟩,
  ⟨some 7, .mov (.k (.int .i64 23)), none⟩])
 (.ret)))
 (.skip))))
 (.lv [2, 3, 4, 6] (.seq (.reg none [⟨some 14, .ld true 5 (.t 3), none⟩,
  ⟨some 15, .ld true 5 (.t 4), none⟩,
  ⟨some 16, .callO 69 [.t 14, .t 15], none⟩,
  ⟨some 8, .mov (.t 16), none⟩])
 (.lv [2, 4, 6, 8] (.seq (.seq (.reg none [⟨some 17, .mov (.t 8), none⟩,
  ⟨some 18, .len (.t 17), none⟩,
  ⟨some 19, .mov (.k (.int .i64 0)), none⟩])
 (.lv [2, 4, 6, 8, 18, 19] (.block 0 (.loop [2, 4, 6, 8, 18, 19] (some (7, [])) b26_0))))
 k26_0))))))
def i26 : IFn := ⟨3, 34, c26, [.c 6 true 5, .t 7], .pure⟩
def b27_0 : IR :=
 .seq (.seq (.reg none [⟨some 16, .mov (.t 9), none⟩,
  ⟨some 17, .ld true 4 (.t 4), none⟩,
  ⟨some 18, .callP 63 [.t 17], none⟩,
  ⟨some 19, .bin .lt (.t 16) (.t 18), none⟩])
 (.lv [2, 3, 4, 6, 8, 9, 19] (.cond (.t 19) (.skip)
 (.exit 0))))
 (.lv [2, 3, 4, 6, 8, 9] (.seq (.block 1 (.reg none [⟨some 22, .mov (.t 8), none⟩,
  ⟨some 23, .mov (.t 2), none⟩,
  ⟨some 24, .ld true 4 (.t 3), none⟩,
  ⟨some 25, .ld true 4 (.t 4), none⟩,
  ⟨some 26, .mov (.t 9), none⟩,
  ⟨some 27, .callP 71 [.t 24, .t 25, .t 26], none⟩,
  ⟨some 28, .bin .add (.t 23) (.t 27), none⟩,
  ⟨some 29, .bsl 3 1 [.t 28], none⟩,
  ⟨some 30, .app 3 1 8 (.t 22) (.t 29), none⟩,
  ⟨some 8, .mov (.t 30), none⟩]))
 (.lv [2, 3, 4, 6, 8, 9] (.reg none [⟨some 20, .mov (.t 9), none⟩,
  ⟨some 21, .bin .add (.t 20) (.k (.int .i64 1)), none⟩,
  ⟨some 9, .mov (.t 21), none⟩]))))
def k27_0 : IR :=
 .seq (.reg none [⟨some 31, .mov (.t 8), none⟩,
  ⟨some 32, .callF 56 [.t 31], none⟩,
  ⟨some 10, .alloc 26 [.nilsl 3 1, .bool false, .nilsl 21 1, .nilsl 66 3], none⟩,
  ⟨none, .st 4 (.t 10) (.t 32), none⟩])
 (.lv [4, 6, 10] (.seq (.reg none [⟨some 33, .faddr 0 (.t 4), none⟩,
  ⟨some 34, .ld false 1 (.t 33), none⟩,
  ⟨some 35, .faddr 0 (.t 10), none⟩,
  ⟨none, .st 1 (.t 35) (.t 34), none⟩])
 (.lv [6, 10] (.seq (.reg none [⟨some 36, .ld true 4 (.t 10), none⟩,
  ⟨none, .st 4 (.t 6) (.t 36), none⟩,
  ⟨some 7, .mov (.k (.int .i64 0)), none⟩])
 (.ret)))))
def c27 : IR :=
 .seq (.reg none [⟨some 3, .box 26 4 (.t 0), none⟩,
  ⟨some 4, .box 26 4 (.t 1), none⟩,
  ⟨some 6, .alloc 26 [.nilsl 3 1, .bool false, .nilsl 21 1, .nilsl 66 3], none⟩,
  ⟨some 7, .mov (.k (.int .i64 0)), none⟩])
 (.lv [2, 3, 4, 6] (.seq (.seq (.reg none [⟨some 11, .faddr 0 (.t 3), none⟩,
  ⟨some 12, .ld false 1 (.t 11), none⟩,
  ⟨some 13, .lenf (.t 12), none⟩,
  ⟨some 14, .bin .gt (.t 13) (.k (.int .i64 1)), none⟩])
 (.lv [2, 3, 4, 6, 14] (.cond (.t 14) (.lv [6] (.seq (.reg none [⟨some 15, .build [.nilsl 3 1, .bool false, .nilsl 21 1, .nilsl 66 3] [], none⟩,
  ⟨none, .st 4 (.t 6) (.t 15), none⟩,
  ⟨some 7, .mov (.k (.int .i64 23)), none⟩])
 (.ret)))
 (.skip))))
 (.lv [2, 3, 4, 6] (.seq (.reg none [⟨some 8, .newnil 3 1, none⟩])
 (.lv [2, 3, 4, 6, 8] (.seq (.seq (.reg none [⟨some 9, .mov (.k (.int .i64 0)), none⟩])
 (.lv [2, 3, 4, 6, 8, 9] (.block 0 (.loop [2, 3, 4, 6, 8, 9] (some (7, [])) b27_0))))
 k27_0))))))
def i27 : IFn := ⟨3, 37, c27, [.c 6 true 4, .t 7], .pure⟩
def b28_0 : IR :=
 .seq (.seq (.reg none [⟨some 36, .mov (.t 5), none⟩,
  ⟨some 37, .faddr 3 (.t 2), none⟩,
  ⟨some 38, .ld false 1 (.t 37), none⟩,
  ⟨some 39, .lenf (.t 38), none⟩,
  ⟨some 40, .bin .lt (.t 36) (.t 39), none⟩])
 (.lv [2, 3, 5, 40] (.cond (.t 40) (.skip)
 (.exit 0))))
 (.lv [2, 3, 5] (.seq (.block 1 (.seq (.reg (some [0, 1, 2, 3, 4, 5, 6, 7, 8, 9, 10]) [⟨some 43, .faddr 3 (.t 2), none⟩,
  ⟨some 44, .ld false 1 (.t 43), none⟩,
  ⟨some 45, .mov (.t 5), none⟩,
  ⟨some 46, .iaddrf 3 (.t 44) (.t 45), none⟩,
  ⟨some 47, .ldf true 3 (.t 46), none⟩,
  ⟨some 48, .faddr 3 (.t 3), none⟩,
  ⟨some 49, .ld false 1 (.t 48), none⟩,
  ⟨some 50, .mov (.t 5), none⟩,
  ⟨some 51, .iaddrf 3 (.t 49) (.t 50), none⟩,
  ⟨some 52, .ldf true 3 (.t 51), none⟩,
  ⟨some 53, .bins .ne [0, 2, 2] (.t 47) (.t 52), none⟩])
 (.lv [2, 3, 5, 53] (.cond (.t 53) (.lv [] (.seq (.reg none [⟨some 4, .mov (.k (.bool false)), none⟩])
 (.ret)))
 (.skip)))))
 (.lv [2, 3, 5] (.reg none [⟨some 41, .mov (.t 5), none⟩,
  ⟨some 42, .bin .add (.t 41) (.k (.int .i64 1)), none⟩,
  ⟨some 5, .mov (.t 42), none⟩]))))
def k28_0 : IR :=
 .seq (.reg none [⟨some 4, .mov (.k (.bool true)), none⟩])
 (.ret)
def c28 : IR :=
 .seq (.reg none [⟨some 2, .box 26 4 (.t 0), none⟩,
  ⟨some 3, .box 26 4 (.t 1), none⟩,
  ⟨some 4, .mov (.k (.bool false)), none⟩])
 (.lv [2, 3] (.seq (.seq (.reg none [⟨some 6, .faddr 1 (.t 2), none⟩,
  ⟨some 7, .ld false 1 (.t 6), none⟩,
  ⟨some 8, .faddr 1 (.t 3), none⟩,
  ⟨some 9, .ld false 1 (.t 8), none⟩,
  ⟨some 10, .binb .ne (.t 7) (.t 9), none⟩,
  ⟨some 11, .mov (.t 10), none⟩,
  ⟨some 12, .faddr 0 (.t 2), (some (11, false))⟩,
  ⟨some 13, .ld false 1 (.t 12), (some (11, false))⟩,
  ⟨some 14, .faddr 0 (.t 3), (some (11, false))⟩,
  ⟨some 15, .ld false 1 (.t 14), (some (11, false))⟩,
  ⟨some 16, .callP 72 [.t 13, .t 15], (some (11, false))⟩,
  ⟨some 17, .not (.t 16), (some (11, false))⟩,
  ⟨some 18, .pick (.t 11) (.k (.bool true)) (.t 17), none⟩,
  ⟨some 19, .mov (.t 18), none⟩,
  ⟨some 20, .faddr 2 (.t 2), (some (19, false))⟩,
  ⟨some 21, .ld false 1 (.t 20), (some (19, false))⟩,
  ⟨some 22, .faddr 2 (.t 3), (some (19, false))⟩,
  ⟨some 23, .ld false 1 (.t 22), (some (19, false))⟩,
  ⟨some 24, .callP 73 [.t 21, .t 23], (some (19, false))⟩,
  ⟨some 25, .not (.t 24), (some (19, false))⟩,
  ⟨some 26, .pick (.t 19) (.k (.bool true)) (.t 25), none⟩,
  ⟨some 27, .mov (.t 26), none⟩,
  ⟨some 28, .faddr 3 (.t 2), (some (27, false))⟩,
  ⟨some 29, .ld false 1 (.t 28), (some (27, false))⟩,
  ⟨some 30, .lenf (.t 29), (some (27, false))⟩,
  ⟨some 31, .faddr 3 (.t 3), (some (27, false))⟩,
  ⟨some 32, .ld false 1 (.t 31), (some (27, false))⟩,
  ⟨some 33, .lenf (.t 32), (some (27, false))⟩,
  ⟨some 34, .bin .ne (.t 30) (.t 33), (some (27, false))⟩,
  ⟨some 35, .pick (.t 27) (.k (.bool true)) (.t 34), none⟩])
 (.lv [2, 3, 35] (.cond (.t 35) (.lv [] (.seq (.reg none [⟨some 4, .mov (.k (.bool false)), none⟩])
 (.ret)))
 (.skip))))
 (.lv [2, 3] (.seq (.seq (.reg none [⟨some 5, .mov (.k (.int .i64 0)), none⟩])
 (.lv [2, 3, 5] (.block 0 (.loop [2, 3, 5] (some (2, [])) b28_0))))
 k28_0))))
def i28 : IFn := ⟨2, 54, c28, [.t 4], .pure⟩
def b29_0 : IR :=
 .seq (.reg none [⟨some 14, .bin .lt (.t 13) (.t 12), none⟩])
 (.lv [2, 3, 4, 5, 11, 12, 13, 14] (.seq (.cond (.t 14) (.skip)
 (.exit 0))
 (.lv [2, 3, 4, 5, 11, 12, 13] (.seq (.block 1 (.seq (.reg none [⟨some 15, .mov (.t 13), none⟩,
  ⟨some 16, .iaddr 1 (.t 11) (.t 13), none⟩,
  ⟨some 17, .ld false 1 (.t 16), none⟩,
  ⟨some 6, .mov (.t 15), none⟩,
  ⟨some 7, .mov (.t 17), none⟩])
 (.lv [2, 3, 4, 5, 6, 7, 11, 12, 13] (.seq (.reg none [⟨some 18, .mov (.t 5), none⟩,
  ⟨some 19, .mov (.t 6), none⟩,
  ⟨some 20, .iaddr 1 (.t 18) (.t 19), none⟩,
  ⟨none, .st 1 (.t 20) (.k (.int .i64 0)), none⟩])
 (.lv [2, 3, 4, 5, 6, 7, 11, 12, 13] (.seq (.reg none [⟨some 21, .mov (.t 7), none⟩,
  ⟨some 22, .ld true 5 (.t 3), none⟩,
  ⟨some 23, .callP 23 [.t 22], none⟩,
  ⟨some 24, .bin .lt (.t 21) (.t 23), none⟩])
 (.lv [2, 3, 4, 5, 6, 11, 12, 13, 24] (.cond (.t 24) (.lv [2, 3, 4, 5, 6, 11, 12, 13] (.reg none [⟨some 25, .mov (.t 5), none⟩,
  ⟨some 26, .mov (.t 6), none⟩,
  ⟨some 27, .iaddr 1 (.t 25) (.t 26), none⟩,
  ⟨none, .st 1 (.t 27) (.k (.int .i64 1)), none⟩]))
 (.skip)))))))))
 (.lv [2, 3, 4, 5, 11, 12, 13] (.reg none [⟨some 28, .bin .add (.t 13) (.k (.int .i64 1)), none⟩,
  ⟨some 13, .mov (.t 28), none⟩]))))))
def k29_0 : IR :=
 .seq (.reg none [⟨some 29, .ld true 5 (.t 2), none⟩,
  ⟨some 30, .callP 53 [.t 29], none⟩,
  ⟨some 31, .mov (.t 5), none⟩,
  ⟨some 32, .callF 70 [.t 30, .t 31], none⟩,
  ⟨none, .st 5 (.t 4) (.t 32), none⟩])
 (.ret)
def c29 : IR :=
 .seq (.reg none [⟨some 2, .box 31 5 (.t 0), none⟩,
  ⟨some 3, .box 31 5 (.t 1), none⟩,
  ⟨some 4, .alloc 31 [.nilsl 3 1, .bool false, .nilsl 21 1, .nilsl 57 3, .bool false], none⟩])
 (.lv [2, 3, 4] (.seq (.reg none [⟨some 8, .ld true 5 (.t 3), none⟩,
  ⟨some 9, .ld true 5 (.t 2), none⟩,
  ⟨some 10, .callO 69 [.t 8, .t 9], none⟩,
  ⟨some 5, .mov (.t 10), none⟩])
 (.lv [2, 3, 4, 5] (.seq (.seq (.reg none [⟨some 11, .mov (.t 5), none⟩,
  ⟨some 12, .len (.t 11), none⟩,
  ⟨some 13, .mov (.k (.int .i64 0)), none⟩])
 (.lv [2, 3, 4, 5, 11, 12, 13] (.block 0 (.loop [2, 3, 4, 5, 11, 12, 13] (some (7, [])) b29_0))))
 k29_0))))
def i29 : IFn := ⟨2, 33, c29, [.c 4 true 5], .pure⟩
def b30_0 : IR :=
 .seq (.reg none [⟨some 17, .bin .lt (.t 16) (.t 15), none⟩])
 (.lv [2, 3, 14, 15, 16, 17] (.seq (.cond (.t 17) (.skip)
 (.exit 0))
 (.lv [2, 3, 14, 15, 16] (.seq (.block 1 (.seq (.reg none [⟨some 18, .iaddrf 3 (.t 14) (.t 16), none⟩,
  ⟨some 19, .ldf true 3 (.t 18), none⟩,
  ⟨some 5, .alloc 57 [.nilsl 162 1, .bool false, .nilsl 162 1], none⟩,
  ⟨none, .st 3 (.t 5) (.t 19), none⟩])
 (.lv [2, 3, 5, 14, 15, 16] (.reg (some [0, 1, 2, 3, 4, 5, 6, 7]) [⟨some 20, .faddr 3 (.t 3), none⟩,
  ⟨some 21, .ld false 1 (.t 20), none⟩,
  ⟨some 22, .ld true 3 (.t 5), none⟩,
  ⟨some 23, .callR 75 [.t 22], none⟩,
  ⟨some 24, .bsl 66 3 [.t 23], none⟩,
  ⟨some 25, .app 66 3 40 (.t 21) (.t 24), none⟩,
  ⟨some 26, .faddr 3 (.t 3), none⟩,
  ⟨none, .st 1 (.t 26) (.t 25), none⟩]))))
 (.lv [2, 3, 14, 15, 16] (.reg none [⟨some 27, .bin .add (.t 16) (.k (.int .i64 1)), none⟩,
  ⟨some 16, .mov (.t 27), none⟩]))))))
def k30_0 : IR :=
 .seq (.reg none [⟨some 28, .ld true 4 (.t 3), none⟩,
  ⟨none, .st 4 (.t 2) (.t 28), none⟩])
 (.ret)
def c30 : IR :=
 .seq (.reg none [⟨some 1, .box 31 5 (.t 0), none⟩,
  ⟨some 2, .alloc 26 [.nilsl 3 1, .bool false, .nilsl 21 1, .nilsl 66 3], none⟩])
 (.lv [1, 2] (.seq (.reg (some [0, 1, 2, 3, 4, 5, 6, 7, 8]) [⟨some 6, .ld true 5 (.t 1), none⟩,
  ⟨some 7, .callP 53 [.t 6], none⟩,
  ⟨some 8, .faddr 1 (.t 1), none⟩,
  ⟨some 9, .ld false 1 (.t 8), none⟩,
  ⟨some 10, .ld true 5 (.t 1), none⟩,
  ⟨some 11, .callZ 74 [.t 10], none⟩,
  ⟨some 12, .build [.nilsl 3 1, .bool false, .nilsl 21 1, .nilsl 66 3] [(0, 1, .t 7), (1, 1, .t 9), (2, 1, .t 11)], none⟩,
  ⟨some 3, .alloc 26 [.nilsl 3 1, .bool false, .nilsl 21 1, .nilsl 66 3], none⟩,
  ⟨none, .st 4 (.t 3) (.t 12), none⟩])
 (.lv [1, 2, 3] (.seq (.seq (.reg none [⟨some 13, .faddr 3 (.t 1), none⟩,
  ⟨some 14, .ld false 1 (.t 13), none⟩,
  ⟨some 15, .lenf (.t 14), none⟩,
  ⟨some 16, .mov (.k (.int .i64 0)), none⟩])
 (.lv [2, 3, 14, 15, 16] (.block 0 (.loop [2, 3, 14, 15, 16] (some (10, [])) b30_0))))
 k30_0))))
def i30 : IFn := ⟨1, 29, c30, [.c 2 true 4], .pure⟩
def b31_0 : IR :=
 .seq (.seq (.reg none [⟨some 9, .mov (.t 6), none⟩,
  ⟨some 10, .ld true 4 (.t 2), none⟩,
  ⟨some 11, .callP 63 [.t 10], none⟩,
  ⟨some 12, .bin .lt (.t 9) (.t 11), none⟩])
 (.lv [2, 3, 4, 5, 6, 12] (.cond (.t 12) (.skip)
 (.exit 0))))
 (.lv [2, 3, 4, 5, 6] (.seq (.block 1 (.seq (.reg none [⟨some 7, .mov (.k (.int .i64 0)), none⟩])
 (.lv [2, 3, 4, 5, 6, 7] (.seq (.seq (.reg (some [0, 1, 2, 3, 4, 5, 6]) [⟨some 15, .ld true 4 (.t 3), none⟩,
  ⟨some 16, .ld true 4 (.t 2), none⟩,
  ⟨some 17, .mov (.t 6), none⟩,
  ⟨some 18, .callP 71 [.t 15, .t 16, .t 17], none⟩,
  ⟨some 19, .ld true 4 (.t 3), none⟩,
  ⟨some 20, .callP 63 [.t 19], none⟩,
  ⟨some 21, .bin .lt (.t 18) (.t 20), none⟩])
 (.lv [2, 3, 4, 5, 6, 7, 21] (.cond (.t 21) (.lv [2, 3, 4, 5, 6] (.reg none [⟨some 7, .mov (.k (.int .i64 1)), none⟩]))
 (.skip))))
 (.lv [2, 3, 4, 5, 6, 7] (.reg none [⟨some 22, .mov (.t 5), none⟩,
  ⟨some 23, .mov (.t 7), none⟩,
  ⟨some 24, .bsl 3 1 [.t 23], none⟩,
  ⟨some 25, .app 3 1 8 (.t 22) (.t 24), none⟩,
  ⟨some 5, .mov (.t 25), none⟩]))))))
 (.lv [2, 3, 4, 5, 6] (.reg none [⟨some 13, .mov (.t 6), none⟩,
  ⟨some 14, .bin .add (.t 13) (.k (.int .i64 1)), none⟩,
  ⟨some 6, .mov (.t 14), none⟩]))))
def k31_0 : IR :=
 .seq (.reg none [⟨some 26, .mov (.t 5), none⟩,
  ⟨some 27, .callF 56 [.t 26], none⟩,
  ⟨some 8, .alloc 26 [.nilsl 3 1, .bool false, .nilsl 21 1, .nilsl 66 3], none⟩,
  ⟨none, .st 4 (.t 8) (.t 27), none⟩])
 (.lv [2, 4, 8] (.seq (.reg none [⟨some 28, .faddr 0 (.t 2), none⟩,
  ⟨some 29, .ld false 1 (.t 28), none⟩,
  ⟨some 30, .faddr 0 (.t 8), none⟩,
  ⟨none, .st 1 (.t 30) (.t 29), none⟩])
 (.lv [4, 8] (.seq (.reg none [⟨some 31, .ld true 4 (.t 8), none⟩,
  ⟨none, .st 4 (.t 4) (.t 31), none⟩])
 (.ret)))))
def c31 : IR :=
 .seq (.reg none [⟨some 2, .box 26 4 (.t 0), none⟩,
  ⟨some 3, .box 26 4 (.t 1), none⟩,
  ⟨some 4, .alloc 26 [.nilsl 3 1, .bool false, .nilsl 21 1, .nilsl 66 3], none⟩])
 (.lv [2, 3, 4] (.seq (.reg none [⟨some 5, .newnil 3 1, none⟩])
 (.lv [2, 3, 4, 5] (.seq (.seq (.reg none [⟨some 6, .mov (.k (.int .i64 0)), none⟩])
 (.lv [2, 3, 4, 5, 6] (.block 0 (.loop [2, 3, 4, 5, 6] (some (7, [])) b31_0))))
 k31_0))))
def i31 : IFn := ⟨2, 32, c31, [.c 4 true 4], .pure⟩
def b32_0 : IR :=
 .seq (.seq (.reg none [⟨some 24, .mov (.t 5), none⟩,
  ⟨some 25, .faddr 3 (.t 2), none⟩,
  ⟨some 26, .ld false 1 (.t 25), none⟩,
  ⟨some 27, .lenf (.t 26), none⟩,
  ⟨some 28, .bin .lt (.t 24) (.t 27), none⟩])
 (.lv [2, 5, 28] (.cond (.t 28) (.skip)
 (.exit 0))))
 (.lv [2, 5] (.seq (.block 1 (.seq (.reg none [⟨some 31, .faddr 3 (.t 2), none⟩,
  ⟨some 32, .ld false 1 (.t 31), none⟩,
  ⟨some 33, .mov (.t 5), none⟩,
  ⟨some 34, .iaddrf 3 (.t 32) (.t 33), none⟩,
  ⟨some 35, .faddr 1 (.t 34), none⟩,
  ⟨some 36, .ldf false 1 (.t 35), none⟩,
  ⟨some 37, .slen (.t 36), none⟩,
  ⟨some 38, .bin .gt (.t 37) (.k (.int .i64 40)), none⟩,
  ⟨some 39, .mov (.t 38), none⟩,
  ⟨some 40, .faddr 3 (.t 2), (some (39, false))⟩,
  ⟨some 41, .ld false 1 (.t 40), (some (39, false))⟩,
  ⟨some 42, .mov (.t 5), (some (39, false))⟩,
  ⟨some 43, .iaddrf 3 (.t 41) (.t 42), (some (39, false))⟩,
  ⟨some 44, .faddr 2 (.t 43), (some (39, false))⟩,
  ⟨some 45, .ldf false 1 (.t 44), (some (39, false))⟩,
  ⟨some 46, .slen (.t 45), (some (39, false))⟩,
  ⟨some 47, .bin .gt (.t 46) (.k (.int .i64 40)), (some (39, false))⟩,
  ⟨some 48, .pick (.t 39) (.k (.bool true)) (.t 47), none⟩])
 (.lv [2, 5, 48] (.cond (.t 48) (.lv [] (.seq (.reg none [⟨some 4, .mov (.k (.bool false)), none⟩])
 (.ret)))
 (.skip)))))
 (.lv [2, 5] (.reg none [⟨some 29, .mov (.t 5), none⟩,
  ⟨some 30, .bin .add (.t 29) (.k (.int .i64 1)), none⟩,
  ⟨some 5, .mov (.t 30), none⟩]))))
def k32_0 : IR :=
 .seq (.reg none [⟨some 49, .ld true 4 (.t 2), none⟩,
  ⟨some 50, .callP 76 [.t 49], none⟩,
  ⟨some 4, .mov (.t 50), none⟩])
 (.ret)
def c32 : IR :=
 .seq (.reg none [⟨some 2, .box 26 4 (.t 0), none⟩,
  ⟨some 4, .mov (.k (.bool false)), none⟩])
 (.lv [1, 2] (.seq (.seq (.reg none [⟨some 6, .faddr 2 (.t 2), none⟩,
  ⟨some 7, .ld false 1 (.t 6), none⟩,
  ⟨some 8, .lenf (.t 7), none⟩,
  ⟨some 9, .mov (.t 1), none⟩,
  ⟨some 10, .bin .gt (.t 8) (.t 9), none⟩,
  ⟨some 11, .mov (.t 10), none⟩,
  ⟨some 12, .faddr 3 (.t 2), (some (11, false))⟩,
  ⟨some 13, .ld false 1 (.t 12), (some (11, false))⟩,
  ⟨some 14, .lenf (.t 13), (some (11, false))⟩,
  ⟨some 15, .mov (.t 1), (some (11, false))⟩,
  ⟨some 16, .bin .gt (.t 14) (.t 15), (some (11, false))⟩,
  ⟨some 17, .pick (.t 11) (.k (.bool true)) (.t 16), none⟩,
  ⟨some 18, .mov (.t 17), none⟩,
  ⟨some 19, .faddr 0 (.t 2), (some (18, false))⟩,
  ⟨some 20, .ld false 1 (.t 19), (some (18, false))⟩,
  ⟨some 21, .lenf (.t 20), (some (18, false))⟩,
  ⟨some 22, .bin .gt (.t 21) (.k (.int .i64 8)), (some (18, false))⟩,
  ⟨some 23, .pick (.t 18) (.k (.bool true)) (.t 22), none⟩])
 (.lv [2, 23] (.cond (.t 23) (.lv [] (.seq (.reg none [⟨some 4, .mov (.k (.bool false)), none⟩])
 (.ret)))
 (.skip))))
 (.lv [2] (.seq (.seq (.reg none [⟨some 5, .mov (.k (.int .i64 0)), none⟩])
 (.lv [2, 5] (.block 0 (.loop [2, 5] (some (1, [])) b32_0))))
 k32_0))))
def i32 : IFn := ⟨2, 51, c32, [.t 4], .pure⟩
def b34_0 : IR :=
 .seq (.reg none [⟨some 13, .bin .lt (.t 12) (.t 11), none⟩])
 (.lv [2, 3, 10, 11, 12, 13] (.seq (.cond (.t 13) (.skip)
 (.exit 0))
 (.lv [2, 3, 10, 11, 12] (.seq (.block 1 (.seq (.reg none [⟨some 14, .iaddrf 1 (.t 10) (.t 12), none⟩,
  ⟨some 15, .ldf false 1 (.t 14), none⟩,
  ⟨some 5, .mov (.t 15), none⟩])
 (.lv [2, 3, 5, 10, 11, 12] (.reg (some [0, 1, 2, 3, 4, 5, 6, 7]) [⟨some 16, .faddr 3 (.t 3), none⟩,
  ⟨some 17, .ld false 1 (.t 16), none⟩,
  ⟨some 18, .mov (.t 5), none⟩,
  ⟨some 19, .callP 52 [.t 18], none⟩,
  ⟨some 20, .bsl 57 3 [.t 19], none⟩,
  ⟨some 21, .app 57 3 56 (.t 17) (.t 20), none⟩,
  ⟨some 22, .faddr 3 (.t 3), none⟩,
  ⟨none, .st 1 (.t 22) (.t 21), none⟩]))))
 (.lv [2, 3, 10, 11, 12] (.reg none [⟨some 23, .bin .add (.t 12) (.k (.int .i64 1)), none⟩,
  ⟨some 12, .mov (.t 23), none⟩]))))))
def k34_0 : IR :=
 .seq (.reg none [⟨some 24, .ld true 5 (.t 3), none⟩,
  ⟨none, .st 5 (.t 2) (.t 24), none⟩])
 (.ret)
def c34 : IR :=
 .seq (.reg none [⟨some 2, .alloc 31 [.nilsl 3 1, .bool false, .nilsl 21 1, .nilsl 57 3, .bool false], none⟩])
 (.lv [0, 2] (.seq (.reg none [⟨some 6, .mov (.t 0), none⟩,
  ⟨some 7, .lenf (.t 6), none⟩,
  ⟨some 8, .bsl 3 1 [.t 7], none⟩,
  ⟨some 9, .build [.nilsl 3 1, .bool false, .nilsl 21 1, .nilsl 57 3, .bool false] [(0, 1, .t 8), (4, 1, .k (.bool true))], none⟩,
  ⟨some 3, .alloc 31 [.nilsl 3 1, .bool false, .nilsl 21 1, .nilsl 57 3, .bool false], none⟩,
  ⟨none, .st 5 (.t 3) (.t 9), none⟩])
 (.lv [0, 2, 3] (.seq (.seq (.reg none [⟨some 10, .mov (.t 0), none⟩,
  ⟨some 11, .lenf (.t 10), none⟩,
  ⟨some 12, .mov (.k (.int .i64 0)), none⟩])
 (.lv [2, 3, 10, 11, 12] (.block 0 (.loop [2, 3, 10, 11, 12] (some (11, [])) b34_0))))
 k34_0))))
def i34 : IFn := ⟨1, 25, c34, [.c 2 true 5], .pure⟩
def c35 : IR :=
 .seq (.reg none [⟨some 2, .alloc 31 [.nilsl 3 1, .bool false, .nilsl 21 1, .nilsl 57 3, .bool false], none⟩])
 (.lv [0, 2] (.seq (.reg none [⟨some 3, .mov (.t 0), none⟩,
  ⟨some 4, .callP 52 [.t 3], none⟩,
  ⟨some 5, .callP 80 [.t 4], none⟩,
  ⟨none, .st 5 (.t 2) (.t 5), none⟩])
 (.ret)))
def i35 : IFn := ⟨1, 6, c35, [.c 2 true 5], .pure⟩
def c36 : IR :=
 .seq (.reg none [⟨some 2, .alloc 66 [.bool false, .str ⟨#[]⟩, .str ⟨#[]⟩], none⟩])
 (.lv [0, 2] (.seq (.reg none [⟨some 4, .mov (.t 0), none⟩,
  ⟨some 5, .callP 81 [.t 4], none⟩,
  ⟨some 3, .alloc 114 [.bool false, .str ⟨#[]⟩], none⟩,
  ⟨none, .st 2 (.t 3) (.t 5), none⟩])
 (.lv [2, 3] (.seq (.reg none [⟨some 6, .faddr 0 (.t 3), none⟩,
  ⟨some 7, .ld false 1 (.t 6), none⟩,
  ⟨some 8, .faddr 1 (.t 3), none⟩,
  ⟨some 9, .ld false 1 (.t 8), none⟩,
  ⟨some 10, .build [.bool false, .str ⟨#[]⟩, .str ⟨#[]⟩] [(0, 1, .t 7), (1, 1, .t 9), (2, 1, .k (.str ⟨#[49]⟩))], none⟩,
  ⟨none, .st 3 (.t 2) (.t 10), none⟩])
 (.ret)))))
def i36 : IFn := ⟨1, 11, c36, [.c 2 true 3], .pure⟩
def c38 : IR :=
 .seq (.reg none [⟨some 1, .box 31 5 (.t 0), none⟩,
  ⟨some 2, .mov (.k (.int .i64 0)), none⟩])
 (.lv [1] (.seq (.reg none [⟨some 3, .ld true 5 (.t 1), none⟩,
  ⟨some 4, .callP 53 [.t 3], none⟩,
  ⟨some 5, .lenf (.t 4), none⟩,
  ⟨some 2, .mov (.t 5), none⟩])
 (.ret)))
def i38 : IFn := ⟨1, 6, c38, [.t 2], .pure⟩
def c39 : IR :=
 .seq (.reg none [⟨some 1, .box 31 5 (.t 0), none⟩,
  ⟨some 2, .mov (.k (.bool false)), none⟩])
 (.lv [1] (.seq (.reg none [⟨some 3, .faddr 1 (.t 1), none⟩,
  ⟨some 4, .ld false 1 (.t 3), none⟩,
  ⟨some 2, .mov (.t 4), none⟩])
 (.ret)))
def i39 : IFn := ⟨1, 5, c39, [.t 2], .pure⟩
def b45_0 : IR :=
 .seq (.reg none [⟨some 68, .bin .lt (.t 67) (.t 66), none⟩])
 (.lv [2, 6, 65, 66, 67, 68] (.seq (.cond (.t 68) (.skip)
 (.exit 0))
 (.lv [2, 6, 65, 66, 67] (.seq (.block 1 (.seq (.reg none [⟨some 69, .iaddrf 3 (.t 65) (.t 67), none⟩,
  ⟨some 70, .ldf true 3 (.t 69), none⟩,
  ⟨some 8, .alloc 66 [.bool false, .str ⟨#[]⟩, .str ⟨#[]⟩], none⟩,
  ⟨none, .st 3 (.t 8) (.t 70), none⟩])
 (.lv [2, 6, 8, 65, 66, 67] (.seq (.reg none [⟨some 72, .ld true 3 (.t 8), none⟩,
  ⟨some 73, .callP 91 [.t 72], none⟩,
  ⟨some 71, .mov (.t 73), none⟩,
  ⟨some 74, .ext (.t 71) 0, none⟩,
  ⟨some 75, .ext (.t 71) 1, none⟩,
  ⟨some 9, .alloc 57 [.nilsl 162 1, .bool false, .nilsl 162 1], none⟩,
  ⟨none, .st 3 (.t 9) (.t 74), none⟩,
  ⟨some 10, .mov (.t 75), none⟩])
 (.lv [2, 6, 9, 10, 65, 66, 67] (.seq (.seq (.reg none [⟨some 76, .mov (.t 10), none⟩,
  ⟨some 77, .not (.t 76), none⟩])
 (.lv [2, 6, 9, 65, 66, 67, 77] (.cond (.t 77) (.lv [2] (.seq (.reg none [⟨some 78, .build [.nilsl 3 1, .bool false, .nilsl 21 1, .nilsl 57 3, .bool false] [], none⟩,
  ⟨none, .st 5 (.t 2) (.t 78), none⟩,
  ⟨some 3, .mov (.k (.bool false)), none⟩])
 (.ret)))
 (.skip))))
 (.lv [2, 6, 9, 65, 66, 67] (.reg none [⟨some 79, .faddr 3 (.t 6), none⟩,
  ⟨some 80, .ld false 1 (.t 79), none⟩,
  ⟨some 81, .ld true 3 (.t 9), none⟩,
  ⟨some 82, .bsl 57 3 [.t 81], none⟩,
  ⟨some 83, .app 57 3 56 (.t 80) (.t 82), none⟩,
  ⟨some 84, .faddr 3 (.t 6), none⟩,
  ⟨none, .st 1 (.t 84) (.t 83), none⟩]))))))))
 (.lv [2, 6, 65, 66, 67] (.reg none [⟨some 85, .bin .add (.t 67) (.k (.int .i64 1)), none⟩,
  ⟨some 67, .mov (.t 85), none⟩]))))))
def k45_0 : IR :=
 .seq (.reg none [⟨some 86, .ld true 5 (.t 6), none⟩,
  ⟨none, .st 5 (.t 2) (.t 86), none⟩,
  ⟨some 3, .mov (.k (.bool true)), none⟩])
 (.ret)
def c45 : IR :=
 .seq (.reg none [⟨some 1, .box 26 4 (.t 0), none⟩,
  ⟨some 2, .alloc 31 [.nilsl 3 1, .bool false, .nilsl 21 1, .nilsl 57 3, .bool false], none⟩,
  ⟨some 3, .mov (.k (.bool false)), none⟩])
 (.lv [1, 2] (.seq (.reg none [⟨some 12, .faddr 0 (.t 1), none⟩,
  ⟨some 13, .ld false 1 (.t 12), none⟩,
  ⟨some 14, .callP 78 [.t 13], none⟩,
  ⟨some 11, .mov (.t 14), none⟩,
  ⟨some 15, .ext (.t 11) 0, none⟩,
  ⟨some 16, .ext (.t 11) 1, none⟩,
  ⟨some 4, .mov (.t 15), none⟩,
  ⟨some 5, .mov (.t 16), none⟩])
 (.lv [1, 2, 4, 5] (.seq (.seq (.reg none [⟨some 17, .mov (.t 5), none⟩,
  ⟨some 18, .not (.t 17), none⟩,
  ⟨some 19, .mov (.t 18), none⟩,
  ⟨some 20, .faddr 1 (.t 1), (some (19, false))⟩,
  ⟨some 21, .ld false 1 (.t 20), (some (19, false))⟩,
  ⟨some 22, .mov (.t 21), (some (19, false))⟩,
  ⟨some 23, .faddr 2 (.t 1), (some (22, true))⟩,
  ⟨some 24, .ld false 1 (.t 23), (some (22, true))⟩,
  ⟨some 25, .lenf (.t 24), (some (22, true))⟩,
  ⟨some 26, .mov (.t 4), (some (22, true))⟩,
  ⟨some 27, .bin .ne (.t 25) (.t 26), (some (22, true))⟩,
  ⟨some 28, .mov (.t 27), (some (22, true))⟩,
  ⟨some 29, .faddr 3 (.t 1), (some (28, false))⟩,
  ⟨some 30, .ld false 1 (.t 29), (some (28, false))⟩,
  ⟨some 31, .lenf (.t 30), (some (28, false))⟩,
  ⟨some 32, .bin .gt (.t 31) (.k (.int .i64 0)), (some (28, false))⟩,
  ⟨some 33, .pick (.t 28) (.k (.bool true)) (.t 32), (some (22, true))⟩,
  ⟨some 34, .pick (.t 22) (.t 33) (.k (.bool false)), (some (19, false))⟩,
  ⟨some 35, .pick (.t 19) (.k (.bool true)) (.t 34), none⟩,
  ⟨some 36, .mov (.t 35), none⟩,
  ⟨some 37, .faddr 1 (.t 1), (some (36, false))⟩,
  ⟨some 38, .ld false 1 (.t 37), (some (36, false))⟩,
  ⟨some 39, .not (.t 38), (some (36, false))⟩,
  ⟨some 40, .mov (.t 39), (some (36, false))⟩,
  ⟨some 41, .faddr 3 (.t 1), (some (40, true))⟩,
  ⟨some 42, .ld false 1 (.t 41), (some (40, true))⟩,
  ⟨some 43, .lenf (.t 42), (some (40, true))⟩,
  ⟨some 44, .mov (.t 4), (some (40, true))⟩,
  ⟨some 45, .bin .ne (.t 43) (.t 44), (some (40, true))⟩,
  ⟨some 46, .mov (.t 45), (some (40, true))⟩,
  ⟨some 47, .faddr 2 (.t 1), (some (46, false))⟩,
  ⟨some 48, .ld false 1 (.t 47), (some (46, false))⟩,
  ⟨some 49, .lenf (.t 48), (some (46, false))⟩,
  ⟨some 50, .bin .gt (.t 49) (.k (.int .i64 0)), (some (46, false))⟩,
  ⟨some 51, .pick (.t 46) (.k (.bool true)) (.t 50), (some (40, true))⟩,
  ⟨some 52, .pick (.t 40) (.t 51) (.k (.bool false)), (some (36, false))⟩,
  ⟨some 53, .pick (.t 36) (.k (.bool true)) (.t 52), none⟩])
 (.lv [1, 2, 53] (.cond (.t 53) (.lv [2] (.seq (.reg none [⟨some 54, .build [.nilsl 3 1, .bool false, .nilsl 21 1, .nilsl 57 3, .bool false] [], none⟩,
  ⟨none, .st 5 (.t 2) (.t 54), none⟩,
  ⟨some 3, .mov (.k (.bool false)), none⟩])
 (.ret)))
 (.skip))))
 (.lv [1, 2] (.seq (.reg (some [0, 1, 3, 4, 5, 6, 2, 7, 8, 9, 10]) [⟨some 55, .faddr 0 (.t 1), none⟩,
  ⟨some 56, .ld false 1 (.t 55), none⟩,
  ⟨some 58, .faddr 1 (.t 1), none⟩,
  ⟨some 59, .ld false 1 (.t 58), none⟩,
  ⟨some 60, .faddr 2 (.t 1), none⟩,
  ⟨some 61, .ld false 1 (.t 60), none⟩,
  ⟨some 57, .callZ 89 [.t 56], none⟩,
  ⟨some 62, .callZ 90 [.t 61], none⟩,
  ⟨some 63, .build [.nilsl 3 1, .bool false, .nilsl 21 1, .nilsl 57 3, .bool false] [(0, 1, .t 57), (1, 1, .t 59), (2, 1, .t 62), (3, 1, .k (.nilsl 57 3)), (4, 1, .k (.bool true))], none⟩,
  ⟨some 6, .alloc 31 [.nilsl 3 1, .bool false, .nilsl 21 1, .nilsl 57 3, .bool false], none⟩,
  ⟨none, .st 5 (.t 6) (.t 63), none⟩])
 (.lv [1, 2, 6] (.seq (.seq (.reg none [⟨some 64, .faddr 3 (.t 1), none⟩,
  ⟨some 65, .ld false 1 (.t 64), none⟩,
  ⟨some 66, .lenf (.t 65), none⟩,
  ⟨some 67, .mov (.k (.int .i64 0)), none⟩])
 (.lv [2, 6, 65, 66, 67] (.block 0 (.loop [2, 6, 65, 66, 67] (some (10, [])) b45_0))))
 k45_0))))))))
def i45 : IFn := ⟨1, 87, c45, [.c 2 true 5, .t 3], .pure⟩
def c52 : IR :=
 .seq (.reg none [⟨some 2, .alloc 57 [.nilsl 162 1, .bool false, .nilsl 162 1], none⟩])
 (.lv [0, 2] (.seq (.reg none [⟨some 3, .mov (.t 0), none⟩,
  ⟨some 4, .callP 98 [.t 3], none⟩,
  ⟨some 5, .callP 99 [.k (.int .u64 1)], none⟩,
  ⟨some 6, .build [.nilsl 162 1, .bool false, .nilsl 162 1] [(0, 2, .t 4), (2, 1, .t 5)], none⟩,
  ⟨none, .st 3 (.t 2) (.t 6), none⟩])
 (.ret)))
def i52 : IFn := ⟨1, 7, c52, [.c 2 true 3], .pure⟩
def c53 : IR :=
 .seq (.reg none [⟨some 1, .box 31 5 (.t 0), none⟩,
  ⟨some 2, .newnil 3 1, none⟩])
 (.lv [1] (.seq (.seq (.reg none [⟨some 3, .faddr 4 (.t 1), none⟩,
  ⟨some 4, .ld false 1 (.t 3), none⟩,
  ⟨some 5, .not (.t 4), none⟩])
 (.lv [1, 5] (.cond (.t 5) (.lv [] (.seq (.reg none [⟨some 6, .bsl 3 1 [.k (.int .i64 0)], none⟩,
  ⟨some 2, .mov (.t 6), none⟩])
 (.ret)))
 (.skip))))
 (.lv [1] (.seq (.reg none [⟨some 7, .faddr 0 (.t 1), none⟩,
  ⟨some 8, .ld false 1 (.t 7), none⟩,
  ⟨some 9, .callO 89 [.t 8], none⟩,
  ⟨some 2, .mov (.t 9), none⟩])
 (.ret)))))
def i53 : IFn := ⟨1, 10, c53, [.t 2], .pure⟩
def b55_0 : IR :=
 .seq (.reg none [⟨some 47, .bin .lt (.t 46) (.t 45), none⟩])
 (.lv [1, 4, 8, 45, 46, 47] (.seq (.cond (.t 47) (.skip)
 (.exit 1))
 (.lv [1, 4, 8, 45, 46] (.seq (.block 2 (.seq (.reg none [⟨some 48, .mov (.t 46), none⟩,
  ⟨some 9, .mov (.t 48), none⟩])
 (.lv [1, 4, 8, 9, 45, 46] (.reg none [⟨some 49, .mov (.t 8), none⟩,
  ⟨some 50, .mov (.t 9), none⟩,
  ⟨some 51, .mov (.t 1), none⟩,
  ⟨some 52, .mov (.t 9), none⟩,
  ⟨some 53, .bin .add (.t 51) (.t 52), none⟩,
  ⟨some 54, .iaddr 1 (.t 49) (.t 50), none⟩,
  ⟨none, .st 1 (.t 54) (.t 53), none⟩]))))
 (.lv [1, 4, 8, 45, 46] (.reg none [⟨some 55, .bin .add (.t 46) (.k (.int .i64 1)), none⟩,
  ⟨some 46, .mov (.t 55), none⟩]))))))
def k55_0 : IR :=
 .seq (.reg none [⟨some 56, .mov (.t 8), none⟩,
  ⟨some 57, .callF 34 [.t 56], none⟩,
  ⟨none, .st 5 (.t 4) (.t 57), none⟩,
  ⟨some 5, .mov (.k (.int .i64 0)), none⟩])
 (.ret)
def c55 : IR :=
 .seq (.reg none [⟨some 2, .box 31 5 (.t 0), none⟩,
  ⟨some 4, .alloc 31 [.nilsl 3 1, .bool false, .nilsl 21 1, .nilsl 57 3, .bool false], none⟩,
  ⟨some 5, .mov (.k (.int .i64 0)), none⟩])
 (.lv [1, 2, 4] (.seq (.seq (.reg none [⟨some 10, .ld true 5 (.t 2), none⟩,
  ⟨some 11, .callP 38 [.t 10], none⟩,
  ⟨some 12, .bin .gt (.t 11) (.k (.int .i64 1)), none⟩,
  ⟨some 13, .mov (.t 12), none⟩,
  ⟨some 14, .ld true 5 (.t 2), (some (13, false))⟩,
  ⟨some 15, .callP 23 [.t 14], (some (13, false))⟩,
  ⟨some 16, .bin .ne (.t 15) (.k (.int .i64 1)), (some (13, false))⟩,
  ⟨some 17, .pick (.t 13) (.k (.bool true)) (.t 16), none⟩])
 (.lv [1, 2, 4, 17] (.cond (.t 17) (.lv [4] (.seq (.reg none [⟨some 18, .build [.nilsl 3 1, .bool false, .nilsl 21 1, .nilsl 57 3, .bool false] [], none⟩,
  ⟨none, .st 5 (.t 4) (.t 18), none⟩,
  ⟨some 5, .mov (.k (.int .i64 23)), none⟩])
 (.ret)))
 (.skip))))
 (.lv [1, 2, 4] (.seq (.reg none [⟨some 20, .ld true 5 (.t 2), none⟩,
  ⟨some 21, .callO 22 [.t 20], none⟩,
  ⟨some 19, .mov (.t 21), none⟩,
  ⟨some 22, .ext (.t 19) 0, none⟩,
  ⟨some 23, .ext (.t 19) 1, none⟩,
  ⟨some 6, .mov (.t 22), none⟩,
  ⟨some 7, .mov (.t 23), none⟩])
 (.lv [1, 4, 6, 7] (.seq (.block 0 (.seq (.reg none [⟨some 25, .mov (.t 7), none⟩,
  ⟨some 26, .not (.t 25), none⟩,
  ⟨some 27, .mov (.t 26), none⟩,
  ⟨some 28, .mov (.t 6), (some (27, false))⟩,
  ⟨some 29, .iaddr 1 (.t 28) (.k (.int .i64 0)), (some (27, false))⟩,
  ⟨some 30, .ld false 1 (.t 29), (some (27, false))⟩,
  ⟨some 31, .bin .lt (.t 30) (.k (.int .i64 0)), (some (27, false))⟩,
  ⟨some 32, .pick (.t 27) (.k (.bool true)) (.t 31), none⟩,
  ⟨some 24, .mov (.t 32), none⟩])
 (.lv [1, 4, 6, 24] (.cond (.t 24) (.lv [4] (.seq (.reg none [⟨some 33, .build [.nilsl 3 1, .bool false, .nilsl 21 1, .nilsl 57 3, .bool false] [], none⟩,
  ⟨none, .st 5 (.t 4) (.t 33), none⟩,
  ⟨some 5, .mov (.k (.int .i64 22)), none⟩])
 (.ret)))
 (.lv [1, 4, 6] (.seq (.reg none [⟨some 35, .mov (.t 6), none⟩,
  ⟨some 36, .iaddr 1 (.t 35) (.k (.int .i64 0)), none⟩,
  ⟨some 37, .ld false 1 (.t 36), none⟩,
  ⟨some 38, .bin .gt (.t 37) (.k (.int .i64 4096)), none⟩,
  ⟨some 34, .mov (.t 38), none⟩])
 (.lv [1, 4, 6, 34] (.cond (.t 34) (.lv [4] (.seq (.reg none [⟨some 39, .build [.nilsl 3 1, .bool false, .nilsl 21 1, .nilsl 57 3, .bool false] [], none⟩,
  ⟨none, .st 5 (.t 4) (.t 39), none⟩,
  ⟨some 5, .mov (.k (.int .i64 26)), none⟩])
 (.ret)))
 (.skip)))))))))
 (.lv [1, 4, 6] (.seq (.reg none [⟨some 40, .mov (.t 6), none⟩,
  ⟨some 41, .iaddr 1 (.t 40) (.k (.int .i64 0)), none⟩,
  ⟨some 42, .ld false 1 (.t 41), none⟩,
  ⟨some 43, .mk 3 8 [.int .i64 0] (.t 42), none⟩,
  ⟨some 8, .mov (.t 43), none⟩])
 (.lv [1, 4, 8] (.seq (.seq (.reg none [⟨some 44, .mov (.t 8), none⟩,
  ⟨some 45, .len (.t 44), none⟩,
  ⟨some 46, .mov (.k (.int .i64 0)), none⟩])
 (.lv [1, 4, 8, 45, 46] (.block 1 (.loop [1, 4, 8, 45, 46] (some (7, [])) b55_0))))
 k55_0))))))))))
def i55 : IFn := ⟨2, 58, c55, [.c 4 true 5, .t 5], .pure⟩
def b56_0 : IR :=
 .seq (.seq (.reg none [⟨some 9, .mov (.t 4), none⟩,
  ⟨some 10, .mov (.t 0), none⟩,
  ⟨some 11, .lenf (.t 10), none⟩,
  ⟨some 12, .bin .lt (.t 9) (.t 11), none⟩])
 (.lv [0, 2, 3, 4, 12] (.cond (.t 12) (.skip)
 (.exit 0))))
 (.lv [0, 2, 3, 4] (.seq (.block 1 (.reg (some [0, 1, 2, 3, 4, 5, 6, 7, 8, 9, 10]) [⟨some 15, .faddr 3 (.t 3), none⟩,
  ⟨some 16, .ld false 1 (.t 15), none⟩,
  ⟨some 17, .mov (.t 0), none⟩,
  ⟨some 18, .mov (.t 4), none⟩,
  ⟨some 19, .iaddrf 1 (.t 17) (.t 18), none⟩,
  ⟨some 20, .ldf false 1 (.t 19), none⟩,
  ⟨some 21, .callP 36 [.t 20], none⟩,
  ⟨some 22, .bsl 66 3 [.t 21], none⟩,
  ⟨some 23, .app 66 3 40 (.t 16) (.t 22), none⟩,
  ⟨some 24, .faddr 3 (.t 3), none⟩,
  ⟨none, .st 1 (.t 24) (.t 23), none⟩]))
 (.lv [0, 2, 3, 4] (.reg none [⟨some 13, .mov (.t 4), none⟩,
  ⟨some 14, .bin .add (.t 13) (.k (.int .i64 1)), none⟩,
  ⟨some 4, .mov (.t 14), none⟩]))))
def k56_0 : IR :=
 .seq (.reg none [⟨some 25, .ld true 4 (.t 3), none⟩,
  ⟨none, .st 4 (.t 2) (.t 25), none⟩])
 (.ret)
def c56 : IR :=
 .seq (.reg none [⟨some 2, .alloc 26 [.nilsl 3 1, .bool false, .nilsl 21 1, .nilsl 66 3], none⟩])
 (.lv [0, 2] (.seq (.reg none [⟨some 5, .mov (.t 0), none⟩,
  ⟨some 6, .lenf (.t 5), none⟩,
  ⟨some 7, .bsl 3 1 [.t 6], none⟩,
  ⟨some 8, .build [.nilsl 3 1, .bool false, .nilsl 21 1, .nilsl 66 3] [(0, 1, .t 7)], none⟩,
  ⟨some 3, .alloc 26 [.nilsl 3 1, .bool false, .nilsl 21 1, .nilsl 66 3], none⟩,
  ⟨none, .st 4 (.t 3) (.t 8), none⟩])
 (.lv [0, 2, 3] (.seq (.seq (.reg none [⟨some 4, .mov (.k (.int .i64 0)), none⟩])
 (.lv [0, 2, 3, 4] (.block 0 (.loop [0, 2, 3, 4] (some (11, [])) b56_0))))
 k56_0))))
def i56 : IFn := ⟨1, 26, c56, [.c 2 true 4], .pure⟩
def b57_0 : IR :=
 .seq (.reg none [⟨some 11, .bin .lt (.t 10) (.t 9), none⟩])
 (.lv [1, 3, 9, 10, 11] (.seq (.cond (.t 11) (.skip)
 (.exit 0))
 (.lv [1, 3, 9, 10] (.seq (.block 1 (.seq (.reg none [⟨some 12, .mov (.t 10), none⟩,
  ⟨some 4, .mov (.t 12), none⟩])
 (.lv [1, 3, 4, 9, 10] (.reg none [⟨some 13, .mov (.t 3), none⟩,
  ⟨some 14, .mov (.t 4), none⟩,
  ⟨some 15, .mov (.t 4), none⟩,
  ⟨some 16, .iaddr 1 (.t 13) (.t 14), none⟩,
  ⟨none, .st 1 (.t 16) (.t 15), none⟩]))))
 (.lv [1, 3, 9, 10] (.reg none [⟨some 17, .bin .add (.t 10) (.k (.int .i64 1)), none⟩,
  ⟨some 10, .mov (.t 17), none⟩]))))))
def k57_0 : IR :=
 .seq (.reg none [⟨some 18, .mov (.t 3), none⟩,
  ⟨some 19, .mkfn 101 [.t 1], none⟩,
  ⟨some 20, .callM 58 [.t 18, .t 19], none⟩])
 (.lv [3] (.seq (.reg none [⟨some 21, .mov (.t 3), none⟩,
  ⟨some 2, .mov (.t 21), none⟩])
 (.ret)))
def c57 : IR :=
 .seq (.reg none [⟨some 1, .box 31 5 (.t 0), none⟩,
  ⟨some 2, .newnil 3 1, none⟩])
 (.lv [1] (.seq (.reg none [⟨some 5, .ld true 5 (.t 1), none⟩,
  ⟨some 6, .callP 23 [.t 5], none⟩,
  ⟨some 7, .mk 3 8 [.int .i64 0] (.t 6), none⟩,
  ⟨some 3, .mov (.t 7), none⟩])
 (.lv [1, 3] (.seq (.seq (.reg none [⟨some 8, .mov (.t 3), none⟩,
  ⟨some 9, .len (.t 8), none⟩,
  ⟨some 10, .mov (.k (.int .i64 0)), none⟩])
 (.lv [1, 3, 9, 10] (.block 0 (.loop [1, 3, 9, 10] (some (3, [])) b57_0))))
 k57_0))))
def i57 : IFn := ⟨1, 22, c57, [.t 2], .own⟩
def c58 : IR :=
 .reg none [⟨some 4, .mov (.t 0), none⟩,
  ⟨some 5, .mov (.t 0), none⟩,
  ⟨some 6, .len (.t 5), none⟩,
  ⟨some 7, .mov (.t 1), none⟩,
  ⟨some 8, .callM 102 [.t 4, .t 6, .t 7], none⟩]
def i58 : IFn := ⟨2, 9, c58, [], .ref⟩
def c59 : IR :=
 .seq (.reg none [⟨some 5, .mov (.k (.int .i64 0)), none⟩])
 (.lv [0, 1, 2] (.seq (.reg none [⟨some 6, .ldf true 5 (.t 2), none⟩,
  ⟨some 7, .mov (.t 1), none⟩,
  ⟨some 8, .ldf true 5 (.t 2), none⟩,
  ⟨some 9, .mov (.t 0), none⟩,
  ⟨some 10, .callP 61 [.t 6, .t 7, .t 8, .t 9], none⟩,
  ⟨some 11, .mov (.t 0), none⟩,
  ⟨some 12, .mov (.t 1), none⟩,
  ⟨some 13, .callP 62 [.t 11, .t 12], none⟩,
  ⟨some 14, .bsl 3 1 [.t 10, .t 13], none⟩,
  ⟨some 15, .callR 60 [.t 14], none⟩,
  ⟨some 5, .mov (.t 15), none⟩])
 (.ret)))
def i59 : IFn := ⟨3, 16, c59, [.t 5], .pure⟩
def b60_0 : IR :=
 .seq (.reg none [⟨some 9, .bin .lt (.t 8) (.t 7), none⟩])
 (.lv [3, 6, 7, 8, 9] (.seq (.cond (.t 9) (.skip)
 (.exit 0))
 (.lv [3, 6, 7, 8] (.seq (.block 1 (.seq (.reg none [⟨some 10, .iaddrf 1 (.t 6) (.t 8), none⟩,
  ⟨some 11, .ldf false 1 (.t 10), none⟩,
  ⟨some 5, .mov (.t 11), none⟩])
 (.lv [3, 5, 6, 7, 8] (.seq (.reg none [⟨some 12, .mov (.t 5), none⟩,
  ⟨some 13, .mov (.t 3), none⟩,
  ⟨some 14, .bin .ne (.t 12) (.t 13), none⟩])
 (.lv [3, 5, 6, 7, 8, 14] (.cond (.t 14) (.lv [5] (.seq (.reg none [⟨some 15, .mov (.t 5), none⟩,
  ⟨some 2, .mov (.t 15), none⟩])
 (.ret)))
 (.skip)))))))
 (.lv [3, 6, 7, 8] (.reg none [⟨some 16, .bin .add (.t 8) (.k (.int .i64 1)), none⟩,
  ⟨some 8, .mov (.t 16), none⟩]))))))
def k60_0 : IR :=
 .seq (.reg none [⟨some 17, .mov (.t 3), none⟩,
  ⟨some 2, .mov (.t 17), none⟩])
 (.ret)
def c60 : IR :=
 .seq (.reg none [⟨some 2, .mov (.k (.int .i64 0)), none⟩])
 (.lv [0] (.seq (.reg none [⟨some 3, .mov (.k (.int .i64 0)), none⟩])
 (.lv [0, 3] (.seq (.seq (.reg none [⟨some 6, .mov (.t 0), none⟩,
  ⟨some 7, .lenf (.t 6), none⟩,
  ⟨some 8, .mov (.k (.int .i64 0)), none⟩])
 (.lv [3, 6, 7, 8] (.block 0 (.loop [3, 6, 7, 8] (some (0, [])) b60_0))))
 k60_0))))
def i60 : IFn := ⟨1, 18, c60, [.t 2], .pure⟩
def c61 : IR :=
 .seq (.reg none [⟨some 4, .box 31 5 (.t 0), none⟩,
  ⟨some 6, .box 31 5 (.t 2), none⟩,
  ⟨some 8, .mov (.k (.int .i64 0)), none⟩])
 (.lv [1, 3, 4, 6] (.seq (.seq (.reg none [⟨some 9, .ld true 5 (.t 4), none⟩,
  ⟨some 10, .callP 39 [.t 9], none⟩])
 (.lv [1, 3, 4, 6, 10] (.cond (.t 10) (.lv [1, 3, 4, 6] (.seq (.reg (some [0, 1, 2, 3, 4, 5, 6, 7]) [⟨some 11, .ld true 5 (.t 4), none⟩,
  ⟨some 12, .mov (.t 1), none⟩,
  ⟨some 13, .callP 104 [.t 11, .t 12], none⟩,
  ⟨some 14, .ld true 5 (.t 6), none⟩,
  ⟨some 15, .mov (.t 3), none⟩,
  ⟨some 16, .callP 104 [.t 14, .t 15], none⟩,
  ⟨some 17, .callP 103 [.t 13, .t 16], none⟩,
  ⟨some 8, .mov (.t 17), none⟩])
 (.ret)))
 (.skip))))
 (.lv [1, 3, 4, 6] (.seq (.reg (some [0, 1, 2, 3, 4, 5, 6, 7]) [⟨some 18, .ld true 5 (.t 4), none⟩,
  ⟨some 19, .mov (.t 1), none⟩,
  ⟨some 20, .callP 24 [.t 18, .t 19], none⟩,
  ⟨some 21, .ld true 5 (.t 6), none⟩,
  ⟨some 22, .mov (.t 3), none⟩,
  ⟨some 23, .callP 24 [.t 21, .t 22], none⟩,
  ⟨some 24, .callP 25 [.t 20, .t 23], none⟩,
  ⟨some 8, .mov (.t 24), none⟩])
 (.ret)))))
def i61 : IFn := ⟨4, 25, c61, [.t 8], .pure⟩
def c62 : IR :=
 .seq (.reg none [⟨some 4, .mov (.k (.int .i64 0)), none⟩])
 (.lv [0, 1] (.seq (.reg none [⟨some 7, .mov (.t 0), none⟩,
  ⟨some 8, .callP 105 [.t 7], none⟩,
  ⟨some 5, .mov (.t 8), none⟩])
 (.lv [0, 1, 5] (.seq (.reg none [⟨some 9, .mov (.t 1), none⟩,
  ⟨some 10, .callP 105 [.t 9], none⟩,
  ⟨some 6, .mov (.t 10), none⟩])
 (.lv [0, 1, 5, 6] (.seq (.seq (.reg none [⟨some 11, .mov (.t 5), none⟩])
 (.lv [0, 1, 6, 11] (.cond (.t 11) (.lv [6] (.seq (.seq (.reg none [⟨some 12, .mov (.t 6), none⟩])
 (.lv [12] (.cond (.t 12) (.lv [] (.seq (.reg none [⟨some 4, .mov (.k (.int .i64 0)), none⟩])
 (.ret)))
 (.skip))))
 (.lv [] (.seq (.reg none [⟨some 4, .mov (.k (.int .i64 (-1))), none⟩])
 (.ret)))))
 (.skip))))
 (.lv [0, 1, 6] (.seq (.seq (.reg none [⟨some 13, .mov (.t 6), none⟩])
 (.lv [0, 1, 13] (.cond (.t 13) (.lv [] (.seq (.reg none [⟨some 4, .mov (.k (.int .i64 1)), none⟩])
 (.ret)))
 (.skip))))
 (.lv [0, 1] (.seq (.seq (.reg none [⟨some 14, .mov (.t 0), none⟩,
  ⟨some 15, .mov (.t 1), none⟩,
  ⟨some 16, .bin .lt (.t 14) (.t 15), none⟩])
 (.lv [0, 1, 16] (.cond (.t 16) (.lv [] (.seq (.reg none [⟨some 4, .mov (.k (.int .i64 (-1))), none⟩])
 (.ret)))
 (.skip))))
 (.lv [0, 1] (.seq (.seq (.reg none [⟨some 17, .mov (.t 0), none⟩,
  ⟨some 18, .mov (.t 1), none⟩,
  ⟨some 19, .bin .gt (.t 17) (.t 18), none⟩])
 (.lv [19] (.cond (.t 19) (.lv [] (.seq (.reg none [⟨some 4, .mov (.k (.int .i64 1)), none⟩])
 (.ret)))
 (.skip))))
 (.lv [] (.seq (.reg none [⟨some 4, .mov (.k (.int .i64 0)), none⟩])
 (.ret)))))))))))))))
def i62 : IFn := ⟨2, 20, c62, [.t 4], .pure⟩
def c63 : IR :=
 .seq (.reg none [⟨some 1, .box 26 4 (.t 0), none⟩,
  ⟨some 2, .mov (.k (.int .i64 0)), none⟩])
 (.lv [1] (.seq (.reg none [⟨some 3, .faddr 2 (.t 1), none⟩,
  ⟨some 4, .ld false 1 (.t 3), none⟩,
  ⟨some 5, .lenf (.t 4), none⟩,
  ⟨some 6, .faddr 3 (.t 1), none⟩,
  ⟨some 7, .ld false 1 (.t 6), none⟩,
  ⟨some 8, .lenf (.t 7), none⟩,
  ⟨some 9, .bin .add (.t 5) (.t 8), none⟩,
  ⟨some 2, .mov (.t 9), none⟩])
 (.ret)))
def i63 : IFn := ⟨1, 10, c63, [.t 2], .pure⟩
def c65 : IR :=
 .seq (.reg none [⟨some 1, .box 57 3 (.t 0), none⟩,
  ⟨some 2, .mov (.k (.int .i64 0)), none⟩,
  ⟨some 3, .mov (.k (.bool false)), none⟩])
 (.lv [1] (.seq (.seq (.reg none [⟨some 4, .ld true 3 (.t 1), none⟩,
  ⟨some 5, .callP 107 [.t 4], none⟩,
  ⟨some 6, .not (.t 5), none⟩])
 (.lv [1, 6] (.cond (.t 6) (.lv [] (.seq (.reg none [⟨some 2, .mov (.k (.int .i64 0)), none⟩,
  ⟨some 3, .mov (.k (.bool false)), none⟩])
 (.ret)))
 (.skip))))
 (.lv [1] (.seq (.reg none [⟨some 7, .faddr 0 (.t 1), none⟩,
  ⟨some 8, .ld true 2 (.t 7), none⟩,
  ⟨some 9, .callP 108 [.t 8], none⟩,
  ⟨some 10, .ext (.t 9) 0, none⟩,
  ⟨some 11, .ext (.t 9) 1, none⟩,
  ⟨some 2, .mov (.t 10), none⟩,
  ⟨some 3, .mov (.t 11), none⟩])
 (.ret)))))
def i65 : IFn := ⟨1, 12, c65, [.t 2, .t 3], .pure⟩
def b66_0 : IR :=
 .seq (.reg none [⟨some 10, .bin .lt (.t 9) (.t 8), none⟩])
 (.lv [2, 4, 7, 8, 9, 10] (.seq (.cond (.t 10) (.skip)
 (.exit 0))
 (.lv [2, 4, 7, 8, 9] (.seq (.block 1 (.seq (.reg none [⟨some 11, .iaddrf 2 (.t 7) (.t 9), none⟩,
  ⟨some 12, .ldf true 2 (.t 11), none⟩,
  ⟨some 6, .alloc 55 [.nilsl 162 1, .bool false], none⟩,
  ⟨none, .st 2 (.t 6) (.t 12), none⟩])
 (.lv [2, 4, 6, 7, 8, 9] (.reg (some [0, 1, 2, 3, 4, 5, 6, 7, 8, 9, 10, 11]) [⟨some 13, .faddr 1 (.t 2), none⟩,
  ⟨some 14, .ld false 1 (.t 13), none⟩,
  ⟨some 15, .faddr 1 (.t 6), none⟩,
  ⟨some 16, .ld false 1 (.t 15), none⟩,
  ⟨some 17, .binb .ne (.t 14) (.t 16), none⟩,
  ⟨some 18, .faddr 0 (.t 2), none⟩,
  ⟨some 19, .ld true 1 (.t 18), none⟩,
  ⟨some 20, .faddr 0 (.t 6), none⟩,
  ⟨some 21, .ld true 1 (.t 20), none⟩,
  ⟨some 22, .callF 110 [.t 19, .t 21], none⟩,
  ⟨some 23, .callP 109 [.t 17, .t 22], none⟩,
  ⟨none, .st 2 (.t 2) (.t 23), none⟩]))))
 (.lv [2, 4, 7, 8, 9] (.reg none [⟨some 24, .bin .add (.t 9) (.k (.int .i64 1)), none⟩,
  ⟨some 9, .mov (.t 24), none⟩]))))))
def k66_0 : IR :=
 .seq (.reg none [⟨some 25, .ld true 2 (.t 2), none⟩,
  ⟨none, .st 2 (.t 4) (.t 25), none⟩])
 (.ret)
def c66 : IR :=
 .seq (.reg none [⟨some 2, .box 55 2 (.t 0), none⟩,
  ⟨some 4, .alloc 55 [.nilsl 162 1, .bool false], none⟩])
 (.lv [1, 2, 4] (.seq (.seq (.reg none [⟨some 7, .mov (.t 1), none⟩,
  ⟨some 8, .lenf (.t 7), none⟩,
  ⟨some 9, .mov (.k (.int .i64 0)), none⟩])
 (.lv [2, 4, 7, 8, 9] (.block 0 (.loop [2, 4, 7, 8, 9] (some (3, [])) b66_0))))
 k66_0))
def i66 : IFn := ⟨2, 26, c66, [.c 4 true 2], .pure⟩
def c67 : IR :=
 .seq (.reg none [⟨some 1, .box 57 3 (.t 0), none⟩,
  ⟨some 2, .alloc 55 [.nilsl 162 1, .bool false], none⟩])
 (.lv [1, 2] (.seq (.reg none [⟨some 3, .ld true 3 (.t 1), none⟩,
  ⟨some 4, .callP 111 [.t 3], none⟩,
  ⟨some 5, .callP 109 [.k (.bool false), .t 4], none⟩,
  ⟨none, .st 2 (.t 2) (.t 5), none⟩])
 (.ret)))
def i67 : IFn := ⟨1, 6, c67, [.c 2 true 2], .pure⟩
def c68 : IR :=
 .seq (.reg none [⟨some 2, .box 55 2 (.t 0), none⟩,
  ⟨some 3, .box 55 2 (.t 1), none⟩,
  ⟨some 4, .mov (.k (.int .i64 0)), none⟩])
 (.lv [2, 3] (.seq (.block 0 (.seq (.reg none [⟨some 6, .faddr 1 (.t 2), none⟩,
  ⟨some 7, .ld false 1 (.t 6), none⟩,
  ⟨some 8, .mov (.t 7), none⟩,
  ⟨some 9, .faddr 1 (.t 3), (some (8, true))⟩,
  ⟨some 10, .ld false 1 (.t 9), (some (8, true))⟩,
  ⟨some 11, .not (.t 10), (some (8, true))⟩,
  ⟨some 12, .pick (.t 8) (.t 11) (.k (.bool false)), none⟩,
  ⟨some 5, .mov (.t 12), none⟩])
 (.lv [2, 3, 5] (.cond (.t 5) (.lv [] (.seq (.reg none [⟨some 4, .mov (.k (.int .i64 (-1))), none⟩])
 (.ret)))
 (.lv [2, 3] (.seq (.reg none [⟨some 14, .faddr 1 (.t 2), none⟩,
  ⟨some 15, .ld false 1 (.t 14), none⟩,
  ⟨some 16, .not (.t 15), none⟩,
  ⟨some 17, .mov (.t 16), none⟩,
  ⟨some 18, .faddr 1 (.t 3), (some (17, true))⟩,
  ⟨some 19, .ld false 1 (.t 18), (some (17, true))⟩,
  ⟨some 20, .pick (.t 17) (.t 19) (.k (.bool false)), none⟩,
  ⟨some 13, .mov (.t 20), none⟩])
 (.lv [2, 3, 13] (.cond (.t 13) (.lv [] (.seq (.reg none [⟨some 4, .mov (.k (.int .i64 1)), none⟩])
 (.ret)))
 (.lv [2, 3] (.seq (.reg none [⟨some 22, .faddr 1 (.t 2), none⟩,
  ⟨some 23, .ld false 1 (.t 22), none⟩,
  ⟨some 21, .mov (.t 23), none⟩])
 (.lv [2, 3, 21] (.cond (.t 21) (.lv [2, 3] (.seq (.reg none [⟨some 24, .faddr 0 (.t 3), none⟩,
  ⟨some 25, .ld true 1 (.t 24), none⟩,
  ⟨some 26, .faddr 0 (.t 2), none⟩,
  ⟨some 27, .ld true 1 (.t 26), none⟩,
  ⟨some 28, .callP 112 [.t 25, .t 27], none⟩,
  ⟨some 4, .mov (.t 28), none⟩])
 (.ret)))
 (.skip)))))))))))))
 (.lv [2, 3] (.seq (.reg none [⟨some 29, .faddr 0 (.t 2), none⟩,
  ⟨some 30, .ld true 1 (.t 29), none⟩,
  ⟨some 31, .faddr 0 (.t 3), none⟩,
  ⟨some 32, .ld true 1 (.t 31), none⟩,
  ⟨some 33, .callP 112 [.t 30, .t 32], none⟩,
  ⟨some 4, .mov (.t 33), none⟩])
 (.ret)))))
def i68 : IFn := ⟨2, 34, c68, [.t 4], .pure⟩
def b69_0 : IR :=
 .seq (.reg none [⟨some 22, .bin .lt (.t 21) (.t 20), none⟩])
 (.lv [2, 5, 20, 21, 22] (.seq (.cond (.t 22) (.skip)
 (.exit 0))
 (.lv [2, 5, 20, 21] (.seq (.block 1 (.seq (.reg none [⟨some 23, .mov (.t 21), none⟩,
  ⟨some 6, .mov (.t 23), none⟩])
 (.lv [2, 5, 6, 20, 21] (.reg none [⟨some 24, .mov (.t 5), none⟩,
  ⟨some 25, .mov (.t 6), none⟩,
  ⟨some 26, .ld true 5 (.t 2), none⟩,
  ⟨some 27, .callP 23 [.t 26], none⟩,
  ⟨some 28, .iaddr 1 (.t 24) (.t 25), none⟩,
  ⟨none, .st 1 (.t 28) (.t 27), none⟩]))))
 (.lv [2, 5, 20, 21] (.reg none [⟨some 29, .bin .add (.t 21) (.k (.int .i64 1)), none⟩,
  ⟨some 21, .mov (.t 29), none⟩]))))))
def k69_0 : IR :=
 .seq (.reg none [⟨some 30, .mov (.t 5), none⟩,
  ⟨some 4, .mov (.t 30), none⟩])
 (.ret)
def b69_1 : IR :=
 .seq (.reg none [⟨some 36, .bin .lt (.t 35) (.t 34), none⟩])
 (.lv [2, 3, 5, 7, 34, 35, 36] (.seq (.cond (.t 36) (.skip)
 (.exit 2))
 (.lv [2, 3, 5, 7, 34, 35] (.seq (.block 3 (.seq (.reg none [⟨some 37, .mov (.t 35), none⟩,
  ⟨some 8, .mov (.t 37), none⟩])
 (.lv [2, 3, 5, 7, 8, 34, 35] (.seq (.reg none [⟨some 39, .mov (.t 7), none⟩,
  ⟨some 40, .mov (.t 8), none⟩,
  ⟨some 41, .mkfn 114 [.t 2, .t 3], none⟩,
  ⟨some 42, .callR 113 [.t 39, .t 40, .t 41], none⟩,
  ⟨some 38, .mov (.t 42), none⟩,
  ⟨some 43, .ext (.t 38) 0, none⟩,
  ⟨some 44, .ext (.t 38) 1, none⟩,
  ⟨some 9, .mov (.t 43), none⟩,
  ⟨some 10, .mov (.t 44), none⟩])
 (.lv [2, 3, 5, 7, 8, 9, 10, 34, 35] (.seq (.reg none [⟨some 45, .mov (.t 5), none⟩,
  ⟨some 46, .mov (.t 8), none⟩,
  ⟨some 47, .ld true 5 (.t 2), none⟩,
  ⟨some 48, .callP 23 [.t 47], none⟩,
  ⟨some 49, .iaddr 1 (.t 45) (.t 46), none⟩,
  ⟨none, .st 1 (.t 49) (.t 48), none⟩])
 (.lv [2, 3, 5, 7, 8, 9, 10, 34, 35] (.seq (.reg none [⟨some 50, .mov (.t 10), none⟩])
 (.lv [2, 3, 5, 7, 8, 9, 34, 35, 50] (.cond (.t 50) (.lv [2, 3, 5, 7, 8, 9, 34, 35] (.reg none [⟨some 51, .mov (.t 5), none⟩,
  ⟨some 52, .mov (.t 8), none⟩,
  ⟨some 53, .mov (.t 7), none⟩,
  ⟨some 54, .mov (.t 9), none⟩,
  ⟨some 55, .iaddr 1 (.t 53) (.t 54), none⟩,
  ⟨some 56, .ld false 1 (.t 55), none⟩,
  ⟨some 57, .iaddr 1 (.t 51) (.t 52), none⟩,
  ⟨none, .st 1 (.t 57) (.t 56), none⟩]))
 (.skip)))))))))))
 (.lv [2, 3, 5, 7, 34, 35] (.reg none [⟨some 58, .bin .add (.t 35) (.k (.int .i64 1)), none⟩,
  ⟨some 35, .mov (.t 58), none⟩]))))))
def k69_1 : IR :=
 .seq (.reg none [⟨some 59, .mov (.t 5), none⟩,
  ⟨some 4, .mov (.t 59), none⟩])
 (.ret)
def k69_2 : IR :=
 .seq (.reg none [⟨some 31, .ld true 5 (.t 2), none⟩,
  ⟨some 32, .callO 57 [.t 31], none⟩,
  ⟨some 7, .mov (.t 32), none⟩])
 (.lv [2, 3, 5, 7] (.seq (.seq (.reg none [⟨some 33, .mov (.t 5), none⟩,
  ⟨some 34, .len (.t 33), none⟩,
  ⟨some 35, .mov (.k (.int .i64 0)), none⟩])
 (.lv [2, 3, 5, 7, 34, 35] (.block 2 (.loop [2, 3, 5, 7, 34, 35] (some (5, [])) b69_1))))
 k69_1))
def c69 : IR :=
 .seq (.reg none [⟨some 2, .box 31 5 (.t 0), none⟩,
  ⟨some 3, .box 31 5 (.t 1), none⟩,
  ⟨some 4, .newnil 3 1, none⟩])
 (.lv [2, 3] (.seq (.reg none [⟨some 11, .ld true 5 (.t 3), none⟩,
  ⟨some 12, .callP 23 [.t 11], none⟩,
  ⟨some 13, .mk 3 8 [.int .i64 0] (.t 12), none⟩,
  ⟨some 5, .mov (.t 13), none⟩])
 (.lv [2, 3, 5] (.seq (.seq (.reg (some [0, 1, 2, 3, 4]) [⟨some 14, .ld true 5 (.t 2), none⟩,
  ⟨some 15, .callP 39 [.t 14], none⟩,
  ⟨some 16, .ld true 5 (.t 3), none⟩,
  ⟨some 17, .callP 39 [.t 16], none⟩,
  ⟨some 18, .binb .ne (.t 15) (.t 17), none⟩])
 (.lv [2, 3, 5, 18] (.cond (.t 18) (.lv [2, 5] (.seq (.seq (.reg none [⟨some 19, .mov (.t 5), none⟩,
  ⟨some 20, .len (.t 19), none⟩,
  ⟨some 21, .mov (.k (.int .i64 0)), none⟩])
 (.lv [2, 5, 20, 21] (.block 0 (.loop [2, 5, 20, 21] (some (4, [])) b69_0))))
 k69_0))
 (.skip))))
 k69_2))))
def i69 : IFn := ⟨2, 60, c69, [.t 4], .own⟩
def b70_0 : IR :=
 .seq (.reg none [⟨some 18, .bin .lt (.t 17) (.t 16), none⟩])
 (.lv [0, 4, 5, 6, 16, 17, 18] (.seq (.cond (.t 18) (.skip)
 (.exit 0))
 (.lv [0, 4, 5, 6, 16, 17] (.seq (.block 1 (.seq (.reg none [⟨some 19, .mov (.t 17), none⟩,
  ⟨some 7, .mov (.t 19), none⟩])
 (.lv [0, 4, 5, 6, 7, 16, 17] (.reg none [⟨some 20, .mov (.t 6), none⟩,
  ⟨some 21, .mov (.t 7), none⟩,
  ⟨some 22, .mov (.t 7), none⟩,
  ⟨some 23, .iaddr 1 (.t 20) (.t 21), none⟩,
  ⟨none, .st 1 (.t 23) (.t 22), none⟩]))))
 (.lv [0, 4, 5, 6, 16, 17] (.reg none [⟨some 24, .bin .add (.t 17) (.k (.int .i64 1)), none⟩,
  ⟨some 17, .mov (.t 24), none⟩]))))))
def k70_0 : IR :=
 .seq (.reg none [⟨some 26, .ld true 5 (.t 5), none⟩,
  ⟨some 27, .mov (.t 0), none⟩,
  ⟨some 28, .mov (.t 6), none⟩,
  ⟨some 29, .callF 115 [.t 26, .t 27, .t 28], none⟩,
  ⟨some 25, .mov (.t 29), none⟩,
  ⟨some 30, .ext (.t 25) 0, none⟩,
  ⟨some 31, .ext (.t 25) 1, none⟩,
  ⟨some 8, .alloc 31 [.nilsl 3 1, .bool false, .nilsl 21 1, .nilsl 57 3, .bool false], none⟩,
  ⟨none, .st 5 (.t 8) (.t 30), none⟩,
  ⟨some 9, .mov (.t 31), none⟩])
 (.lv [4, 8] (.seq (.reg none [⟨some 32, .ld true 5 (.t 8), none⟩,
  ⟨none, .st 5 (.t 4) (.t 32), none⟩])
 (.ret)))
def c70 : IR :=
 .seq (.reg none [⟨some 4, .alloc 31 [.nilsl 3 1, .bool false, .nilsl 21 1, .nilsl 57 3, .bool false], none⟩])
 (.lv [0, 1, 4] (.seq (.reg none [⟨some 10, .mov (.t 1), none⟩,
  ⟨some 11, .callP 34 [.t 10], none⟩,
  ⟨some 5, .alloc 31 [.nilsl 3 1, .bool false, .nilsl 21 1, .nilsl 57 3, .bool false], none⟩,
  ⟨none, .st 5 (.t 5) (.t 11), none⟩])
 (.lv [0, 1, 4, 5] (.seq (.reg none [⟨some 12, .mov (.t 1), none⟩,
  ⟨some 13, .lenf (.t 12), none⟩,
  ⟨some 14, .mk 3 8 [.int .i64 0] (.t 13), none⟩,
  ⟨some 6, .mov (.t 14), none⟩])
 (.lv [0, 4, 5, 6] (.seq (.seq (.reg none [⟨some 15, .mov (.t 6), none⟩,
  ⟨some 16, .len (.t 15), none⟩,
  ⟨some 17, .mov (.k (.int .i64 0)), none⟩])
 (.lv [0, 4, 5, 6, 16, 17] (.block 0 (.loop [0, 4, 5, 6, 16, 17] (some (9, [])) b70_0))))
 k70_0))))))
def i70 : IFn := ⟨2, 33, c70, [.c 4 true 5], .pure⟩
def b71_0 : IR :=
 .seq (.seq (.reg none [⟨some 8, .mov (.t 7), none⟩,
  ⟨some 9, .ld true 4 (.t 3), none⟩,
  ⟨some 10, .callP 63 [.t 9], none⟩,
  ⟨some 11, .bin .lt (.t 8) (.t 10), none⟩])
 (.lv [2, 3, 4, 7, 11] (.cond (.t 11) (.skip)
 (.exit 0))))
 (.lv [2, 3, 4, 7] (.seq (.block 1 (.seq (.reg none [⟨some 14, .ld true 4 (.t 3), none⟩,
  ⟨some 15, .mov (.t 7), none⟩,
  ⟨some 16, .ld true 4 (.t 4), none⟩,
  ⟨some 17, .mov (.t 2), none⟩,
  ⟨some 18, .callP 116 [.t 14, .t 15, .t 16, .t 17], none⟩])
 (.lv [2, 3, 4, 7, 18] (.cond (.t 18) (.lv [7] (.seq (.reg none [⟨some 19, .mov (.t 7), none⟩,
  ⟨some 6, .mov (.t 19), none⟩])
 (.ret)))
 (.skip)))))
 (.lv [2, 3, 4, 7] (.reg none [⟨some 12, .mov (.t 7), none⟩,
  ⟨some 13, .bin .add (.t 12) (.k (.int .i64 1)), none⟩,
  ⟨some 7, .mov (.t 13), none⟩]))))
def k71_0 : IR :=
 .seq (.reg none [⟨some 20, .ld true 4 (.t 3), none⟩,
  ⟨some 21, .callP 63 [.t 20], none⟩,
  ⟨some 6, .mov (.t 21), none⟩])
 (.ret)
def c71 : IR :=
 .seq (.reg none [⟨some 3, .box 26 4 (.t 0), none⟩,
  ⟨some 4, .box 26 4 (.t 1), none⟩,
  ⟨some 6, .mov (.k (.int .i64 0)), none⟩])
 (.lv [2, 3, 4] (.seq (.seq (.reg none [⟨some 7, .mov (.k (.int .i64 0)), none⟩])
 (.lv [2, 3, 4, 7] (.block 0 (.loop [2, 3, 4, 7] (some (2, [])) b71_0))))
 k71_0))
def i71 : IFn := ⟨3, 22, c71, [.t 6], .pure⟩
def b72_0 : IR :=
 .seq (.seq (.reg none [⟨some 11, .mov (.t 5), none⟩,
  ⟨some 12, .mov (.t 0), none⟩,
  ⟨some 13, .lenf (.t 12), none⟩,
  ⟨some 14, .bin .lt (.t 11) (.t 13), none⟩])
 (.lv [0, 1, 5, 14] (.cond (.t 14) (.skip)
 (.exit 0))))
 (.lv [0, 1, 5] (.seq (.block 1 (.seq (.reg (some [0, 1, 2, 3, 4, 5, 6, 7, 8]) [⟨some 17, .mov (.t 0), none⟩,
  ⟨some 18, .mov (.t 5), none⟩,
  ⟨some 19, .iaddrf 1 (.t 17) (.t 18), none⟩,
  ⟨some 20, .ldf false 1 (.t 19), none⟩,
  ⟨some 21, .mov (.t 1), none⟩,
  ⟨some 22, .mov (.t 5), none⟩,
  ⟨some 23, .iaddrf 1 (.t 21) (.t 22), none⟩,
  ⟨some 24, .ldf false 1 (.t 23), none⟩,
  ⟨some 25, .bin .ne (.t 20) (.t 24), none⟩])
 (.lv [0, 1, 5, 25] (.cond (.t 25) (.lv [] (.seq (.reg none [⟨some 4, .mov (.k (.bool false)), none⟩])
 (.ret)))
 (.skip)))))
 (.lv [0, 1, 5] (.reg none [⟨some 15, .mov (.t 5), none⟩,
  ⟨some 16, .bin .add (.t 15) (.k (.int .i64 1)), none⟩,
  ⟨some 5, .mov (.t 16), none⟩]))))
def k72_0 : IR :=
 .seq (.reg none [⟨some 4, .mov (.k (.bool true)), none⟩])
 (.ret)
def c72 : IR :=
 .seq (.reg none [⟨some 4, .mov (.k (.bool false)), none⟩])
 (.lv [0, 1] (.seq (.seq (.reg none [⟨some 6, .mov (.t 0), none⟩,
  ⟨some 7, .lenf (.t 6), none⟩,
  ⟨some 8, .mov (.t 1), none⟩,
  ⟨some 9, .lenf (.t 8), none⟩,
  ⟨some 10, .bin .ne (.t 7) (.t 9), none⟩])
 (.lv [0, 1, 10] (.cond (.t 10) (.lv [] (.seq (.reg none [⟨some 4, .mov (.k (.bool false)), none⟩])
 (.ret)))
 (.skip))))
 (.lv [0, 1] (.seq (.seq (.reg none [⟨some 5, .mov (.k (.int .i64 0)), none⟩])
 (.lv [0, 1, 5] (.block 0 (.loop [0, 1, 5] (some (0, [])) b72_0))))
 k72_0))))
def i72 : IFn := ⟨2, 26, c72, [.t 4], .pure⟩
def b73_0 : IR :=
 .seq (.seq (.reg none [⟨some 11, .mov (.t 5), none⟩,
  ⟨some 12, .mov (.t 0), none⟩,
  ⟨some 13, .lenf (.t 12), none⟩,
  ⟨some 14, .bin .lt (.t 11) (.t 13), none⟩])
 (.lv [0, 1, 5, 14] (.cond (.t 14) (.skip)
 (.exit 0))))
 (.lv [0, 1, 5] (.seq (.block 1 (.seq (.reg (some [0, 1, 2, 3, 4, 5, 6, 7, 8]) [⟨some 17, .mov (.t 0), none⟩,
  ⟨some 18, .mov (.t 5), none⟩,
  ⟨some 19, .iaddrf 1 (.t 17) (.t 18), none⟩,
  ⟨some 20, .ldf false 1 (.t 19), none⟩,
  ⟨some 21, .mov (.t 1), none⟩,
  ⟨some 22, .mov (.t 5), none⟩,
  ⟨some 23, .iaddrf 1 (.t 21) (.t 22), none⟩,
  ⟨some 24, .ldf false 1 (.t 23), none⟩,
  ⟨some 25, .bin .ne (.t 20) (.t 24), none⟩])
 (.lv [0, 1, 5, 25] (.cond (.t 25) (.lv [] (.seq (.reg none [⟨some 4, .mov (.k (.bool false)), none⟩])
 (.ret)))
 (.skip)))))
 (.lv [0, 1, 5] (.reg none [⟨some 15, .mov (.t 5), none⟩,
  ⟨some 16, .bin .add (.t 15) (.k (.int .i64 1)), none⟩,
  ⟨some 5, .mov (.t 16), none⟩]))))
def k73_0 : IR :=
 .seq (.reg none [⟨some 4, .mov (.k (.bool true)), none⟩])
 (.ret)
def c73 : IR :=
 .seq (.reg none [⟨some 4, .mov (.k (.bool false)), none⟩])
 (.lv [0, 1] (.seq (.seq (.reg none [⟨some 6, .mov (.t 0), none⟩,
  ⟨some 7, .lenf (.t 6), none⟩,
  ⟨some 8, .mov (.t 1), none⟩,
  ⟨some 9, .lenf (.t 8), none⟩,
  ⟨some 10, .bin .ne (.t 7) (.t 9), none⟩])
 (.lv [0, 1, 10] (.cond (.t 10) (.lv [] (.seq (.reg none [⟨some 4, .mov (.k (.bool false)), none⟩])
 (.ret)))
 (.skip))))
 (.lv [0, 1] (.seq (.seq (.reg none [⟨some 5, .mov (.k (.int .i64 0)), none⟩])
 (.lv [0, 1, 5] (.block 0 (.loop [0, 1, 5] (some (0, [])) b73_0))))
 k73_0))))
def i73 : IFn := ⟨2, 26, c73, [.t 4], .pure⟩
def c74 : IR :=
 .seq (.reg none [⟨some 1, .box 31 5 (.t 0), none⟩,
  ⟨some 2, .newnil 21 1, none⟩])
 (.lv [1] (.seq (.reg none [⟨some 3, .faddr 2 (.t 1), none⟩,
  ⟨some 4, .ld false 1 (.t 3), none⟩,
  ⟨some 5, .callO 90 [.t 4], none⟩,
  ⟨some 2, .mov (.t 5), none⟩])
 (.ret)))
def i74 : IFn := ⟨1, 6, c74, [.t 2], .own⟩
def c75 : IR :=
 .seq (.reg none [⟨some 1, .box 57 3 (.t 0), none⟩,
  ⟨some 2, .alloc 66 [.bool false, .str ⟨#[]⟩, .str ⟨#[]⟩], none⟩])
 (.lv [1, 2] (.seq (.reg (some [0, 1, 2, 3, 4, 5, 6, 7, 8, 9, 10, 11]) [⟨some 3, .faddr 0 (.t 1), none⟩,
  ⟨some 4, .ld true 2 (.t 3), none⟩,
  ⟨some 5, .callP 117 [.t 4], none⟩,
  ⟨some 6, .faddr 0 (.t 1), none⟩,
  ⟨some 7, .faddr 0 (.t 6), none⟩,
  ⟨some 8, .ld true 1 (.t 7), none⟩,
  ⟨some 9, .callP 118 [.t 8], none⟩,
  ⟨some 10, .ld true 3 (.t 1), none⟩,
  ⟨some 11, .callP 111 [.t 10], none⟩,
  ⟨some 12, .callP 118 [.t 11], none⟩,
  ⟨some 13, .build [.bool false, .str ⟨#[]⟩, .str ⟨#[]⟩] [(0, 1, .t 5), (1, 1, .t 9), (2, 1, .t 12)], none⟩,
  ⟨none, .st 3 (.t 2) (.t 13), none⟩])
 (.ret)))
def i75 : IFn := ⟨1, 14, c75, [.c 2 true 3], .pure⟩
def b76_0 : IR :=
 .seq (.seq (.reg none [⟨some 49, .mov (.t 5), none⟩,
  ⟨some 50, .faddr 3 (.t 1), none⟩,
  ⟨some 51, .ld false 1 (.t 50), none⟩,
  ⟨some 52, .lenf (.t 51), none⟩,
  ⟨some 53, .bin .lt (.t 49) (.t 52), none⟩])
 (.lv [1, 5, 53] (.cond (.t 53) (.skip)
 (.exit 0))))
 (.lv [1, 5] (.seq (.block 1 (.seq (.reg none [⟨some 56, .faddr 3 (.t 1), none⟩,
  ⟨some 57, .ld false 1 (.t 56), none⟩,
  ⟨some 58, .mov (.t 5), none⟩,
  ⟨some 59, .iaddrf 3 (.t 57) (.t 58), none⟩,
  ⟨some 60, .ldf true 3 (.t 59), none⟩,
  ⟨some 61, .callP 120 [.t 60], none⟩,
  ⟨some 62, .not (.t 61), none⟩])
 (.lv [1, 5, 62] (.cond (.t 62) (.lv [] (.seq (.reg none [⟨some 2, .mov (.k (.bool false)), none⟩])
 (.ret)))
 (.skip)))))
 (.lv [1, 5] (.reg none [⟨some 54, .mov (.t 5), none⟩,
  ⟨some 55, .bin .add (.t 54) (.k (.int .i64 1)), none⟩,
  ⟨some 5, .mov (.t 55), none⟩]))))
def k76_0 : IR :=
 .seq (.reg none [⟨some 2, .mov (.k (.bool true)), none⟩])
 (.ret)
def c76 : IR :=
 .seq (.reg none [⟨some 1, .box 26 4 (.t 0), none⟩,
  ⟨some 2, .mov (.k (.bool false)), none⟩])
 (.lv [1] (.seq (.reg none [⟨some 7, .faddr 0 (.t 1), none⟩,
  ⟨some 8, .ld false 1 (.t 7), none⟩,
  ⟨some 9, .callP 119 [.t 8], none⟩,
  ⟨some 6, .mov (.t 9), none⟩,
  ⟨some 10, .ext (.t 6) 0, none⟩,
  ⟨some 11, .ext (.t 6) 1, none⟩,
  ⟨some 3, .mov (.t 10), none⟩,
  ⟨some 4, .mov (.t 11), none⟩])
 (.lv [1, 3, 4] (.seq (.seq (.reg none [⟨some 12, .mov (.t 4), none⟩,
  ⟨some 13, .not (.t 12), none⟩,
  ⟨some 14, .mov (.t 13), none⟩,
  ⟨some 15, .faddr 1 (.t 1), (some (14, false))⟩,
  ⟨some 16, .ld false 1 (.t 15), (some (14, false))⟩,
  ⟨some 17, .mov (.t 16), (some (14, false))⟩,
  ⟨some 18, .faddr 2 (.t 1), (some (17, true))⟩,
  ⟨some 19, .ld false 1 (.t 18), (some (17, true))⟩,
  ⟨some 20, .lenf (.t 19), (some (17, true))⟩,
  ⟨some 21, .mov (.t 3), (some (17, true))⟩,
  ⟨some 22, .bin .ne (.t 20) (.t 21), (some (17, true))⟩,
  ⟨some 23, .mov (.t 22), (some (17, true))⟩,
  ⟨some 24, .faddr 3 (.t 1), (some (23, false))⟩,
  ⟨some 25, .ld false 1 (.t 24), (some (23, false))⟩,
  ⟨some 26, .lenf (.t 25), (some (23, false))⟩,
  ⟨some 27, .bin .ne (.t 26) (.k (.int .i64 0)), (some (23, false))⟩,
  ⟨some 28, .pick (.t 23) (.k (.bool true)) (.t 27), (some (17, true))⟩,
  ⟨some 29, .pick (.t 17) (.t 28) (.k (.bool false)), (some (14, false))⟩,
  ⟨some 30, .pick (.t 14) (.k (.bool true)) (.t 29), none⟩,
  ⟨some 31, .mov (.t 30), none⟩,
  ⟨some 32, .faddr 1 (.t 1), (some (31, false))⟩,
  ⟨some 33, .ld false 1 (.t 32), (some (31, false))⟩,
  ⟨some 34, .not (.t 33), (some (31, false))⟩,
  ⟨some 35, .mov (.t 34), (some (31, false))⟩,
  ⟨some 36, .faddr 3 (.t 1), (some (35, true))⟩,
  ⟨some 37, .ld false 1 (.t 36), (some (35, true))⟩,
  ⟨some 38, .lenf (.t 37), (some (35, true))⟩,
  ⟨some 39, .mov (.t 3), (some (35, true))⟩,
  ⟨some 40, .bin .ne (.t 38) (.t 39), (some (35, true))⟩,
  ⟨some 41, .mov (.t 40), (some (35, true))⟩,
  ⟨some 42, .faddr 2 (.t 1), (some (41, false))⟩,
  ⟨some 43, .ld false 1 (.t 42), (some (41, false))⟩,
  ⟨some 44, .lenf (.t 43), (some (41, false))⟩,
  ⟨some 45, .bin .ne (.t 44) (.k (.int .i64 0)), (some (41, false))⟩,
  ⟨some 46, .pick (.t 41) (.k (.bool true)) (.t 45), (some (35, true))⟩,
  ⟨some 47, .pick (.t 35) (.t 46) (.k (.bool false)), (some (31, false))⟩,
  ⟨some 48, .pick (.t 31) (.k (.bool true)) (.t 47), none⟩])
 (.lv [1, 48] (.cond (.t 48) (.lv [] (.seq (.reg none [⟨some 2, .mov (.k (.bool false)), none⟩])
 (.ret)))
 (.skip))))
 (.lv [1] (.seq (.seq (.reg none [⟨some 5, .mov (.k (.int .i64 0)), none⟩])
 (.lv [1, 5] (.block 0 (.loop [1, 5] (some (1, [])) b76_0))))
 k76_0))))))
def i76 : IFn := ⟨1, 63, c76, [.t 2], .pure⟩
def b78_0 : IR :=
 .seq (.reg none [⟨some 14, .bin .lt (.t 13) (.t 12), none⟩])
 (.lv [4, 5, 11, 12, 13, 14] (.seq (.cond (.t 14) (.skip)
 (.exit 0))
 (.lv [4, 5, 11, 12, 13] (.seq (.block 1 (.seq (.reg none [⟨some 15, .iaddrf 1 (.t 11) (.t 13), none⟩,
  ⟨some 16, .ldf false 1 (.t 15), none⟩,
  ⟨some 7, .mov (.t 16), none⟩])
 (.lv [4, 5, 7, 11, 12, 13] (.seq (.seq (.reg none [⟨some 17, .mov (.t 7), none⟩,
  ⟨some 18, .bin .lt (.t 17) (.k (.int .i64 0)), none⟩,
  ⟨some 19, .mov (.t 18), none⟩,
  ⟨some 20, .mov (.t 7), (some (19, false))⟩,
  ⟨some 21, .mov (.t 4), (some (19, false))⟩,
  ⟨some 22, .bin .quo (.k (.int .i64 4096)) (.t 21), (some (19, false))⟩,
  ⟨some 23, .bin .gt (.t 20) (.t 22), (some (19, false))⟩,
  ⟨some 24, .pick (.t 19) (.k (.bool true)) (.t 23), none⟩])
 (.lv [4, 5, 7, 11, 12, 13, 24] (.cond (.t 24) (.lv [] (.seq (.reg none [⟨some 2, .mov (.k (.int .i64 0)), none⟩,
  ⟨some 3, .mov (.k (.bool false)), none⟩])
 (.ret)))
 (.skip))))
 (.lv [4, 5, 7, 11, 12, 13] (.seq (.reg none [⟨some 25, .mov (.t 5), none⟩,
  ⟨some 26, .mov (.t 25), none⟩,
  ⟨some 27, .mov (.t 7), (some (26, false))⟩,
  ⟨some 28, .bin .eq (.t 27) (.k (.int .i64 0)), (some (26, false))⟩,
  ⟨some 29, .pick (.t 26) (.k (.bool true)) (.t 28), none⟩,
  ⟨some 5, .mov (.t 29), none⟩])
 (.lv [4, 5, 7, 11, 12, 13] (.reg none [⟨some 30, .mov (.t 4), none⟩,
  ⟨some 31, .mov (.t 7), none⟩,
  ⟨some 32, .mx (.k (.int .i64 1)) (.t 31), none⟩,
  ⟨some 33, .bin .mul (.t 30) (.t 32), none⟩,
  ⟨some 4, .mov (.t 33), none⟩]))))))))
 (.lv [4, 5, 11, 12, 13] (.reg none [⟨some 34, .bin .add (.t 13) (.k (.int .i64 1)), none⟩,
  ⟨some 13, .mov (.t 34), none⟩]))))))
def k78_0 : IR :=
 .seq (.seq (.reg none [⟨some 35, .mov (.t 5), none⟩])
 (.lv [4, 35] (.cond (.t 35) (.lv [] (.reg none [⟨some 4, .mov (.k (.int .i64 0)), none⟩]))
 (.skip))))
 (.lv [4] (.seq (.reg none [⟨some 36, .mov (.t 4), none⟩,
  ⟨some 2, .mov (.t 36), none⟩,
  ⟨some 3, .mov (.k (.bool true)), none⟩])
 (.ret)))
def c78 : IR :=
 .seq (.reg none [⟨some 2, .mov (.k (.int .i64 0)), none⟩,
  ⟨some 3, .mov (.k (.bool false)), none⟩])
 (.lv [0] (.seq (.seq (.reg none [⟨some 8, .mov (.t 0), none⟩,
  ⟨some 9, .lenf (.t 8), none⟩,
  ⟨some 10, .bin .gt (.t 9) (.k (.int .i64 8)), none⟩])
 (.lv [0, 10] (.cond (.t 10) (.lv [] (.seq (.reg none [⟨some 2, .mov (.k (.int .i64 0)), none⟩,
  ⟨some 3, .mov (.k (.bool false)), none⟩])
 (.ret)))
 (.skip))))
 (.lv [0] (.seq (.reg none [⟨some 4, .mov (.k (.int .i64 1)), none⟩,
  ⟨some 5, .mov (.k (.bool false)), none⟩])
 (.lv [0, 4, 5] (.seq (.seq (.reg none [⟨some 11, .mov (.t 0), none⟩,
  ⟨some 12, .lenf (.t 11), none⟩,
  ⟨some 13, .mov (.k (.int .i64 0)), none⟩])
 (.lv [4, 5, 11, 12, 13] (.block 0 (.loop [4, 5, 11, 12, 13] (some (0, [])) b78_0))))
 k78_0))))))
def i78 : IFn := ⟨1, 37, c78, [.t 2, .t 3], .pure⟩
def c80 : IR :=
 .seq (.reg none [⟨some 1, .box 57 3 (.t 0), none⟩,
  ⟨some 2, .alloc 31 [.nilsl 3 1, .bool false, .nilsl 21 1, .nilsl 57 3, .bool false], none⟩])
 (.lv [1, 2] (.seq (.reg none [⟨some 3, .ld true 3 (.t 1), none⟩,
  ⟨some 4, .bsl 57 3 [.t 3], none⟩,
  ⟨some 5, .build [.nilsl 3 1, .bool false, .nilsl 21 1, .nilsl 57 3, .bool false] [(0, 1, .k (.nilsl 3 1)), (1, 1, .k (.bool false)), (2, 1, .k (.nilsl 21 1)), (3, 1, .t 4), (4, 1, .k (.bool true))], none⟩,
  ⟨none, .st 5 (.t 2) (.t 5), none⟩])
 (.ret)))
def i80 : IFn := ⟨1, 6, c80, [.c 2 true 5], .pure⟩
def c81 : IR :=
 .seq (.reg none [⟨some 2, .alloc 114 [.bool false, .str ⟨#[]⟩], none⟩])
 (.lv [0, 2] (.seq (.seq (.reg none [⟨some 3, .mov (.t 0), none⟩,
  ⟨some 4, .bin .lt (.t 3) (.k (.int .i64 0)), none⟩])
 (.lv [0, 2, 4] (.cond (.t 4) (.lv [0, 2] (.seq (.reg none [⟨some 5, .mov (.t 0), none⟩,
  ⟨some 6, .bin .add (.t 5) (.k (.int .i64 1)), none⟩,
  ⟨some 7, .bin .sub (.k (.int .i64 0)) (.t 6), none⟩,
  ⟨some 8, .conv .u64 (.t 7), none⟩,
  ⟨some 9, .bin .add (.t 8) (.k (.int .u64 1)), none⟩,
  ⟨some 10, .callP 121 [.t 9], none⟩,
  ⟨some 11, .build [.bool false, .str ⟨#[]⟩] [(0, 1, .k (.bool true)), (1, 1, .t 10)], none⟩,
  ⟨none, .st 2 (.t 2) (.t 11), none⟩])
 (.ret)))
 (.skip))))
 (.lv [0, 2] (.seq (.reg none [⟨some 12, .mov (.t 0), none⟩,
  ⟨some 13, .conv .u64 (.t 12), none⟩,
  ⟨some 14, .callP 121 [.t 13], none⟩,
  ⟨some 15, .build [.bool false, .str ⟨#[]⟩] [(0, 1, .k (.bool false)), (1, 1, .t 14)], none⟩,
  ⟨none, .st 2 (.t 2) (.t 15), none⟩])
 (.ret)))))
def i81 : IFn := ⟨1, 16, c81, [.c 2 true 2], .pure⟩
end Go.Proofs.YtlejgleocnemoabGreat.I
