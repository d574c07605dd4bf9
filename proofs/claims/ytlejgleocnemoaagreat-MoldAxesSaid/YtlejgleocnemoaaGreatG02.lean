/- The texts VLoop VGlue VIr0, one behind the other. Conditions: each text's own. -/
import Derived.Test.YtlejgleocnemoaaGreatG01
import Derived.Below
import Derived.Test.YtlejgleocnemoaaGreatG00
set_option linter.unusedSimpArgs false
set_option linter.unusedVariables false
namespace Go.V
open Go
theorem opR_wpO {C : CallRel} {mem : List AObj} {e : Opd → AV} {io : MOp} {v : AV} {m : List AObj} {K : AV → List AObj → Prop} (h : OpR C mem e io v m) (hK : K v m) : wpO C mem e K io := by
  cases h with
  | callP h1 h2 => exact ⟨_, _, h1, h2, hK⟩
  | callR h1 h2 h3 => exact ⟨_, _, h1, h2, h3, hK⟩
  | callF h1 h2 => exact ⟨_, _, h1, h2, hK⟩
  | callO h1 h2 h3 h4 => exact ⟨_, _, _, h1, h2, h3, h4, hK⟩
  | callZ h1 h2 h3 => exact ⟨_, _, _, _, h1, h2, h3, hK⟩
  | callG h0 h1 h2 h3 => exact ⟨h0, _, _, h1, h2, h3, hK⟩
  | callM h1 => exact ⟨_, _, h1, hK⟩
  | callV h0 h1 h2 h3 h4 => exact ⟨_, _, _, _, _, h0, h1, h2, h3, h4, hK⟩
  | op h =>
    cases io
    case callP => simp [evalOp] at h
    case callR => simp [evalOp] at h
    case callF => simp [evalOp] at h
    case callO => simp [evalOp] at h
    case callZ => simp [evalOp] at h
    case callG => simp [evalOp] at h
    case callM => simp [evalOp] at h
    case callV => simp [evalOp] at h
    all_goals simp only [wpO, h]; exact hK
theorem regR_wpR {C : CallRel} {ops : List IOp} {s s' : St} {Q : St → Prop} (h : RegR C ops s s') (hQ : Q s') : wpR C Q ops s := by
  induction h with
  | nil => exact hQ
  | cons h1 _ ih =>
    have ih := ih hQ
    cases h1 with
    | go g1 g2 =>
      rcases g1 with g1 | ⟨t, b, g1, g3⟩
      · simp only [wpR, g1]; exact opR_wpO g2 ih
      · simp only [ev] at g3
        simp only [wpR, g1, g3, if_true]
        exact opR_wpO g2 ih
    | no g1 g2 =>
      simp only [ev] at g2
      rcases g2 with g2 | g2
      · simp only [wpR, g1, g2]
        rw [if_neg (by simp)]
        exact ih
      · simp only [wpR, g1, g2]
        exact ih
theorem exec_wp {C : CallRel} {c : IR} {s s' : St} {x : X} (h : Exec C c s x s') : ∀ {Q : X → St → Prop}, Q x s' → wp C c Q s := by
  induction h with
  | skip => exact fun h => h
  | ret => exact fun h => h
  | exit => exact fun h => h
  | reg h => exact fun hQ => regR_wpR h hQ
  | seqN _ _ i1 i2 => exact fun hQ => i1 (i2 hQ)
  | @seqX _ _ _ x _ _ hx i1 =>
    intro Q hQ
    refine i1 ?_
    cases x with
    | nrm => exact absurd rfl hx
    | exit => exact hQ
    | ret => exact hQ
  | condT hc _ i => intro Q hQ; simp only [wp, hc, if_true]; exact i hQ
  | condF hc _ i => intro Q hQ; simp only [wp, hc, Bool.false_eq_true, if_false]; exact i hQ
  | blockE _ i => intro Q hQ; exact i (by simpa using hQ)
  | @blockX id _ _ x _ _ hx i =>
    intro Q hQ
    refine i ?_
    cases x with
    | nrm => exact hQ
    | exit j => simp only; rw [if_neg (fun h => hx (by rw [h]))]; exact hQ
    | ret => exact hQ
  | lv _ i => exact fun hQ => i hQ
  | loopN hh _ _ i1 i2 =>
    intro Q hQ
    obtain ⟨n, hn⟩ := i2 hQ
    refine ⟨n + 1, ?_⟩
    simp only [rounds, hh]
    exact i1 hn
  | @loopX _ _ _ _ _ x _ hh _ hx i =>
    intro Q hQ
    refine ⟨1, ?_⟩
    simp only [rounds, hh]
    refine i ?_
    cases x with
    | nrm => exact absurd rfl hx
    | exit => exact hQ
    | ret => exact hQ
theorem wp_mono {C : CallRel} {c : IR} {Q Q' : X → St → Prop} {s : St} (hQ : ∀ x s, Q x s → Q' x s) (h : wp C c Q s) : wp C c Q' s := by
  obtain ⟨x, s', h1, h2⟩ := wp_exec h
  exact exec_wp h1 (hQ _ _ h2)
theorem wp_loop_inv {C : CallRel} {live : List Nat} {keep : Option (Nat × List Nat)} {a : IR} {Q : X → St → Prop} {s : St} (I : Nat → St → Prop) (N : Nat) (h0 : ∃ s0, headOf live keep s = some s0 ∧ I N s0)
    (step : ∀ n s0, I n s0 → wp C a (fun x s1 => match x with | .nrm => ∃ s2, headOf live keep s1 = some s2 ∧ ∃ m, m < n ∧ I m s2 | x => Q x s1) s0) : wp C (.loop live keep a) Q s := by
  induction N using Nat.strongRecOn generalizing s with
  | _ N ih =>
    obtain ⟨s0, h1, h2⟩ := h0
    obtain ⟨x, s1, hx, hq⟩ := wp_exec (step N s0 h2)
    cases x with
    | nrm =>
      obtain ⟨s2, g1, m, g2, g3⟩ := hq
      obtain ⟨n, hn⟩ := ih m g2 ⟨s2, g1, g3⟩
      refine ⟨n + 1, ?_⟩
      simp only [rounds, h1]
      exact exec_wp hx hn
    | exit id =>
      refine ⟨1, ?_⟩
      simp only [rounds, h1]
      exact exec_wp hx hq
    | ret =>
      refine ⟨1, ?_⟩
      simp only [rounds, h1]
      exact exec_wp hx hq
def Out (fn : IFn) (mem : List AObj) (r : AV) (mem' : List AObj) (s : St) : Prop :=
  match resAll s fn.res with
  | some rv => outOf fn.md mem r mem' s rv
  | none => False
def Fin (fn : IFn) (mem : List AObj) (r : AV) (mem' : List AObj) (x : X) (s : St) : Prop :=
  match x with
  | .exit _ => False
  | .nrm => Out fn mem r mem' s
  | .ret => Out fn mem r mem' s
theorem Call.go {tab : Nat → Option IFn} {E : CallRel} {f : Nat} {as : List AV} {mem : List AObj} {r : AV} {mem' : List AObj} (fn : IFn) (c : IR) (hc : fn.body = c) (hf : tab f = some fn) (h1 : as.length = fn.nparams) (h2 : (decide (fn.nparams ≤ fn.ntmps)) = true)
    (h : wp (Call tab E) c (Fin fn mem r mem') ⟨argsE 0 as, mem⟩) : Call tab E f as mem r mem' := by
  subst hc
  refine Call.of fn hf h1 (by rw [h1]; simpa using h2) (wp_mono (fun x s hx => ?_) h)
  have : ∀ s, Out fn mem r mem' s → ∃ rv, resAll s fn.res = some rv ∧ outOf fn.md mem r mem' s rv := fun s h => by
    unfold Out at h
    split at h
    · rename_i rv hrv; exact ⟨rv, hrv, h⟩
    · exact h.elim
  cases x with
  | exit => exact hx.elim
  | nrm => exact ⟨.inl rfl, this s hx⟩
  | ret => exact ⟨.inr rfl, this s hx⟩
inductive Item where
  | code (c : IR)
  | ops (os : List IOp)
  | endb (id : Nat)
def Mach (C : CallRel) (Q : X → St → Prop) : List Item → X → St → Prop
  | [], x, s => Q x s
  | .code c :: k, .nrm, s => wp C c (Mach C Q k) s
  | .code _ :: k, x, s => Mach C Q k x s
  | .ops os :: k, .nrm, s => wpR C (Mach C Q k .nrm) os s
  | .ops _ :: k, x, s => Mach C Q k x s
  | .endb id :: k, .exit j, s => if j = id then Mach C Q k .nrm s else Mach C Q k (.exit j) s
  | .endb _ :: k, x, s => Mach C Q k x s
section
variable {C : CallRel} {Q : X → St → Prop} {k : List Item} {s : St}
def MachB (C : CallRel) (Q : X → St → Prop) (v : AV) (a b : IR) (k : List Item) (s : St) : Prop :=
  match v with
  | .bool t => Mach C Q (.code (if t then a else b) :: k) .nrm s
  | _ => False
def MachV (C : CallRel) (Q : X → St → Prop) (r : Option (AV × List AObj)) (d : Option Nat) (os : List IOp) (k : List Item) (env : Env) : Prop :=
  match r with
  | some (v, m) => Mach C Q (.ops os :: k) .nrm ⟨putE env d v, m⟩
  | none => False
def MachG (C : CallRel) (Q : X → St → Prop) (v : AV) (b : Bool) (d : Option Nat) (io : MOp) (os : List IOp) (k : List Item) (s : St) : Prop :=
  match v with
  | .bool c => if c = b then Mach C Q (.ops (⟨d, io, none⟩ :: os) :: k) .nrm s else Mach C Q (.ops os :: k) .nrm ⟨putE s.env d (.tup []), s.mem⟩
  | .tup [] => Mach C Q (.ops os :: k) .nrm ⟨putE s.env d (.tup []), s.mem⟩
  | _ => False
inductive CK where
  | P | R | F | O | Z | G | M | V
def MachA (C : CallRel) (Q : X → St → Prop) (c : CK) (f : Nat) (as : Option (List AV)) (ns : List Nat) (d : Option Nat) (os : List IOp) (k : List Item) (s : St) : Prop :=
  match as with
  | none => False
  | some as => match c with
    | .P => ∃ r, C f as [] r [] ∧ Mach C Q (.ops os :: k) .nrm ⟨putE s.env d r, s.mem⟩
    | .R => ∃ r, C f as [] r [] ∧ scalars r = true ∧ Mach C Q (.ops os :: k) .nrm ⟨putE s.env d r, s.mem⟩
    | .F => ∃ r, C f as [] r [] ∧ Mach C Q (.ops os :: k) .nrm ⟨putE s.env d r, freeze ns s.mem⟩
    | .O => ∃ r m, C f as [] r m ∧ (m.all made) = true ∧ ownishR r = true ∧ Mach C Q (.ops os :: k) .nrm ⟨putE s.env d (shiftR s.mem.length r), freeze ns s.mem ++ m.map (shiftO s.mem.length)⟩
    | .Z => ∃ r m r', C f as [] r m ∧ snap m 10 r = some r' ∧ Mach C Q (.ops os :: k) .nrm ⟨putE s.env d r', freeze ns s.mem⟩
    | .G => (as.all plainArg) = true ∧ ∃ r m, C f as [] r m ∧ (m.all made) = true ∧ ownishR r = true ∧ Mach C Q (.ops os :: k) .nrm ⟨putE s.env d (shiftR s.mem.length r), s.mem ++ m.map (shiftO s.mem.length)⟩
    | .M => ∃ r m, C f as s.mem r m ∧ Mach C Q (.ops os :: k) .nrm ⟨putE s.env d r, m⟩
    | .V => ∃ r, C f as [] r [] ∧ scalars r = true ∧ Mach C Q (.ops os :: k) .nrm ⟨putE s.env d r, s.mem⟩
def MachF (C : CallRel) (Q : X → St → Prop) (v : AV) (as : Option (List AV)) (d : Option Nat) (os : List IOp) (k : List Item) (s : St) : Prop :=
  match v with
  | .fn f caps => match caps.mapM (fun c => snap s.mem 10 c) with
    | some bs => MachA C Q .V f (as.map (· ++ bs)) [] d os k s
    | none => False
  | _ => False
theorem mNil {x : X} : Mach C Q [] x s = Q x s := by cases x <;> rfl
theorem mSkip : Mach C Q (.code .skip :: k) .nrm s = Mach C Q k .nrm s := Eq.trans rfl rfl
theorem mRet : Mach C Q (.code .ret :: k) .nrm s = Mach C Q k .ret s := Eq.trans rfl rfl
theorem mExit {id : Nat} : Mach C Q (.code (.exit id) :: k) .nrm s = Mach C Q k (.exit id) s := Eq.trans rfl rfl
theorem mReg {p : Option (List Nat)} {os : List IOp} : Mach C Q (.code (.reg p os) :: k) .nrm s = Mach C Q (.ops os :: k) .nrm s := Eq.trans rfl rfl
theorem mSeq {a b : IR} : Mach C Q (.code (.seq a b) :: k) .nrm s = Mach C Q (.code a :: .code b :: k) .nrm s := by
  simp only [Mach, wp]
  congr 1
  funext x s1
  cases x <;> rfl
theorem mCond {c : Opd} {a b : IR} : Mach C Q (.code (.cond c a b) :: k) .nrm s = MachB C Q (ev s.env c) a b k s := by
  simp only [Mach, wp, MachB]
  cases ev s.env c with
  | bool t => cases t <;> simp
  | _ => rfl
theorem mTrue {a b : IR} : MachB C Q (.bool true) a b k s = Mach C Q (.code a :: k) .nrm s := Eq.trans rfl rfl
theorem mFalse {a b : IR} : MachB C Q (.bool false) a b k s = Mach C Q (.code b :: k) .nrm s := Eq.trans rfl rfl
theorem mBlock {id : Nat} {a : IR} : Mach C Q (.code (.block id a) :: k) .nrm s = Mach C Q (.code a :: .endb id :: k) .nrm s := by
  simp only [Mach, wp]
  congr 1
  funext x s1
  cases x <;> rfl
theorem mLv {live : List Nat} {a : IR} : Mach C Q (.code (.lv live a) :: k) .nrm s = Mach C Q (.code a :: k) .nrm ⟨live.map fun n => (n, getE s.env n), s.mem⟩ := Eq.trans rfl rfl
theorem mCodeE {c : IR} {id : Nat} : Mach C Q (.code c :: k) (.exit id) s = Mach C Q k (.exit id) s := Eq.trans rfl rfl
theorem mCodeR {c : IR} : Mach C Q (.code c :: k) .ret s = Mach C Q k .ret s := Eq.trans rfl rfl
theorem mEndN {id : Nat} : Mach C Q (.endb id :: k) .nrm s = Mach C Q k .nrm s := Eq.trans rfl rfl
theorem mEndR {id : Nat} : Mach C Q (.endb id :: k) .ret s = Mach C Q k .ret s := Eq.trans rfl rfl
theorem mEndE {id j : Nat} : Mach C Q (.endb id :: k) (.exit j) s = if j = id then Mach C Q k .nrm s else Mach C Q k (.exit j) s := Eq.trans rfl rfl
theorem mOps : Mach C Q (.ops [] :: k) .nrm s = Mach C Q k .nrm s := Eq.trans rfl rfl
theorem mSome {v : AV} {m : List AObj} {d : Option Nat} {os : List IOp} {env : Env} : MachV C Q (some (v, m)) d os k env = Mach C Q (.ops os :: k) .nrm ⟨putE env d v, m⟩ := Eq.trans rfl rfl
theorem mGuard {d : Option Nat} {io : MOp} {t : Nat} {b : Bool} {os : List IOp} : Mach C Q (.ops (⟨d, io, some (t, b)⟩ :: os) :: k) .nrm s = MachG C Q (getE s.env t) b d io os k s := by
  simp only [Mach, wpR, MachG]
  rfl
theorem mGtt {d : Option Nat} {io : MOp} {os : List IOp} : MachG C Q (.bool true) true d io os k s = Mach C Q (.ops (⟨d, io, none⟩ :: os) :: k) .nrm s := Eq.trans rfl rfl
theorem mGff {d : Option Nat} {io : MOp} {os : List IOp} : MachG C Q (.bool false) false d io os k s = Mach C Q (.ops (⟨d, io, none⟩ :: os) :: k) .nrm s := Eq.trans rfl rfl
theorem mGu {b : Bool} {d : Option Nat} {io : MOp} {os : List IOp} : MachG C Q (.tup []) b d io os k s = Mach C Q (.ops os :: k) .nrm ⟨putE s.env d (.tup []), s.mem⟩ := Eq.trans rfl rfl
theorem mGtf {d : Option Nat} {io : MOp} {os : List IOp} : MachG C Q (.bool true) false d io os k s = Mach C Q (.ops os :: k) .nrm ⟨putE s.env d (.tup []), s.mem⟩ := by simp [MachG]
theorem mGft {d : Option Nat} {io : MOp} {os : List IOp} : MachG C Q (.bool false) true d io os k s = Mach C Q (.ops os :: k) .nrm ⟨putE s.env d (.tup []), s.mem⟩ := by simp [MachG]
variable {d : Option Nat} {os : List IOp} {f : Nat} {xs : List Opd}
theorem mCallP : Mach C Q (.ops (⟨d, .callP f xs, none⟩ :: os) :: k) .nrm s = MachA C Q .P f (xs.mapM fun x => snap [] 10 (ev s.env x)) [] d os k s := by
  simp only [Mach, wpR, wpO, MachA]
  refine propext ⟨fun ⟨as, r, h1, h2, h3⟩ => ?_, fun h => ?_⟩
  · rw [h1]; exact ⟨r, h2, h3⟩
  · split at h
    · exact h.elim
    · rename_i as has; obtain ⟨r, h2, h3⟩ := h; exact ⟨as, r, has, h2, h3⟩
theorem mCallR : Mach C Q (.ops (⟨d, .callR f xs, none⟩ :: os) :: k) .nrm s = MachA C Q .R f (xs.mapM fun x => snap s.mem 10 (ev s.env x)) [] d os k s := by
  simp only [Mach, wpR, wpO, MachA]
  refine propext ⟨fun ⟨as, r, h1, h2, h4, h3⟩ => ?_, fun h => ?_⟩
  · rw [h1]; exact ⟨r, h2, h4, h3⟩
  · split at h
    · exact h.elim
    · rename_i as has; obtain ⟨r, h2, h4, h3⟩ := h; exact ⟨as, r, has, h2, h4, h3⟩
theorem mCallF : Mach C Q (.ops (⟨d, .callF f xs, none⟩ :: os) :: k) .nrm s = MachA C Q .F f (xs.mapM fun x => snap s.mem 10 (ev s.env x)) (xs.flatMap fun x => refs s.mem 10 (ev s.env x)) d os k s := by
  simp only [Mach, wpR, wpO, MachA]
  refine propext ⟨fun ⟨as, r, h1, h2, h3⟩ => ?_, fun h => ?_⟩
  · rw [h1]; exact ⟨r, h2, h3⟩
  · split at h
    · exact h.elim
    · rename_i as has; obtain ⟨r, h2, h3⟩ := h; exact ⟨as, r, has, h2, h3⟩
theorem mCallO : Mach C Q (.ops (⟨d, .callO f xs, none⟩ :: os) :: k) .nrm s = MachA C Q .O f (xs.mapM fun x => snap s.mem 10 (ev s.env x)) (xs.flatMap fun x => refs s.mem 10 (ev s.env x)) d os k s := by
  simp only [Mach, wpR, wpO, MachA]
  refine propext ⟨fun ⟨as, r, m, h1, h2, h4, h5, h3⟩ => ?_, fun h => ?_⟩
  · rw [h1]; exact ⟨r, m, h2, h4, h5, h3⟩
  · split at h
    · exact h.elim
    · rename_i as has; obtain ⟨r, m, h2, h4, h5, h3⟩ := h; exact ⟨as, r, m, has, h2, h4, h5, h3⟩
theorem mCallZ : Mach C Q (.ops (⟨d, .callZ f xs, none⟩ :: os) :: k) .nrm s = MachA C Q .Z f (xs.mapM fun x => snap s.mem 10 (ev s.env x)) (xs.flatMap fun x => refs s.mem 10 (ev s.env x)) d os k s := by
  simp only [Mach, wpR, wpO, MachA]
  refine propext ⟨fun ⟨as, r, m, r', h1, h2, h4, h3⟩ => ?_, fun h => ?_⟩
  · rw [h1]; exact ⟨r, m, r', h2, h4, h3⟩
  · split at h
    · exact h.elim
    · rename_i as has; obtain ⟨r, m, r', h2, h4, h3⟩ := h; exact ⟨as, r, m, r', has, h2, h4, h3⟩
theorem mCallG : Mach C Q (.ops (⟨d, .callG f xs, none⟩ :: os) :: k) .nrm s = MachA C Q .G f (some (xs.map (ev s.env))) [] d os k s := by
  simp only [Mach, wpR, wpO, MachA, List.all_map, Function.comp_def]
theorem mCallM : Mach C Q (.ops (⟨d, .callM f xs, none⟩ :: os) :: k) .nrm s = MachA C Q .M f (some (xs.map (ev s.env))) [] d os k s := Eq.trans rfl rfl
theorem mCallV {x : Opd} : Mach C Q (.ops (⟨d, .callV x xs, none⟩ :: os) :: k) .nrm s = MachF C Q (ev s.env x) (xs.mapM fun x => snap s.mem 10 (ev s.env x)) d os k s := by
  simp only [Mach, wpR, wpO, MachF, MachA]
  refine propext ⟨fun ⟨f, caps, as, bs, r, h0, h1, h2, h3, h4, h5⟩ => ?_, fun h => ?_⟩
  · rw [h0, h1]; simp only [h2, Option.map_some]; exact ⟨r, h3, h4, h5⟩
  · split at h
    · rename_i f caps hf
      split at h
      · rename_i bs hbs
        split at h
        · exact h.elim
        · rename_i as has
          obtain ⟨as', h1, rfl⟩ := Option.map_eq_some_iff.1 has
          obtain ⟨r, h3, h4, h5⟩ := h
          exact ⟨f, caps, as', bs, r, hf, h1, hbs, h3, h4, h5⟩
      · exact h.elim
    · exact h.elim
theorem goP {as : List AV} {ns : List Nat} {r : AV} (h : C f as [] r []) (hk : Mach C Q (.ops os :: k) .nrm ⟨putE s.env d r, s.mem⟩) : MachA C Q .P f (some as) ns d os k s := ⟨r, h, hk⟩
theorem goR {as : List AV} {ns : List Nat} {r : AV} (h : C f as [] r []) (hs : scalars r = true) (hk : Mach C Q (.ops os :: k) .nrm ⟨putE s.env d r, s.mem⟩) : MachA C Q .R f (some as) ns d os k s := ⟨r, h, hs, hk⟩
theorem goF {as : List AV} {ns : List Nat} {r : AV} (h : C f as [] r []) (hk : Mach C Q (.ops os :: k) .nrm ⟨putE s.env d r, freeze ns s.mem⟩) : MachA C Q .F f (some as) ns d os k s := ⟨r, h, hk⟩
theorem goO {as : List AV} {ns : List Nat} {r : AV} {m : List AObj} (h : C f as [] r m) (h1 : (m.all fun o => !o.box) = true) (h2 : ownishR r = true) (hk : Mach C Q (.ops os :: k) .nrm ⟨putE s.env d (shiftR s.mem.length r), freeze ns s.mem ++ m⟩) : MachA C Q .O f (some as) ns d os k s := by
  rw [List.all_eq_true] at h1
  refine ⟨r, m, h, List.all_eq_true.2 (fun o ho => by simp only [made, h1 o ho, Bool.true_or]), h2, ?_⟩
  have : m.map (shiftO s.mem.length) = m := by
    conv => rhs; rw [← List.map_id m]
    refine List.map_congr_left (fun o ho => ?_)
    have := h1 o ho
    simp only [Bool.not_eq_true'] at this
    simp only [shiftO, this, Bool.false_eq_true, if_false, id]
  rw [this]
  exact hk
theorem goZ {as : List AV} {ns : List Nat} {r r' : AV} {m : List AObj} (h : C f as [] r m) (h1 : snap m 10 r = some r') (hk : Mach C Q (.ops os :: k) .nrm ⟨putE s.env d r', freeze ns s.mem⟩) : MachA C Q .Z f (some as) ns d os k s := ⟨r, m, r', h, h1, hk⟩
theorem goM {as : List AV} {ns : List Nat} {r : AV} {m : List AObj} (h : C f as s.mem r m) (hk : Mach C Q (.ops os :: k) .nrm ⟨putE s.env d r, m⟩) : MachA C Q .M f (some as) ns d os k s := ⟨r, m, h, hk⟩
theorem goV {as : List AV} {ns : List Nat} {r : AV} (h : C f as [] r []) (hs : scalars r = true) (hk : Mach C Q (.ops os :: k) .nrm ⟨putE s.env d r, s.mem⟩) : MachA C Q .V f (some as) ns d os k s := ⟨r, h, hs, hk⟩
theorem mO_mov {x : Opd} : Mach C Q (.ops (⟨d, .mov x, none⟩ :: os) :: k) .nrm s = MachV C Q (evalOp s.mem (ev s.env) (.mov x)) d os k s.env := Eq.trans rfl rfl
theorem mO_newnil {a b : Nat} : Mach C Q (.ops (⟨d, .newnil a b, none⟩ :: os) :: k) .nrm s = MachV C Q (evalOp s.mem (ev s.env) (.newnil a b)) d os k s.env := Eq.trans rfl rfl
theorem mO_pick {x y z : Opd} : Mach C Q (.ops (⟨d, .pick x y z, none⟩ :: os) :: k) .nrm s = MachV C Q (evalOp s.mem (ev s.env) (.pick x y z)) d os k s.env := Eq.trans rfl rfl
theorem mO_alloc {n : Nat} {cs : List AV} : Mach C Q (.ops (⟨d, .alloc n cs, none⟩ :: os) :: k) .nrm s = MachV C Q (evalOp s.mem (ev s.env) (.alloc n cs)) d os k s.env := Eq.trans rfl rfl
theorem mO_box {a b : Nat} {x : Opd} : Mach C Q (.ops (⟨d, .box a b x, none⟩ :: os) :: k) .nrm s = MachV C Q (evalOp s.mem (ev s.env) (.box a b x)) d os k s.env := Eq.trans rfl rfl
theorem mO_build {zz : List AV} {ps : List (Nat × Nat × Opd)} : Mach C Q (.ops (⟨d, .build zz ps, none⟩ :: os) :: k) .nrm s = MachV C Q (evalOp s.mem (ev s.env) (.build zz ps)) d os k s.env := Eq.trans rfl rfl
theorem mO_bsl {a b : Nat} {xs : List Opd} : Mach C Q (.ops (⟨d, .bsl a b xs, none⟩ :: os) :: k) .nrm s = MachV C Q (evalOp s.mem (ev s.env) (.bsl a b xs)) d os k s.env := Eq.trans rfl rfl
theorem mO_bslF {a b : Nat} {xs : List Opd} : Mach C Q (.ops (⟨d, .bslF a b xs, none⟩ :: os) :: k) .nrm s = MachV C Q (evalOp s.mem (ev s.env) (.bslF a b xs)) d os k s.env := Eq.trans rfl rfl
theorem mO_ldf {g : Bool} {n : Nat} {x : Opd} : Mach C Q (.ops (⟨d, .ldf g n x, none⟩ :: os) :: k) .nrm s = MachV C Q (evalOp s.mem (ev s.env) (.ldf g n x)) d os k s.env := Eq.trans rfl rfl
theorem mO_ld {g : Bool} {n : Nat} {x : Opd} : Mach C Q (.ops (⟨d, .ld g n x, none⟩ :: os) :: k) .nrm s = MachV C Q (evalOp s.mem (ev s.env) (.ld g n x)) d os k s.env := Eq.trans rfl rfl
theorem mO_st {n : Nat} {x y : Opd} : Mach C Q (.ops (⟨d, .st n x y, none⟩ :: os) :: k) .nrm s = MachV C Q (evalOp s.mem (ev s.env) (.st n x y)) d os k s.env := Eq.trans rfl rfl
theorem mO_sta {av : List Nat} {n : Nat} {x y : Opd} : Mach C Q (.ops (⟨d, .sta av n x y, none⟩ :: os) :: k) .nrm s = MachV C Q (evalOp s.mem (ev s.env) (.sta av n x y)) d os k s.env := Eq.trans rfl rfl
theorem mO_nilchk {x : Opd} : Mach C Q (.ops (⟨d, .nilchk x, none⟩ :: os) :: k) .nrm s = MachV C Q (evalOp s.mem (ev s.env) (.nilchk x)) d os k s.env := Eq.trans rfl rfl
theorem mO_bin {b : Bin} {x y : Opd} : Mach C Q (.ops (⟨d, .bin b x y, none⟩ :: os) :: k) .nrm s = MachV C Q (evalOp s.mem (ev s.env) (.bin b x y)) d os k s.env := Eq.trans rfl rfl
theorem mO_binb {b : Bin} {x y : Opd} : Mach C Q (.ops (⟨d, .binb b x y, none⟩ :: os) :: k) .nrm s = MachV C Q (evalOp s.mem (ev s.env) (.binb b x y)) d os k s.env := Eq.trans rfl rfl
theorem mO_binp {b : Bin} {x y : Opd} : Mach C Q (.ops (⟨d, .binp b x y, none⟩ :: os) :: k) .nrm s = MachV C Q (evalOp s.mem (ev s.env) (.binp b x y)) d os k s.env := Eq.trans rfl rfl
theorem mO_bins {b : Bin} {sig : List Nat} {x y : Opd} : Mach C Q (.ops (⟨d, .bins b sig x y, none⟩ :: os) :: k) .nrm s = MachV C Q (evalOp s.mem (ev s.env) (.bins b sig x y)) d os k s.env := Eq.trans rfl rfl
theorem mO_neg {x : Opd} : Mach C Q (.ops (⟨d, .neg x, none⟩ :: os) :: k) .nrm s = MachV C Q (evalOp s.mem (ev s.env) (.neg x)) d os k s.env := Eq.trans rfl rfl
theorem mO_com {x : Opd} : Mach C Q (.ops (⟨d, .com x, none⟩ :: os) :: k) .nrm s = MachV C Q (evalOp s.mem (ev s.env) (.com x)) d os k s.env := Eq.trans rfl rfl
theorem mO_not {x : Opd} : Mach C Q (.ops (⟨d, .not x, none⟩ :: os) :: k) .nrm s = MachV C Q (evalOp s.mem (ev s.env) (.not x)) d os k s.env := Eq.trans rfl rfl
theorem mO_conv {kk : IntKind} {x : Opd} : Mach C Q (.ops (⟨d, .conv kk x, none⟩ :: os) :: k) .nrm s = MachV C Q (evalOp s.mem (ev s.env) (.conv kk x)) d os k s.env := Eq.trans rfl rfl
theorem mO_mk {a b : Nat} {zz : List AV} {x : Opd} : Mach C Q (.ops (⟨d, .mk a b zz x, none⟩ :: os) :: k) .nrm s = MachV C Q (evalOp s.mem (ev s.env) (.mk a b zz x)) d os k s.env := Eq.trans rfl rfl
theorem mO_mk0 {a b c : Nat} {x : Opd} : Mach C Q (.ops (⟨d, .mk0 a b c x, none⟩ :: os) :: k) .nrm s = MachV C Q (evalOp s.mem (ev s.env) (.mk0 a b c x)) d os k s.env := Eq.trans rfl rfl
theorem mO_s2b {x : Opd} : Mach C Q (.ops (⟨d, .s2b x, none⟩ :: os) :: k) .nrm s = MachV C Q (evalOp s.mem (ev s.env) (.s2b x)) d os k s.env := Eq.trans rfl rfl
theorem mO_b2s {x : Opd} : Mach C Q (.ops (⟨d, .b2s x, none⟩ :: os) :: k) .nrm s = MachV C Q (evalOp s.mem (ev s.env) (.b2s x)) d os k s.env := Eq.trans rfl rfl
theorem mO_cpy {n : Nat} {x y : Opd} : Mach C Q (.ops (⟨d, .cpy n x y, none⟩ :: os) :: k) .nrm s = MachV C Q (evalOp s.mem (ev s.env) (.cpy n x y)) d os k s.env := Eq.trans rfl rfl
theorem mO_cut {n : Nat} {x : Opd} {lo hi : Option Opd} : Mach C Q (.ops (⟨d, .cut n x lo hi, none⟩ :: os) :: k) .nrm s = MachV C Q (evalOp s.mem (ev s.env) (.cut n x lo hi)) d os k s.env := Eq.trans rfl rfl
theorem mO_faddr {n : Nat} {x : Opd} : Mach C Q (.ops (⟨d, .faddr n x, none⟩ :: os) :: k) .nrm s = MachV C Q (evalOp s.mem (ev s.env) (.faddr n x)) d os k s.env := Eq.trans rfl rfl
theorem mO_fld {g : Bool} {a b : Nat} {x : Opd} : Mach C Q (.ops (⟨d, .fld g a b x, none⟩ :: os) :: k) .nrm s = MachV C Q (evalOp s.mem (ev s.env) (.fld g a b x)) d os k s.env := Eq.trans rfl rfl
theorem mO_iaddr {n : Nat} {x y : Opd} : Mach C Q (.ops (⟨d, .iaddr n x y, none⟩ :: os) :: k) .nrm s = MachV C Q (evalOp s.mem (ev s.env) (.iaddr n x y)) d os k s.env := Eq.trans rfl rfl
theorem mO_iaddrf {n : Nat} {x y : Opd} : Mach C Q (.ops (⟨d, .iaddrf n x y, none⟩ :: os) :: k) .nrm s = MachV C Q (evalOp s.mem (ev s.env) (.iaddrf n x y)) d os k s.env := Eq.trans rfl rfl
theorem mO_sidx {x y : Opd} : Mach C Q (.ops (⟨d, .sidx x y, none⟩ :: os) :: k) .nrm s = MachV C Q (evalOp s.mem (ev s.env) (.sidx x y)) d os k s.env := Eq.trans rfl rfl
theorem mO_len {x : Opd} : Mach C Q (.ops (⟨d, .len x, none⟩ :: os) :: k) .nrm s = MachV C Q (evalOp s.mem (ev s.env) (.len x)) d os k s.env := Eq.trans rfl rfl
theorem mO_lenf {x : Opd} : Mach C Q (.ops (⟨d, .lenf x, none⟩ :: os) :: k) .nrm s = MachV C Q (evalOp s.mem (ev s.env) (.lenf x)) d os k s.env := Eq.trans rfl rfl
theorem mO_slen {x : Opd} : Mach C Q (.ops (⟨d, .slen x, none⟩ :: os) :: k) .nrm s = MachV C Q (evalOp s.mem (ev s.env) (.slen x)) d os k s.env := Eq.trans rfl rfl
theorem mO_scut {x : Opd} {lo hi : Option Opd} : Mach C Q (.ops (⟨d, .scut x lo hi, none⟩ :: os) :: k) .nrm s = MachV C Q (evalOp s.mem (ev s.env) (.scut x lo hi)) d os k s.env := Eq.trans rfl rfl
theorem mO_app {a b c : Nat} {x y : Opd} : Mach C Q (.ops (⟨d, .app a b c x y, none⟩ :: os) :: k) .nrm s = MachV C Q (evalOp s.mem (ev s.env) (.app a b c x y)) d os k s.env := Eq.trans rfl rfl
theorem mO_ext {x : Opd} {n : Nat} : Mach C Q (.ops (⟨d, .ext x n, none⟩ :: os) :: k) .nrm s = MachV C Q (evalOp s.mem (ev s.env) (.ext x n)) d os k s.env := Eq.trans rfl rfl
theorem mO_mx {x y : Opd} : Mach C Q (.ops (⟨d, .mx x y, none⟩ :: os) :: k) .nrm s = MachV C Q (evalOp s.mem (ev s.env) (.mx x y)) d os k s.env := Eq.trans rfl rfl
theorem mO_mn {x y : Opd} : Mach C Q (.ops (⟨d, .mn x y, none⟩ :: os) :: k) .nrm s = MachV C Q (evalOp s.mem (ev s.env) (.mn x y)) d os k s.env := Eq.trans rfl rfl
theorem mO_mkfn {f : Nat} {xs : List Opd} : Mach C Q (.ops (⟨d, .mkfn f xs, none⟩ :: os) :: k) .nrm s = MachV C Q (evalOp s.mem (ev s.env) (.mkfn f xs)) d os k s.env := Eq.trans rfl rfl
def LoopQ (live : List Nat) (keep : Option (Nat × List Nat)) (I : Nat → St → Prop) (n : Nat) (Q : X → St → Prop) (x : X) (s1 : St) : Prop :=
  match x with
  | .nrm => ∃ s2, headOf live keep s1 = some s2 ∧ ∃ m, m < n ∧ I m s2
  | x => Q x s1
theorem loopQ_exit {live : List Nat} {keep : Option (Nat × List Nat)} {I : Nat → St → Prop} {n id : Nat} : LoopQ live keep I n (Mach C Q k) (.exit id) s = Mach C Q k (.exit id) s := Eq.trans rfl rfl
theorem loopQ_ret {live : List Nat} {keep : Option (Nat × List Nat)} {I : Nat → St → Prop} {n : Nat} : LoopQ live keep I n (Mach C Q k) .ret s = Mach C Q k .ret s := Eq.trans rfl rfl
theorem mLoop {live : List Nat} {keep : Option (Nat × List Nat)} {a : IR} (I : Nat → St → Prop) (N : Nat) (h0 : ∃ s0, headOf live keep s = some s0 ∧ I N s0)
    (step : ∀ n s0, I n s0 → Mach C (LoopQ live keep I n (Mach C Q k)) [.code a] .nrm s0) : Mach C Q (.code (.loop live keep a) :: k) .nrm s := by
  refine wp_loop_inv I N h0 (fun n s0 hi => ?_)
  have := step n s0 hi
  simp only [Mach] at this
  refine wp_mono (fun x s1 hx => ?_) this
  cases x <;> exact hx
theorem loopQ_go {live : List Nat} {keep : Option (Nat × List Nat)} {I : Nat → St → Prop} {n : Nat} {Q : X → St → Prop} {s2 : St} (h : headOf live keep s = some s2) (m : Nat) (hm : m < n) (hI : I m s2) : LoopQ live keep I n Q .nrm s := ⟨s2, h, m, hm, hI⟩
end
theorem finRet {fn : IFn} {mem : List AObj} {r : AV} {mem' : List AObj} {s : St} : Fin fn mem r mem' .ret s = Out fn mem r mem' s := Eq.trans rfl rfl
theorem finNrm {fn : IFn} {mem : List AObj} {r : AV} {mem' : List AObj} {s : St} : Fin fn mem r mem' .nrm s = Out fn mem r mem' s := Eq.trans rfl rfl
theorem Call.mach {tab : Nat → Option IFn} {E : CallRel} {f : Nat} {as : List AV} {mem : List AObj} {r : AV} {mem' : List AObj} (fn : IFn) (c : IR) (hc : fn.body = c) (hf : tab f = some fn) (h1 : as.length = fn.nparams) (h2 : (decide (fn.nparams ≤ fn.ntmps)) = true)
    (h : Mach (Call tab E) (Fin fn mem r mem') [.code c] .nrm ⟨argsE 0 as, mem⟩) : Call tab E f as mem r mem' :=
  Call.go fn c hc hf h1 h2 h
def nums (k : IntKind) (l : List Int) : List AV := l.map (.int k)
def ints (l : List Int) : AV := .sl l.length 1 (nums .i64 l)
theorem sub_nums {k : IntKind} {l : List Int} {i : Nat} (h : i < l.length) : sub false 1 (nums k l) (i * 1) = some (.int k (l.getD i 0)) := by
  simp only [sub, nums, List.length_map, Nat.mul_one, Bool.false_eq_true, if_false, if_true]
  rw [if_pos (by omega), List.getElem?_map, List.getElem?_eq_getElem h]
  simp [List.getD, h]
theorem freeze_nil {mem : List AObj} : freeze [] mem = mem := by
  apply List.ext_getElem?
  intro i
  simp [freeze]
theorem nums_length {k : IntKind} {l : List Int} : (nums k l).length = l.length := by simp [nums]
theorem fill_nums {k : IntKind} {l : List Int} {i : Nat} {v : Int} : fillIn (nums k l) (i * 1) [.int k v] = nums k (l.take i ++ v :: l.drop (i + 1)) := by
  simp [fillIn, nums, List.map_take, List.map_drop]
theorem flat_nums {k : IntKind} {v : Int} : ∀ {n : Nat}, (List.replicate n [AV.int k v]).flatten = nums k (List.replicate n v)
  | 0 => rfl
  | n + 1 => by rw [List.replicate_succ, List.flatten_cons, flat_nums, List.replicate_succ]; rfl
theorem ar_add {k : IntKind} {x y : Int} : arith .add k x y = some (.int k (k.wrap (x + y))) := rfl
theorem ar_sub {k : IntKind} {x y : Int} : arith .sub k x y = some (.int k (k.wrap (x - y))) := rfl
theorem ar_mul {k : IntKind} {x y : Int} : arith .mul k x y = some (.int k (k.wrap (x * y))) := rfl
theorem ar_quo {k : IntKind} {x y : Int} : arith .quo k x y = if y = 0 then none else some (.int k (k.wrap (x.tdiv y))) := rfl
theorem ar_rem {k : IntKind} {x y : Int} : arith .rem k x y = if y = 0 then none else some (.int k (x.tmod y)) := rfl
theorem ar_eq {k : IntKind} {x y : Int} : arith .eq k x y = some (.bool (x == y)) := rfl
theorem ar_ne {k : IntKind} {x y : Int} : arith .ne k x y = some (.bool (x != y)) := rfl
theorem ar_lt {k : IntKind} {x y : Int} : arith .lt k x y = some (.bool (decide (x < y))) := rfl
theorem ar_le {k : IntKind} {x y : Int} : arith .le k x y = some (.bool (decide (x ≤ y))) := rfl
theorem ar_gt {k : IntKind} {x y : Int} : arith .gt k x y = some (.bool (decide (x > y))) := rfl
theorem ar_ge {k : IntKind} {x y : Int} : arith .ge k x y = some (.bool (decide (x ≥ y))) := rfl
theorem ar_and {k : IntKind} {x y : Int} : arith .and k x y = some (.int k (k.wrap (BitVec.ofInt k.bits x &&& BitVec.ofInt k.bits y).toNat)) := rfl
theorem ar_or {k : IntKind} {x y : Int} : arith .or k x y = some (.int k (k.wrap (BitVec.ofInt k.bits x ||| BitVec.ofInt k.bits y).toNat)) := rfl
theorem ar_xor {k : IntKind} {x y : Int} : arith .xor k x y = some (.int k (k.wrap (BitVec.ofInt k.bits x ^^^ BitVec.ofInt k.bits y).toNat)) := rfl
theorem nat0 : ((0 : Nat) : Int) = 0 := rfl
theorem wrap_i64 {n : Int} (h1 : -9223372036854775808 ≤ n) (h2 : n ≤ 9223372036854775807) : IntKind.i64.wrap n = n := by
  simp only [IntKind.wrap, IntKind.bits, IntKind.signed]
  simp
  omega
end Go.V

namespace Go.V
open Go Go.RowKit
theorem walk_of {P : Program} {tab : Nat → Option IFn} {E : CallRel} (hE : CallsOk P E) (hm : P.follows .mixedOrders = true) (ht : ∀ f i, tab f = some i → okFun P f i = true) {f : Nat} {as : List AV} {b : Bool} (h : Call tab E f as [] (.bool b) []) {W : World} {vals : Array Value}
    (hsz : vals.size = as.length) (hr : ∀ (j : Nat) (c : AV) (u : Value), as[j]? = some c → vals[j]? = some u → RG W (fun b => b < W.heap.size) c u) :
    Calls P f vals W fun e W' => e = .returned (.bool b) ∧ Below W.heap.size W W' := by
  refine (call_ok hE hm ht h W (fun b => b < W.heap.size) [] vals ⟨rfl, fun n o v h => by simp at h, fun n m u v b _ h => by simp at h, fun b h => h⟩ hsz (fun j c u hc hu => .gr (hr j c u hc hu))).mono fun e W' hh => ?_
  obtain ⟨v, fz', ρ', rfl, e1, e2, e3⟩ := hh
  refine ⟨by rw [rep_bool e3], e1.os, e1.tape, e1.output, e1.size, fun k hk => e1.fzblk k hk⟩
theorem rg_row {k : IntKind} {W : World} {a : Option Addr} {len cap : Nat} {zs : List Int}
    (h : (a = none ∧ len = 0 ∧ cap = 0 ∧ zs = []) ∨ ∃ x, a = some x ∧ len ≤ cap ∧ zs.length = cap ∧ (∀ i, i < zs.length → W.cell? (x.add i) = some (.int k (zs.getD i 0)))) :
    RG W (fun b => b < W.heap.size) (.sl (zs.take len).length 1 (nums k (zs.take len))) (.slice a len cap) := by
  rcases h with ⟨rfl, rfl, rfl, rfl⟩ | ⟨x, rfl, h1, h2, h3⟩
  · exact .sl0
  · have hlen : (zs.take len).length = len := by simp; omega
    rw [hlen]
    by_cases h0 : len = 0
    · subst h0
      simp only [List.take_zero, nums, List.map_nil]
      exact .sl0
    · obtain ⟨b, o, sp⟩ := x
      have hc0 := h3 0 (by omega)
      have hsp : sp = none := by
        simp only [Addr.add, if_true, World.cell?] at hc0
        split at hc0
        · split at hc0
          · cases hc0
          · rename_i hh; simpa using hh
        · cases hc0
      subst hsp
      have hcell : ∀ i, i < zs.length → W.cell? ⟨b, o + i, none⟩ = some (.int k (zs.getD i 0)) := by
        intro i hi
        have := h3 i hi
        unfold Addr.add at this
        split at this
        · rename_i hi0; subst hi0; simpa using this
        · exact this
      have hb : b < W.heap.size := by
        have := hcell 0 (by omega)
        unfold World.cell? at this
        split at this
        · rename_i hh; exact (Array.getElem?_eq_some_iff.1 hh).1
        · cases this
      have hget : ∀ (j : Nat), j < len → ((zs.take len).map (Value.int k))[j]? = some (.int k (zs.getD j 0)) := by
        intro j hj
        rw [List.getElem?_map, List.getElem?_take, if_pos hj, List.getElem?_eq_getElem (by omega)]
        simp [List.getD, show j < zs.length by omega]
      refine .sl (vs := (zs.take len).map (Value.int k)) (by omega) h1 (by simp [nums]; omega) (by simp [nums]) hb (fun u hu => ?_) (fun j u hu => ?_) (fun j c u hc hu => ?_)
      · obtain ⟨n, _, rfl⟩ := List.mem_map.1 hu; rfl
      · have hj : j < len := by
          have := (List.getElem?_eq_some_iff.1 hu).1
          simp at this; omega
        rw [hget j hj] at hu
        rw [← hu]
        exact hcell j (by omega)
      · rw [nums, List.getElem?_map] at hc
        rw [List.getElem?_map] at hu
        obtain ⟨n, hn, rfl⟩ := Option.map_eq_some_iff.1 hc
        rw [hn] at hu
        simp only [Option.map_some, Option.some.injEq] at hu
        subst hu
        exact .int
end Go.V

namespace Go.Proofs.YtlejgleocnemoaaGreat.I
open Go Go.V
def c7 : IR :=
 .seq (.reg none [⟨some 3, .box 26 4 (.t 0), none⟩,
  ⟨some 4, .box 26 4 (.t 1), none⟩,
  ⟨some 6, .mov (.k (.bool false)), none⟩])
 (.lv [2, 3, 4] (.seq (.seq (.reg none [⟨some 12, .ld true 4 (.t 3), none⟩,
  ⟨some 13, .callP 25 [.t 12], none⟩,
  ⟨some 14, .not (.t 13), none⟩,
  ⟨some 15, .mov (.t 14), none⟩,
  ⟨some 16, .ld true 4 (.t 4), (some (15, false))⟩,
  ⟨some 17, .callP 25 [.t 16], (some (15, false))⟩,
  ⟨some 18, .not (.t 17), (some (15, false))⟩,
  ⟨some 19, .pick (.t 15) (.k (.bool true)) (.t 18), none⟩])
 (.lv [2, 3, 4, 19] (.cond (.t 19) (.lv [] (.seq (.reg none [⟨some 20, .callP 26 [], none⟩,
  ⟨some 6, .mov (.t 20), none⟩])
 (.ret)))
 (.skip))))
 (.lv [2, 3, 4] (.seq (.reg none [⟨some 7, .mov (.k (.int .i64 0)), none⟩])
 (.lv [2, 3, 4, 7] (.seq (.seq (.reg none [⟨some 21, .mov (.t 2), none⟩])
 (.lv [3, 4, 7, 21] (.cond (.t 21) (.lv [3, 4] (.reg none [⟨some 7, .mov (.k (.int .i64 1)), none⟩]))
 (.skip))))
 (.lv [3, 4, 7] (.seq (.reg (some [0, 1, 2, 3, 4, 5, 6, 7, 8, 9, 10, 11]) [⟨some 23, .ld true 4 (.t 3), none⟩,
  ⟨some 24, .callP 13 [.t 23], none⟩,
  ⟨some 25, .ld true 4 (.t 4), none⟩,
  ⟨some 26, .callP 13 [.t 25], none⟩,
  ⟨some 27, .mov (.t 7), none⟩,
  ⟨some 28, .callP 36 [.t 24, .t 26, .t 27], none⟩,
  ⟨some 22, .mov (.t 28), none⟩,
  ⟨some 29, .ext (.t 22) 0, none⟩,
  ⟨some 30, .ext (.t 22) 1, none⟩,
  ⟨some 8, .alloc 35 [.nilsl 3 1, .bool false, .nilsl 21 1, .nilsl 98 3, .bool false], none⟩,
  ⟨none, .st 5 (.t 8) (.t 29), none⟩,
  ⟨some 9, .mov (.t 30), none⟩])
 (.lv [3, 4, 7, 8, 9] (.seq (.reg none [⟨some 32, .ld true 4 (.t 3), none⟩,
  ⟨some 33, .ld true 4 (.t 4), none⟩,
  ⟨some 34, .mov (.t 7), none⟩,
  ⟨some 35, .callP 37 [.t 32, .t 33, .t 34], none⟩,
  ⟨some 31, .mov (.t 35), none⟩,
  ⟨some 36, .ext (.t 31) 0, none⟩,
  ⟨some 37, .ext (.t 31) 1, none⟩,
  ⟨some 10, .alloc 26 [.nilsl 3 1, .bool false, .nilsl 21 1, .nilsl 72 3], none⟩,
  ⟨none, .st 4 (.t 10) (.t 36), none⟩,
  ⟨some 11, .mov (.t 37), none⟩])
 (.lv [4, 8, 9, 10, 11] (.seq (.reg (some [0, 1, 2, 3, 4, 5, 6, 7, 8, 9, 10, 11, 12, 13, 14, 15, 16]) [⟨some 38, .ld true 5 (.t 8), none⟩,
  ⟨some 39, .mov (.t 9), none⟩,
  ⟨some 40, .ld true 4 (.t 10), none⟩,
  ⟨some 41, .mov (.t 11), none⟩,
  ⟨some 42, .callR 35 [.t 38, .t 39, .t 40, .t 41], none⟩,
  ⟨some 43, .mov (.t 42), none⟩,
  ⟨some 44, .ld true 4 (.t 4), (some (43, true))⟩,
  ⟨some 45, .callP 13 [.t 44], (some (43, true))⟩,
  ⟨some 46, .callP 38 [.t 45], (some (43, true))⟩,
  ⟨some 47, .ld true 4 (.t 4), (some (43, true))⟩,
  ⟨some 48, .callP 39 [.t 47], (some (43, true))⟩,
  ⟨some 49, .callP 35 [.t 46, .k (.int .i64 0), .t 48, .k (.int .i64 0)], (some (43, true))⟩,
  ⟨some 50, .pick (.t 43) (.t 49) (.k (.bool false)), none⟩,
  ⟨some 51, .mov (.t 50), none⟩,
  ⟨some 52, .callP 26 [], (some (51, true))⟩,
  ⟨some 53, .pick (.t 51) (.t 52) (.k (.bool false)), none⟩,
  ⟨some 6, .mov (.t 53), none⟩])
 (.ret)))))))))))))
def i7 : IFn := ⟨3, 54, c7, [.t 6], .pure⟩
def b10_0 : IR :=
 .seq (.seq (.reg none [⟨some 24, .mov (.t 5), none⟩,
  ⟨some 25, .faddr 3 (.t 2), none⟩,
  ⟨some 26, .ld false 1 (.t 25), none⟩,
  ⟨some 27, .lenf (.t 26), none⟩,
  ⟨some 28, .bin .lt (.t 24) (.t 27), none⟩])
 (.lv [2, 5, 28] (.cond (.t 28) (.skip)
 (.exit 0))))
 (.lv [2, 5] (.seq (.block 1 (.seq (.reg none [⟨some 31, .faddr 3 (.t 2), none⟩,
  ⟨some 32, .ld false 1 (.t 31), none⟩,
  ⟨some 33, .mov (.t 5), none⟩,
  ⟨some 34, .iaddrf 3 (.t 32) (.t 33), none⟩,
  ⟨some 35, .faddr 1 (.t 34), none⟩,
  ⟨some 36, .ldf false 1 (.t 35), none⟩,
  ⟨some 37, .slen (.t 36), none⟩,
  ⟨some 38, .bin .gt (.t 37) (.k (.int .i64 40)), none⟩,
  ⟨some 39, .mov (.t 38), none⟩,
  ⟨some 40, .faddr 3 (.t 2), (some (39, false))⟩,
  ⟨some 41, .ld false 1 (.t 40), (some (39, false))⟩,
  ⟨some 42, .mov (.t 5), (some (39, false))⟩,
  ⟨some 43, .iaddrf 3 (.t 41) (.t 42), (some (39, false))⟩,
  ⟨some 44, .faddr 2 (.t 43), (some (39, false))⟩,
  ⟨some 45, .ldf false 1 (.t 44), (some (39, false))⟩,
  ⟨some 46, .slen (.t 45), (some (39, false))⟩,
  ⟨some 47, .bin .gt (.t 46) (.k (.int .i64 40)), (some (39, false))⟩,
  ⟨some 48, .pick (.t 39) (.k (.bool true)) (.t 47), none⟩])
 (.lv [2, 5, 48] (.cond (.t 48) (.lv [] (.seq (.reg none [⟨some 4, .mov (.k (.bool false)), none⟩])
 (.ret)))
 (.skip)))))
 (.lv [2, 5] (.reg none [⟨some 29, .mov (.t 5), none⟩,
  ⟨some 30, .bin .add (.t 29) (.k (.int .i64 1)), none⟩,
  ⟨some 5, .mov (.t 30), none⟩]))))
def k10_0 : IR :=
 .seq (.reg none [⟨some 49, .ld true 4 (.t 2), none⟩,
  ⟨some 50, .callP 44 [.t 49], none⟩,
  ⟨some 4, .mov (.t 50), none⟩])
 (.ret)
def c10 : IR :=
 .seq (.reg none [⟨some 2, .box 26 4 (.t 0), none⟩,
  ⟨some 4, .mov (.k (.bool false)), none⟩])
 (.lv [1, 2] (.seq (.seq (.reg none [⟨some 6, .faddr 2 (.t 2), none⟩,
  ⟨some 7, .ld false 1 (.t 6), none⟩,
  ⟨some 8, .lenf (.t 7), none⟩,
  ⟨some 9, .mov (.t 1), none⟩,
  ⟨some 10, .bin .gt (.t 8) (.t 9), none⟩,
  ⟨some 11, .mov (.t 10), none⟩,
  ⟨some 12, .faddr 3 (.t 2), (some (11, false))⟩,
  ⟨some 13, .ld false 1 (.t 12), (some (11, false))⟩,
  ⟨some 14, .lenf (.t 13), (some (11, false))⟩,
  ⟨some 15, .mov (.t 1), (some (11, false))⟩,
  ⟨some 16, .bin .gt (.t 14) (.t 15), (some (11, false))⟩,
  ⟨some 17, .pick (.t 11) (.k (.bool true)) (.t 16), none⟩,
  ⟨some 18, .mov (.t 17), none⟩,
  ⟨some 19, .faddr 0 (.t 2), (some (18, false))⟩,
  ⟨some 20, .ld false 1 (.t 19), (some (18, false))⟩,
  ⟨some 21, .lenf (.t 20), (some (18, false))⟩,
  ⟨some 22, .bin .gt (.t 21) (.k (.int .i64 8)), (some (18, false))⟩,
  ⟨some 23, .pick (.t 18) (.k (.bool true)) (.t 22), none⟩])
 (.lv [2, 23] (.cond (.t 23) (.lv [] (.seq (.reg none [⟨some 4, .mov (.k (.bool false)), none⟩])
 (.ret)))
 (.skip))))
 (.lv [2] (.seq (.seq (.reg none [⟨some 5, .mov (.k (.int .i64 0)), none⟩])
 (.lv [2, 5] (.block 0 (.loop [2, 5] (some (1, [])) b10_0))))
 k10_0))))
def i10 : IFn := ⟨2, 51, c10, [.t 4], .pure⟩
def c13 : IR :=
 .seq (.reg none [⟨some 1, .box 26 4 (.t 0), none⟩,
  ⟨some 2, .alloc 35 [.nilsl 3 1, .bool false, .nilsl 21 1, .nilsl 98 3, .bool false], none⟩])
 (.lv [1, 2] (.seq (.reg none [⟨some 6, .ld true 4 (.t 1), none⟩,
  ⟨some 7, .callP 51 [.t 6], none⟩,
  ⟨some 5, .mov (.t 7), none⟩,
  ⟨some 8, .ext (.t 5) 0, none⟩,
  ⟨some 9, .ext (.t 5) 1, none⟩,
  ⟨some 3, .alloc 35 [.nilsl 3 1, .bool false, .nilsl 21 1, .nilsl 98 3, .bool false], none⟩,
  ⟨none, .st 5 (.t 3) (.t 8), none⟩,
  ⟨some 4, .mov (.t 9), none⟩])
 (.lv [2, 3] (.seq (.reg none [⟨some 10, .ld true 5 (.t 3), none⟩,
  ⟨none, .st 5 (.t 2) (.t 10), none⟩])
 (.ret)))))
def i13 : IFn := ⟨1, 11, c13, [.c 2 true 5], .pure⟩
def c20 : IR :=
 .seq (.reg none [⟨some 1, .box 26 4 (.t 0), none⟩,
  ⟨some 2, .mov (.k (.int .i64 0)), none⟩])
 (.lv [1] (.seq (.reg none [⟨some 3, .faddr 2 (.t 1), none⟩,
  ⟨some 4, .ld false 1 (.t 3), none⟩,
  ⟨some 5, .lenf (.t 4), none⟩,
  ⟨some 6, .faddr 3 (.t 1), none⟩,
  ⟨some 7, .ld false 1 (.t 6), none⟩,
  ⟨some 8, .lenf (.t 7), none⟩,
  ⟨some 9, .bin .add (.t 5) (.t 8), none⟩,
  ⟨some 2, .mov (.t 9), none⟩])
 (.ret)))
def i20 : IFn := ⟨1, 10, c20, [.t 2], .pure⟩
def c25 : IR :=
 .seq (.reg none [⟨some 1, .box 26 4 (.t 0), none⟩,
  ⟨some 2, .mov (.k (.bool false)), none⟩])
 (.lv [1] (.seq (.reg none [⟨some 3, .ld true 4 (.t 1), none⟩,
  ⟨some 4, .callP 10 [.t 3, .k (.int .i64 250)], none⟩,
  ⟨some 2, .mov (.t 4), none⟩])
 (.ret)))
def i25 : IFn := ⟨1, 5, c25, [.t 2], .pure⟩
def c26 : IR :=
 .seq (.reg none [⟨some 0, .mov (.k (.bool false)), none⟩])
 (.lv [] (.seq (.reg none [⟨some 8, .callP 46 [.k (.int .i64 1)], none⟩,
  ⟨some 9, .bsl 3 1 [.k (.int .i64 5), .k (.int .i64 6), .k (.int .i64 7)], none⟩,
  ⟨some 10, .callF 85 [.t 9], none⟩,
  ⟨some 11, .callP 42 [.t 8, .t 10, .k (.int .i64 (-1))], none⟩,
  ⟨some 7, .mov (.t 11), none⟩,
  ⟨some 12, .ext (.t 7) 0, none⟩,
  ⟨some 13, .ext (.t 7) 1, none⟩,
  ⟨some 1, .alloc 35 [.nilsl 3 1, .bool false, .nilsl 21 1, .nilsl 98 3, .bool false], none⟩,
  ⟨none, .st 5 (.t 1) (.t 12), none⟩,
  ⟨some 2, .mov (.t 13), none⟩])
 (.lv [1, 2] (.seq (.reg none [⟨some 15, .bsl 3 1 [.k (.int .i64 2), .k (.int .i64 3)], none⟩,
  ⟨some 16, .callF 85 [.t 15], none⟩,
  ⟨some 17, .bsl 3 1 [.k (.int .i64 1), .k (.int .i64 2)], none⟩,
  ⟨some 18, .callF 85 [.t 17], none⟩,
  ⟨some 19, .callP 33 [.t 16, .t 18], none⟩,
  ⟨some 14, .mov (.t 19), none⟩,
  ⟨some 20, .ext (.t 14) 0, none⟩,
  ⟨some 21, .ext (.t 14) 1, none⟩,
  ⟨some 3, .alloc 35 [.nilsl 3 1, .bool false, .nilsl 21 1, .nilsl 98 3, .bool false], none⟩,
  ⟨none, .st 5 (.t 3) (.t 20), none⟩,
  ⟨some 4, .mov (.t 21), none⟩])
 (.lv [1, 2, 3, 4] (.seq (.reg (some [0, 1, 2, 3, 4, 5, 6, 7, 8, 9]) [⟨some 23, .bslF 3 1 [.k (.int .i64 0), .k (.int .i64 0)], none⟩,
  ⟨some 24, .callP 85 [.t 23], none⟩,
  ⟨some 25, .ld true 5 (.t 3), none⟩,
  ⟨some 26, .callF 36 [.t 24, .t 25, .k (.int .i64 0)], none⟩,
  ⟨some 22, .mov (.t 26), none⟩,
  ⟨some 27, .ext (.t 22) 0, none⟩,
  ⟨some 28, .ext (.t 22) 1, none⟩,
  ⟨some 5, .alloc 35 [.nilsl 3 1, .bool false, .nilsl 21 1, .nilsl 98 3, .bool false], none⟩,
  ⟨none, .st 5 (.t 5) (.t 27), none⟩,
  ⟨some 6, .mov (.t 28), none⟩])
 (.lv [1, 2, 3, 4, 5, 6] (.seq (.reg (some [0, 1, 2, 3, 4, 5, 6, 7, 8, 9, 10, 11, 12, 13, 14, 15, 16, 17, 18, 19, 20, 21]) [⟨some 29, .ld true 5 (.t 1), none⟩,
  ⟨some 30, .mov (.t 2), none⟩,
  ⟨some 31, .bsl 3 1 [.k (.int .i64 6), .k (.int .i64 7), .k (.int .i64 5)], none⟩,
  ⟨some 32, .callF 32 [.t 31], none⟩,
  ⟨some 33, .callR 35 [.t 29, .t 30, .t 32, .k (.int .i64 0)], none⟩,
  ⟨some 34, .mov (.t 33), none⟩,
  ⟨some 35, .mov (.t 4), (some (34, true))⟩,
  ⟨some 36, .bin .eq (.t 35) (.k (.int .i64 0)), (some (34, true))⟩,
  ⟨some 37, .pick (.t 34) (.t 36) (.k (.bool false)), none⟩,
  ⟨some 38, .mov (.t 37), none⟩,
  ⟨some 39, .ld true 5 (.t 3), (some (38, true))⟩,
  ⟨some 40, .callR 55 [.t 39], (some (38, true))⟩,
  ⟨some 41, .bin .eq (.t 40) (.k (.int .i64 6)), (some (38, true))⟩,
  ⟨some 42, .pick (.t 38) (.t 41) (.k (.bool false)), none⟩,
  ⟨some 43, .mov (.t 42), none⟩,
  ⟨some 44, .ld true 5 (.t 5), (some (43, true))⟩,
  ⟨some 45, .mov (.t 6), (some (43, true))⟩,
  ⟨some 46, .bsl 3 1 [.k (.int .i64 1), .k (.int .i64 1)], (some (43, true))⟩,
  ⟨some 47, .callF 32 [.t 46], (some (43, true))⟩,
  ⟨some 48, .callR 35 [.t 44, .t 45, .t 47, .k (.int .i64 0)], (some (43, true))⟩,
  ⟨some 49, .pick (.t 43) (.t 48) (.k (.bool false)), none⟩,
  ⟨some 0, .mov (.t 49), none⟩])
 (.ret)))))))))
def i26 : IFn := ⟨0, 50, c26, [.t 0], .pure⟩
def c27 : IR :=
 .seq (.reg none [⟨some 2, .box 35 5 (.t 0), none⟩,
  ⟨some 4, .mov (.k (.int .i64 0)), none⟩,
  ⟨some 5, .mov (.k (.bool false)), none⟩])
 (.lv [1, 2] (.seq (.seq (.reg none [⟨some 6, .mov (.t 1), none⟩,
  ⟨some 7, .bin .lt (.t 6) (.k (.int .i64 0)), none⟩])
 (.lv [1, 2, 7] (.cond (.t 7) (.lv [2] (.reg none [⟨some 8, .ld true 5 (.t 2), none⟩,
  ⟨some 9, .callP 56 [.t 8], none⟩,
  ⟨some 10, .bin .sub (.t 9) (.k (.int .i64 1)), none⟩,
  ⟨some 1, .mov (.t 10), none⟩]))
 (.skip))))
 (.lv [1, 2] (.seq (.reg none [⟨some 11, .mov (.t 1), none⟩,
  ⟨some 12, .mov (.t 1), none⟩,
  ⟨some 13, .bin .ge (.t 12) (.k (.int .i64 0)), none⟩,
  ⟨some 14, .mov (.t 13), none⟩,
  ⟨some 15, .mov (.t 1), (some (14, true))⟩,
  ⟨some 16, .ld true 5 (.t 2), (some (14, true))⟩,
  ⟨some 17, .callP 56 [.t 16], (some (14, true))⟩,
  ⟨some 18, .bin .lt (.t 15) (.t 17), (some (14, true))⟩,
  ⟨some 19, .pick (.t 14) (.t 18) (.k (.bool false)), none⟩,
  ⟨some 4, .mov (.t 11), none⟩,
  ⟨some 5, .mov (.t 19), none⟩])
 (.ret)))))
def i27 : IFn := ⟨2, 20, c27, [.t 4, .t 5], .pure⟩
def b29_0 : IR :=
 .seq (.seq (.reg none [⟨some 36, .mov (.t 5), none⟩,
  ⟨some 37, .faddr 3 (.t 2), none⟩,
  ⟨some 38, .ld false 1 (.t 37), none⟩,
  ⟨some 39, .lenf (.t 38), none⟩,
  ⟨some 40, .bin .lt (.t 36) (.t 39), none⟩])
 (.lv [2, 3, 5, 40] (.cond (.t 40) (.skip)
 (.exit 0))))
 (.lv [2, 3, 5] (.seq (.block 1 (.seq (.reg (some [0, 1, 2, 3, 4, 5, 6, 7, 8, 9, 10]) [⟨some 43, .faddr 3 (.t 2), none⟩,
  ⟨some 44, .ld false 1 (.t 43), none⟩,
  ⟨some 45, .mov (.t 5), none⟩,
  ⟨some 46, .iaddrf 3 (.t 44) (.t 45), none⟩,
  ⟨some 47, .ldf true 3 (.t 46), none⟩,
  ⟨some 48, .faddr 3 (.t 3), none⟩,
  ⟨some 49, .ld false 1 (.t 48), none⟩,
  ⟨some 50, .mov (.t 5), none⟩,
  ⟨some 51, .iaddrf 3 (.t 49) (.t 50), none⟩,
  ⟨some 52, .ldf true 3 (.t 51), none⟩,
  ⟨some 53, .bins .ne [0, 2, 2] (.t 47) (.t 52), none⟩])
 (.lv [2, 3, 5, 53] (.cond (.t 53) (.lv [] (.seq (.reg none [⟨some 4, .mov (.k (.bool false)), none⟩])
 (.ret)))
 (.skip)))))
 (.lv [2, 3, 5] (.reg none [⟨some 41, .mov (.t 5), none⟩,
  ⟨some 42, .bin .add (.t 41) (.k (.int .i64 1)), none⟩,
  ⟨some 5, .mov (.t 42), none⟩]))))
def k29_0 : IR :=
 .seq (.reg none [⟨some 4, .mov (.k (.bool true)), none⟩])
 (.ret)
def c29 : IR :=
 .seq (.reg none [⟨some 2, .box 26 4 (.t 0), none⟩,
  ⟨some 3, .box 26 4 (.t 1), none⟩,
  ⟨some 4, .mov (.k (.bool false)), none⟩])
 (.lv [2, 3] (.seq (.seq (.reg none [⟨some 6, .faddr 1 (.t 2), none⟩,
  ⟨some 7, .ld false 1 (.t 6), none⟩,
  ⟨some 8, .faddr 1 (.t 3), none⟩,
  ⟨some 9, .ld false 1 (.t 8), none⟩,
  ⟨some 10, .binb .ne (.t 7) (.t 9), none⟩,
  ⟨some 11, .mov (.t 10), none⟩,
  ⟨some 12, .faddr 0 (.t 2), (some (11, false))⟩,
  ⟨some 13, .ld false 1 (.t 12), (some (11, false))⟩,
  ⟨some 14, .faddr 0 (.t 3), (some (11, false))⟩,
  ⟨some 15, .ld false 1 (.t 14), (some (11, false))⟩,
  ⟨some 16, .callP 65 [.t 13, .t 15], (some (11, false))⟩,
  ⟨some 17, .not (.t 16), (some (11, false))⟩,
  ⟨some 18, .pick (.t 11) (.k (.bool true)) (.t 17), none⟩,
  ⟨some 19, .mov (.t 18), none⟩,
  ⟨some 20, .faddr 2 (.t 2), (some (19, false))⟩,
  ⟨some 21, .ld false 1 (.t 20), (some (19, false))⟩,
  ⟨some 22, .faddr 2 (.t 3), (some (19, false))⟩,
  ⟨some 23, .ld false 1 (.t 22), (some (19, false))⟩,
  ⟨some 24, .callP 86 [.t 21, .t 23], (some (19, false))⟩,
  ⟨some 25, .not (.t 24), (some (19, false))⟩,
  ⟨some 26, .pick (.t 19) (.k (.bool true)) (.t 25), none⟩,
  ⟨some 27, .mov (.t 26), none⟩,
  ⟨some 28, .faddr 3 (.t 2), (some (27, false))⟩,
  ⟨some 29, .ld false 1 (.t 28), (some (27, false))⟩,
  ⟨some 30, .lenf (.t 29), (some (27, false))⟩,
  ⟨some 31, .faddr 3 (.t 3), (some (27, false))⟩,
  ⟨some 32, .ld false 1 (.t 31), (some (27, false))⟩,
  ⟨some 33, .lenf (.t 32), (some (27, false))⟩,
  ⟨some 34, .bin .ne (.t 30) (.t 33), (some (27, false))⟩,
  ⟨some 35, .pick (.t 27) (.k (.bool true)) (.t 34), none⟩])
 (.lv [2, 3, 35] (.cond (.t 35) (.lv [] (.seq (.reg none [⟨some 4, .mov (.k (.bool false)), none⟩])
 (.ret)))
 (.skip))))
 (.lv [2, 3] (.seq (.seq (.reg none [⟨some 5, .mov (.k (.int .i64 0)), none⟩])
 (.lv [2, 3, 5] (.block 0 (.loop [2, 3, 5] (some (2, [])) b29_0))))
 k29_0))))
def i29 : IFn := ⟨2, 54, c29, [.t 4], .pure⟩
def b31_0 : IR :=
 .seq (.reg none [⟨some 17, .bin .lt (.t 16) (.t 15), none⟩])
 (.lv [2, 3, 14, 15, 16, 17] (.seq (.cond (.t 17) (.skip)
 (.exit 0))
 (.lv [2, 3, 14, 15, 16] (.seq (.block 1 (.seq (.reg none [⟨some 18, .iaddrf 3 (.t 14) (.t 16), none⟩,
  ⟨some 19, .ldf true 3 (.t 18), none⟩,
  ⟨some 5, .alloc 98 [.nilsl 191 1, .bool false, .nilsl 191 1], none⟩,
  ⟨none, .st 3 (.t 5) (.t 19), none⟩])
 (.lv [2, 3, 5, 14, 15, 16] (.reg (some [0, 1, 2, 3, 4, 5, 6, 7]) [⟨some 20, .faddr 3 (.t 3), none⟩,
  ⟨some 21, .ld false 1 (.t 20), none⟩,
  ⟨some 22, .ld true 3 (.t 5), none⟩,
  ⟨some 23, .callR 87 [.t 22], none⟩,
  ⟨some 24, .bsl 72 3 [.t 23], none⟩,
  ⟨some 25, .app 72 3 40 (.t 21) (.t 24), none⟩,
  ⟨some 26, .faddr 3 (.t 3), none⟩,
  ⟨none, .st 1 (.t 26) (.t 25), none⟩]))))
 (.lv [2, 3, 14, 15, 16] (.reg none [⟨some 27, .bin .add (.t 16) (.k (.int .i64 1)), none⟩,
  ⟨some 16, .mov (.t 27), none⟩]))))))
def k31_0 : IR :=
 .seq (.reg none [⟨some 28, .ld true 4 (.t 3), none⟩,
  ⟨none, .st 4 (.t 2) (.t 28), none⟩])
 (.ret)
def c31 : IR :=
 .seq (.reg none [⟨some 1, .box 35 5 (.t 0), none⟩,
  ⟨some 2, .alloc 26 [.nilsl 3 1, .bool false, .nilsl 21 1, .nilsl 72 3], none⟩])
 (.lv [1, 2] (.seq (.reg (some [0, 1, 2, 3, 4, 5, 6, 7, 8]) [⟨some 6, .ld true 5 (.t 1), none⟩,
  ⟨some 7, .callP 48 [.t 6], none⟩,
  ⟨some 8, .faddr 1 (.t 1), none⟩,
  ⟨some 9, .ld false 1 (.t 8), none⟩,
  ⟨some 10, .ld true 5 (.t 1), none⟩,
  ⟨some 11, .callZ 59 [.t 10], none⟩,
  ⟨some 12, .build [.nilsl 3 1, .bool false, .nilsl 21 1, .nilsl 72 3] [(0, 1, .t 7), (1, 1, .t 9), (2, 1, .t 11)], none⟩,
  ⟨some 3, .alloc 26 [.nilsl 3 1, .bool false, .nilsl 21 1, .nilsl 72 3], none⟩,
  ⟨none, .st 4 (.t 3) (.t 12), none⟩])
 (.lv [1, 2, 3] (.seq (.seq (.reg none [⟨some 13, .faddr 3 (.t 1), none⟩,
  ⟨some 14, .ld false 1 (.t 13), none⟩,
  ⟨some 15, .lenf (.t 14), none⟩,
  ⟨some 16, .mov (.k (.int .i64 0)), none⟩])
 (.lv [2, 3, 14, 15, 16] (.block 0 (.loop [2, 3, 14, 15, 16] (some (10, [])) b31_0))))
 k31_0))))
def i31 : IFn := ⟨1, 29, c31, [.c 2 true 4], .pure⟩
def b32_0 : IR :=
 .seq (.seq (.reg none [⟨some 9, .mov (.t 4), none⟩,
  ⟨some 10, .mov (.t 0), none⟩,
  ⟨some 11, .lenf (.t 10), none⟩,
  ⟨some 12, .bin .lt (.t 9) (.t 11), none⟩])
 (.lv [0, 2, 3, 4, 12] (.cond (.t 12) (.skip)
 (.exit 0))))
 (.lv [0, 2, 3, 4] (.seq (.block 1 (.reg (some [0, 1, 2, 3, 4, 5, 6, 7, 8, 9, 10]) [⟨some 15, .faddr 3 (.t 3), none⟩,
  ⟨some 16, .ld false 1 (.t 15), none⟩,
  ⟨some 17, .mov (.t 0), none⟩,
  ⟨some 18, .mov (.t 4), none⟩,
  ⟨some 19, .iaddrf 1 (.t 17) (.t 18), none⟩,
  ⟨some 20, .ldf false 1 (.t 19), none⟩,
  ⟨some 21, .callP 88 [.t 20], none⟩,
  ⟨some 22, .bsl 72 3 [.t 21], none⟩,
  ⟨some 23, .app 72 3 40 (.t 16) (.t 22), none⟩,
  ⟨some 24, .faddr 3 (.t 3), none⟩,
  ⟨none, .st 1 (.t 24) (.t 23), none⟩]))
 (.lv [0, 2, 3, 4] (.reg none [⟨some 13, .mov (.t 4), none⟩,
  ⟨some 14, .bin .add (.t 13) (.k (.int .i64 1)), none⟩,
  ⟨some 4, .mov (.t 14), none⟩]))))
def k32_0 : IR :=
 .seq (.reg none [⟨some 25, .ld true 4 (.t 3), none⟩,
  ⟨none, .st 4 (.t 2) (.t 25), none⟩])
 (.ret)
def c32 : IR :=
 .seq (.reg none [⟨some 2, .alloc 26 [.nilsl 3 1, .bool false, .nilsl 21 1, .nilsl 72 3], none⟩])
 (.lv [0, 2] (.seq (.reg none [⟨some 5, .mov (.t 0), none⟩,
  ⟨some 6, .lenf (.t 5), none⟩,
  ⟨some 7, .bsl 3 1 [.t 6], none⟩,
  ⟨some 8, .build [.nilsl 3 1, .bool false, .nilsl 21 1, .nilsl 72 3] [(0, 1, .t 7)], none⟩,
  ⟨some 3, .alloc 26 [.nilsl 3 1, .bool false, .nilsl 21 1, .nilsl 72 3], none⟩,
  ⟨none, .st 4 (.t 3) (.t 8), none⟩])
 (.lv [0, 2, 3] (.seq (.seq (.reg none [⟨some 4, .mov (.k (.int .i64 0)), none⟩])
 (.lv [0, 2, 3, 4] (.block 0 (.loop [0, 2, 3, 4] (some (11, [])) b32_0))))
 k32_0))))
def i32 : IFn := ⟨1, 26, c32, [.c 2 true 4], .pure⟩
def b33_0 : IR :=
 .seq (.reg none [⟨some 26, .bin .lt (.t 25) (.t 24), none⟩])
 (.lv [3, 4, 6, 23, 24, 25, 26] (.seq (.cond (.t 26) (.skip)
 (.exit 0))
 (.lv [3, 4, 6, 23, 24, 25] (.seq (.block 1 (.seq (.reg none [⟨some 27, .iaddr 1 (.t 23) (.t 25), none⟩,
  ⟨some 28, .ld false 1 (.t 27), none⟩,
  ⟨some 9, .mov (.t 28), none⟩])
 (.lv [3, 4, 6, 9, 23, 24, 25] (.seq (.reg none [⟨some 29, .mov (.t 9), none⟩,
  ⟨some 30, .bin .lt (.t 29) (.k (.int .i64 0)), none⟩])
 (.lv [3, 4, 6, 23, 24, 25, 30] (.cond (.t 30) (.lv [4] (.seq (.reg none [⟨some 31, .build [.nilsl 3 1, .bool false, .nilsl 21 1, .nilsl 98 3, .bool false] [], none⟩,
  ⟨none, .st 5 (.t 4) (.t 31), none⟩,
  ⟨some 5, .mov (.k (.int .i64 22)), none⟩])
 (.ret)))
 (.skip)))))))
 (.lv [3, 4, 6, 23, 24, 25] (.reg none [⟨some 32, .bin .add (.t 25) (.k (.int .i64 1)), none⟩,
  ⟨some 25, .mov (.t 32), none⟩]))))))
def b33_1 : IR :=
 .seq (.reg none [⟨some 56, .bin .lt (.t 55) (.t 54), none⟩])
 (.lv [3, 4, 6, 12, 54, 55, 56] (.seq (.cond (.t 56) (.skip)
 (.exit 3))
 (.lv [3, 4, 6, 12, 54, 55] (.seq (.block 4 (.seq (.reg none [⟨some 57, .mov (.t 55), none⟩,
  ⟨some 13, .mov (.t 57), none⟩])
 (.lv [3, 4, 6, 12, 13, 54, 55] (.seq (.reg none [⟨some 58, .mov (.t 12), none⟩,
  ⟨some 59, .mov (.t 13), none⟩,
  ⟨some 60, .iaddr 1 (.t 58) (.t 59), none⟩,
  ⟨none, .st 1 (.t 60) (.k (.int .i64 (-1))), none⟩])
 (.lv [3, 4, 6, 12, 13, 54, 55] (.seq (.reg none [⟨some 61, .ld true 5 (.t 3), none⟩,
  ⟨some 62, .callP 55 [.t 61], none⟩,
  ⟨some 63, .bin .gt (.t 62) (.k (.int .i64 0)), none⟩])
 (.lv [3, 4, 6, 12, 13, 54, 55, 63] (.cond (.t 63) (.lv [3, 4, 6, 12, 13, 54, 55] (.reg none [⟨some 64, .mov (.t 12), none⟩,
  ⟨some 65, .mov (.t 13), none⟩,
  ⟨some 66, .mov (.t 13), none⟩,
  ⟨some 67, .ld true 5 (.t 3), none⟩,
  ⟨some 68, .callP 55 [.t 67], none⟩,
  ⟨some 69, .bin .rem (.t 66) (.t 68), none⟩,
  ⟨some 70, .iaddr 1 (.t 64) (.t 65), none⟩,
  ⟨none, .st 1 (.t 70) (.t 69), none⟩]))
 (.skip)))))))))
 (.lv [3, 4, 6, 12, 54, 55] (.reg none [⟨some 71, .bin .add (.t 55) (.k (.int .i64 1)), none⟩,
  ⟨some 55, .mov (.t 71), none⟩]))))))
def k33_0 : IR :=
 .seq (.reg none [⟨some 72, .ld true 5 (.t 3), none⟩,
  ⟨some 73, .mov (.t 6), none⟩,
  ⟨some 74, .mov (.t 12), none⟩,
  ⟨some 75, .callF 91 [.t 72, .t 73, .t 74], none⟩,
  ⟨some 76, .ext (.t 75) 0, none⟩,
  ⟨some 77, .ext (.t 75) 1, none⟩,
  ⟨none, .st 5 (.t 4) (.t 76), none⟩,
  ⟨some 5, .mov (.t 77), none⟩])
 (.ret)
def k33_1 : IR :=
 .seq (.reg none [⟨some 34, .mov (.t 6), none⟩,
  ⟨some 35, .callR 90 [.t 34], none⟩,
  ⟨some 33, .mov (.t 35), none⟩,
  ⟨some 36, .ext (.t 33) 0, none⟩,
  ⟨some 37, .ext (.t 33) 1, none⟩,
  ⟨some 10, .mov (.t 36), none⟩,
  ⟨some 11, .mov (.t 37), none⟩])
 (.lv [3, 4, 6, 10, 11] (.seq (.block 2 (.seq (.reg none [⟨some 39, .mov (.t 11), none⟩,
  ⟨some 40, .not (.t 39), none⟩,
  ⟨some 41, .mov (.t 40), none⟩,
  ⟨some 42, .mov (.t 6), (some (41, true))⟩,
  ⟨some 43, .len (.t 42), (some (41, true))⟩,
  ⟨some 44, .bin .gt (.t 43) (.k (.int .i64 8)), (some (41, true))⟩,
  ⟨some 45, .pick (.t 41) (.t 44) (.k (.bool false)), none⟩,
  ⟨some 38, .mov (.t 45), none⟩])
 (.lv [3, 4, 6, 10, 11, 38] (.cond (.t 38) (.lv [4] (.seq (.reg none [⟨some 46, .build [.nilsl 3 1, .bool false, .nilsl 21 1, .nilsl 98 3, .bool false] [], none⟩,
  ⟨none, .st 5 (.t 4) (.t 46), none⟩,
  ⟨some 5, .mov (.k (.int .i64 23)), none⟩])
 (.ret)))
 (.lv [3, 4, 6, 10, 11] (.seq (.reg none [⟨some 48, .mov (.t 11), none⟩,
  ⟨some 49, .not (.t 48), none⟩,
  ⟨some 47, .mov (.t 49), none⟩])
 (.lv [3, 4, 6, 10, 47] (.cond (.t 47) (.lv [4] (.seq (.reg none [⟨some 50, .build [.nilsl 3 1, .bool false, .nilsl 21 1, .nilsl 98 3, .bool false] [], none⟩,
  ⟨none, .st 5 (.t 4) (.t 50), none⟩,
  ⟨some 5, .mov (.k (.int .i64 26)), none⟩])
 (.ret)))
 (.skip)))))))))
 (.lv [3, 4, 6, 10] (.seq (.reg none [⟨some 51, .mov (.t 10), none⟩,
  ⟨some 52, .mk 3 8 [.int .i64 0] (.t 51), none⟩,
  ⟨some 12, .mov (.t 52), none⟩])
 (.lv [3, 4, 6, 12] (.seq (.seq (.reg none [⟨some 53, .mov (.t 12), none⟩,
  ⟨some 54, .len (.t 53), none⟩,
  ⟨some 55, .mov (.k (.int .i64 0)), none⟩])
 (.lv [3, 4, 6, 12, 54, 55] (.block 3 (.loop [3, 4, 6, 12, 54, 55] (some (8, [])) b33_1))))
 k33_0))))))
def c33 : IR :=
 .seq (.reg none [⟨some 2, .box 35 5 (.t 0), none⟩,
  ⟨some 3, .box 35 5 (.t 1), none⟩,
  ⟨some 4, .alloc 35 [.nilsl 3 1, .bool false, .nilsl 21 1, .nilsl 98 3, .bool false], none⟩,
  ⟨some 5, .mov (.k (.int .i64 0)), none⟩])
 (.lv [2, 3, 4] (.seq (.reg none [⟨some 15, .ld true 5 (.t 2), none⟩,
  ⟨some 16, .callO 89 [.t 15], none⟩,
  ⟨some 14, .mov (.t 16), none⟩,
  ⟨some 17, .ext (.t 14) 0, none⟩,
  ⟨some 18, .ext (.t 14) 1, none⟩,
  ⟨some 6, .mov (.t 17), none⟩,
  ⟨some 7, .mov (.t 18), none⟩])
 (.lv [3, 4, 6, 7] (.seq (.seq (.reg none [⟨some 19, .mov (.t 7), none⟩,
  ⟨some 20, .bin .ne (.t 19) (.k (.int .i64 0)), none⟩])
 (.lv [3, 4, 6, 7, 20] (.cond (.t 20) (.lv [4, 7] (.seq (.reg none [⟨some 21, .build [.nilsl 3 1, .bool false, .nilsl 21 1, .nilsl 98 3, .bool false] [], none⟩,
  ⟨some 22, .mov (.t 7), none⟩,
  ⟨none, .st 5 (.t 4) (.t 21), none⟩,
  ⟨some 5, .mov (.t 22), none⟩])
 (.ret)))
 (.skip))))
 (.lv [3, 4, 6] (.seq (.seq (.reg none [⟨some 23, .mov (.t 6), none⟩,
  ⟨some 24, .len (.t 23), none⟩,
  ⟨some 25, .mov (.k (.int .i64 0)), none⟩])
 (.lv [3, 4, 6, 23, 24, 25] (.block 0 (.loop [3, 4, 6, 23, 24, 25] (some (7, [])) b33_0))))
 k33_1))))))
def i33 : IFn := ⟨2, 78, c33, [.c 4 true 5, .t 5], .pure⟩
def c35 : IR :=
 .seq (.reg none [⟨some 4, .box 35 5 (.t 0), none⟩,
  ⟨some 6, .box 26 4 (.t 2), none⟩,
  ⟨some 8, .mov (.k (.bool false)), none⟩])
 (.lv [1, 3, 4, 6] (.seq (.seq (.reg none [⟨some 9, .mov (.t 1), none⟩,
  ⟨some 10, .mov (.t 3), none⟩,
  ⟨some 11, .bin .ne (.t 9) (.t 10), none⟩])
 (.lv [3, 4, 6, 11] (.cond (.t 11) (.lv [] (.seq (.reg none [⟨some 8, .mov (.k (.bool false)), none⟩])
 (.ret)))
 (.skip))))
 (.lv [3, 4, 6] (.seq (.seq (.reg none [⟨some 12, .mov (.t 3), none⟩,
  ⟨some 13, .bin .ne (.t 12) (.k (.int .i64 0)), none⟩])
 (.lv [4, 6, 13] (.cond (.t 13) (.lv [4] (.seq (.reg none [⟨some 14, .ld true 5 (.t 4), none⟩,
  ⟨some 15, .callP 55 [.t 14], none⟩,
  ⟨some 16, .bin .eq (.t 15) (.k (.int .i64 0)), none⟩,
  ⟨some 8, .mov (.t 16), none⟩])
 (.ret)))
 (.skip))))
 (.lv [4, 6] (.seq (.reg (some [0, 1, 2, 3, 4]) [⟨some 17, .ld true 5 (.t 4), none⟩,
  ⟨some 18, .callP 31 [.t 17], none⟩,
  ⟨some 19, .ld true 4 (.t 6), none⟩,
  ⟨some 20, .callP 29 [.t 18, .t 19], none⟩,
  ⟨some 8, .mov (.t 20), none⟩])
 (.ret)))))))
def i35 : IFn := ⟨4, 21, c35, [.t 8], .pure⟩
def b36_0 : IR :=
 .seq (.reg none [⟨some 33, .bin .lt (.t 32) (.t 31), none⟩])
 (.lv [2, 4, 6, 8, 10, 31, 32, 33] (.seq (.cond (.t 33) (.skip)
 (.exit 1))
 (.lv [2, 4, 6, 8, 10, 31, 32] (.seq (.block 2 (.seq (.reg none [⟨some 34, .mov (.t 32), none⟩,
  ⟨some 11, .mov (.t 34), none⟩])
 (.lv [2, 4, 6, 8, 10, 11, 31, 32] (.seq (.seq (.reg none [⟨some 35, .mov (.t 8), none⟩,
  ⟨some 36, .mov (.t 11), none⟩,
  ⟨some 37, .iaddr 1 (.t 35) (.t 36), none⟩,
  ⟨some 38, .ld false 1 (.t 37), none⟩,
  ⟨some 39, .mov (.t 2), none⟩,
  ⟨some 40, .bin .lt (.t 38) (.t 39), none⟩,
  ⟨some 41, .mov (.t 40), none⟩,
  ⟨some 42, .mov (.t 8), (some (41, false))⟩,
  ⟨some 43, .mov (.t 11), (some (41, false))⟩,
  ⟨some 44, .iaddr 1 (.t 42) (.t 43), (some (41, false))⟩,
  ⟨some 45, .ld false 1 (.t 44), (some (41, false))⟩,
  ⟨some 46, .mov (.t 2), (some (41, false))⟩,
  ⟨some 47, .mov (.t 8), (some (41, false))⟩,
  ⟨some 48, .len (.t 47), (some (41, false))⟩,
  ⟨some 49, .bin .add (.t 46) (.t 48), (some (41, false))⟩,
  ⟨some 50, .bin .ge (.t 45) (.t 49), (some (41, false))⟩,
  ⟨some 51, .pick (.t 41) (.k (.bool true)) (.t 50), none⟩])
 (.lv [2, 4, 6, 8, 10, 11, 31, 32, 51] (.cond (.t 51) (.lv [6] (.seq (.reg none [⟨some 52, .build [.nilsl 3 1, .bool false, .nilsl 21 1, .nilsl 98 3, .bool false] [], none⟩,
  ⟨none, .st 5 (.t 6) (.t 52), none⟩,
  ⟨some 7, .mov (.k (.int .i64 22)), none⟩])
 (.ret)))
 (.skip))))
 (.lv [2, 4, 6, 8, 10, 11, 31, 32] (.seq (.reg none [⟨some 53, .mov (.t 8), none⟩,
  ⟨some 54, .mov (.t 11), none⟩,
  ⟨some 55, .iaddr 1 (.t 53) (.t 54), none⟩,
  ⟨some 56, .ld false 1 (.t 55), none⟩,
  ⟨some 57, .mov (.t 2), none⟩,
  ⟨some 58, .bin .sub (.t 56) (.t 57), none⟩,
  ⟨some 59, .iaddr 1 (.t 53) (.t 54), none⟩,
  ⟨none, .st 1 (.t 59) (.t 58), none⟩])
 (.lv [2, 4, 6, 8, 10, 11, 31, 32] (.reg none [⟨some 60, .mov (.t 10), none⟩,
  ⟨some 61, .mov (.t 8), none⟩,
  ⟨some 62, .mov (.t 11), none⟩,
  ⟨some 63, .iaddr 1 (.t 61) (.t 62), none⟩,
  ⟨some 64, .ld false 1 (.t 63), none⟩,
  ⟨some 65, .mx (.t 60) (.t 64), none⟩,
  ⟨some 10, .mov (.t 65), none⟩]))))))))
 (.lv [2, 4, 6, 8, 10, 31, 32] (.reg none [⟨some 66, .bin .add (.t 32) (.k (.int .i64 1)), none⟩,
  ⟨some 32, .mov (.t 66), none⟩]))))))
def b36_1 : IR :=
 .seq (.reg none [⟨some 69, .bin .lt (.t 68) (.t 67), none⟩])
 (.lv [4, 6, 8, 67, 68, 69] (.seq (.cond (.t 69) (.skip)
 (.exit 3))
 (.lv [4, 6, 8, 67, 68] (.seq (.block 4 (.seq (.reg none [⟨some 70, .mov (.t 68), none⟩,
  ⟨some 12, .mov (.t 70), none⟩])
 (.lv [4, 6, 8, 12, 67, 68] (.seq (.reg none [⟨some 71, .mov (.t 8), none⟩,
  ⟨some 72, .mov (.t 12), none⟩,
  ⟨some 73, .callR 93 [.t 71, .t 72], none⟩,
  ⟨some 74, .not (.t 73), none⟩])
 (.lv [4, 6, 8, 67, 68, 74] (.cond (.t 74) (.lv [6] (.seq (.reg none [⟨some 75, .build [.nilsl 3 1, .bool false, .nilsl 21 1, .nilsl 98 3, .bool false] [], none⟩,
  ⟨none, .st 5 (.t 6) (.t 75), none⟩,
  ⟨some 7, .mov (.k (.int .i64 22)), none⟩])
 (.ret)))
 (.skip)))))))
 (.lv [4, 6, 8, 67, 68] (.reg none [⟨some 76, .bin .add (.t 68) (.k (.int .i64 1)), none⟩,
  ⟨some 68, .mov (.t 76), none⟩]))))))
def k36_0 : IR :=
 .seq (.reg none [⟨some 77, .mov (.t 8), none⟩,
  ⟨some 78, .ld true 5 (.t 4), none⟩,
  ⟨some 79, .callF 94 [.t 77, .t 78], none⟩,
  ⟨some 80, .ext (.t 79) 0, none⟩,
  ⟨some 81, .ext (.t 79) 1, none⟩,
  ⟨none, .st 5 (.t 6) (.t 80), none⟩,
  ⟨some 7, .mov (.t 81), none⟩])
 (.ret)
def k36_1 : IR :=
 .seq (.seq (.reg none [⟨some 67, .mov (.t 10), none⟩,
  ⟨some 68, .mov (.k (.int .i64 0)), none⟩])
 (.lv [4, 6, 8, 67, 68] (.block 3 (.loop [4, 6, 8, 67, 68] (some (7, [])) b36_1))))
 k36_0
def c36 : IR :=
 .seq (.reg none [⟨some 3, .box 35 5 (.t 0), none⟩,
  ⟨some 4, .box 35 5 (.t 1), none⟩,
  ⟨some 6, .alloc 35 [.nilsl 3 1, .bool false, .nilsl 21 1, .nilsl 98 3, .bool false], none⟩,
  ⟨some 7, .mov (.k (.int .i64 0)), none⟩])
 (.lv [2, 3, 4, 6] (.seq (.reg none [⟨some 14, .ld true 5 (.t 3), none⟩,
  ⟨some 15, .callO 89 [.t 14], none⟩,
  ⟨some 13, .mov (.t 15), none⟩,
  ⟨some 16, .ext (.t 13) 0, none⟩,
  ⟨some 17, .ext (.t 13) 1, none⟩,
  ⟨some 8, .mov (.t 16), none⟩,
  ⟨some 9, .mov (.t 17), none⟩])
 (.lv [2, 4, 6, 8, 9] (.seq (.block 0 (.seq (.reg none [⟨some 19, .mov (.t 9), none⟩,
  ⟨some 20, .bin .ne (.t 19) (.k (.int .i64 0)), none⟩,
  ⟨some 18, .mov (.t 20), none⟩])
 (.lv [2, 4, 6, 8, 9, 18] (.cond (.t 18) (.lv [6, 9] (.seq (.reg none [⟨some 21, .build [.nilsl 3 1, .bool false, .nilsl 21 1, .nilsl 98 3, .bool false] [], none⟩,
  ⟨some 22, .mov (.t 9), none⟩,
  ⟨none, .st 5 (.t 6) (.t 21), none⟩,
  ⟨some 7, .mov (.t 22), none⟩])
 (.ret)))
 (.lv [2, 4, 6, 8] (.seq (.reg none [⟨some 24, .mov (.t 8), none⟩,
  ⟨some 25, .len (.t 24), none⟩,
  ⟨some 26, .ld true 5 (.t 4), none⟩,
  ⟨some 27, .callP 56 [.t 26], none⟩,
  ⟨some 28, .bin .ne (.t 25) (.t 27), none⟩,
  ⟨some 23, .mov (.t 28), none⟩])
 (.lv [2, 4, 6, 8, 23] (.cond (.t 23) (.lv [6] (.seq (.reg none [⟨some 29, .build [.nilsl 3 1, .bool false, .nilsl 21 1, .nilsl 98 3, .bool false] [], none⟩,
  ⟨none, .st 5 (.t 6) (.t 29), none⟩,
  ⟨some 7, .mov (.k (.int .i64 24)), none⟩])
 (.ret)))
 (.skip)))))))))
 (.lv [2, 4, 6, 8] (.seq (.reg none [⟨some 10, .mov (.k (.int .i64 (-1))), none⟩])
 (.lv [2, 4, 6, 8, 10] (.seq (.seq (.reg none [⟨some 30, .mov (.t 8), none⟩,
  ⟨some 31, .len (.t 30), none⟩,
  ⟨some 32, .mov (.k (.int .i64 0)), none⟩])
 (.lv [2, 4, 6, 8, 10, 31, 32] (.block 1 (.loop [2, 4, 6, 8, 10, 31, 32] (some (7, [])) b36_0))))
 k36_1))))))))
def i36 : IFn := ⟨3, 82, c36, [.c 6 true 5, .t 7], .pure⟩
def b37_0 : IR :=
 .seq (.seq (.reg none [⟨some 30, .mov (.t 12), none⟩,
  ⟨some 31, .mov (.t 8), none⟩,
  ⟨some 32, .lenf (.t 31), none⟩,
  ⟨some 33, .bin .lt (.t 30) (.t 32), none⟩])
 (.lv [2, 4, 6, 8, 10, 11, 12, 33] (.cond (.t 33) (.skip)
 (.exit 0))))
 (.lv [2, 4, 6, 8, 10, 11, 12] (.seq (.block 1 (.seq (.seq (.reg none [⟨some 36, .mov (.t 8), none⟩,
  ⟨some 37, .mov (.t 12), none⟩,
  ⟨some 38, .iaddrf 1 (.t 36) (.t 37), none⟩,
  ⟨some 39, .ldf false 1 (.t 38), none⟩,
  ⟨some 40, .mov (.t 2), none⟩,
  ⟨some 41, .bin .lt (.t 39) (.t 40), none⟩,
  ⟨some 42, .mov (.t 41), none⟩,
  ⟨some 43, .mov (.t 8), (some (42, false))⟩,
  ⟨some 44, .mov (.t 12), (some (42, false))⟩,
  ⟨some 45, .iaddrf 1 (.t 43) (.t 44), (some (42, false))⟩,
  ⟨some 46, .ldf false 1 (.t 45), (some (42, false))⟩,
  ⟨some 47, .mov (.t 2), (some (42, false))⟩,
  ⟨some 48, .mov (.t 8), (some (42, false))⟩,
  ⟨some 49, .lenf (.t 48), (some (42, false))⟩,
  ⟨some 50, .bin .add (.t 47) (.t 49), (some (42, false))⟩,
  ⟨some 51, .bin .ge (.t 46) (.t 50), (some (42, false))⟩,
  ⟨some 52, .pick (.t 42) (.k (.bool true)) (.t 51), none⟩])
 (.lv [2, 4, 6, 8, 10, 11, 12, 52] (.cond (.t 52) (.lv [6] (.seq (.reg none [⟨some 53, .build [.nilsl 3 1, .bool false, .nilsl 21 1, .nilsl 72 3] [], none⟩,
  ⟨none, .st 4 (.t 6) (.t 53), none⟩,
  ⟨some 7, .mov (.k (.int .i64 22)), none⟩])
 (.ret)))
 (.skip))))
 (.lv [2, 4, 6, 8, 10, 11, 12] (.seq (.reg none [⟨some 54, .mov (.t 11), none⟩,
  ⟨some 55, .mov (.t 8), none⟩,
  ⟨some 56, .mov (.t 12), none⟩,
  ⟨some 57, .iaddrf 1 (.t 55) (.t 56), none⟩,
  ⟨some 58, .ldf false 1 (.t 57), none⟩,
  ⟨some 59, .mov (.t 2), none⟩,
  ⟨some 60, .bin .sub (.t 58) (.t 59), none⟩,
  ⟨some 61, .bsl 3 1 [.t 60], none⟩,
  ⟨some 62, .app 3 1 8 (.t 54) (.t 61), none⟩,
  ⟨some 11, .mov (.t 62), none⟩])
 (.lv [2, 4, 6, 8, 10, 11, 12] (.seq (.reg none [⟨some 63, .mov (.t 8), none⟩,
  ⟨some 64, .mov (.t 12), none⟩,
  ⟨some 65, .iaddrf 1 (.t 63) (.t 64), none⟩,
  ⟨some 66, .ldf false 1 (.t 65), none⟩,
  ⟨some 67, .mov (.t 2), none⟩,
  ⟨some 68, .bin .sub (.t 66) (.t 67), none⟩,
  ⟨some 69, .mov (.t 10), none⟩,
  ⟨some 70, .bin .gt (.t 68) (.t 69), none⟩])
 (.lv [2, 4, 6, 8, 10, 11, 12, 70] (.cond (.t 70) (.lv [2, 4, 6, 8, 11, 12] (.reg none [⟨some 71, .mov (.t 8), none⟩,
  ⟨some 72, .mov (.t 12), none⟩,
  ⟨some 73, .iaddrf 1 (.t 71) (.t 72), none⟩,
  ⟨some 74, .ldf false 1 (.t 73), none⟩,
  ⟨some 75, .mov (.t 2), none⟩,
  ⟨some 76, .bin .sub (.t 74) (.t 75), none⟩,
  ⟨some 10, .mov (.t 76), none⟩]))
 (.skip)))))))))
 (.lv [2, 4, 6, 8, 10, 11, 12] (.reg none [⟨some 34, .mov (.t 12), none⟩,
  ⟨some 35, .bin .add (.t 34) (.k (.int .i64 1)), none⟩,
  ⟨some 12, .mov (.t 35), none⟩]))))
def b37_1 : IR :=
 .seq (.seq (.reg none [⟨some 77, .mov (.t 13), none⟩,
  ⟨some 78, .mov (.t 10), none⟩,
  ⟨some 79, .bin .lt (.t 77) (.t 78), none⟩])
 (.lv [4, 6, 10, 11, 13, 79] (.cond (.t 79) (.skip)
 (.exit 2))))
 (.lv [4, 6, 10, 11, 13] (.seq (.block 3 (.seq (.reg none [⟨some 82, .mov (.t 11), none⟩,
  ⟨some 83, .mov (.t 13), none⟩,
  ⟨some 84, .callR 95 [.t 82, .t 83], none⟩,
  ⟨some 85, .not (.t 84), none⟩])
 (.lv [4, 6, 10, 11, 13, 85] (.cond (.t 85) (.lv [6] (.seq (.reg none [⟨some 86, .build [.nilsl 3 1, .bool false, .nilsl 21 1, .nilsl 72 3] [], none⟩,
  ⟨none, .st 4 (.t 6) (.t 86), none⟩,
  ⟨some 7, .mov (.k (.int .i64 22)), none⟩])
 (.ret)))
 (.skip)))))
 (.lv [4, 6, 10, 11, 13] (.reg none [⟨some 80, .mov (.t 13), none⟩,
  ⟨some 81, .bin .add (.t 80) (.k (.int .i64 1)), none⟩,
  ⟨some 13, .mov (.t 81), none⟩]))))
def k37_0 : IR :=
 .seq (.reg none [⟨some 87, .mov (.t 11), none⟩,
  ⟨some 88, .ld true 4 (.t 4), none⟩,
  ⟨some 89, .callF 96 [.t 87, .t 88], none⟩,
  ⟨none, .st 4 (.t 6) (.t 89), none⟩,
  ⟨some 7, .mov (.k (.int .i64 0)), none⟩])
 (.ret)
def k37_1 : IR :=
 .seq (.seq (.reg none [⟨some 13, .mov (.k (.int .i64 0)), none⟩])
 (.lv [4, 6, 10, 11, 13] (.block 2 (.loop [4, 6, 10, 11, 13] (some (7, [])) b37_1))))
 k37_0
def c37 : IR :=
 .seq (.reg none [⟨some 3, .box 26 4 (.t 0), none⟩,
  ⟨some 4, .box 26 4 (.t 1), none⟩,
  ⟨some 6, .alloc 26 [.nilsl 3 1, .bool false, .nilsl 21 1, .nilsl 72 3], none⟩,
  ⟨some 7, .mov (.k (.int .i64 0)), none⟩])
 (.lv [2, 3, 4, 6] (.seq (.reg none [⟨some 15, .ld true 4 (.t 3), none⟩,
  ⟨some 16, .callP 92 [.t 15], none⟩,
  ⟨some 14, .mov (.t 16), none⟩,
  ⟨some 17, .ext (.t 14) 0, none⟩,
  ⟨some 18, .ext (.t 14) 1, none⟩,
  ⟨some 8, .mov (.t 17), none⟩,
  ⟨some 9, .mov (.t 18), none⟩])
 (.lv [2, 4, 6, 8, 9] (.seq (.seq (.reg none [⟨some 19, .mov (.t 9), none⟩,
  ⟨some 20, .bin .ne (.t 19) (.k (.int .i64 0)), none⟩])
 (.lv [2, 4, 6, 8, 9, 20] (.cond (.t 20) (.lv [6, 9] (.seq (.reg none [⟨some 21, .build [.nilsl 3 1, .bool false, .nilsl 21 1, .nilsl 72 3] [], none⟩,
  ⟨some 22, .mov (.t 9), none⟩,
  ⟨none, .st 4 (.t 6) (.t 21), none⟩,
  ⟨some 7, .mov (.t 22), none⟩])
 (.ret)))
 (.skip))))
 (.lv [2, 4, 6, 8] (.seq (.seq (.reg none [⟨some 23, .mov (.t 8), none⟩,
  ⟨some 24, .lenf (.t 23), none⟩,
  ⟨some 25, .faddr 0 (.t 4), none⟩,
  ⟨some 26, .ld false 1 (.t 25), none⟩,
  ⟨some 27, .lenf (.t 26), none⟩,
  ⟨some 28, .bin .ne (.t 24) (.t 27), none⟩])
 (.lv [2, 4, 6, 8, 28] (.cond (.t 28) (.lv [6] (.seq (.reg none [⟨some 29, .build [.nilsl 3 1, .bool false, .nilsl 21 1, .nilsl 72 3] [], none⟩,
  ⟨none, .st 4 (.t 6) (.t 29), none⟩,
  ⟨some 7, .mov (.k (.int .i64 24)), none⟩])
 (.ret)))
 (.skip))))
 (.lv [2, 4, 6, 8] (.seq (.reg none [⟨some 10, .mov (.k (.int .i64 (-1))), none⟩])
 (.lv [2, 4, 6, 8, 10] (.seq (.reg none [⟨some 11, .newnil 3 1, none⟩])
 (.lv [2, 4, 6, 8, 10, 11] (.seq (.seq (.reg none [⟨some 12, .mov (.k (.int .i64 0)), none⟩])
 (.lv [2, 4, 6, 8, 10, 11, 12] (.block 0 (.loop [2, 4, 6, 8, 10, 11, 12] (some (7, [])) b37_0))))
 k37_1))))))))))))
def i37 : IFn := ⟨3, 90, c37, [.c 6 true 4, .t 7], .pure⟩
def b38_0 : IR :=
 .seq (.reg none [⟨some 13, .bin .lt (.t 12) (.t 11), none⟩])
 (.lv [1, 2, 3, 11, 12, 13] (.seq (.cond (.t 13) (.skip)
 (.exit 0))
 (.lv [1, 2, 3, 11, 12] (.seq (.block 1 (.seq (.reg none [⟨some 14, .mov (.t 12), none⟩,
  ⟨some 4, .mov (.t 14), none⟩])
 (.lv [1, 2, 3, 4, 11, 12] (.reg none [⟨some 15, .mov (.t 3), none⟩,
  ⟨some 16, .mov (.t 4), none⟩,
  ⟨some 17, .ld true 5 (.t 1), none⟩,
  ⟨some 18, .callP 56 [.t 17], none⟩,
  ⟨some 19, .bin .sub (.t 18) (.k (.int .i64 1)), none⟩,
  ⟨some 20, .mov (.t 4), none⟩,
  ⟨some 21, .bin .sub (.t 19) (.t 20), none⟩,
  ⟨some 22, .iaddr 1 (.t 15) (.t 16), none⟩,
  ⟨none, .st 1 (.t 22) (.t 21), none⟩]))))
 (.lv [1, 2, 3, 11, 12] (.reg none [⟨some 23, .bin .add (.t 12) (.k (.int .i64 1)), none⟩,
  ⟨some 12, .mov (.t 23), none⟩]))))))
def k38_0 : IR :=
 .seq (.reg none [⟨some 25, .mov (.t 3), none⟩,
  ⟨some 26, .ld true 5 (.t 1), none⟩,
  ⟨some 27, .callF 94 [.t 25, .t 26], none⟩,
  ⟨some 24, .mov (.t 27), none⟩,
  ⟨some 28, .ext (.t 24) 0, none⟩,
  ⟨some 29, .ext (.t 24) 1, none⟩,
  ⟨some 5, .alloc 35 [.nilsl 3 1, .bool false, .nilsl 21 1, .nilsl 98 3, .bool false], none⟩,
  ⟨none, .st 5 (.t 5) (.t 28), none⟩,
  ⟨some 6, .mov (.t 29), none⟩])
 (.lv [2, 5] (.seq (.reg none [⟨some 30, .ld true 5 (.t 5), none⟩,
  ⟨none, .st 5 (.t 2) (.t 30), none⟩])
 (.ret)))
def c38 : IR :=
 .seq (.reg none [⟨some 1, .box 35 5 (.t 0), none⟩,
  ⟨some 2, .alloc 35 [.nilsl 3 1, .bool false, .nilsl 21 1, .nilsl 98 3, .bool false], none⟩])
 (.lv [1, 2] (.seq (.reg none [⟨some 7, .ld true 5 (.t 1), none⟩,
  ⟨some 8, .callP 56 [.t 7], none⟩,
  ⟨some 9, .mk 3 8 [.int .i64 0] (.t 8), none⟩,
  ⟨some 3, .mov (.t 9), none⟩])
 (.lv [1, 2, 3] (.seq (.seq (.reg none [⟨some 10, .mov (.t 3), none⟩,
  ⟨some 11, .len (.t 10), none⟩,
  ⟨some 12, .mov (.k (.int .i64 0)), none⟩])
 (.lv [1, 2, 3, 11, 12] (.block 0 (.loop [1, 2, 3, 11, 12] (some (6, [])) b38_0))))
 k38_0))))
def i38 : IFn := ⟨1, 31, c38, [.c 2 true 5], .pure⟩
def b39_0 : IR :=
 .seq (.seq (.reg none [⟨some 5, .mov (.t 4), none⟩,
  ⟨some 6, .faddr 0 (.t 1), none⟩,
  ⟨some 7, .ld false 1 (.t 6), none⟩,
  ⟨some 8, .lenf (.t 7), none⟩,
  ⟨some 9, .bin .lt (.t 5) (.t 8), none⟩])
 (.lv [1, 2, 3, 4, 9] (.cond (.t 9) (.skip)
 (.exit 0))))
 (.lv [1, 2, 3, 4] (.seq (.block 1 (.reg none [⟨some 12, .mov (.t 3), none⟩,
  ⟨some 13, .faddr 0 (.t 1), none⟩,
  ⟨some 14, .ld false 1 (.t 13), none⟩,
  ⟨some 15, .lenf (.t 14), none⟩,
  ⟨some 16, .bin .sub (.t 15) (.k (.int .i64 1)), none⟩,
  ⟨some 17, .mov (.t 4), none⟩,
  ⟨some 18, .bin .sub (.t 16) (.t 17), none⟩,
  ⟨some 19, .bsl 3 1 [.t 18], none⟩,
  ⟨some 20, .app 3 1 8 (.t 12) (.t 19), none⟩,
  ⟨some 3, .mov (.t 20), none⟩]))
 (.lv [1, 2, 3, 4] (.reg none [⟨some 10, .mov (.t 4), none⟩,
  ⟨some 11, .bin .add (.t 10) (.k (.int .i64 1)), none⟩,
  ⟨some 4, .mov (.t 11), none⟩]))))
def k39_0 : IR :=
 .seq (.reg none [⟨some 21, .mov (.t 3), none⟩,
  ⟨some 22, .ld true 4 (.t 1), none⟩,
  ⟨some 23, .callF 96 [.t 21, .t 22], none⟩,
  ⟨none, .st 4 (.t 2) (.t 23), none⟩])
 (.ret)
def c39 : IR :=
 .seq (.reg none [⟨some 1, .box 26 4 (.t 0), none⟩,
  ⟨some 2, .alloc 26 [.nilsl 3 1, .bool false, .nilsl 21 1, .nilsl 72 3], none⟩])
 (.lv [1, 2] (.seq (.reg none [⟨some 3, .newnil 3 1, none⟩])
 (.lv [1, 2, 3] (.seq (.seq (.reg none [⟨some 4, .mov (.k (.int .i64 0)), none⟩])
 (.lv [1, 2, 3, 4] (.block 0 (.loop [1, 2, 3, 4] (some (6, [])) b39_0))))
 k39_0))))
def i39 : IFn := ⟨1, 24, c39, [.c 2 true 4], .pure⟩
def c42 : IR :=
 .seq (.reg none [⟨some 3, .box 35 5 (.t 0), none⟩,
  ⟨some 4, .box 35 5 (.t 1), none⟩,
  ⟨some 6, .alloc 35 [.nilsl 3 1, .bool false, .nilsl 21 1, .nilsl 98 3, .bool false], none⟩,
  ⟨some 7, .mov (.k (.int .i64 0)), none⟩])
 (.lv [2, 3, 4, 6] (.seq (.reg none [⟨some 14, .ld true 5 (.t 3), none⟩,
  ⟨some 15, .callO 100 [.t 14], none⟩,
  ⟨some 13, .mov (.t 15), none⟩,
  ⟨some 16, .ext (.t 13) 0, none⟩,
  ⟨some 17, .ext (.t 13) 1, none⟩,
  ⟨some 8, .alloc 22 [.nilsl 3 1], none⟩,
  ⟨none, .st 1 (.t 8) (.t 16), none⟩,
  ⟨some 9, .mov (.t 17), none⟩])
 (.lv [2, 3, 4, 6, 8, 9] (.seq (.seq (.reg none [⟨some 18, .mov (.t 9), none⟩,
  ⟨some 19, .not (.t 18), none⟩])
 (.lv [2, 3, 4, 6, 8, 19] (.cond (.t 19) (.lv [6] (.seq (.reg none [⟨some 20, .build [.nilsl 3 1, .bool false, .nilsl 21 1, .nilsl 98 3, .bool false] [], none⟩,
  ⟨none, .st 5 (.t 6) (.t 20), none⟩,
  ⟨some 7, .mov (.k (.int .i64 22)), none⟩])
 (.ret)))
 (.skip))))
 (.lv [2, 3, 4, 6, 8] (.seq (.seq (.reg none [⟨some 21, .ld true 5 (.t 4), none⟩,
  ⟨some 22, .callP 56 [.t 21], none⟩,
  ⟨some 23, .bin .eq (.t 22) (.k (.int .i64 0)), none⟩,
  ⟨some 24, .mov (.t 23), none⟩,
  ⟨some 25, .mov (.t 2), (some (24, true))⟩,
  ⟨some 26, .bin .lt (.t 25) (.k (.int .i64 0)), (some (24, true))⟩,
  ⟨some 27, .pick (.t 24) (.t 26) (.k (.bool false)), none⟩])
 (.lv [2, 3, 4, 6, 8, 27] (.cond (.t 27) (.lv [3, 4, 6] (.seq (.seq (.reg none [⟨some 28, .ld true 5 (.t 3), none⟩,
  ⟨some 29, .callP 55 [.t 28], none⟩,
  ⟨some 30, .bin .ne (.t 29) (.k (.int .i64 1)), none⟩])
 (.lv [4, 6, 30] (.cond (.t 30) (.lv [6] (.seq (.reg none [⟨some 31, .build [.nilsl 3 1, .bool false, .nilsl 21 1, .nilsl 98 3, .bool false] [], none⟩,
  ⟨none, .st 5 (.t 6) (.t 31), none⟩,
  ⟨some 7, .mov (.k (.int .i64 23)), none⟩])
 (.ret)))
 (.skip))))
 (.lv [4, 6] (.seq (.reg none [⟨some 32, .ld true 5 (.t 4), none⟩,
  ⟨none, .st 5 (.t 6) (.t 32), none⟩,
  ⟨some 7, .mov (.k (.int .i64 0)), none⟩])
 (.ret)))))
 (.skip))))
 (.lv [2, 3, 4, 6, 8] (.seq (.reg none [⟨some 34, .ld true 5 (.t 4), none⟩,
  ⟨some 35, .mov (.t 2), none⟩,
  ⟨some 36, .callP 27 [.t 34, .t 35], none⟩,
  ⟨some 33, .mov (.t 36), none⟩,
  ⟨some 37, .ext (.t 33) 0, none⟩,
  ⟨some 38, .ext (.t 33) 1, none⟩,
  ⟨some 10, .mov (.t 37), none⟩,
  ⟨some 9, .mov (.t 38), none⟩])
 (.lv [3, 4, 6, 8, 9, 10] (.seq (.seq (.reg none [⟨some 39, .mov (.t 9), none⟩,
  ⟨some 40, .not (.t 39), none⟩])
 (.lv [3, 4, 6, 8, 10, 40] (.cond (.t 40) (.lv [6] (.seq (.reg none [⟨some 41, .build [.nilsl 3 1, .bool false, .nilsl 21 1, .nilsl 98 3, .bool false] [], none⟩,
  ⟨none, .st 5 (.t 6) (.t 41), none⟩,
  ⟨some 7, .mov (.k (.int .i64 23)), none⟩])
 (.ret)))
 (.skip))))
 (.lv [3, 4, 6, 8, 10] (.seq (.reg none [⟨some 42, .ld true 5 (.t 4), none⟩,
  ⟨some 43, .callP 48 [.t 42], none⟩,
  ⟨some 44, .mov (.t 10), none⟩,
  ⟨some 45, .callP 101 [.t 43, .t 44], none⟩,
  ⟨some 11, .mov (.t 45), none⟩])
 (.lv [3, 4, 6, 8, 10, 11] (.seq (.reg none [⟨some 46, .ld true 5 (.t 3), none⟩,
  ⟨some 47, .callP 56 [.t 46], none⟩,
  ⟨some 48, .bin .eq (.t 47) (.k (.int .i64 0)), none⟩,
  ⟨some 49, .mov (.t 48), none⟩,
  ⟨some 50, .ld true 5 (.t 3), (some (49, false))⟩,
  ⟨some 51, .callP 55 [.t 50], (some (49, false))⟩,
  ⟨some 52, .bin .eq (.t 51) (.k (.int .i64 1)), (some (49, false))⟩,
  ⟨some 53, .mov (.t 52), (some (49, false))⟩,
  ⟨some 54, .ld true 5 (.t 3), (some (53, true))⟩,
  ⟨some 55, .callP 56 [.t 54], (some (53, true))⟩,
  ⟨some 56, .bin .eq (.t 55) (.k (.int .i64 1)), (some (53, true))⟩,
  ⟨some 57, .pick (.t 53) (.t 56) (.k (.bool false)), (some (49, false))⟩,
  ⟨some 58, .pick (.t 49) (.k (.bool true)) (.t 57), none⟩,
  ⟨some 12, .alloc 4 [.bool false], none⟩,
  ⟨none, .st 1 (.t 12) (.t 58), none⟩])
 (.lv [3, 4, 6, 8, 10, 11, 12] (.seq (.block 0 (.seq (.reg none [⟨some 60, .ld false 1 (.t 12), none⟩,
  ⟨some 61, .not (.t 60), none⟩,
  ⟨some 62, .mov (.t 61), none⟩,
  ⟨some 63, .ld true 5 (.t 3), (some (62, true))⟩,
  ⟨some 64, .callP 56 [.t 63], (some (62, true))⟩,
  ⟨some 65, .mov (.t 11), (some (62, true))⟩,
  ⟨some 66, .lenf (.t 65), (some (62, true))⟩,
  ⟨some 67, .bin .ne (.t 64) (.t 66), (some (62, true))⟩,
  ⟨some 68, .pick (.t 62) (.t 67) (.k (.bool false)), none⟩,
  ⟨some 59, .mov (.t 68), none⟩])
 (.lv [3, 4, 6, 8, 10, 11, 12, 59] (.cond (.t 59) (.lv [6] (.seq (.reg none [⟨some 69, .build [.nilsl 3 1, .bool false, .nilsl 21 1, .nilsl 98 3, .bool false] [], none⟩,
  ⟨none, .st 5 (.t 6) (.t 69), none⟩,
  ⟨some 7, .mov (.k (.int .i64 23)), none⟩])
 (.ret)))
 (.lv [3, 4, 6, 8, 10, 11, 12] (.seq (.reg none [⟨some 71, .ld false 1 (.t 12), none⟩,
  ⟨some 72, .not (.t 71), none⟩,
  ⟨some 73, .mov (.t 72), none⟩,
  ⟨some 74, .ld true 5 (.t 3), (some (73, true))⟩,
  ⟨some 75, .callP 48 [.t 74], (some (73, true))⟩,
  ⟨some 76, .mov (.t 11), (some (73, true))⟩,
  ⟨some 77, .callP 57 [.t 75, .t 76], (some (73, true))⟩,
  ⟨some 78, .not (.t 77), (some (73, true))⟩,
  ⟨some 79, .pick (.t 73) (.t 78) (.k (.bool false)), none⟩,
  ⟨some 70, .mov (.t 79), none⟩])
 (.lv [4, 6, 8, 10, 12, 70] (.cond (.t 70) (.lv [6] (.seq (.reg none [⟨some 80, .build [.nilsl 3 1, .bool false, .nilsl 21 1, .nilsl 98 3, .bool false] [], none⟩,
  ⟨none, .st 5 (.t 6) (.t 80), none⟩,
  ⟨some 7, .mov (.k (.int .i64 24)), none⟩])
 (.ret)))
 (.skip)))))))))
 (.lv [4, 6, 8, 10, 12] (.seq (.reg none [⟨some 81, .ld true 5 (.t 4), none⟩,
  ⟨some 82, .mov (.t 10), none⟩,
  ⟨some 83, .mkfn 102 [.t 12, .t 8], none⟩,
  ⟨some 84, .callF 97 [.t 81, .t 82, .t 83], none⟩,
  ⟨some 85, .ext (.t 84) 0, none⟩,
  ⟨some 86, .ext (.t 84) 1, none⟩,
  ⟨none, .st 5 (.t 6) (.t 85), none⟩,
  ⟨some 7, .mov (.t 86), none⟩])
 (.ret)))))))))))))))))))
def i42 : IFn := ⟨3, 87, c42, [.c 6 true 5, .t 7], .pure⟩
def b44_0 : IR :=
 .seq (.seq (.reg none [⟨some 49, .mov (.t 5), none⟩,
  ⟨some 50, .faddr 3 (.t 1), none⟩,
  ⟨some 51, .ld false 1 (.t 50), none⟩,
  ⟨some 52, .lenf (.t 51), none⟩,
  ⟨some 53, .bin .lt (.t 49) (.t 52), none⟩])
 (.lv [1, 5, 53] (.cond (.t 53) (.skip)
 (.exit 0))))
 (.lv [1, 5] (.seq (.block 1 (.seq (.reg none [⟨some 56, .faddr 3 (.t 1), none⟩,
  ⟨some 57, .ld false 1 (.t 56), none⟩,
  ⟨some 58, .mov (.t 5), none⟩,
  ⟨some 59, .iaddrf 3 (.t 57) (.t 58), none⟩,
  ⟨some 60, .ldf true 3 (.t 59), none⟩,
  ⟨some 61, .callP 106 [.t 60], none⟩,
  ⟨some 62, .not (.t 61), none⟩])
 (.lv [1, 5, 62] (.cond (.t 62) (.lv [] (.seq (.reg none [⟨some 2, .mov (.k (.bool false)), none⟩])
 (.ret)))
 (.skip)))))
 (.lv [1, 5] (.reg none [⟨some 54, .mov (.t 5), none⟩,
  ⟨some 55, .bin .add (.t 54) (.k (.int .i64 1)), none⟩,
  ⟨some 5, .mov (.t 55), none⟩]))))
def k44_0 : IR :=
 .seq (.reg none [⟨some 2, .mov (.k (.bool true)), none⟩])
 (.ret)
def c44 : IR :=
 .seq (.reg none [⟨some 1, .box 26 4 (.t 0), none⟩,
  ⟨some 2, .mov (.k (.bool false)), none⟩])
 (.lv [1] (.seq (.reg none [⟨some 7, .faddr 0 (.t 1), none⟩,
  ⟨some 8, .ld false 1 (.t 7), none⟩,
  ⟨some 9, .callP 78 [.t 8], none⟩,
  ⟨some 6, .mov (.t 9), none⟩,
  ⟨some 10, .ext (.t 6) 0, none⟩,
  ⟨some 11, .ext (.t 6) 1, none⟩,
  ⟨some 3, .mov (.t 10), none⟩,
  ⟨some 4, .mov (.t 11), none⟩])
 (.lv [1, 3, 4] (.seq (.seq (.reg none [⟨some 12, .mov (.t 4), none⟩,
  ⟨some 13, .not (.t 12), none⟩,
  ⟨some 14, .mov (.t 13), none⟩,
  ⟨some 15, .faddr 1 (.t 1), (some (14, false))⟩,
  ⟨some 16, .ld false 1 (.t 15), (some (14, false))⟩,
  ⟨some 17, .mov (.t 16), (some (14, false))⟩,
  ⟨some 18, .faddr 2 (.t 1), (some (17, true))⟩,
  ⟨some 19, .ld false 1 (.t 18), (some (17, true))⟩,
  ⟨some 20, .lenf (.t 19), (some (17, true))⟩,
  ⟨some 21, .mov (.t 3), (some (17, true))⟩,
  ⟨some 22, .bin .ne (.t 20) (.t 21), (some (17, true))⟩,
  ⟨some 23, .mov (.t 22), (some (17, true))⟩,
  ⟨some 24, .faddr 3 (.t 1), (some (23, false))⟩,
  ⟨some 25, .ld false 1 (.t 24), (some (23, false))⟩,
  ⟨some 26, .lenf (.t 25), (some (23, false))⟩,
  ⟨some 27, .bin .ne (.t 26) (.k (.int .i64 0)), (some (23, false))⟩,
  ⟨some 28, .pick (.t 23) (.k (.bool true)) (.t 27), (some (17, true))⟩,
  ⟨some 29, .pick (.t 17) (.t 28) (.k (.bool false)), (some (14, false))⟩,
  ⟨some 30, .pick (.t 14) (.k (.bool true)) (.t 29), none⟩,
  ⟨some 31, .mov (.t 30), none⟩,
  ⟨some 32, .faddr 1 (.t 1), (some (31, false))⟩,
  ⟨some 33, .ld false 1 (.t 32), (some (31, false))⟩,
  ⟨some 34, .not (.t 33), (some (31, false))⟩,
  ⟨some 35, .mov (.t 34), (some (31, false))⟩,
  ⟨some 36, .faddr 3 (.t 1), (some (35, true))⟩,
  ⟨some 37, .ld false 1 (.t 36), (some (35, true))⟩,
  ⟨some 38, .lenf (.t 37), (some (35, true))⟩,
  ⟨some 39, .mov (.t 3), (some (35, true))⟩,
  ⟨some 40, .bin .ne (.t 38) (.t 39), (some (35, true))⟩,
  ⟨some 41, .mov (.t 40), (some (35, true))⟩,
  ⟨some 42, .faddr 2 (.t 1), (some (41, false))⟩,
  ⟨some 43, .ld false 1 (.t 42), (some (41, false))⟩,
  ⟨some 44, .lenf (.t 43), (some (41, false))⟩,
  ⟨some 45, .bin .ne (.t 44) (.k (.int .i64 0)), (some (41, false))⟩,
  ⟨some 46, .pick (.t 41) (.k (.bool true)) (.t 45), (some (35, true))⟩,
  ⟨some 47, .pick (.t 35) (.t 46) (.k (.bool false)), (some (31, false))⟩,
  ⟨some 48, .pick (.t 31) (.k (.bool true)) (.t 47), none⟩])
 (.lv [1, 48] (.cond (.t 48) (.lv [] (.seq (.reg none [⟨some 2, .mov (.k (.bool false)), none⟩])
 (.ret)))
 (.skip))))
 (.lv [1] (.seq (.seq (.reg none [⟨some 5, .mov (.k (.int .i64 0)), none⟩])
 (.lv [1, 5] (.block 0 (.loop [1, 5] (some (1, [])) b44_0))))
 k44_0))))))
def i44 : IFn := ⟨1, 63, c44, [.t 2], .pure⟩
def b45_0 : IR :=
 .seq (.reg none [⟨some 13, .bin .lt (.t 12) (.t 11), none⟩])
 (.lv [2, 3, 10, 11, 12, 13] (.seq (.cond (.t 13) (.skip)
 (.exit 0))
 (.lv [2, 3, 10, 11, 12] (.seq (.block 1 (.seq (.reg none [⟨some 14, .iaddrf 1 (.t 10) (.t 12), none⟩,
  ⟨some 15, .ldf false 1 (.t 14), none⟩,
  ⟨some 5, .mov (.t 15), none⟩])
 (.lv [2, 3, 5, 10, 11, 12] (.reg (some [0, 1, 2, 3, 4, 5, 6, 7]) [⟨some 16, .faddr 3 (.t 3), none⟩,
  ⟨some 17, .ld false 1 (.t 16), none⟩,
  ⟨some 18, .mov (.t 5), none⟩,
  ⟨some 19, .callP 107 [.t 18], none⟩,
  ⟨some 20, .bsl 98 3 [.t 19], none⟩,
  ⟨some 21, .app 98 3 56 (.t 17) (.t 20), none⟩,
  ⟨some 22, .faddr 3 (.t 3), none⟩,
  ⟨none, .st 1 (.t 22) (.t 21), none⟩]))))
 (.lv [2, 3, 10, 11, 12] (.reg none [⟨some 23, .bin .add (.t 12) (.k (.int .i64 1)), none⟩,
  ⟨some 12, .mov (.t 23), none⟩]))))))
def k45_0 : IR :=
 .seq (.reg none [⟨some 24, .ld true 5 (.t 3), none⟩,
  ⟨none, .st 5 (.t 2) (.t 24), none⟩])
 (.ret)
def c45 : IR :=
 .seq (.reg none [⟨some 2, .alloc 35 [.nilsl 3 1, .bool false, .nilsl 21 1, .nilsl 98 3, .bool false], none⟩])
 (.lv [0, 2] (.seq (.reg none [⟨some 6, .mov (.t 0), none⟩,
  ⟨some 7, .lenf (.t 6), none⟩,
  ⟨some 8, .bsl 3 1 [.t 7], none⟩,
  ⟨some 9, .build [.nilsl 3 1, .bool false, .nilsl 21 1, .nilsl 98 3, .bool false] [(0, 1, .t 8), (4, 1, .k (.bool true))], none⟩,
  ⟨some 3, .alloc 35 [.nilsl 3 1, .bool false, .nilsl 21 1, .nilsl 98 3, .bool false], none⟩,
  ⟨none, .st 5 (.t 3) (.t 9), none⟩])
 (.lv [0, 2, 3] (.seq (.seq (.reg none [⟨some 10, .mov (.t 0), none⟩,
  ⟨some 11, .lenf (.t 10), none⟩,
  ⟨some 12, .mov (.k (.int .i64 0)), none⟩])
 (.lv [2, 3, 10, 11, 12] (.block 0 (.loop [2, 3, 10, 11, 12] (some (11, [])) b45_0))))
 k45_0))))
def i45 : IFn := ⟨1, 25, c45, [.c 2 true 5], .pure⟩
def c46 : IR :=
 .seq (.reg none [⟨some 2, .alloc 35 [.nilsl 3 1, .bool false, .nilsl 21 1, .nilsl 98 3, .bool false], none⟩])
 (.lv [0, 2] (.seq (.reg none [⟨some 3, .mov (.t 0), none⟩,
  ⟨some 4, .callP 107 [.t 3], none⟩,
  ⟨some 5, .callP 108 [.t 4], none⟩,
  ⟨none, .st 5 (.t 2) (.t 5), none⟩])
 (.ret)))
def i46 : IFn := ⟨1, 6, c46, [.c 2 true 5], .pure⟩
def c48 : IR :=
 .seq (.reg none [⟨some 1, .box 35 5 (.t 0), none⟩,
  ⟨some 2, .newnil 3 1, none⟩])
 (.lv [1] (.seq (.seq (.reg none [⟨some 3, .faddr 4 (.t 1), none⟩,
  ⟨some 4, .ld false 1 (.t 3), none⟩,
  ⟨some 5, .not (.t 4), none⟩])
 (.lv [1, 5] (.cond (.t 5) (.lv [] (.seq (.reg none [⟨some 6, .bsl 3 1 [.k (.int .i64 0)], none⟩,
  ⟨some 2, .mov (.t 6), none⟩])
 (.ret)))
 (.skip))))
 (.lv [1] (.seq (.reg none [⟨some 7, .faddr 0 (.t 1), none⟩,
  ⟨some 8, .ld false 1 (.t 7), none⟩,
  ⟨some 9, .callO 110 [.t 8], none⟩,
  ⟨some 2, .mov (.t 9), none⟩])
 (.ret)))))
def i48 : IFn := ⟨1, 10, c48, [.t 2], .pure⟩
def b49_0 : IR :=
 .seq (.reg none [⟨some 35, .bin .lt (.t 34) (.t 33), none⟩])
 (.lv [3, 6, 10, 32, 33, 34, 35] (.seq (.cond (.t 35) (.skip)
 (.exit 0))
 (.lv [3, 6, 10, 32, 33, 34] (.seq (.block 1 (.seq (.reg none [⟨some 36, .iaddrf 1 (.t 32) (.t 34), none⟩,
  ⟨some 37, .ldf false 1 (.t 36), none⟩,
  ⟨some 12, .mov (.t 37), none⟩])
 (.lv [3, 6, 10, 12, 32, 33, 34] (.block 2 (.seq (.reg none [⟨some 49, .faddr 1 (.t 3), none⟩,
  ⟨some 50, .ld false 1 (.t 49), none⟩,
  ⟨some 51, .not (.t 50), none⟩,
  ⟨some 48, .mov (.t 51), none⟩])
 (.lv [3, 6, 10, 12, 32, 33, 34, 48] (.cond (.t 48) (.lv [3, 6, 10, 12, 32, 33, 34] (.reg (some [0, 1, 2, 3, 4, 5, 6, 7, 8]) [⟨some 52, .faddr 3 (.t 10), none⟩,
  ⟨some 53, .ld false 1 (.t 52), none⟩,
  ⟨some 54, .ld true 5 (.t 3), none⟩,
  ⟨some 55, .mov (.t 12), none⟩,
  ⟨some 56, .callP 62 [.t 54, .t 55], none⟩,
  ⟨some 57, .bsl 98 3 [.t 56], none⟩,
  ⟨some 58, .app 98 3 56 (.t 53) (.t 57), none⟩,
  ⟨some 59, .faddr 3 (.t 10), none⟩,
  ⟨none, .st 1 (.t 59) (.t 58), none⟩]))
 (.lv [3, 6, 10, 12, 32, 33, 34] (.seq (.reg none [⟨some 61, .mov (.t 12), none⟩,
  ⟨some 62, .bin .lt (.t 61) (.k (.int .i64 0)), none⟩,
  ⟨some 63, .mov (.t 62), none⟩,
  ⟨some 64, .mov (.t 12), (some (63, false))⟩,
  ⟨some 65, .faddr 2 (.t 3), (some (63, false))⟩,
  ⟨some 66, .ld false 1 (.t 65), (some (63, false))⟩,
  ⟨some 67, .lenf (.t 66), (some (63, false))⟩,
  ⟨some 68, .bin .ge (.t 64) (.t 67), (some (63, false))⟩,
  ⟨some 69, .pick (.t 63) (.k (.bool true)) (.t 68), none⟩,
  ⟨some 60, .mov (.t 69), none⟩])
 (.lv [3, 6, 10, 12, 32, 33, 34, 60] (.cond (.t 60) (.lv [3, 6, 10, 32, 33, 34] (.reg none [⟨some 70, .faddr 2 (.t 10), none⟩,
  ⟨some 71, .ld false 1 (.t 70), none⟩,
  ⟨some 72, .bsl 21 1 [.k (.int .i32 32)], none⟩,
  ⟨some 73, .app 21 1 4 (.t 71) (.t 72), none⟩,
  ⟨some 74, .faddr 2 (.t 10), none⟩,
  ⟨none, .st 1 (.t 74) (.t 73), none⟩]))
 (.lv [3, 6, 10, 12, 32, 33, 34] (.reg (some [0, 1, 2, 3, 4, 5, 6, 7, 8, 9, 10]) [⟨some 38, .faddr 2 (.t 10), none⟩,
  ⟨some 39, .ld false 1 (.t 38), none⟩,
  ⟨some 40, .faddr 2 (.t 3), none⟩,
  ⟨some 41, .ld false 1 (.t 40), none⟩,
  ⟨some 42, .mov (.t 12), none⟩,
  ⟨some 43, .iaddrf 1 (.t 41) (.t 42), none⟩,
  ⟨some 44, .ldf false 1 (.t 43), none⟩,
  ⟨some 45, .bsl 21 1 [.t 44], none⟩,
  ⟨some 46, .app 21 1 4 (.t 39) (.t 45), none⟩,
  ⟨some 47, .faddr 2 (.t 10), none⟩,
  ⟨none, .st 1 (.t 47) (.t 46), none⟩])))))))))))))
 (.lv [3, 6, 10, 32, 33, 34] (.reg none [⟨some 75, .bin .add (.t 34) (.k (.int .i64 1)), none⟩,
  ⟨some 34, .mov (.t 75), none⟩]))))))
def k49_0 : IR :=
 .seq (.reg none [⟨some 76, .ld true 5 (.t 10), none⟩,
  ⟨none, .st 5 (.t 6) (.t 76), none⟩,
  ⟨some 7, .mov (.k (.bool true)), none⟩])
 (.ret)
def c49 : IR :=
 .seq (.reg none [⟨some 3, .box 35 5 (.t 0), none⟩,
  ⟨some 6, .alloc 35 [.nilsl 3 1, .bool false, .nilsl 21 1, .nilsl 98 3, .bool false], none⟩,
  ⟨some 7, .mov (.k (.bool false)), none⟩])
 (.lv [1, 2, 3, 6] (.seq (.reg none [⟨some 14, .mov (.t 1), none⟩,
  ⟨some 15, .callP 90 [.t 14], none⟩,
  ⟨some 13, .mov (.t 15), none⟩,
  ⟨some 16, .ext (.t 13) 0, none⟩,
  ⟨some 17, .ext (.t 13) 1, none⟩,
  ⟨some 8, .mov (.t 16), none⟩,
  ⟨some 9, .mov (.t 17), none⟩])
 (.lv [1, 2, 3, 6, 8, 9] (.seq (.seq (.reg none [⟨some 18, .mov (.t 9), none⟩,
  ⟨some 19, .not (.t 18), none⟩,
  ⟨some 20, .mov (.t 19), none⟩,
  ⟨some 21, .mov (.t 8), (some (20, false))⟩,
  ⟨some 22, .mov (.t 2), (some (20, false))⟩,
  ⟨some 23, .lenf (.t 22), (some (20, false))⟩,
  ⟨some 24, .bin .ne (.t 21) (.t 23), (some (20, false))⟩,
  ⟨some 25, .pick (.t 20) (.k (.bool true)) (.t 24), none⟩])
 (.lv [1, 2, 3, 6, 25] (.cond (.t 25) (.lv [6] (.seq (.reg none [⟨some 26, .build [.nilsl 3 1, .bool false, .nilsl 21 1, .nilsl 98 3, .bool false] [], none⟩,
  ⟨none, .st 5 (.t 6) (.t 26), none⟩,
  ⟨some 7, .mov (.k (.bool false)), none⟩])
 (.ret)))
 (.skip))))
 (.lv [1, 2, 3, 6] (.seq (.reg (some [0, 2, 3, 1, 4, 5, 6]) [⟨some 27, .mov (.t 1), none⟩,
  ⟨some 29, .faddr 1 (.t 3), none⟩,
  ⟨some 30, .ld false 1 (.t 29), none⟩,
  ⟨some 28, .callZ 110 [.t 27], none⟩,
  ⟨some 31, .build [.nilsl 3 1, .bool false, .nilsl 21 1, .nilsl 98 3, .bool false] [(0, 1, .t 28), (1, 1, .t 30), (4, 1, .k (.bool true))], none⟩,
  ⟨some 10, .alloc 35 [.nilsl 3 1, .bool false, .nilsl 21 1, .nilsl 98 3, .bool false], none⟩,
  ⟨none, .st 5 (.t 10) (.t 31), none⟩])
 (.lv [2, 3, 6, 10] (.seq (.seq (.reg none [⟨some 32, .mov (.t 2), none⟩,
  ⟨some 33, .lenf (.t 32), none⟩,
  ⟨some 34, .mov (.k (.int .i64 0)), none⟩])
 (.lv [3, 6, 10, 32, 33, 34] (.block 0 (.loop [3, 6, 10, 32, 33, 34] (some (11, [])) b49_0))))
 k49_0))))))))
def i49 : IFn := ⟨3, 77, c49, [.c 6 true 5, .t 7], .pure⟩
def b51_0 : IR :=
 .seq (.reg none [⟨some 68, .bin .lt (.t 67) (.t 66), none⟩])
 (.lv [2, 6, 65, 66, 67, 68] (.seq (.cond (.t 68) (.skip)
 (.exit 0))
 (.lv [2, 6, 65, 66, 67] (.seq (.block 1 (.seq (.reg none [⟨some 69, .iaddrf 3 (.t 65) (.t 67), none⟩,
  ⟨some 70, .ldf true 3 (.t 69), none⟩,
  ⟨some 8, .alloc 72 [.bool false, .str ⟨#[]⟩, .str ⟨#[]⟩], none⟩,
  ⟨none, .st 3 (.t 8) (.t 70), none⟩])
 (.lv [2, 6, 8, 65, 66, 67] (.seq (.reg none [⟨some 72, .ld true 3 (.t 8), none⟩,
  ⟨some 73, .callP 113 [.t 72], none⟩,
  ⟨some 71, .mov (.t 73), none⟩,
  ⟨some 74, .ext (.t 71) 0, none⟩,
  ⟨some 75, .ext (.t 71) 1, none⟩,
  ⟨some 9, .alloc 98 [.nilsl 191 1, .bool false, .nilsl 191 1], none⟩,
  ⟨none, .st 3 (.t 9) (.t 74), none⟩,
  ⟨some 10, .mov (.t 75), none⟩])
 (.lv [2, 6, 9, 10, 65, 66, 67] (.seq (.seq (.reg none [⟨some 76, .mov (.t 10), none⟩,
  ⟨some 77, .not (.t 76), none⟩])
 (.lv [2, 6, 9, 65, 66, 67, 77] (.cond (.t 77) (.lv [2] (.seq (.reg none [⟨some 78, .build [.nilsl 3 1, .bool false, .nilsl 21 1, .nilsl 98 3, .bool false] [], none⟩,
  ⟨none, .st 5 (.t 2) (.t 78), none⟩,
  ⟨some 3, .mov (.k (.bool false)), none⟩])
 (.ret)))
 (.skip))))
 (.lv [2, 6, 9, 65, 66, 67] (.reg none [⟨some 79, .faddr 3 (.t 6), none⟩,
  ⟨some 80, .ld false 1 (.t 79), none⟩,
  ⟨some 81, .ld true 3 (.t 9), none⟩,
  ⟨some 82, .bsl 98 3 [.t 81], none⟩,
  ⟨some 83, .app 98 3 56 (.t 80) (.t 82), none⟩,
  ⟨some 84, .faddr 3 (.t 6), none⟩,
  ⟨none, .st 1 (.t 84) (.t 83), none⟩]))))))))
 (.lv [2, 6, 65, 66, 67] (.reg none [⟨some 85, .bin .add (.t 67) (.k (.int .i64 1)), none⟩,
  ⟨some 67, .mov (.t 85), none⟩]))))))
def k51_0 : IR :=
 .seq (.reg none [⟨some 86, .ld true 5 (.t 6), none⟩,
  ⟨none, .st 5 (.t 2) (.t 86), none⟩,
  ⟨some 3, .mov (.k (.bool true)), none⟩])
 (.ret)
def c51 : IR :=
 .seq (.reg none [⟨some 1, .box 26 4 (.t 0), none⟩,
  ⟨some 2, .alloc 35 [.nilsl 3 1, .bool false, .nilsl 21 1, .nilsl 98 3, .bool false], none⟩,
  ⟨some 3, .mov (.k (.bool false)), none⟩])
 (.lv [1, 2] (.seq (.reg none [⟨some 12, .faddr 0 (.t 1), none⟩,
  ⟨some 13, .ld false 1 (.t 12), none⟩,
  ⟨some 14, .callP 90 [.t 13], none⟩,
  ⟨some 11, .mov (.t 14), none⟩,
  ⟨some 15, .ext (.t 11) 0, none⟩,
  ⟨some 16, .ext (.t 11) 1, none⟩,
  ⟨some 4, .mov (.t 15), none⟩,
  ⟨some 5, .mov (.t 16), none⟩])
 (.lv [1, 2, 4, 5] (.seq (.seq (.reg none [⟨some 17, .mov (.t 5), none⟩,
  ⟨some 18, .not (.t 17), none⟩,
  ⟨some 19, .mov (.t 18), none⟩,
  ⟨some 20, .faddr 1 (.t 1), (some (19, false))⟩,
  ⟨some 21, .ld false 1 (.t 20), (some (19, false))⟩,
  ⟨some 22, .mov (.t 21), (some (19, false))⟩,
  ⟨some 23, .faddr 2 (.t 1), (some (22, true))⟩,
  ⟨some 24, .ld false 1 (.t 23), (some (22, true))⟩,
  ⟨some 25, .lenf (.t 24), (some (22, true))⟩,
  ⟨some 26, .mov (.t 4), (some (22, true))⟩,
  ⟨some 27, .bin .ne (.t 25) (.t 26), (some (22, true))⟩,
  ⟨some 28, .mov (.t 27), (some (22, true))⟩,
  ⟨some 29, .faddr 3 (.t 1), (some (28, false))⟩,
  ⟨some 30, .ld false 1 (.t 29), (some (28, false))⟩,
  ⟨some 31, .lenf (.t 30), (some (28, false))⟩,
  ⟨some 32, .bin .gt (.t 31) (.k (.int .i64 0)), (some (28, false))⟩,
  ⟨some 33, .pick (.t 28) (.k (.bool true)) (.t 32), (some (22, true))⟩,
  ⟨some 34, .pick (.t 22) (.t 33) (.k (.bool false)), (some (19, false))⟩,
  ⟨some 35, .pick (.t 19) (.k (.bool true)) (.t 34), none⟩,
  ⟨some 36, .mov (.t 35), none⟩,
  ⟨some 37, .faddr 1 (.t 1), (some (36, false))⟩,
  ⟨some 38, .ld false 1 (.t 37), (some (36, false))⟩,
  ⟨some 39, .not (.t 38), (some (36, false))⟩,
  ⟨some 40, .mov (.t 39), (some (36, false))⟩,
  ⟨some 41, .faddr 3 (.t 1), (some (40, true))⟩,
  ⟨some 42, .ld false 1 (.t 41), (some (40, true))⟩,
  ⟨some 43, .lenf (.t 42), (some (40, true))⟩,
  ⟨some 44, .mov (.t 4), (some (40, true))⟩,
  ⟨some 45, .bin .ne (.t 43) (.t 44), (some (40, true))⟩,
  ⟨some 46, .mov (.t 45), (some (40, true))⟩,
  ⟨some 47, .faddr 2 (.t 1), (some (46, false))⟩,
  ⟨some 48, .ld false 1 (.t 47), (some (46, false))⟩,
  ⟨some 49, .lenf (.t 48), (some (46, false))⟩,
  ⟨some 50, .bin .gt (.t 49) (.k (.int .i64 0)), (some (46, false))⟩,
  ⟨some 51, .pick (.t 46) (.k (.bool true)) (.t 50), (some (40, true))⟩,
  ⟨some 52, .pick (.t 40) (.t 51) (.k (.bool false)), (some (36, false))⟩,
  ⟨some 53, .pick (.t 36) (.k (.bool true)) (.t 52), none⟩])
 (.lv [1, 2, 53] (.cond (.t 53) (.lv [2] (.seq (.reg none [⟨some 54, .build [.nilsl 3 1, .bool false, .nilsl 21 1, .nilsl 98 3, .bool false] [], none⟩,
  ⟨none, .st 5 (.t 2) (.t 54), none⟩,
  ⟨some 3, .mov (.k (.bool false)), none⟩])
 (.ret)))
 (.skip))))
 (.lv [1, 2] (.seq (.reg (some [0, 1, 3, 4, 5, 6, 2, 7, 8, 9, 10]) [⟨some 55, .faddr 0 (.t 1), none⟩,
  ⟨some 56, .ld false 1 (.t 55), none⟩,
  ⟨some 58, .faddr 1 (.t 1), none⟩,
  ⟨some 59, .ld false 1 (.t 58), none⟩,
  ⟨some 60, .faddr 2 (.t 1), none⟩,
  ⟨some 61, .ld false 1 (.t 60), none⟩,
  ⟨some 57, .callZ 110 [.t 56], none⟩,
  ⟨some 62, .callZ 112 [.t 61], none⟩,
  ⟨some 63, .build [.nilsl 3 1, .bool false, .nilsl 21 1, .nilsl 98 3, .bool false] [(0, 1, .t 57), (1, 1, .t 59), (2, 1, .t 62), (3, 1, .k (.nilsl 98 3)), (4, 1, .k (.bool true))], none⟩,
  ⟨some 6, .alloc 35 [.nilsl 3 1, .bool false, .nilsl 21 1, .nilsl 98 3, .bool false], none⟩,
  ⟨none, .st 5 (.t 6) (.t 63), none⟩])
 (.lv [1, 2, 6] (.seq (.seq (.reg none [⟨some 64, .faddr 3 (.t 1), none⟩,
  ⟨some 65, .ld false 1 (.t 64), none⟩,
  ⟨some 66, .lenf (.t 65), none⟩,
  ⟨some 67, .mov (.k (.int .i64 0)), none⟩])
 (.lv [2, 6, 65, 66, 67] (.block 0 (.loop [2, 6, 65, 66, 67] (some (10, [])) b51_0))))
 k51_0))))))))
def i51 : IFn := ⟨1, 87, c51, [.c 2 true 5, .t 3], .pure⟩
def b53_0 : IR :=
 .seq (.seq (.reg none [⟨some 15, .mov (.t 8), none⟩,
  ⟨some 16, .mov (.t 2), none⟩,
  ⟨some 17, .lenf (.t 16), none⟩,
  ⟨some 18, .bin .lt (.t 15) (.t 17), none⟩])
 (.lv [2, 3, 6, 7, 8, 18] (.cond (.t 18) (.skip)
 (.exit 0))))
 (.lv [2, 3, 6, 7, 8] (.seq (.block 1 (.seq (.reg none [⟨some 21, .mov (.t 2), none⟩,
  ⟨some 22, .mov (.t 8), none⟩,
  ⟨some 23, .iaddrf 1 (.t 21) (.t 22), none⟩,
  ⟨some 24, .ldf false 1 (.t 23), none⟩,
  ⟨some 9, .mov (.t 24), none⟩])
 (.lv [2, 3, 6, 7, 8, 9] (.seq (.reg none [⟨some 25, .mov (.t 9), none⟩,
  ⟨some 26, .bin .ge (.t 25) (.k (.int .i64 0)), none⟩,
  ⟨some 27, .mov (.t 26), none⟩,
  ⟨some 28, .mov (.t 9), (some (27, true))⟩,
  ⟨some 29, .ld true 4 (.t 3), (some (27, true))⟩,
  ⟨some 30, .callP 20 [.t 29], (some (27, true))⟩,
  ⟨some 31, .bin .lt (.t 28) (.t 30), (some (27, true))⟩,
  ⟨some 32, .pick (.t 27) (.t 31) (.k (.bool false)), none⟩,
  ⟨some 10, .mov (.t 32), none⟩])
 (.lv [2, 3, 6, 7, 8, 9, 10] (.seq (.reg none [⟨some 33, .faddr 1 (.t 3), none⟩,
  ⟨some 34, .ld false 1 (.t 33), none⟩,
  ⟨some 35, .mov (.t 34), none⟩,
  ⟨some 36, .mov (.t 10), (some (35, true))⟩,
  ⟨some 37, .pick (.t 35) (.t 36) (.k (.bool false)), none⟩])
 (.lv [2, 3, 6, 7, 8, 9, 10, 37] (.cond (.t 37) (.lv [2, 3, 6, 7, 8, 9] (.reg (some [0, 1, 2, 3, 4, 5, 6, 7, 8, 9, 10]) [⟨some 38, .faddr 2 (.t 7), none⟩,
  ⟨some 39, .ld false 1 (.t 38), none⟩,
  ⟨some 40, .faddr 2 (.t 3), none⟩,
  ⟨some 41, .ld false 1 (.t 40), none⟩,
  ⟨some 42, .mov (.t 9), none⟩,
  ⟨some 43, .iaddrf 1 (.t 41) (.t 42), none⟩,
  ⟨some 44, .ldf false 1 (.t 43), none⟩,
  ⟨some 45, .bsl 21 1 [.t 44], none⟩,
  ⟨some 46, .app 21 1 4 (.t 39) (.t 45), none⟩,
  ⟨some 47, .faddr 2 (.t 7), none⟩,
  ⟨none, .st 1 (.t 47) (.t 46), none⟩]))
 (.lv [2, 3, 6, 7, 8, 9, 10] (.seq (.reg none [⟨some 48, .faddr 1 (.t 3), none⟩,
  ⟨some 49, .ld false 1 (.t 48), none⟩])
 (.lv [2, 3, 6, 7, 8, 9, 10, 49] (.cond (.t 49) (.lv [2, 3, 6, 7, 8] (.reg none [⟨some 50, .faddr 2 (.t 7), none⟩,
  ⟨some 51, .ld false 1 (.t 50), none⟩,
  ⟨some 52, .bsl 21 1 [.k (.int .i32 32)], none⟩,
  ⟨some 53, .app 21 1 4 (.t 51) (.t 52), none⟩,
  ⟨some 54, .faddr 2 (.t 7), none⟩,
  ⟨none, .st 1 (.t 54) (.t 53), none⟩]))
 (.lv [2, 3, 6, 7, 8, 9, 10] (.seq (.reg none [⟨some 55, .mov (.t 10), none⟩])
 (.lv [2, 3, 6, 7, 8, 9, 55] (.cond (.t 55) (.lv [2, 3, 6, 7, 8, 9] (.reg (some [0, 1, 2, 3, 4, 5, 6, 7, 8, 9, 10]) [⟨some 56, .faddr 3 (.t 7), none⟩,
  ⟨some 57, .ld false 1 (.t 56), none⟩,
  ⟨some 58, .faddr 3 (.t 3), none⟩,
  ⟨some 59, .ld false 1 (.t 58), none⟩,
  ⟨some 60, .mov (.t 9), none⟩,
  ⟨some 61, .iaddrf 3 (.t 59) (.t 60), none⟩,
  ⟨some 62, .ldf true 3 (.t 61), none⟩,
  ⟨some 63, .bsl 72 3 [.t 62], none⟩,
  ⟨some 64, .app 72 3 40 (.t 57) (.t 63), none⟩,
  ⟨some 65, .faddr 3 (.t 7), none⟩,
  ⟨none, .st 1 (.t 65) (.t 64), none⟩]))
 (.lv [2, 3, 6, 7, 8] (.reg (some [0, 1, 2, 3, 4, 5, 6]) [⟨some 66, .faddr 3 (.t 7), none⟩,
  ⟨some 67, .ld false 1 (.t 66), none⟩,
  ⟨some 68, .callP 115 [], none⟩,
  ⟨some 69, .bsl 72 3 [.t 68], none⟩,
  ⟨some 70, .app 72 3 40 (.t 67) (.t 69), none⟩,
  ⟨some 71, .faddr 3 (.t 7), none⟩,
  ⟨none, .st 1 (.t 71) (.t 70), none⟩]))))))))))))))))))
 (.lv [2, 3, 6, 7, 8] (.reg none [⟨some 19, .mov (.t 8), none⟩,
  ⟨some 20, .bin .add (.t 19) (.k (.int .i64 1)), none⟩,
  ⟨some 8, .mov (.t 20), none⟩]))))
def k53_0 : IR :=
 .seq (.reg none [⟨some 72, .ld true 4 (.t 7), none⟩,
  ⟨none, .st 4 (.t 6) (.t 72), none⟩])
 (.ret)
def c53 : IR :=
 .seq (.reg none [⟨some 3, .box 26 4 (.t 0), none⟩,
  ⟨some 6, .alloc 26 [.nilsl 3 1, .bool false, .nilsl 21 1, .nilsl 72 3], none⟩])
 (.lv [1, 2, 3, 6] (.seq (.reg none [⟨some 11, .mov (.t 1), none⟩,
  ⟨some 12, .faddr 1 (.t 3), none⟩,
  ⟨some 13, .ld false 1 (.t 12), none⟩,
  ⟨some 14, .build [.nilsl 3 1, .bool false, .nilsl 21 1, .nilsl 72 3] [(0, 1, .t 11), (1, 1, .t 13)], none⟩,
  ⟨some 7, .alloc 26 [.nilsl 3 1, .bool false, .nilsl 21 1, .nilsl 72 3], none⟩,
  ⟨none, .st 4 (.t 7) (.t 14), none⟩])
 (.lv [2, 3, 6, 7] (.seq (.seq (.reg none [⟨some 8, .mov (.k (.int .i64 0)), none⟩])
 (.lv [2, 3, 6, 7, 8] (.block 0 (.loop [2, 3, 6, 7, 8] (some (11, [])) b53_0))))
 k53_0))))
def i53 : IFn := ⟨3, 73, c53, [.c 6 true 4], .pure⟩
def c55 : IR :=
 .seq (.reg none [⟨some 1, .box 35 5 (.t 0), none⟩,
  ⟨some 2, .mov (.k (.int .i64 0)), none⟩])
 (.lv [1] (.seq (.reg none [⟨some 3, .faddr 2 (.t 1), none⟩,
  ⟨some 4, .ld false 1 (.t 3), none⟩,
  ⟨some 5, .lenf (.t 4), none⟩,
  ⟨some 6, .faddr 3 (.t 1), none⟩,
  ⟨some 7, .ld false 1 (.t 6), none⟩,
  ⟨some 8, .lenf (.t 7), none⟩,
  ⟨some 9, .bin .add (.t 5) (.t 8), none⟩,
  ⟨some 2, .mov (.t 9), none⟩])
 (.ret)))
def i55 : IFn := ⟨1, 10, c55, [.t 2], .pure⟩
def c56 : IR :=
 .seq (.reg none [⟨some 1, .box 35 5 (.t 0), none⟩,
  ⟨some 2, .mov (.k (.int .i64 0)), none⟩])
 (.lv [1] (.seq (.reg none [⟨some 3, .ld true 5 (.t 1), none⟩,
  ⟨some 4, .callP 48 [.t 3], none⟩,
  ⟨some 5, .lenf (.t 4), none⟩,
  ⟨some 2, .mov (.t 5), none⟩])
 (.ret)))
def i56 : IFn := ⟨1, 6, c56, [.t 2], .pure⟩
def c57 : IR :=
 .seq (.reg none [⟨some 4, .mov (.k (.bool false)), none⟩])
 (.lv [0, 1] (.seq (.reg none [⟨some 5, .mov (.t 0), none⟩,
  ⟨some 6, .mov (.t 1), none⟩,
  ⟨some 7, .callP 116 [.t 5, .t 6], none⟩,
  ⟨some 4, .mov (.t 7), none⟩])
 (.ret)))
def i57 : IFn := ⟨2, 8, c57, [.t 4], .pure⟩
def c59 : IR :=
 .seq (.reg none [⟨some 1, .box 35 5 (.t 0), none⟩,
  ⟨some 2, .newnil 21 1, none⟩])
 (.lv [1] (.seq (.reg none [⟨some 3, .faddr 2 (.t 1), none⟩,
  ⟨some 4, .ld false 1 (.t 3), none⟩,
  ⟨some 5, .callO 112 [.t 4], none⟩,
  ⟨some 2, .mov (.t 5), none⟩])
 (.ret)))
def i59 : IFn := ⟨1, 6, c59, [.t 2], .own⟩
def c62 : IR :=
 .seq (.reg none [⟨some 2, .box 35 5 (.t 0), none⟩,
  ⟨some 4, .alloc 98 [.nilsl 191 1, .bool false, .nilsl 191 1], none⟩])
 (.lv [1, 2, 4] (.seq (.seq (.reg none [⟨some 5, .mov (.t 1), none⟩,
  ⟨some 6, .bin .lt (.t 5) (.k (.int .i64 0)), none⟩,
  ⟨some 7, .mov (.t 6), none⟩,
  ⟨some 8, .mov (.t 1), (some (7, false))⟩,
  ⟨some 9, .faddr 3 (.t 2), (some (7, false))⟩,
  ⟨some 10, .ld false 1 (.t 9), (some (7, false))⟩,
  ⟨some 11, .lenf (.t 10), (some (7, false))⟩,
  ⟨some 12, .bin .ge (.t 8) (.t 11), (some (7, false))⟩,
  ⟨some 13, .pick (.t 7) (.k (.bool true)) (.t 12), none⟩])
 (.lv [1, 2, 4, 13] (.cond (.t 13) (.lv [4] (.seq (.reg none [⟨some 14, .build [.nilsl 191 1, .bool false, .nilsl 191 1] [], none⟩,
  ⟨none, .st 3 (.t 4) (.t 14), none⟩])
 (.ret)))
 (.skip))))
 (.lv [1, 2, 4] (.seq (.reg none [⟨some 15, .faddr 3 (.t 2), none⟩,
  ⟨some 16, .ld false 1 (.t 15), none⟩,
  ⟨some 17, .mov (.t 1), none⟩,
  ⟨some 18, .iaddrf 3 (.t 16) (.t 17), none⟩,
  ⟨some 19, .ldf true 3 (.t 18), none⟩,
  ⟨none, .st 3 (.t 4) (.t 19), none⟩])
 (.ret)))))
def i62 : IFn := ⟨2, 20, c62, [.c 4 true 3], .pure⟩
def b65_0 : IR :=
 .seq (.seq (.reg none [⟨some 11, .mov (.t 5), none⟩,
  ⟨some 12, .mov (.t 0), none⟩,
  ⟨some 13, .lenf (.t 12), none⟩,
  ⟨some 14, .bin .lt (.t 11) (.t 13), none⟩])
 (.lv [0, 1, 5, 14] (.cond (.t 14) (.skip)
 (.exit 0))))
 (.lv [0, 1, 5] (.seq (.block 1 (.seq (.reg (some [0, 1, 2, 3, 4, 5, 6, 7, 8]) [⟨some 17, .mov (.t 0), none⟩,
  ⟨some 18, .mov (.t 5), none⟩,
  ⟨some 19, .iaddrf 1 (.t 17) (.t 18), none⟩,
  ⟨some 20, .ldf false 1 (.t 19), none⟩,
  ⟨some 21, .mov (.t 1), none⟩,
  ⟨some 22, .mov (.t 5), none⟩,
  ⟨some 23, .iaddrf 1 (.t 21) (.t 22), none⟩,
  ⟨some 24, .ldf false 1 (.t 23), none⟩,
  ⟨some 25, .bin .ne (.t 20) (.t 24), none⟩])
 (.lv [0, 1, 5, 25] (.cond (.t 25) (.lv [] (.seq (.reg none [⟨some 4, .mov (.k (.bool false)), none⟩])
 (.ret)))
 (.skip)))))
 (.lv [0, 1, 5] (.reg none [⟨some 15, .mov (.t 5), none⟩,
  ⟨some 16, .bin .add (.t 15) (.k (.int .i64 1)), none⟩,
  ⟨some 5, .mov (.t 16), none⟩]))))
def k65_0 : IR :=
 .seq (.reg none [⟨some 4, .mov (.k (.bool true)), none⟩])
 (.ret)
def c65 : IR :=
 .seq (.reg none [⟨some 4, .mov (.k (.bool false)), none⟩])
 (.lv [0, 1] (.seq (.seq (.reg none [⟨some 6, .mov (.t 0), none⟩,
  ⟨some 7, .lenf (.t 6), none⟩,
  ⟨some 8, .mov (.t 1), none⟩,
  ⟨some 9, .lenf (.t 8), none⟩,
  ⟨some 10, .bin .ne (.t 7) (.t 9), none⟩])
 (.lv [0, 1, 10] (.cond (.t 10) (.lv [] (.seq (.reg none [⟨some 4, .mov (.k (.bool false)), none⟩])
 (.ret)))
 (.skip))))
 (.lv [0, 1] (.seq (.seq (.reg none [⟨some 5, .mov (.k (.int .i64 0)), none⟩])
 (.lv [0, 1, 5] (.block 0 (.loop [0, 1, 5] (some (0, [])) b65_0))))
 k65_0))))
def i65 : IFn := ⟨2, 26, c65, [.t 4], .pure⟩
end Go.Proofs.YtlejgleocnemoaaGreat.I
