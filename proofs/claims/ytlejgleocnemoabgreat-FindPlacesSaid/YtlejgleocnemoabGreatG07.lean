/- The texts L06n L03c L06o L08a L08b L08d L15a L07l L15b L15c L15d L15e L15f L15g L15h LRat L02a L02b L02c L15i L08c L15j L15k, one behind the other. Conditions: each text's own. -/
import Derived.Test.YtlejgleocnemoabGreatG06
import Derived.Test.YtlejgleocnemoabGreatG04
set_option linter.unusedSimpArgs false
set_option linter.unusedVariables false
namespace Go.Proofs.YtlejgleocnemoabGreat.I
open Go Go.V
attribute [local go_sem_proc ↓] reduceIte
attribute [local go_sem_proc] Nat.reduceEqDiff Nat.reduceAdd Nat.reduceMul Nat.reduceLeDiff Nat.reduceLT Int.reduceToNat Int.reduceLT Int.reduceLE reduceCtorEq Nat.reduceBEq
attribute [local go_sem] mNil nat0 beq_self_eq_true mSkip mRet mExit mReg mSeq mCond mTrue mFalse mBlock mLv mCodeE mCodeR mEndN mEndR mEndE mOps mSome mGuard mGtt mGff mGtf mGft mGu mCallP mCallR mCallF mCallO mCallZ mCallG mCallM mCallV loopQ_exit loopQ_ret mO_mov mO_newnil mO_pick mO_alloc mO_box mO_build mO_bsl mO_bslF mO_ldf mO_ld mO_st mO_sta mO_nilchk mO_bin mO_binb mO_binp mO_bins mO_neg mO_com mO_not mO_conv mO_mk mO_mk0 mO_s2b mO_b2s mO_cpy mO_cut mO_faddr mO_fld mO_iaddr mO_iaddrf mO_sidx mO_len mO_lenf mO_slen mO_scut mO_app mO_ext mO_mx mO_mn mO_mkfn evalOp cutOp argsE ev getE putE cellsOf adopt rowOf binV boolV nilV ar_add ar_sub ar_mul ar_quo ar_rem ar_eq ar_ne ar_lt ar_le ar_gt ar_ge ar_and ar_or ar_xor geto bound finRet finNrm ints List.length_cons List.length_nil List.length_append List.getElem?_cons_zero List.getElem?_cons_succ List.nil_append List.cons_append List.map_cons List.map_nil List.mapM_cons List.mapM_nil Option.map_some Option.map_none Option.bind_some Option.pure_def Option.bind_eq_bind List.drop_zero or_self or_false false_or or_true true_or true_and and_true and_self decide_true decide_false Bool.false_eq_true Bool.true_eq_false Bool.not_true Bool.not_false Nat.le_refl eq_self gt_iff_lt ge_iff_le ne_eq not_true_eq_false not_false_eq_true storeOp apartOf freeze_nil refsL refs List.flatMap_cons List.flatMap_nil List.append_nil List.contains_nil List.set_cons_zero List.set_cons_succ snap snapL fill_nums flat_nums nums_length Go.V.freeze List.mapIdx_cons List.mapIdx_nil List.contains_cons Bool.or_false Bool.false_or Bool.or_true Bool.true_or
def whC (n : Bool) (p : Nat) : List AV := [us32 (limG p), .bool n]
def wcmp (n : Bool) (p : Nat) (m : Bool) (q : Nat) : Int := if n = true ∧ m = false then -1 else if n = false ∧ m = true then 1 else if n = true then cmpZ q p else cmpZ p q
theorem subW2 {a b : AV} : sub true 2 [a, b] 0 = some (.agg [a, b]) := rfl
theorem subW0 {a b : AV} : sub true 1 [a, b] 0 = some (.agg [a]) := rfl
theorem subW1 {a b : AV} : sub false 1 [a, b] 1 = some b := rfl
section
variable {E : CallRel}
theorem c67_ok {n : Bool} {p q : Nat} : Go.V.Call tab E 67 [.agg (ratG n p q)] [] (.agg (whC false (dn q))) [] := by
  refine Go.V.Call.mach i67 c67 rfl rfl rfl rfl ?_
  have h100 := c111_gen (E := E) (n := n) (p := p) (q := q)
  have h118 := c109_ok (E := E) (n := false) (p := dn q)
  simp only [ratG, natC, us32, Bool.false_and] at h100 h118
  simp only [c67, ratG, us32, go_sem, fillAll, fillIn, shiftR, shiftV, List.take_succ_cons, List.take_zero, List.drop_succ_cons, List.drop_zero, List.append_nil, Nat.zero_add, subT3]
  refine goP h100 ?_
  simp only [us32, go_sem, fillAll, fillIn, shiftR, shiftV, List.take_succ_cons, List.take_zero, List.drop_succ_cons, List.drop_zero, List.append_nil, Nat.zero_add]
  refine goP h118 ?_
  simp only [us32, go_sem, fillAll, fillIn, shiftR, shiftV, List.take_succ_cons, List.take_zero, List.drop_succ_cons, List.drop_zero, List.append_nil, Nat.zero_add]
  simp only [i67, Out, resAll, geto, ints, List.getElem?_cons_zero, List.getElem?_cons_succ, resOf, outOf, snap, snapL, ev, getE, List.mapM_cons, List.mapM_nil, Option.bind_some, Option.pure_def, Option.bind_eq_bind, Option.map_some, reduceIte, Nat.reduceEqDiff, true_and, and_true, subW2, whC, us32]
theorem c66_ok {n m : Bool} {p q : Nat} (hp : (limG p).length ≤ 1000000) (hq : (limG q).length ≤ 1000000) : Go.V.Call tab E 66 [.agg (whC n p), .sl 1 2 (whC m q)] [] (.agg (whC ((n != m) && decide (p * q ≠ 0)) (p * q))) [] := by
  refine Go.V.Call.mach i66 c66 rfl rfl rfl rfl ?_
  have h133 := c110_ok (E := E) hp hq
  have h118 := c109_ok (E := E) (n := n != m) (p := p * q)
  have hb : boolV .ne (.bool n) (.bool m) = some (.bool (n != m)) := by cases n <;> cases m <;> rfl
  simp only [natC, us32] at h133 h118
  simp only [c66, whC, us32, go_sem, fillAll, fillIn, shiftR, shiftV, List.take_succ_cons, List.take_zero, List.drop_succ_cons, List.drop_zero, List.append_nil, Nat.zero_add, subW2]
  refine mLoop (fun N st => ∃ (i : Nat) (b : Bool) (v : Nat), (i = 0 ∧ b = n ∧ v = p ∨ i = 1 ∧ b = ((n != m) && decide (p * q ≠ 0)) ∧ v = p * q) ∧ N = 1 - i ∧
    st = ⟨[(2, .loc 0 0 0), (4, .loc 2 0 0), (7, .sl 1 2 (whC m q)), (8, .int .i64 1), (9, .int .i64 i)], [⟨true, 55, 2, 0, 1, whC b v, false⟩, ⟨false, 162, 1, 0, 0, [], false⟩, ⟨true, 55, 2, 0, 1, [.arr 1 0, .bool false], false⟩]⟩) 1
    ⟨_, rfl, 0, n, p, .inl ⟨rfl, rfl, rfl⟩, by omega, by simp [getE, whC, us32]⟩ ?_
  rintro N s0 ⟨i, b, v, hiv, rfl, rfl⟩
  rcases hiv with ⟨rfl, rfl, rfl⟩ | ⟨rfl, rfl, rfl⟩
  · have hs2 : sub true 2 (whC m q) (0 * 2) = some (.agg (whC m q)) := rfl
    have hs2' : sub true 2 (whC m q) 0 = some (.agg (whC m q)) := rfl
    have w1 : IntKind.i64.wrap (0 + 1) = 1 := by decide
    have h01 : (0 : Int) < ((1 : Nat) : Int) := by omega
    simp only [whC, us32] at hs2 hs2'
    simp only [b66_0, whC, us32, go_sem, fillAll, fillIn, shiftR, shiftV, List.take_succ_cons, List.take_zero, List.drop_succ_cons, List.drop_zero, List.append_nil, Nat.zero_add, subW2, subW0, subW1, h01, hs2, hs2']
    refine goF h133 ?_
    simp only [us32, go_sem, fillAll, fillIn, shiftR, shiftV, List.take_succ_cons, List.take_zero, List.drop_succ_cons, List.drop_zero, List.append_nil, Nat.zero_add, subW2, subW0, subW1]
    refine goP h118 ?_
    simp only [us32, go_sem, fillAll, fillIn, shiftR, shiftV, List.take_succ_cons, List.take_zero, List.drop_succ_cons, List.drop_zero, List.append_nil, Nat.zero_add, subW2, subW0, subW1, w1]
    exact loopQ_go rfl 0 (by omega) ⟨1, _, _, .inr ⟨rfl, rfl, rfl⟩, by omega, rfl⟩
  · have g : ¬ ((1 : Nat) : Int) < 1 := by omega
    simp only [b66_0, k66_0, whC, us32, go_sem, fillAll, fillIn, shiftR, shiftV, List.take_succ_cons, List.take_zero, List.drop_succ_cons, List.drop_zero, List.append_nil, Nat.zero_add, subW2, subW0, subW1, Int.lt_irrefl, g]
    simp only [i66, Out, resAll, geto, ints, List.getElem?_cons_zero, List.getElem?_cons_succ, resOf, outOf, snap, snapL, ev, getE, List.mapM_cons, List.mapM_nil, Option.bind_some, Option.pure_def, Option.bind_eq_bind, Option.map_some, reduceIte, Nat.reduceEqDiff, true_and, and_true, subW2, whC, us32]
theorem c68_ok {n m : Bool} {p q : Nat} (hp : (limG p).length ≤ 1000000) (hq : (limG q).length ≤ 1000000) : Go.V.Call tab E 68 [.agg (whC n p), .agg (whC m q)] [] (.int .i64 (wcmp n p m q)) [] := by
  refine Go.V.Call.mach i68 c68 rfl rfl rfl rfl ?_
  have h1 := c112_ok (E := E) (a := p) (b := q) hp hq
  have h2 := c112_ok (E := E) (a := q) (b := p) hq hp
  simp only [natC, us32] at h1 h2
  cases n <;> cases m
  · simp only [c68, whC, us32, go_sem, fillAll, fillIn, shiftR, shiftV, List.take_succ_cons, List.take_zero, List.drop_succ_cons, List.drop_zero, List.append_nil, Nat.zero_add, subW0, subW1]
    refine goP h1 ?_
    simp only [go_sem]
    simp only [i68, Out, resAll, geto, ints, List.getElem?_cons_zero, List.getElem?_cons_succ, resOf, outOf, snap, snapL, ev, getE, List.mapM_cons, List.mapM_nil, Option.bind_some, Option.pure_def, Option.bind_eq_bind, Option.map_some, reduceIte, Nat.reduceEqDiff, true_and, and_true, wcmp, Bool.false_eq_true, false_and, if_false]
  · simp only [c68, whC, us32, go_sem, fillAll, fillIn, shiftR, shiftV, List.take_succ_cons, List.take_zero, List.drop_succ_cons, List.drop_zero, List.append_nil, Nat.zero_add, subW0, subW1]
    simp only [i68, Out, resAll, geto, ints, List.getElem?_cons_zero, List.getElem?_cons_succ, resOf, outOf, snap, snapL, ev, getE, List.mapM_cons, List.mapM_nil, Option.bind_some, Option.pure_def, Option.bind_eq_bind, Option.map_some, reduceIte, Nat.reduceEqDiff, true_and, and_true, wcmp, Bool.false_eq_true, false_and, if_false, and_self, if_true]
  · simp only [c68, whC, us32, go_sem, fillAll, fillIn, shiftR, shiftV, List.take_succ_cons, List.take_zero, List.drop_succ_cons, List.drop_zero, List.append_nil, Nat.zero_add, subW0, subW1]
    simp only [i68, Out, resAll, geto, ints, List.getElem?_cons_zero, List.getElem?_cons_succ, resOf, outOf, snap, snapL, ev, getE, List.mapM_cons, List.mapM_nil, Option.bind_some, Option.pure_def, Option.bind_eq_bind, Option.map_some, reduceIte, Nat.reduceEqDiff, true_and, and_true, wcmp, and_self, if_true]
  · simp only [c68, whC, us32, go_sem, fillAll, fillIn, shiftR, shiftV, List.take_succ_cons, List.take_zero, List.drop_succ_cons, List.drop_zero, List.append_nil, Nat.zero_add, subW0, subW1]
    refine goP h2 ?_
    simp only [go_sem]
    simp only [i68, Out, resAll, geto, ints, List.getElem?_cons_zero, List.getElem?_cons_succ, resOf, outOf, snap, snapL, ev, getE, List.mapM_cons, List.mapM_nil, Option.bind_some, Option.pure_def, Option.bind_eq_bind, Option.map_some, reduceIte, Nat.reduceEqDiff, true_and, and_true, wcmp, Bool.true_eq_false, and_false, false_and, if_false, if_true]
def rcmp (x y : Rt) : Int := wcmp ((x.1 != false) && decide (x.2.1 * dn y.2.2 ≠ 0)) (x.2.1 * dn y.2.2) ((y.1 != false) && decide (y.2.1 * dn x.2.2 ≠ 0)) (y.2.1 * dn x.2.2)
theorem mul_len {p q : Nat} (hp : p < lim2000) (hq : q < lim2000) : (limG (p * q)).length ≤ 1000000 := by
  have h1 := lim2000_limbs hp
  have h2 := lim2000_limbs hq
  have h3 := limG_mul_len (a := p) (b := q)
  omega
theorem lim_len6 {p : Nat} (hp : p < lim2000) : (limG p).length ≤ 1000000 := by
  have := lim2000_limbs hp
  omega
theorem c25_ok {x y : Rt} (hx : RtOk x) (hy : RtOk y) : Go.V.Call tab E 25 [.agg (rtC x), .agg (rtC y)] [] (.int .i64 (rcmp x y)) [] := by
  obtain ⟨n, p, q⟩ := x
  obtain ⟨m, p', q'⟩ := y
  refine Go.V.Call.mach i25 c25 rfl rfl rfl rfl ?_
  have u1 := c67_ok (E := E) (n := m) (p := p') (q := q')
  have u2 := c67_ok (E := E) (n := n) (p := p) (q := q)
  have t1 := c66_ok (E := E) (n := n) (m := false) (p := p) (q := dn q') (lim_len6 hx.1) (lim_len6 hy.2)
  have t2 := c66_ok (E := E) (n := m) (m := false) (p := p') (q := dn q) (lim_len6 hy.1) (lim_len6 hx.2)
  have g := c68_ok (E := E) (n := (n != false) && decide (p * dn q' ≠ 0)) (m := (m != false) && decide (p' * dn q ≠ 0)) (p := p * dn q') (q := p' * dn q) (mul_len hx.1 hy.2) (mul_len hy.1 hx.2)
  simp only [ratG, whC, us32] at u1 u2 t1 t2 g
  simp only [c25, rtC, ratG, us32, go_sem, fillAll, fillIn, shiftR, shiftV, List.take_succ_cons, List.take_zero, List.drop_succ_cons, List.drop_zero, List.append_nil, Nat.zero_add, subT3, sub]
  refine goP u1 ?_
  simp only [go_sem, fillAll, fillIn, shiftR, shiftV, List.take_succ_cons, List.take_zero, List.drop_succ_cons, List.drop_zero, List.append_nil, Nat.zero_add, subT3, sub, List.flatten_cons, List.flatten_nil, Option.getD_some]
  refine goF t1 ?_
  simp only [go_sem, fillAll, fillIn, shiftR, shiftV, List.take_succ_cons, List.take_zero, List.drop_succ_cons, List.drop_zero, List.append_nil, Nat.zero_add, subT3, sub]
  refine goP u2 ?_
  simp only [go_sem, fillAll, fillIn, shiftR, shiftV, List.take_succ_cons, List.take_zero, List.drop_succ_cons, List.drop_zero, List.append_nil, Nat.zero_add, subT3, sub, List.flatten_cons, List.flatten_nil, Option.getD_some]
  refine goF t2 ?_
  simp only [go_sem, fillAll, fillIn, shiftR, shiftV, List.take_succ_cons, List.take_zero, List.drop_succ_cons, List.drop_zero, List.append_nil, Nat.zero_add, subT3, sub]
  refine goP g ?_
  simp only [go_sem]
  simp only [i25, Out, resAll, geto, ints, List.getElem?_cons_zero, List.getElem?_cons_succ, resOf, outOf, snap, snapL, ev, getE, List.mapM_cons, List.mapM_nil, Option.bind_some, Option.pure_def, Option.bind_eq_bind, Option.map_some, reduceIte, Nat.reduceEqDiff, true_and, and_true, rcmp]
end
def RtRed (x : Rt) : Prop := RtOk x ∧ x.2.2 ≠ 0 ∧ Nat.gcd x.2.1 x.2.2 = 1 ∧ (x.1 = true → x.2.1 ≠ 0)
theorem cmpZ_zero {a b : Nat} : cmpZ a b = 0 ↔ a = b := by
  unfold cmpZ
  split
  · constructor <;> intro h <;> omega
  · split
    · rename_i h; exact ⟨fun _ => h, fun _ => rfl⟩
    · rename_i h; exact ⟨fun h2 => by omega, fun h2 => absurd h2 h⟩
theorem rcmp_zero {x y : Rt} (hx : RtRed x) (hy : RtRed y) : rcmp x y = 0 ↔ x = y := by
  obtain ⟨n, p, q⟩ := x
  obtain ⟨m, p', q'⟩ := y
  obtain ⟨_, hq, hg, hn⟩ := hx
  obtain ⟨_, hq', hg', hm⟩ := hy
  simp only at hq hg hn hq' hg' hm
  have eq1 : p * q' = p' * q → p = p' ∧ q = q' := fun h => by
    have d1 : p ∣ p' := (Nat.Coprime.dvd_of_dvd_mul_right hg (by rw [← h]; exact Nat.dvd_mul_right _ _))
    have d2 : p' ∣ p := (Nat.Coprime.dvd_of_dvd_mul_right hg' (by rw [h]; exact Nat.dvd_mul_right _ _))
    have e := Nat.dvd_antisymm d1 d2
    subst e
    refine ⟨rfl, ?_⟩
    rcases Nat.eq_zero_or_pos p with h0 | h0
    · subst h0
      rw [Nat.gcd_zero_left] at hg hg'
      rw [hg, hg']
    · exact (Nat.eq_of_mul_eq_mul_left h0 h).symm
  have nz : ∀ a b : Nat, b ≠ 0 → (a * b ≠ 0 ↔ a ≠ 0) := fun a b hb => by
    constructor
    · rintro h rfl; simp at h
    · intro h; exact Nat.mul_ne_zero h hb
  have hs1 : ((n != false) && decide (p * q' ≠ 0)) = n := by
    cases n with
    | false => rfl
    | true =>
      rw [decide_eq_true ((nz p q' hq').2 (hn rfl))]
      rfl
  have hs2 : ((m != false) && decide (p' * q ≠ 0)) = m := by
    cases m with
    | false => rfl
    | true =>
      rw [decide_eq_true ((nz p' q hq).2 (hm rfl))]
      rfl
  simp only [rcmp, dn_pos hq, dn_pos hq', hs1, hs2]
  constructor
  · intro h
    cases n <;> cases m
    · simp only [wcmp, Bool.false_eq_true, false_and, and_false, if_false, cmpZ_zero] at h
      obtain ⟨rfl, rfl⟩ := eq1 h
      rfl
    · simp [wcmp] at h
    · simp [wcmp] at h
    · simp only [wcmp, Bool.true_eq_false, and_false, false_and, if_false, if_true, cmpZ_zero] at h
      obtain ⟨rfl, rfl⟩ := eq1 h.symm
      rfl
  · intro h
    simp only [Prod.mk.injEq] at h
    obtain ⟨rfl, rfl, rfl⟩ := h
    cases n
    · simp only [wcmp, Bool.false_eq_true, false_and, and_false, if_false, cmpZ_zero]
    · simp only [wcmp, Bool.true_eq_false, and_false, false_and, if_false, if_true, cmpZ_zero]
theorem right_red {x : Nm} (h : RightN x.1 x.2.1 x.2.2) : RtRed (toRt x) := by
  have h' := h
  obtain ⟨hRa, hRb, t1, t2, hb48, g1, g2⟩ := h'
  refine ⟨right_ok h, fun h => hb48 ((right_zero hRb t2).1 h), g1, fun hn h0 => g2 ⟨hn, (right_zero hRa t1).1 h0⟩⟩
end Go.Proofs.YtlejgleocnemoabGreat.I

namespace Go.Proofs.YtlejgleocnemoabGreat.I
open Go Go.V
attribute [local go_sem] mNil nat0 beq_self_eq_true mSkip mRet mExit mReg mSeq mCond mTrue mFalse mBlock mLv mCodeE mCodeR mEndN mEndR mEndE mOps mSome mGuard mGtt mGff mGtf mGft mGu mCallP mCallR mCallF mCallO mCallZ mCallG mCallM mCallV loopQ_exit loopQ_ret mO_mov mO_newnil mO_pick mO_alloc mO_box mO_build mO_bsl mO_bslF mO_ldf mO_ld mO_st mO_sta mO_nilchk mO_bin mO_binb mO_binp mO_bins mO_neg mO_com mO_not mO_conv mO_mk mO_mk0 mO_s2b mO_b2s mO_cpy mO_cut mO_faddr mO_fld mO_iaddr mO_iaddrf mO_sidx mO_len mO_lenf mO_slen mO_scut mO_app mO_ext mO_mx mO_mn mO_mkfn evalOp cutOp argsE ev getE putE cellsOf adopt rowOf binV boolV nilV ar_add ar_sub ar_mul ar_quo ar_rem ar_eq ar_ne ar_lt ar_le ar_gt ar_ge ar_and ar_or ar_xor geto bound finRet finNrm ints List.length_cons List.length_nil List.length_append List.getElem?_cons_zero List.getElem?_cons_succ List.nil_append List.cons_append List.map_cons List.map_nil List.mapM_cons List.mapM_nil Option.map_some Option.map_none Option.bind_some Option.pure_def Option.bind_eq_bind List.drop_zero or_self or_false false_or or_true true_or true_and and_true and_self decide_true decide_false Bool.false_eq_true Bool.true_eq_false Bool.not_true Bool.not_false Nat.le_refl eq_self gt_iff_lt ge_iff_le ne_eq not_true_eq_false not_false_eq_true storeOp apartOf freeze_nil refsL refs List.flatMap_cons List.flatMap_nil List.append_nil List.contains_nil List.set_cons_zero List.set_cons_succ snap snapL fill_nums flat_nums nums_length Go.V.freeze List.mapIdx_cons List.mapIdx_nil List.contains_cons Bool.or_false Bool.false_or Bool.or_true Bool.true_or
def wint (n : Bool) (p : Nat) : Option Int := if n = true then (if p ≤ 9223372036854775808 then some (-(p : Int)) else none) else if p < 9223372036854775808 then some (p : Int) else none
def rint (x : Rt) : Option Int := if dn x.2.2 = 1 then wint x.1 x.2.1 else none
section
variable {E : CallRel}
def rlimbs (x : Rt) : Nat := max (limG x.2.1).length (limG (dn x.2.2)).length
def wdC (n : Bool) (p : Nat) : List AV := [.bool n, .str (dec p)]
end
end Go.Proofs.YtlejgleocnemoabGreat.I

namespace Go.Proofs.YtlejgleocnemoabGreat.I
open Go Go.V
attribute [local go_sem_proc ↓] reduceIte
attribute [local go_sem_proc] Nat.reduceEqDiff Nat.reduceAdd Nat.reduceMul Nat.reduceLeDiff Nat.reduceLT Int.reduceToNat Int.reduceLT Int.reduceLE reduceCtorEq Nat.reduceBEq
attribute [local go_sem] mNil nat0 beq_self_eq_true mSkip mRet mExit mReg mSeq mCond mTrue mFalse mBlock mLv mCodeE mCodeR mEndN mEndR mEndE mOps mSome mGuard mGtt mGff mGtf mGft mGu mCallP mCallR mCallF mCallO mCallZ mCallG mCallM mCallV loopQ_exit loopQ_ret mO_mov mO_newnil mO_pick mO_alloc mO_box mO_build mO_bsl mO_bslF mO_ldf mO_ld mO_st mO_sta mO_nilchk mO_bin mO_binb mO_binp mO_bins mO_neg mO_com mO_not mO_conv mO_mk mO_mk0 mO_s2b mO_b2s mO_cpy mO_cut mO_faddr mO_fld mO_iaddr mO_iaddrf mO_sidx mO_len mO_lenf mO_slen mO_scut mO_app mO_ext mO_mx mO_mn mO_mkfn evalOp cutOp argsE ev getE putE cellsOf adopt rowOf binV boolV nilV ar_add ar_sub ar_mul ar_quo ar_rem ar_eq ar_ne ar_lt ar_le ar_gt ar_ge ar_and ar_or ar_xor geto bound finRet finNrm ints List.length_cons List.length_nil List.length_append List.getElem?_cons_zero List.getElem?_cons_succ List.nil_append List.cons_append List.map_cons List.map_nil List.mapM_cons List.mapM_nil Option.map_some Option.map_none Option.bind_some Option.pure_def Option.bind_eq_bind List.drop_zero or_self or_false false_or or_true true_or true_and and_true and_self decide_true decide_false Bool.false_eq_true Bool.true_eq_false Bool.not_true Bool.not_false Nat.le_refl eq_self gt_iff_lt ge_iff_le ne_eq not_true_eq_false not_false_eq_true storeOp apartOf freeze_nil refsL refs List.flatMap_cons List.flatMap_nil List.append_nil List.contains_nil List.set_cons_zero List.set_cons_succ snap snapL fill_nums flat_nums nums_length Go.V.freeze List.mapIdx_cons List.mapIdx_nil List.contains_cons Bool.or_false Bool.false_or Bool.or_true Bool.true_or
def rv (x : Rt) : Int := (rint x).getD 0
def WhO (l : List Rt) : Prop := ∀ x ∈ l, (rint x).isSome = true
theorem rtAt_mem {l : List Rt} {i : Nat} (h : i < l.length) : rtAt l i ∈ l := by simp [rtAt, List.getD, h]
theorem nmAt_map {l : List Rt} {i : Nat} (h : i < l.length) : nmAt (l.map toNm) i = toNm (rtAt l i) := by simp [nmAt, rtAt, List.getD, h]
theorem RtOk.len {x : Rt} (h : RtOk x) : (decL x.2.1).length ≤ 1000000000 ∧ (decL (dn x.2.2)).length ≤ 1000000000 := ⟨Nat.le_trans (lim2000_len h.1) (by omega), Nat.le_trans (lim2000_len h.2) (by omega)⟩
def lmax (l : List Rt) : Nat := l.foldl (fun a x => max a (rlimbs x)) 0
def rbytes (x : Rt) : Nat := 8 + 4 * ((limG x.2.1).length + (limG (dn x.2.2)).length)
def bsum (l : List Rt) : Nat := l.foldl (fun a x => a + rbytes x) 0
def runeAt (t : List Int) (k : Int) : Int := if 0 ≤ k ∧ k < t.length then t.getD k.toNat 0 else 0
theorem c39_ok {s t : List Int} {l : List Rt} {ch : Bool} : Go.V.Call tab E 39 [.agg (arrX s ch t l)] [] (.bool ch) [] := by
  refine Go.V.Call.mach i39 c39 rfl rfl rfl rfl ?_
  simp only [c39, arrX, runes, go_sem, subX1, fillAll, fillIn, shiftR, shiftV, List.take_succ_cons, List.take_zero, List.drop_succ_cons, List.drop_zero, List.append_nil, Nat.zero_add]
  simp only [i39, Out, resAll, geto, ints, List.getElem?_cons_zero, List.getElem?_cons_succ, resOf, outOf, snap, snapL, ev, getE, List.mapM_cons, List.mapM_nil, Option.bind_some, Option.pure_def, Option.bind_eq_bind, Option.map_some, reduceIte, Nat.reduceEqDiff, true_and, and_true]
theorem c104_ok {s t : List Int} {l : List Rt} {ch : Bool} {k : Int} (ht : (t.length : Int) ≤ 1000000000000) : Go.V.Call tab E 104 [.agg (arrX s ch t l), .int .i64 k] [] (.int .i32 (runeAt t k)) [] := by
  refine Go.V.Call.mach i104 c104 rfl rfl rfl rfl ?_
  by_cases h1 : k < 0
  · have hp : runeAt t k = 0 := by rw [runeAt, if_neg (by omega)]
    simp only [c104, arrX, runes, go_sem, subX2, fillAll, fillIn, shiftR, shiftV, List.take_succ_cons, List.take_zero, List.drop_succ_cons, List.drop_zero, List.append_nil, Nat.zero_add, h1]
    simp only [i104, Out, resAll, geto, ints, List.getElem?_cons_zero, List.getElem?_cons_succ, resOf, outOf, snap, snapL, ev, getE, List.mapM_cons, List.mapM_nil, Option.bind_some, Option.pure_def, Option.bind_eq_bind, Option.map_some, reduceIte, Nat.reduceEqDiff, true_and, and_true, hp]
  · by_cases h2 : (t.length : Int) ≤ k
    · have hp : runeAt t k = 0 := by rw [runeAt, if_neg (by omega)]
      simp only [c104, arrX, runes, go_sem, subX2, fillAll, fillIn, shiftR, shiftV, List.take_succ_cons, List.take_zero, List.drop_succ_cons, List.drop_zero, List.append_nil, Nat.zero_add, h1, h2]
      simp only [i104, Out, resAll, geto, ints, List.getElem?_cons_zero, List.getElem?_cons_succ, resOf, outOf, snap, snapL, ev, getE, List.mapM_cons, List.mapM_nil, Option.bind_some, Option.pure_def, Option.bind_eq_bind, Option.map_some, reduceIte, Nat.reduceEqDiff, true_and, and_true, hp]
    · have hp : runeAt t k = t.getD k.toNat 0 := by rw [runeAt, if_pos (by omega)]
      obtain ⟨j, rfl⟩ := Int.eq_ofNat_of_zero_le (show 0 ≤ k by omega)
      rw [Int.toNat_natCast] at hp
      have hsub := sub_nums (k := .i32) (l := t) (i := j) (by omega)
      have h3 : (0 : Int) ≤ (j : Int) := by omega
      have h4 : (j : Int) < (t.length : Int) := by omega
      simp only [c104, arrX, runes, go_sem, subX2, fillAll, fillIn, shiftR, shiftV, List.take_succ_cons, List.take_zero, List.drop_succ_cons, List.drop_zero, List.append_nil, Nat.zero_add, h1, h2, h3, h4, Int.toNat_natCast, hsub]
      simp only [i104, Out, resAll, geto, ints, List.getElem?_cons_zero, List.getElem?_cons_succ, resOf, outOf, snap, snapL, ev, getE, List.mapM_cons, List.mapM_nil, Option.bind_some, Option.pure_def, Option.bind_eq_bind, Option.map_some, reduceIte, Nat.reduceEqDiff, true_and, and_true, hp]
theorem c38_X {s t : List Int} {l : List Rt} {ch : Bool} (hs : (s.length : Int) ≤ 1000000000000) : Go.V.Call tab E 38 [.agg (arrX s ch t l)] [] (.int .i64 s.length) [] := by
  refine Go.V.Call.mach i38 c38 rfl rfl rfl rfl ?_
  have h69 := c53_X (s := s) (t := t) (l := l) (ch := ch) hs
  simp only [arrX, runes, ints] at h69
  simp only [c38, arrX, runes, ints, go_sem, subA5, fillAll, fillIn, shiftR, shiftV, List.take_succ_cons, List.take_zero, List.drop_succ_cons, List.drop_zero, List.append_nil, Nat.zero_add]
  refine goP h69 ?_
  simp only [go_sem, fillAll, fillIn, shiftR, shiftV, List.take_succ_cons, List.take_zero, List.drop_succ_cons, List.drop_zero, List.append_nil, Nat.zero_add]
  simp only [i38, Out, resAll, geto, ints, List.getElem?_cons_zero, List.getElem?_cons_succ, resOf, outOf, snap, snapL, ev, getE, List.mapM_cons, List.mapM_nil, Option.bind_some, Option.pure_def, Option.bind_eq_bind, Option.map_some, reduceIte, Nat.reduceEqDiff, true_and, and_true]
def roomX (s t : List Int) (l : List Rt) : Nat := 16 + 4 * s.length + t.length + bsum l
end Go.Proofs.YtlejgleocnemoabGreat.I

namespace Go.Proofs.YtlejgleocnemoabGreat.I
open Go Go.V
attribute [local go_sem] mNil nat0 beq_self_eq_true mSkip mRet mExit mReg mSeq mCond mTrue mFalse mBlock mLv mCodeE mCodeR mEndN mEndR mEndE mOps mSome mGuard mGtt mGff mGtf mGft mGu mCallP mCallR mCallF mCallO mCallZ mCallG mCallM mCallV loopQ_exit loopQ_ret mO_mov mO_newnil mO_pick mO_alloc mO_box mO_build mO_bsl mO_bslF mO_ldf mO_ld mO_st mO_sta mO_nilchk mO_bin mO_binb mO_binp mO_bins mO_neg mO_com mO_not mO_conv mO_mk mO_mk0 mO_s2b mO_b2s mO_cpy mO_cut mO_faddr mO_fld mO_iaddr mO_iaddrf mO_sidx mO_len mO_lenf mO_slen mO_scut mO_app mO_ext mO_mx mO_mn mO_mkfn evalOp cutOp argsE ev getE putE cellsOf adopt rowOf binV boolV nilV ar_add ar_sub ar_mul ar_quo ar_rem ar_eq ar_ne ar_lt ar_le ar_gt ar_ge ar_and ar_or ar_xor geto bound finRet finNrm ints List.length_cons List.length_nil List.length_append List.getElem?_cons_zero List.getElem?_cons_succ List.nil_append List.cons_append List.map_cons List.map_nil List.mapM_cons List.mapM_nil Option.map_some Option.map_none Option.bind_some Option.pure_def Option.bind_eq_bind List.drop_zero or_self or_false false_or or_true true_or true_and and_true and_self decide_true decide_false Bool.false_eq_true Bool.true_eq_false Bool.not_true Bool.not_false Nat.le_refl eq_self gt_iff_lt ge_iff_le ne_eq not_true_eq_false not_false_eq_true storeOp apartOf freeze_nil refsL refs List.flatMap_cons List.flatMap_nil List.append_nil List.contains_nil List.set_cons_zero List.set_cons_succ snap snapL fill_nums flat_nums nums_length Go.V.freeze List.mapIdx_cons List.mapIdx_nil List.contains_cons Bool.or_false Bool.false_or Bool.or_true Bool.true_or
def zR (z : Int) : Rt := (decide (z < 0), z.natAbs, 1)
theorem ratC_zR {z : Int} (hz : In64 z) : ratC z = rtC (zR z) := by
  obtain ⟨h1, h2⟩ := hz
  rw [ratC, lim_limG (by omega)]
  show _ = [us32 (limG z.natAbs), AV.bool (decide (z < 0)), us32 (limG 1)]
  rw [limG_one (d := 1) (by omega) (by omega)]
  rfl
theorem ratsC_zR {l : List Int} (hl : ∀ z ∈ l, In64 z) : ratsC l = rtsC (l.map zR) := by
  induction l with
  | nil => rfl
  | cons z l ih =>
    have e1 : ratsC (z :: l) = ratC z ++ ratsC l := by simp [ratsC]
    have e2 : rtsC ((z :: l).map zR) = rtC (zR z) ++ rtsC (l.map zR) := by simp [rtsC]
    rw [e1, e2, ratC_zR (hl z (by simp)), ih fun y hy => hl y (by simp [hy])]
theorem arrV_X {s l : List Int} (hl : ∀ z ∈ l, In64 z) : arrV s l = arrX s false [] (l.map zR) := by
  rw [arrV, arrX, ratsC_zR hl, List.length_map]
  rfl
theorem zR_ok {z : Int} (hz : In64 z) : RtOk (zR z) := by
  have h : ∀ n, n ≤ 9223372036854775808 → n < lim2000 := fun n hn => Nat.lt_of_lt_of_le (show n < 10 ^ 19 by omega) (pow10_le (by omega))
  obtain ⟨h1, h2⟩ := hz
  exact ⟨h _ (by show z.natAbs ≤ _; omega), h _ (by show dn 1 ≤ _; decide)⟩
def wholeB (ch : Bool) (t : List Int) (L : List Rt) : Bool := !(ch && decide (0 < t.length + L.length)) && L.all fun x => (rint x).isSome
def lisV (s : List Int) (ch : Bool) (t : List Int) (L : List Rt) : List Int := if s.length ≤ 1 ∧ wholeB ch t L = true then L.map rv else []
def lisE (s : List Int) (ch : Bool) (t : List Int) (L : List Rt) : Int := if 1 < s.length then 23 else if wholeB ch t L = true then 0 else 22
def noP : List AV := plX [] false [] []
theorem noA_len : Go.V.Call tab E 23 [.agg noA] [] (.int .i64 0) [] := c23_no
def axA (s : List Int) (a : Int) : Int := if a < 0 then (s.length : Int) - 1 else a
def axB (s : List Int) (a : Int) : Bool := decide (0 ≤ axA s a) && decide (axA s a < (s.length : Int))
theorem c34_X {l : List Int} (hl : (l.length : Int) ≤ 1000000000000) (hz : ∀ z ∈ l, In64 z) : Go.V.Call tab E 34 [ints l] [] (.agg (arrX [(l.length : Int)] false [] (l.map zR))) [] := by
  rw [← arrV_X hz]
  exact c34_ok hl hz
theorem fits_of {s : List Int} {n : Nat} (h : count s = some (n : Int)) : fits s n = true := by rw [fits, h]; simp
theorem fill_row {ks : List Int} {i n : Nat} (hn : ks.length = n) (hi : i < n) : (ks.take i ++ List.replicate (n - i) 0).take i ++ ks.getD i 0 :: (ks.take i ++ List.replicate (n - i) 0).drop (i + 1) = ks.take (i + 1) ++ List.replicate (n - (i + 1)) 0 := by
  have h1 : (ks.take i).length = i := by rw [List.length_take]; omega
  rw [List.take_left' h1, List.drop_append, h1, List.drop_eq_nil_of_le (by omega), List.nil_append, List.drop_replicate, take_snoc (by omega), List.append_assoc]
  rw [show n - i - (i + 1 - i) = n - (i + 1) by omega]
  rfl
theorem row_len {ks : List Int} {i n : Nat} (hn : ks.length = n) (hi : i ≤ n) : (ks.take i ++ List.replicate (n - i) 0).length = n := by
  rw [List.length_append, List.length_take, List.length_replicate]; omega
theorem set_twice {y : List Int} {m : Nat} {v u : Int} (h : m < y.length) : (y.take m ++ v :: y.drop (m + 1)).take m ++ u :: (y.take m ++ v :: y.drop (m + 1)).drop (m + 1) = y.take m ++ u :: y.drop (m + 1) := by
  have h1 : (y.take m).length = m := by rw [List.length_take]; omega
  rw [List.take_left' h1, List.drop_append, h1, List.drop_eq_nil_of_le (by omega), List.nil_append, show m + 1 - m = 1 by omega]
  rfl
theorem set_length {y : List Int} {m : Nat} {v : Int} (h : m < y.length) : (y.take m ++ v :: y.drop (m + 1)).length = y.length := by
  rw [List.length_append, List.length_take, List.length_cons, List.length_drop]; omega
def outA (e : Int) (s ks : List Int) (ch : Bool) (t : List Int) (L : List Rt) : List AV := if e = 0 then arrX s ch (picksT ch t ks) (picksR ch L ks) else noA
def outP (e : Int) (s ks : List Int) (ch : Bool) (t : List Int) (l : List Nm) : List AV := if e = 0 then plX s ch (picksT ch t ks) (picksN ch l ks) else noP
def negB (w : List Int) : Bool := w.any fun d => decide (d < 0)
def resE (e0 : Int) (w : List Int) : Int := if e0 ≠ 0 then e0 else if negB w = true then 22 else match count w with | none => if 8 < w.length then 23 else 26 | some _ => 0
def cyc (w : List Int) (len : Nat) : List Int := (List.range (prd w).toNat).map fun i => if len = 0 then (-1 : Int) else ((i % len : Nat) : Int)
theorem self_pick {α : Type} {d : α} {t : List α} {f : Int → α} (hf : ∀ i : Nat, i < t.length → f i = t.getD i d) : ((List.range t.length).map fun i : Nat => (i : Int)).map f = t := by
  refine List.ext_getElem (by simp) fun i h1 h2 => ?_
  have h3 : i < t.length := h2
  simp only [List.getElem_map, List.getElem_range]
  rw [hf i h3]
  simp [List.getD, h3]
theorem self_R {l : List Rt} {n : Nat} (h : n = l.length) : picksR false l ((List.range n).map fun i : Nat => (i : Int)) = l := by
  subst h
  rw [picksR, if_neg (by simp)]
  refine self_pick (d := (false, 0, 0)) fun i hi => ?_
  rw [pickR, if_pos ⟨by omega, by omega⟩, Int.toNat_natCast]
  rfl
end Go.Proofs.YtlejgleocnemoabGreat.I

namespace Go.Proofs.YtlejgleocnemoabGreat.I
open Go Go.V
attribute [local go_sem_proc ↓] reduceIte
attribute [local go_sem_proc] Nat.reduceEqDiff Nat.reduceAdd Nat.reduceMul Nat.reduceLeDiff Nat.reduceLT Int.reduceToNat Int.reduceLT Int.reduceLE reduceCtorEq Nat.reduceBEq
attribute [local go_sem] mNil nat0 beq_self_eq_true mSkip mRet mExit mReg mSeq mCond mTrue mFalse mBlock mLv mCodeE mCodeR mEndN mEndR mEndE mOps mSome mGuard mGtt mGff mGtf mGft mGu mCallP mCallR mCallF mCallO mCallZ mCallG mCallM mCallV loopQ_exit loopQ_ret mO_mov mO_newnil mO_pick mO_alloc mO_box mO_build mO_bsl mO_bslF mO_ldf mO_ld mO_st mO_sta mO_nilchk mO_bin mO_binb mO_binp mO_bins mO_neg mO_com mO_not mO_conv mO_mk mO_mk0 mO_s2b mO_b2s mO_cpy mO_cut mO_faddr mO_fld mO_iaddr mO_iaddrf mO_sidx mO_len mO_lenf mO_slen mO_scut mO_app mO_ext mO_mx mO_mn mO_mkfn evalOp cutOp argsE ev getE putE cellsOf adopt rowOf binV boolV nilV ar_add ar_sub ar_mul ar_quo ar_rem ar_eq ar_ne ar_lt ar_le ar_gt ar_ge ar_and ar_or ar_xor geto bound finRet finNrm ints List.length_cons List.length_nil List.length_append List.getElem?_cons_zero List.getElem?_cons_succ List.nil_append List.cons_append List.map_cons List.map_nil List.mapM_cons List.mapM_nil Option.map_some Option.map_none Option.bind_some Option.pure_def Option.bind_eq_bind List.drop_zero or_self or_false false_or or_true true_or true_and and_true and_self decide_true decide_false Bool.false_eq_true Bool.true_eq_false Bool.not_true Bool.not_false Nat.le_refl eq_self gt_iff_lt ge_iff_le ne_eq not_true_eq_false not_false_eq_true storeOp apartOf freeze_nil refsL refs List.flatMap_cons List.flatMap_nil List.append_nil List.contains_nil List.set_cons_zero List.set_cons_succ snap snapL fill_nums flat_nums nums_length Go.V.freeze List.mapIdx_cons List.mapIdx_nil List.contains_cons Bool.or_false Bool.false_or Bool.or_true Bool.true_or
theorem row_get {M1 M2 : List AObj} {o : AObj} {K : Nat} (hK : M1.length = K) : (M1 ++ o :: M2)[K]? = some o := by subst hK; simp
theorem row_set {M1 M2 : List AObj} {o p : AObj} {K : Nat} (hK : M1.length = K) : (M1 ++ o :: M2).set K p = M1 ++ p :: M2 := by subst hK; simp
theorem mapI {l : List AObj} : List.mapIdx (fun (_ : Nat) (o : AObj) => o) l = l := by
  apply List.ext_getElem?
  intro i
  simp
def rowM (M1 M2 : List AObj) (N : Nat) (l : List Int) : List AObj := M1 ++ ⟨false, 3, 1, 0, N, nums .i64 l, false⟩ :: M2
theorem put_nums {k : IntKind} {y : List Int} {p : Nat} {v : Int} : List.take (p * 1) (nums k y) ++ [.int k v] ++ List.drop (p * 1 + 1) (nums k y) = nums k (y.take p ++ v :: y.drop (p + 1)) := by
  simp [nums, List.map_take, List.map_drop]
theorem tk_getD {l : List Int} {i : Nat} (h : i < l.length) : l.take (i + 1) = l.take i ++ [l.getD i 0] := by
  rw [List.take_add_one]
  simp [List.getD, h]
theorem at_get {U V : List Int} {x : Int} {p : Nat} (h : U.length = p) : (U ++ x :: V).getD p 0 = x := by
  subst h; simp [List.getD]
theorem at_put {U V : List Int} {x v : Int} {p : Nat} (h : U.length = p) : (U ++ x :: V).take p ++ v :: (U ++ x :: V).drop (p + 1) = U ++ v :: V := by
  subst h; simp
theorem swp_up {U V W l : List Int} {x y : Int} {p q : Nat} (hl : l = U ++ x :: (V ++ y :: W)) (hp : U.length = p) (hq : p + 1 + V.length = q) :
    l.getD p 0 = x ∧ l.getD q 0 = y ∧ p * 1 + 1 ≤ l.length ∧ q * 1 + 1 ≤ l.length ∧ ∃ l1, l.take p ++ y :: l.drop (p + 1) = l1 ∧ q * 1 + 1 ≤ l1.length ∧ l1.take q ++ x :: l1.drop (q + 1) = U ++ y :: (V ++ x :: W) := by
  subst hl
  have e : ∀ a b : Int, U ++ a :: (V ++ b :: W) = (U ++ a :: V) ++ b :: W := fun a b => by simp
  have hq' : ∀ a : Int, (U ++ a :: V).length = q := fun a => by simp; omega
  have h1 := at_put (U := U) (V := V ++ y :: W) (x := x) (v := y) hp
  refine ⟨at_get hp, by rw [e]; exact at_get (hq' x), by simp; omega, by simp; omega, _, h1, by simp; omega, ?_⟩
  rw [e, at_put (hq' y), e]
theorem swp_dn {U V W l : List Int} {x y : Int} {p q : Nat} (hl : l = U ++ x :: (V ++ y :: W)) (hp : U.length = p) (hq : p + 1 + V.length = q) :
    l.getD p 0 = x ∧ l.getD q 0 = y ∧ p * 1 + 1 ≤ l.length ∧ q * 1 + 1 ≤ l.length ∧ ∃ l1, l.take q ++ x :: l.drop (q + 1) = l1 ∧ p * 1 + 1 ≤ l1.length ∧ l1.take p ++ y :: l1.drop (p + 1) = U ++ y :: (V ++ x :: W) := by
  subst hl
  have e : ∀ a b : Int, U ++ a :: (V ++ b :: W) = (U ++ a :: V) ++ b :: W := fun a b => by simp
  have hq' : ∀ a : Int, (U ++ a :: V).length = q := fun a => by simp; omega
  have h1 := at_put (U := U ++ x :: V) (V := W) (x := y) (v := x) (hq' x)
  rw [← e, ← e] at h1
  exact ⟨at_get hp, by rw [e]; exact at_get (hq' x), by simp; omega, by simp; omega, _, h1, by simp; omega, at_put hp⟩
theorem wad {a b : Nat} (h : a + b ≤ 100000000) : IntKind.i64.wrap ((a : Int) + (b : Int)) = ((a + b : Nat) : Int) := by
  rw [wrap_i64 (by omega) (by omega)]; omega
theorem wsb {a b : Nat} (h : b ≤ a) (h2 : a ≤ 100000000) : IntKind.i64.wrap ((a : Int) - (b : Int)) = ((a - b : Nat) : Int) := by
  rw [wrap_i64 (by omega) (by omega)]; omega
section
variable {E : CallRel} {M1 M2 : List AObj} {K N : Nat} {fn : AV}
theorem c172_ok {P A Q B R : List Int} {a b n : Nat} (hK : M1.length = K) (hA : A.length = n) (hB : B.length = n) (ha : P.length = a) (hb : a + n + Q.length = b) (hN : b + n + R.length = N) (hN2 : N ≤ 1000000) :
    Go.V.Call tab E 172 [.arr K 0, .int .i64 a, .int .i64 b, .int .i64 n, fn] (rowM M1 M2 N (P ++ (A ++ (Q ++ (B ++ R))))) (.tup []) (rowM M1 M2 N (P ++ (B ++ (Q ++ (A ++ R))))) := by
  refine Go.V.Call.mach i172 c172 rfl rfl rfl rfl ?_
  have hg : ∀ o : AObj, (M1 ++ o :: M2)[K]? = some o := fun o => row_get hK
  have hs : ∀ o p : AObj, (M1 ++ o :: M2).set K p = M1 ++ p :: M2 := fun o p => row_set hK
  simp only [c172, rowM, go_sem]
  refine mLoop (fun M st => ∃ i : Nat, i ≤ n ∧ M = n - i ∧ st = ⟨[(0, .arr K 0), (1, .int .i64 a), (2, .int .i64 b), (3, .int .i64 n), (10, .int .i64 i)], rowM M1 M2 N (P ++ (B.take i ++ (A.drop i ++ (Q ++ (A.take i ++ (B.drop i ++ R))))))⟩) n ⟨_, rfl, 0, by omega, by omega, by simp [getE, rowM]⟩ ?_
  rintro M s0 ⟨i, hi, rfl, rfl⟩
  by_cases hlt : i < n
  · have hlt' : (i : Int) < (n : Int) := by omega
    have hi1 : IntKind.i64.wrap ((i : Int) + 1) = ((i + 1 : Nat) : Int) := by rw [wrap_i64 (by omega) (by omega)]; omega
    have hl : P ++ (B.take i ++ (A.drop i ++ (Q ++ (A.take i ++ (B.drop i ++ R))))) = (P ++ B.take i) ++ A.getD i 0 :: ((A.drop (i + 1) ++ (Q ++ A.take i)) ++ B.getD i 0 :: (B.drop (i + 1) ++ R)) := by
      rw [getD_drop (s := A) (by omega), getD_drop (s := B) (by omega)]; simp
    have hl2 : (P ++ B.take i) ++ B.getD i 0 :: ((A.drop (i + 1) ++ (Q ++ A.take i)) ++ A.getD i 0 :: (B.drop (i + 1) ++ R)) = P ++ (B.take (i + 1) ++ (A.drop (i + 1) ++ (Q ++ (A.take (i + 1) ++ (B.drop (i + 1) ++ R))))) := by
      rw [tk_getD (l := A) (by omega), tk_getD (l := B) (by omega)]; simp
    obtain ⟨g1, g2, g3, g4, l1, g5, g6, g7⟩ := swp_up (p := a + i) (q := b + i) hl (by simp; omega) (by simp; omega)
    rw [hl2] at g7
    have hlen : (P ++ (B.take i ++ (A.drop i ++ (Q ++ (A.take i ++ (B.drop i ++ R)))))).length = N := by simp; omega
    have wa := wad (a := a) (b := i) (by omega)
    have wb := wad (a := b) (b := i) (by omega)
    generalize P ++ (B.take i ++ (A.drop i ++ (Q ++ (A.take i ++ (B.drop i ++ R))))) = l at *
    have hsa := sub_nums (k := .i64) (l := l) (i := a + i) (by omega)
    have hsb := sub_nums (k := .i64) (l := l) (i := b + i) (by omega)
    rw [g1] at hsa
    rw [g2] at hsb
    have ka : (0 : Int) ≤ ((a + i : Nat) : Int) := by omega
    have kb : (0 : Int) ≤ ((b + i : Nat) : Int) := by omega
    have ka2 : ((a + i : Nat) : Int) < (N : Int) := by omega
    have kb2 : ((b + i : Nat) : Int) < (N : Int) := by omega
    generalize A.getD i 0 = x at *
    generalize B.getD i 0 = y at *
    clear hl hl2 g1 g2
    generalize a + i = p at *
    generalize b + i = q at *
    simp only [b172_0, rowM, go_sem, mapI, hlt', hg, hs, wa, wb, ka, kb, ka2, kb2, Int.toNat_natCast, hsa, hsb, g3, g6, put_nums, g5, g7, hi1]
    exact loopQ_go rfl (n - (i + 1)) (by omega) ⟨i + 1, by omega, rfl, rfl⟩
  · have hlt' : ¬ (i : Int) < (n : Int) := by omega
    obtain rfl : i = n := by omega
    rw [List.take_of_length_le (by omega), List.take_of_length_le (by omega), List.drop_eq_nil_of_le (by omega), List.drop_eq_nil_of_le (by omega), List.nil_append, List.nil_append]
    simp only [b172_0, rowM, go_sem, hlt']
    simp only [i172, Out, resAll, geto, ints, List.getElem?_cons_zero, List.getElem?_cons_succ, resOf, outOf, snap, snapL, ev, getE, List.mapM_cons, List.mapM_nil, Option.bind_some, Option.pure_def, Option.bind_eq_bind, Option.map_some, reduceIte, Nat.reduceEqDiff, true_and, and_true]
theorem c162_ok {P X Y R : List Int} {a m b : Nat} (hK : M1.length = K) (ha : P.length = a) (hm : a + X.length = m) (hb : m + Y.length = b) (hN : b + R.length = N) (hN2 : N ≤ 1000000) (hX : 0 < X.length) (hY : 0 < Y.length) :
    Go.V.Call tab E 162 [.arr K 0, .int .i64 a, .int .i64 m, .int .i64 b, fn] (rowM M1 M2 N (P ++ (X ++ (Y ++ R)))) (.tup []) (rowM M1 M2 N (P ++ (Y ++ (X ++ R)))) := by
  refine Go.V.Call.mach i162 c162 rfl rfl rfl rfl ?_
  have w1 : IntKind.i64.wrap ((m : Int) - (a : Int)) = (X.length : Int) := by rw [wrap_i64 (by omega) (by omega)]; omega
  have w2 : IntKind.i64.wrap ((b : Int) - (m : Int)) = (Y.length : Int) := by rw [wrap_i64 (by omega) (by omega)]; omega
  simp only [c162, go_sem, w1, w2]
  generalize hT : P ++ (Y ++ (X ++ R)) = T
  refine mLoop (fun M st => ∃ P' X' Y' R' : List Int, P'.length + X'.length = m ∧ m + Y'.length + R'.length = N ∧ 0 < X'.length ∧ 0 < Y'.length ∧ P' ++ (Y' ++ (X' ++ R')) = T ∧ M = X'.length + Y'.length ∧
    st = ⟨[(0, .arr K 0), (2, .int .i64 m), (4, fn), (10, .int .i64 X'.length), (11, .int .i64 Y'.length)], rowM M1 M2 N (P' ++ (X' ++ (Y' ++ R')))⟩) (X.length + Y.length) ⟨_, rfl, P, X, Y, R, by omega, by omega, hX, hY, hT, rfl, rfl⟩ ?_
  rintro M s0 ⟨P', X', Y', R', h1, h2, h3, h4, h5, rfl, rfl⟩
  have v1 := wsb (a := m) (b := X'.length) (by omega) (by omega)
  by_cases hne : X'.length = Y'.length
  · have hne' : ((X'.length : Int) != (Y'.length : Int)) = false := by rw [hne, bne_self_eq_false]
    have h172 := c172_ok (E := E) (fn := fn) (M1 := M1) (M2 := M2) (P := P') (A := X') (Q := []) (B := Y') (R := R') (a := m - X'.length) (b := m) (n := X'.length) hK rfl hne.symm (by omega) (by simp; omega) (N := N) (by omega) hN2
    simp only [List.nil_append] at h172
    rw [h5] at h172
    simp only [b162_0, k162_0, go_sem, hne', v1]
    refine goM h172 ?_
    simp only [go_sem]
    simp only [i162, Out, resAll, geto, ints, List.getElem?_cons_zero, List.getElem?_cons_succ, resOf, outOf, snap, snapL, ev, getE, List.mapM_cons, List.mapM_nil, Option.bind_some, Option.pure_def, Option.bind_eq_bind, Option.map_some, reduceIte, Nat.reduceEqDiff, true_and, and_true]
  · have hne' : ((X'.length : Int) != (Y'.length : Int)) = true := by rw [bne_iff_ne]; omega
    by_cases hgt : Y'.length < X'.length
    · have hgt' : (Y'.length : Int) < (X'.length : Int) := by omega
      have l1 : (X'.take Y'.length).length = Y'.length := by rw [List.length_take]; omega
      have l2 : (X'.drop Y'.length).length = X'.length - Y'.length := List.length_drop ..
      have ex : X' = X'.take Y'.length ++ X'.drop Y'.length := (List.take_append_drop _ _).symm
      have v2 := wsb (a := X'.length) (b := Y'.length) (by omega) (by omega)
      rw [← l2] at v2
      generalize X'.take Y'.length = X1 at *
      generalize X'.drop Y'.length = X2 at *
      have h172 := c172_ok (E := E) (fn := fn) (M1 := M1) (M2 := M2) (P := P') (A := X1) (Q := X2) (B := Y') (R := R') (a := m - X'.length) (b := m) (n := Y'.length) hK l1 rfl (by omega) (by omega) (N := N) (by omega) hN2
      have em : P' ++ (X1 ++ (X2 ++ (Y' ++ R'))) = P' ++ (X' ++ (Y' ++ R')) := by rw [ex]; simp
      rw [em] at h172
      simp only [b162_0, go_sem, hne', hgt', v1]
      refine goM h172 ?_
      simp only [go_sem, v2]
      refine loopQ_go rfl (X2.length + X1.length) (by omega) ⟨P' ++ Y', X2, X1, R', by simp; omega, by omega, by omega, by omega, by rw [← h5, ex]; simp, rfl, ?_⟩
      rw [l1, List.append_assoc]
      rfl
    · have hgt' : ¬ (Y'.length : Int) < (X'.length : Int) := by omega
      have l1 : (Y'.take (Y'.length - X'.length)).length = Y'.length - X'.length := by rw [List.length_take]; omega
      have l2 : (Y'.drop (Y'.length - X'.length)).length = X'.length := by rw [List.length_drop]; omega
      have ey : Y' = Y'.take (Y'.length - X'.length) ++ Y'.drop (Y'.length - X'.length) := (List.take_append_drop _ _).symm
      have v2 := wsb (a := Y'.length) (b := X'.length) (by omega) (by omega)
      have v3 := wad (a := m) (b := Y'.length) (by omega)
      have v4 := wsb (a := m + Y'.length) (b := X'.length) (by omega) (by omega)
      rw [← l1] at v2
      generalize Y'.take (Y'.length - X'.length) = Y1 at *
      generalize Y'.drop (Y'.length - X'.length) = Y2 at *
      have h172 := c172_ok (E := E) (fn := fn) (M1 := M1) (M2 := M2) (P := P') (A := X') (Q := Y1) (B := Y2) (R := R') (a := m - X'.length) (b := m + Y'.length - X'.length) (n := X'.length) hK rfl l2 (by omega) (by omega) (N := N) (by omega) hN2
      have em : P' ++ (X' ++ (Y1 ++ (Y2 ++ R'))) = P' ++ (X' ++ (Y' ++ R')) := by rw [ey]; simp
      rw [em] at h172
      simp only [b162_0, go_sem, hne', hgt', v1, v3, v4]
      refine goM h172 ?_
      simp only [go_sem, v2]
      refine loopQ_go rfl (Y2.length + Y1.length) (by omega) ⟨P', Y2, Y1, X' ++ R', by omega, by simp; omega, by omega, by omega, by rw [← h5, ey]; simp, rfl, ?_⟩
      rw [l2]
      simp [getE]
end
end Go.Proofs.YtlejgleocnemoabGreat.I

namespace Go.Proofs.YtlejgleocnemoabGreat.I
open Go Go.V
theorem goFn {C : CallRel} {Q : X → St → Prop} {f : Nat} {caps as1 bs : List AV} {d : Option Nat} {os : List IOp} {k : List Go.V.Item} {s : St} {r : AV} (hcaps : caps.mapM (fun c => snap s.mem 10 c) = some bs) (h : C f (as1 ++ bs) [] r []) (hs : scalars r = true)
    (hk : Mach C Q (.ops os :: k) .nrm ⟨putE s.env d r, s.mem⟩) : MachF C Q (.fn f caps) (some as1) d os k s := by
  simp only [MachF, hcaps, Option.map_some]
  exact goV h hs hk
section
variable {E : CallRel}
end
end Go.Proofs.YtlejgleocnemoabGreat.I

namespace Go.Proofs.YtlejgleocnemoabGreat.I
open Go Go.V
attribute [local go_sem_proc ↓] reduceIte
attribute [local go_sem_proc] Nat.reduceEqDiff Nat.reduceAdd Nat.reduceMul Nat.reduceLeDiff Nat.reduceLT Int.reduceToNat Int.reduceLT Int.reduceLE reduceCtorEq Nat.reduceBEq
attribute [local go_sem] mNil nat0 beq_self_eq_true mSkip mRet mExit mReg mSeq mCond mTrue mFalse mBlock mLv mCodeE mCodeR mEndN mEndR mEndE mOps mSome mGuard mGtt mGff mGtf mGft mGu mCallP mCallR mCallF mCallO mCallZ mCallG mCallM mCallV loopQ_exit loopQ_ret mO_mov mO_newnil mO_pick mO_alloc mO_box mO_build mO_bsl mO_bslF mO_ldf mO_ld mO_st mO_sta mO_nilchk mO_bin mO_binb mO_binp mO_bins mO_neg mO_com mO_not mO_conv mO_mk mO_mk0 mO_s2b mO_b2s mO_cpy mO_cut mO_faddr mO_fld mO_iaddr mO_iaddrf mO_sidx mO_len mO_lenf mO_slen mO_scut mO_app mO_ext mO_mx mO_mn mO_mkfn evalOp cutOp argsE ev getE putE cellsOf adopt rowOf binV boolV nilV ar_add ar_sub ar_mul ar_quo ar_rem ar_eq ar_ne ar_lt ar_le ar_gt ar_ge ar_and ar_or ar_xor geto bound finRet finNrm ints List.length_cons List.length_nil List.length_append List.getElem?_cons_zero List.getElem?_cons_succ List.nil_append List.cons_append List.map_cons List.map_nil List.mapM_cons List.mapM_nil Option.map_some Option.map_none Option.bind_some Option.pure_def Option.bind_eq_bind List.drop_zero or_self or_false false_or or_true true_or true_and and_true and_self decide_true decide_false Bool.false_eq_true Bool.true_eq_false Bool.not_true Bool.not_false Nat.le_refl eq_self gt_iff_lt ge_iff_le ne_eq not_true_eq_false not_false_eq_true storeOp apartOf freeze_nil refsL refs List.flatMap_cons List.flatMap_nil List.append_nil List.contains_nil List.set_cons_zero List.set_cons_succ snap snapL fill_nums flat_nums nums_length Go.V.freeze List.mapIdx_cons List.mapIdx_nil List.contains_cons Bool.or_false Bool.false_or Bool.or_true Bool.true_or
structure Ord (lt : Int → Int → Prop) : Prop where
  tra : ∀ {x y z : Int}, lt x y → lt y z → lt x z
  tot : ∀ {x y : Int}, x ≠ y → lt x y ∨ lt y x
  irr : ∀ {x : Int}, ¬ lt x x
def Hc (c : Int → Int → Int) (lt : Int → Int → Prop) (x y : Int) : Prop := x ≠ y ∧ (c y x < 0 ↔ lt y x)
theorem Hc.not {c : Int → Int → Int} {lt : Int → Int → Prop} (hO : Ord lt) {x y : Int} (h : Hc c lt x y) (hn : ¬ lt y x) : lt x y := (hO.tot h.1).resolve_right hn
def CmpOk (C : CallRel) (M1 M2 : List AObj) (N f : Nat) (caps bs : List AV) (S : Int → Prop) (c : Int → Int → Int) : Prop :=
  (∀ l, caps.mapM (fun x => snap (rowM M1 M2 N l) 10 x) = some bs) ∧ ∀ x y, S x → S y → C f ([.int .i64 x, .int .i64 y] ++ bs) [] (.int .i64 (c x y)) []
theorem pw_get {lt : Int → Int → Prop} : ∀ {l : List Int} {i j : Nat}, l.Pairwise lt → i < j → j < l.length → lt (l.getD i 0) (l.getD j 0) := by
  intro l i j h hij hj
  have := List.pairwise_iff_getElem.1 h i j (by omega) hj hij
  simpa [List.getD, hj, show i < l.length by omega] using this
theorem mem_take {l : List Int} {t : Nat} {z : Int} (h : z ∈ l.take t) : ∃ k, k < t ∧ k < l.length ∧ l.getD k 0 = z := by
  obtain ⟨k, hk, rfl⟩ := List.getElem_of_mem h
  rw [List.length_take] at hk
  exact ⟨k, by omega, by omega, by simp [List.getD, show k < l.length by omega]⟩
theorem mem_drop {l : List Int} {t : Nat} {z : Int} (h : z ∈ l.drop t) : ∃ k, t ≤ k ∧ k < l.length ∧ l.getD k 0 = z := by
  obtain ⟨k, hk, rfl⟩ := List.getElem_of_mem h
  rw [List.length_drop] at hk
  exact ⟨t + k, by omega, by omega, by simp [List.getD, show t + k < l.length by omega]⟩
theorem cut_at {lt : Int → Int → Prop} (hO : Ord lt) {x : Int} : ∀ {B : List Int}, B.Pairwise lt → (∀ y ∈ B, y ≠ x) → ∃ t, t ≤ B.length ∧ (∀ z ∈ B.take t, lt z x) ∧ ∀ z ∈ B.drop t, lt x z
  | [], _, _ => ⟨0, Nat.le_refl _, by simp, by simp⟩
  | b :: B, h, hn => by
    rw [List.pairwise_cons] at h
    rcases hO.tot (hn b (by simp)) with hb | hb
    · obtain ⟨t, h1, h2, h3⟩ := cut_at hO h.2 fun y hy => hn y (by simp [hy])
      refine ⟨t + 1, by simpa using h1, fun z hz => ?_, by simpa using h3⟩
      rw [List.take_succ_cons] at hz
      rcases List.mem_cons.1 hz with rfl | hz
      · exact hb
      · exact h2 z hz
    · refine ⟨0, by omega, by simp, fun z hz => ?_⟩
      rw [List.drop_zero] at hz
      rcases List.mem_cons.1 hz with rfl | hz
      · exact hb
      · exact hO.tra hb (h.1 z hz)
theorem ins_pw {lt : Int → Int → Prop} {D1 D2 : List Int} {e : Int} (h : (D1 ++ D2).Pairwise lt) (h1 : ∀ z ∈ D1, lt z e) (h2 : ∀ z ∈ D2, lt e z) : (D1 ++ e :: D2).Pairwise lt := by
  rw [List.pairwise_append] at h ⊢
  refine ⟨h.1, List.pairwise_cons.2 ⟨h2, h.2.1⟩, fun a ha b hb => ?_⟩
  rcases List.mem_cons.1 hb with rfl | hb
  · exact h1 a ha
  · exact h.2.2 a ha b hb
theorem shr1 {n : Nat} : shiftOp .shr .u64 (n : Int) 1 = some (.int .u64 ((n / 2 : Nat) : Int)) := by
  simp [shiftOp, IntKind.bits, Int.fdiv_eq_ediv_of_nonneg]
theorem wu64 {n : Nat} (h : n ≤ 100000000) : IntKind.u64.wrap (n : Int) = (n : Int) := by
  simp only [IntKind.wrap, IntKind.bits, IntKind.signed]
  simp
  omega
theorem wi64 {n : Nat} (h : n ≤ 100000000) : IntKind.i64.wrap (n : Int) = (n : Int) := wrap_i64 (by omega) (by omega)
section
variable {E : CallRel} {M1 M2 : List AObj} {K N f : Nat} {caps bs : List AV} {Sd : Int → Prop} {c : Int → Int → Int} {lt : Int → Int → Prop}
set_option maxHeartbeats 1000000 in
theorem c139_ok {P S R : List Int} {a b : Nat} (hO : Ord lt) (hC : CmpOk (Go.V.Call tab E) M1 M2 N f caps bs Sd c) (hK : M1.length = K) (ha : P.length = a) (hb : a + S.length = b) (hN : b + R.length = N) (hN2 : N ≤ 1000000) (hS : ∀ x ∈ S, Sd x) (hp : S.Pairwise (Hc c lt)) :
    ∃ D, D.Perm S ∧ D.Pairwise lt ∧ Go.V.Call tab E 139 [.arr K 0, .int .i64 a, .int .i64 b, .fn f caps] (rowM M1 M2 N (P ++ (S ++ R))) (.tup []) (rowM M1 M2 N (P ++ (D ++ R))) := by
  suffices h : Mach (Go.V.Call tab E) (fun x st => ∃ D, (D.Perm S ∧ D.Pairwise lt) ∧ Fin i139 (rowM M1 M2 N (P ++ (S ++ R))) (.tup []) (rowM M1 M2 N (P ++ (D ++ R))) x st) [.code c139] .nrm ⟨argsE 0 [.arr K 0, .int .i64 a, .int .i64 b, .fn f caps], rowM M1 M2 N (P ++ (S ++ R))⟩ by
    obtain ⟨x, st, h1, h4⟩ := wp_exec h
    rw [mNil] at h4
    obtain ⟨D, h2, h3⟩ := h4
    exact ⟨D, h2.1, h2.2, Go.V.Call.go i139 c139 rfl rfl rfl rfl (exec_wp h1 h3)⟩
  have hg : ∀ o : AObj, (M1 ++ o :: M2)[K]? = some o := fun o => row_get hK
  have hst : ∀ o p : AObj, (M1 ++ o :: M2).set K p = M1 ++ p :: M2 := fun o p => row_set hK
  have a1 : IntKind.i64.wrap ((a : Int) + 1) = ((a + 1 : Nat) : Int) := by rw [wrap_i64 (by omega) (by omega)]; omega
  simp only [c139, go_sem, a1]
  refine mLoop (fun M st => ∃ (j : Nat) (D : List Int), 1 ≤ j ∧ (j ≤ S.length ∨ j = 1) ∧ M = S.length + 1 - j ∧ D.Perm (S.take j) ∧ D.Pairwise lt ∧
    st = ⟨[(0, .arr K 0), (1, .int .i64 a), (2, .int .i64 b), (3, .fn f caps), (8, .int .i64 (a + j : Nat))], rowM M1 M2 N (P ++ (D ++ (S.drop j ++ R)))⟩) S.length
    ⟨_, rfl, 1, S.take 1, by omega, by omega, by omega, List.Perm.refl _, by cases S <;> simp, by
      rw [← List.append_assoc (S.take 1), List.take_append_drop]; simp [getE]⟩ ?_
  rintro M s0 ⟨j, D, hj, hj2, rfl, hD, hDs, rfl⟩
  have hDl : D.length = min j S.length := by rw [hD.length_eq, List.length_take]
  by_cases hlt : j < S.length
  · have hlt' : ((a + j : Nat) : Int) < (b : Int) := by omega
    have hDl' : D.length = j := by omega
    have hdr := getD_drop hlt
    have htk := tk_getD hlt
    have heS : S.getD j 0 ∈ S := by simp [List.getD, hlt]
    have hHc : ∀ w ∈ D, Hc c lt w (S.getD j 0) := fun w hw => by
      obtain ⟨k, hk, hk2, rfl⟩ := mem_take (hD.mem_iff.1 hw)
      exact pw_get hp hk hlt
    have hSd : ∀ w ∈ D, Sd w := fun w hw => hS w (List.mem_of_mem_take (hD.mem_iff.1 hw))
    have hSe := hS _ heS
    have hlen : (D ++ S.getD j 0 :: S.drop (j + 1)).length = S.length := by simp; omega
    rw [hdr]
    generalize S.getD j 0 = e at *
    simp only [b139_0, go_sem, hlt']
    refine mLoop (fun M st => ∃ D1 D2 : List Int, D1 ++ D2 = D ∧ (∀ z ∈ D2, lt e z) ∧ M = D1.length ∧
      st = ⟨[(0, .arr K 0), (1, .int .i64 a), (2, .int .i64 b), (3, .fn f caps), (8, .int .i64 (a + j : Nat)), (9, .int .i64 (a + D1.length : Nat))], rowM M1 M2 N (P ++ (D1 ++ (e :: (D2 ++ (S.drop (j + 1) ++ R)))))⟩) D.length
      ⟨_, rfl, D, [], by simp, by simp, rfl, by simp [getE, hDl']⟩ ?_
    rintro M s0 ⟨D1, D2, h12, h2, rfl, rfl⟩
    have fin : ∀ s1 : St, (∀ z ∈ D1, lt z e) → s1.mem = rowM M1 M2 N (P ++ (D1 ++ (e :: (D2 ++ (S.drop (j + 1) ++ R))))) → ∃ D', D'.Perm (S.take (j + 1)) ∧ D'.Pairwise lt ∧ rowM M1 M2 N (P ++ (D1 ++ (e :: (D2 ++ (S.drop (j + 1) ++ R))))) = rowM M1 M2 N (P ++ (D' ++ (S.drop (j + 1) ++ R))) := fun s1 h1 _ => by
      refine ⟨D1 ++ e :: D2, ?_, ins_pw (by rw [h12]; exact hDs) h1 h2, by simp⟩
      rw [htk]
      refine List.perm_middle.trans ?_
      rw [h12]
      exact (List.perm_append_singleton e D).symm.trans (hD.append_right [e])
    have hj1 : IntKind.i64.wrap (((a + j : Nat) : Int) + 1) = ((a + (j + 1) : Nat) : Int) := by rw [wrap_i64 (by omega) (by omega)]; omega
    rcases List.eq_nil_or_concat D1 with rfl | ⟨D0, w, rfl⟩
    · have hz : ¬ (a : Int) < ((a + 0 : Nat) : Int) := by omega
      obtain ⟨D', g1, g2, g3⟩ := fin ⟨[], _⟩ (by simp) rfl
      rw [g3]
      simp only [b139_1, k139_0, go_sem, hz, hj1]
      exact loopQ_go rfl (S.length + 1 - (j + 1)) (by omega) ⟨j + 1, D', by omega, by omega, rfl, g1, g2, rfl⟩
    · rw [List.concat_eq_append] at *
      have hz : (a : Int) < ((a + (D0 ++ [w]).length : Nat) : Int) := by simp; omega
      have hwD : w ∈ D := by rw [← h12]; simp
      have hcall := hC.2 e w hSe (hSd w hwD)
      obtain ⟨hne, hcw⟩ := hHc w hwD
      have hl : P ++ ((D0 ++ [w]) ++ (e :: (D2 ++ (S.drop (j + 1) ++ R)))) = (P ++ D0) ++ w :: ([] ++ e :: (D2 ++ (S.drop (j + 1) ++ R))) := by simp
      obtain ⟨q1, q2, q3, q4, l1, q5, q6, q7⟩ := swp_dn (p := a + D0.length) (q := a + (D0 ++ [w]).length) hl (by simp; omega) (by simp; omega)
      have hl2 : (P ++ D0) ++ e :: ([] ++ w :: (D2 ++ (S.drop (j + 1) ++ R))) = P ++ (D0 ++ (e :: ((w :: D2) ++ (S.drop (j + 1) ++ R)))) := by simp
      rw [hl2] at q7
      have hlenN : (P ++ ((D0 ++ [w]) ++ (e :: (D2 ++ (S.drop (j + 1) ++ R))))).length = N := by
        have : D.length = (D0 ++ [w]).length + D2.length := by rw [← h12, List.length_append]
        simp at this hlen ⊢
        omega
      have hq0 : IntKind.i64.wrap (((a + (D0 ++ [w]).length : Nat) : Int) - 1) = ((a + D0.length : Nat) : Int) := by rw [wrap_i64 (by simp; omega) (by simp at hlenN ⊢; omega)]; simp; omega
      have hcaps := hC.1 (P ++ ((D0 ++ [w]) ++ (e :: (D2 ++ (S.drop (j + 1) ++ R)))))
      by_cases hltw : lt e w
      · have hcl : c e w < 0 := hcw.2 hltw
        clear fin hl hl2
        generalize hwl : (D0 ++ [w]).length = wl at *
        generalize P ++ ((D0 ++ [w]) ++ (e :: (D2 ++ (S.drop (j + 1) ++ R)))) = l at *
        have s1 := sub_nums (k := .i64) (l := l) (i := a + D0.length) (by omega)
        have s2 := sub_nums (k := .i64) (l := l) (i := a + wl) (by omega)
        rw [q1] at s1
        rw [q2] at s2
        have k1 : (0 : Int) ≤ ((a + D0.length : Nat) : Int) := by omega
        have k2 : (0 : Int) ≤ ((a + wl : Nat) : Int) := by omega
        have k3 : ((a + D0.length : Nat) : Int) < (N : Int) := by omega
        have k4 : ((a + wl : Nat) : Int) < (N : Int) := by omega
        have hwl2 : wl = D0.length + 1 := by rw [← hwl]; simp
        generalize hp0 : a + D0.length = p0 at *
        generalize hq0' : a + wl = q0 at *
        simp only [rowM] at hcaps
        simp only [b139_1, rowM, go_sem, mapI, hz, hg, hst, hq0, k1, k2, k3, k4, Int.toNat_natCast, s1, s2]
        refine goFn hcaps hcall rfl ?_
        simp only [rowM, go_sem, mapI, hcl, hg, hst, hq0, k1, k2, k3, k4, Int.toNat_natCast, s1, s2, q3, q4, q6, put_nums, q5, q7]
        exact loopQ_go rfl D0.length (by omega) ⟨D0, w :: D2, by rw [← h12]; simp, fun z hz => (List.mem_cons.1 hz).elim (fun h => h ▸ hltw) (h2 z), rfl, by rw [hp0]; rfl⟩
      · have hcl : ¬ c e w < 0 := fun h => hltw (hcw.1 h)
        have hwe : lt w e := (hO.tot hne).resolve_right hltw
        obtain ⟨D', g1, g2, g3⟩ := fin ⟨[], _⟩ (fun z hz => by
          rcases List.mem_append.1 hz with hz | hz
          · rw [← h12, List.append_assoc, List.pairwise_append] at hDs
            exact hO.tra (hDs.2.2 z hz w (by simp)) hwe
          · obtain rfl := List.mem_singleton.1 hz
            exact hwe) rfl
        clear fin hl hl2
        generalize hwl : (D0 ++ [w]).length = wl at *
        generalize P ++ ((D0 ++ [w]) ++ (e :: (D2 ++ (S.drop (j + 1) ++ R)))) = l at *
        have s1 := sub_nums (k := .i64) (l := l) (i := a + D0.length) (by omega)
        have s2 := sub_nums (k := .i64) (l := l) (i := a + wl) (by omega)
        rw [q1] at s1
        rw [q2] at s2
        have k1 : (0 : Int) ≤ ((a + D0.length : Nat) : Int) := by omega
        have k2 : (0 : Int) ≤ ((a + wl : Nat) : Int) := by omega
        have k3 : ((a + D0.length : Nat) : Int) < (N : Int) := by omega
        have k4 : ((a + wl : Nat) : Int) < (N : Int) := by omega
        simp only [rowM] at hcaps g3
        simp only [b139_1, rowM, go_sem, mapI, hz, hg, hst, hq0, k1, k2, k3, k4, Int.toNat_natCast, s1, s2]
        refine goFn hcaps hcall rfl ?_
        simp only [b139_1, k139_0, rowM, go_sem, hcl, hj1]
        rw [g3]
        exact loopQ_go rfl (S.length + 1 - (j + 1)) (by omega) ⟨j + 1, D', by omega, by omega, rfl, g1, g2, rfl⟩
  · have hlt' : ¬ ((a + j : Nat) : Int) < (b : Int) := by omega
    rw [List.take_of_length_le (by omega)] at hD
    rw [List.drop_eq_nil_of_le (by omega), List.nil_append]
    simp only [b139_0, rowM, go_sem, hlt']
    exact ⟨D, ⟨hD, hDs⟩, by simp only [i139, Out, resAll, geto, ints, List.getElem?_cons_zero, List.getElem?_cons_succ, resOf, outOf, snap, snapL, ev, getE, List.mapM_cons, List.mapM_nil, Option.bind_some, Option.pure_def, Option.bind_eq_bind, Option.map_some, reduceIte, Nat.reduceEqDiff, true_and, and_true]⟩
end
theorem Ord.asm {lt : Int → Int → Prop} (hO : Ord lt) {x y : Int} (h : lt x y) : ¬ lt y x := fun h2 => hO.irr (hO.tra h h2)
section
variable {E : CallRel} {M1 M2 : List AObj} {K N f : Nat} {caps bs : List AV} {Sd : Int → Prop} {c : Int → Int → Int} {lt : Int → Int → Prop}
set_option maxHeartbeats 1000000 in
theorem c140_one {P B R : List Int} {x : Int} {a m b : Nat} (hO : Ord lt) (hC : CmpOk (Go.V.Call tab E) M1 M2 N f caps bs Sd c) (hK : M1.length = K) (ha : P.length = a) (hm : a + 1 = m) (hb : m + B.length = b) (hN : b + R.length = N) (hN2 : N ≤ 1000000) (hSx : Sd x) (hSB : ∀ y ∈ B, Sd y) (hB : B.Pairwise lt) (hH : ∀ y ∈ B, Hc c lt x y) :
    ∃ C, C.Perm (x :: B) ∧ C.Pairwise lt ∧ Go.V.Call tab E 140 [.arr K 0, .int .i64 a, .int .i64 m, .int .i64 b, .fn f caps] (rowM M1 M2 N (P ++ (x :: (B ++ R)))) (.tup []) (rowM M1 M2 N (P ++ (C ++ R))) := by
  obtain ⟨t, ht, h1, h2⟩ := cut_at hO hB fun y hy => (hH y hy).1.symm
  refine ⟨B.take t ++ x :: B.drop t, by have := List.perm_middle (a := x) (l₁ := B.take t) (l₂ := B.drop t); rwa [List.take_append_drop] at this, ins_pw (by rwa [List.take_append_drop]) h1 h2, ?_⟩
  refine Go.V.Call.mach i140 c140 rfl rfl rfl rfl ?_
  have hg : ∀ o : AObj, (M1 ++ o :: M2)[K]? = some o := fun o => row_get hK
  have hst : ∀ o p : AObj, (M1 ++ o :: M2).set K p = M1 ++ p :: M2 := fun o p => row_set hK
  have w1 : IntKind.i64.wrap ((m : Int) - (a : Int)) = 1 := by rw [wrap_i64 (by omega) (by omega)]; omega
  have hlen : (P ++ (x :: (B ++ R))).length = N := by simp; omega
  have hxa : (P ++ (x :: (B ++ R))).getD a 0 = x := at_get ha
  have hcaps := hC.1 (P ++ (x :: (B ++ R)))
  simp only [c140, go_sem, w1]
  refine mLoop (fun M st => ∃ lo hi : Nat, lo ≤ t ∧ t ≤ hi ∧ hi ≤ B.length ∧ M = hi - lo ∧ st = ⟨[(0, .arr K 0), (1, .int .i64 a), (4, .fn f caps), (10, .int .i64 (m + lo : Nat)), (11, .int .i64 (m + hi : Nat))], rowM M1 M2 N (P ++ (x :: (B ++ R)))⟩) B.length
    ⟨_, rfl, 0, B.length, by omega, ht, by omega, by omega, by simp [getE]; omega⟩ ?_
  rintro M s0 ⟨lo, hi, hlo, hhi, hhB, rfl, rfl⟩
  by_cases hlt : lo < hi
  · have hlt' : ((m + lo : Nat) : Int) < ((m + hi : Nat) : Int) := by omega
    have e0 := wad (a := m + lo) (b := m + hi) (by omega)
    have e1 := wu64 (n := m + lo + (m + hi)) (by omega)
    have e2 : (m + lo + (m + hi)) / 2 = m + (lo + hi) / 2 := by omega
    have e3 := wi64 (n := (m + lo + (m + hi)) / 2) (by omega)
    rw [e2] at e3
    have hh : (lo + hi) / 2 < hi ∧ lo ≤ (lo + hi) / 2 := by omega
    generalize (lo + hi) / 2 = h at *
    have hhB2 : h < B.length := by omega
    have hyB : B.getD h 0 ∈ B := by simp [List.getD, hhB2]
    have hl : P ++ (x :: (B ++ R)) = (P ++ x :: B.take h) ++ B.getD h 0 :: (B.drop (h + 1) ++ R) := by
      conv => lhs; rw [← List.take_append_drop h B, getD_drop hhB2]
      simp
    have hyh : (P ++ (x :: (B ++ R))).getD (m + h) 0 = B.getD h 0 := by rw [hl]; exact at_get (by simp; omega)
    have hcall := hC.2 (B.getD h 0) x (hSB _ hyB) hSx
    have hcw := (hH _ hyB).2
    have hiff : lt (B.getD h 0) x ↔ h < t := by
      constructor
      · intro hl2
        rcases Nat.lt_or_ge h t with h3 | h3
        · exact h3
        · refine absurd hl2 (hO.asm (h2 _ ?_))
          rw [List.mem_drop_iff_getElem]
          exact ⟨h - t, by omega, by simp [List.getD, hhB2, show t + (h - t) = h by omega]⟩
      · intro h3
        refine h1 _ ?_
        rw [List.mem_take_iff_getElem]
        exact ⟨h, by omega, by simp [List.getD, hhB2]⟩
    have s1 := sub_nums (k := .i64) (l := P ++ (x :: (B ++ R))) (i := a) (by omega)
    have s2 := sub_nums (k := .i64) (l := P ++ (x :: (B ++ R))) (i := m + h) (by omega)
    rw [hxa] at s1
    rw [hyh] at s2
    have k1 : (0 : Int) ≤ (a : Int) := by omega
    have k2 : (0 : Int) ≤ ((m + h : Nat) : Int) := by omega
    have k3 : (a : Int) < (N : Int) := by omega
    have k4 : ((m + h : Nat) : Int) < (N : Int) := by omega
    have e4 : IntKind.i64.wrap (((m + h : Nat) : Int) + 1) = ((m + (h + 1) : Nat) : Int) := by rw [wrap_i64 (by omega) (by omega)]; omega
    clear hl
    generalize P ++ (x :: (B ++ R)) = l at *
    generalize B.getD h 0 = y at *
    simp only [rowM] at hcaps
    simp only [b140_0, rowM, go_sem, mapI, hlt', e0, e1, shr1, e2, e3, hg, k1, k2, k3, k4, Int.toNat_natCast, s1, s2]
    refine goFn hcaps hcall rfl ?_
    by_cases hty : h < t
    · have hcl : c y x < 0 := hcw.2 (hiff.2 hty)
      simp only [b140_0, rowM, go_sem, hcl, e4]
      exact loopQ_go rfl (hi - (h + 1)) (by omega) ⟨h + 1, hi, by omega, hhi, hhB, rfl, rfl⟩
    · have hcl : ¬ c y x < 0 := fun h3 => hty (hiff.1 (hcw.1 h3))
      simp only [b140_0, rowM, go_sem, hcl]
      exact loopQ_go rfl (h - lo) (by omega) ⟨lo, h, hlo, by omega, by omega, rfl, rfl⟩
  · have hlt' : ¬ ((m + lo : Nat) : Int) < ((m + hi : Nat) : Int) := by omega
    obtain rfl : lo = t := by omega
    simp only [b140_0, k140_1, go_sem, hlt']
    refine mLoop (fun M st => ∃ s : Nat, s ≤ lo ∧ M = lo - s ∧ st = ⟨[(0, .arr K 0), (10, .int .i64 (m + lo : Nat)), (13, .int .i64 (a + s : Nat))], rowM M1 M2 N (P ++ (B.take s ++ (x :: (B.drop s ++ R))))⟩) lo
      ⟨_, rfl, 0, by omega, by omega, by simp [getE]⟩ ?_
    rintro M s0 ⟨s, hs, rfl, rfl⟩
    have e5 : IntKind.i64.wrap (((m + lo : Nat) : Int) - 1) = ((a + lo : Nat) : Int) := by rw [wrap_i64 (by omega) (by omega)]; omega
    by_cases hslt : s < lo
    · have hslt' : ((a + s : Nat) : Int) < ((a + lo : Nat) : Int) := by omega
      have hsB : s < B.length := by omega
      have hl : P ++ (B.take s ++ (x :: (B.drop s ++ R))) = (P ++ B.take s) ++ x :: ([] ++ B.getD s 0 :: (B.drop (s + 1) ++ R)) := by rw [getD_drop hsB]; simp
      have hl2 : (P ++ B.take s) ++ B.getD s 0 :: ([] ++ x :: (B.drop (s + 1) ++ R)) = P ++ (B.take (s + 1) ++ (x :: (B.drop (s + 1) ++ R))) := by rw [tk_getD hsB]; simp
      obtain ⟨q1, q2, q3, q4, l1, q5, q6, q7⟩ := swp_up (p := a + s) (q := a + (s + 1)) hl (by simp; omega) (by simp; omega)
      rw [hl2] at q7
      have hlen2 : (P ++ (B.take s ++ (x :: (B.drop s ++ R)))).length = N := by simp; omega
      have e6 : IntKind.i64.wrap (((a + s : Nat) : Int) + 1) = ((a + (s + 1) : Nat) : Int) := by rw [wrap_i64 (by omega) (by omega)]; omega
      clear hl hl2
      generalize P ++ (B.take s ++ (x :: (B.drop s ++ R))) = l at *
      generalize B.getD s 0 = y at *
      have s1 := sub_nums (k := .i64) (l := l) (i := a + s) (by omega)
      have s2 := sub_nums (k := .i64) (l := l) (i := a + (s + 1)) (by omega)
      rw [q1] at s1
      rw [q2] at s2
      have k1 : (0 : Int) ≤ ((a + s : Nat) : Int) := by omega
      have k2 : (0 : Int) ≤ ((a + (s + 1) : Nat) : Int) := by omega
      have k3 : ((a + s : Nat) : Int) < (N : Int) := by omega
      have k4 : ((a + (s + 1) : Nat) : Int) < (N : Int) := by omega
      generalize hp0 : a + s = p0 at *
      generalize hq0 : a + (s + 1) = q0 at *
      simp only [b140_1, rowM, go_sem, mapI, e5, hslt', e6, hg, hst, k1, k2, k3, k4, Int.toNat_natCast, s1, s2, q3, q4, q6, put_nums, q5, q7]
      exact loopQ_go rfl (lo - (s + 1)) (by omega) ⟨s + 1, by omega, rfl, by rw [hq0]; rfl⟩
    · have hslt' : ¬ ((a + s : Nat) : Int) < ((a + lo : Nat) : Int) := by omega
      obtain rfl : s = lo := by omega
      simp only [b140_1, k140_0, rowM, go_sem, e5, hslt']
      simp only [i140, Out, resAll, geto, ints, List.getElem?_cons_zero, List.getElem?_cons_succ, resOf, outOf, snap, snapL, ev, getE, List.mapM_cons, List.mapM_nil, Option.bind_some, Option.pure_def, Option.bind_eq_bind, Option.map_some, reduceIte, Nat.reduceEqDiff, true_and, and_true, List.append_assoc, List.cons_append]
set_option maxHeartbeats 1000000 in
theorem c140_last {P A R : List Int} {y : Int} {a m b : Nat} (hO : Ord lt) (hC : CmpOk (Go.V.Call tab E) M1 M2 N f caps bs Sd c) (hK : M1.length = K) (ha : P.length = a) (hm : a + A.length = m) (hA1 : A.length ≠ 1) (hb : m + 1 = b) (hN : b + R.length = N) (hN2 : N ≤ 1000000) (hSy : Sd y) (hSA : ∀ x ∈ A, Sd x) (hA : A.Pairwise lt) (hH : ∀ x ∈ A, Hc c lt x y) :
    ∃ C, C.Perm (A ++ [y]) ∧ C.Pairwise lt ∧ Go.V.Call tab E 140 [.arr K 0, .int .i64 a, .int .i64 m, .int .i64 b, .fn f caps] (rowM M1 M2 N (P ++ (A ++ (y :: R)))) (.tup []) (rowM M1 M2 N (P ++ (C ++ R))) := by
  obtain ⟨t, ht, h1, h2⟩ := cut_at hO hA fun x hx => (hH x hx).1
  refine ⟨A.take t ++ y :: A.drop t, by
    have := List.perm_middle (a := y) (l₁ := A.take t) (l₂ := A.drop t)
    rw [List.take_append_drop] at this
    exact this.trans (List.perm_append_singleton y A).symm, ins_pw (by rwa [List.take_append_drop]) h1 h2, ?_⟩
  refine Go.V.Call.mach i140 c140 rfl rfl rfl rfl ?_
  have hg : ∀ o : AObj, (M1 ++ o :: M2)[K]? = some o := fun o => row_get hK
  have hst : ∀ o p : AObj, (M1 ++ o :: M2).set K p = M1 ++ p :: M2 := fun o p => row_set hK
  have w1 : IntKind.i64.wrap ((m : Int) - (a : Int)) = (A.length : Int) := by rw [wrap_i64 (by omega) (by omega)]; omega
  have w2 : IntKind.i64.wrap ((b : Int) - (m : Int)) = 1 := by rw [wrap_i64 (by omega) (by omega)]; omega
  have w3 : ((A.length : Int) == 1) = false := beq_eq_false_iff_ne.2 (by omega)
  have hlen : (P ++ (A ++ (y :: R))).length = N := by simp; omega
  have hym : (P ++ (A ++ (y :: R))).getD m 0 = y := by rw [← List.append_assoc]; exact at_get (by simp; omega)
  have hcaps := hC.1 (P ++ (A ++ (y :: R)))
  simp only [c140, k140_6, go_sem, w1, w2, w3]
  refine mLoop (fun M st => ∃ lo hi : Nat, lo ≤ t ∧ t ≤ hi ∧ hi ≤ A.length ∧ M = hi - lo ∧ st = ⟨[(0, .arr K 0), (2, .int .i64 m), (4, .fn f caps), (14, .int .i64 (a + lo : Nat)), (15, .int .i64 (a + hi : Nat))], rowM M1 M2 N (P ++ (A ++ (y :: R)))⟩) A.length
    ⟨_, rfl, 0, A.length, by omega, ht, by omega, by omega, by simp [getE]; omega⟩ ?_
  rintro M s0 ⟨lo, hi, hlo, hhi, hhB, rfl, rfl⟩
  by_cases hlt : lo < hi
  · have hlt' : ((a + lo : Nat) : Int) < ((a + hi : Nat) : Int) := by omega
    have e0 := wad (a := a + lo) (b := a + hi) (by omega)
    have e1 := wu64 (n := a + lo + (a + hi)) (by omega)
    have e2 : (a + lo + (a + hi)) / 2 = a + (lo + hi) / 2 := by omega
    have e3 := wi64 (n := (a + lo + (a + hi)) / 2) (by omega)
    rw [e2] at e3
    have hh : (lo + hi) / 2 < hi ∧ lo ≤ (lo + hi) / 2 := by omega
    generalize (lo + hi) / 2 = h at *
    have hhB2 : h < A.length := by omega
    have hyB : A.getD h 0 ∈ A := by simp [List.getD, hhB2]
    have hl : P ++ (A ++ (y :: R)) = (P ++ A.take h) ++ A.getD h 0 :: (A.drop (h + 1) ++ (y :: R)) := by
      conv => lhs; rw [← List.take_append_drop h A, getD_drop hhB2]
      simp
    have hyh : (P ++ (A ++ (y :: R))).getD (a + h) 0 = A.getD h 0 := by rw [hl]; exact at_get (by simp; omega)
    have hcall := hC.2 y (A.getD h 0) hSy (hSA _ hyB)
    have hcw := (hH _ hyB).2
    have hiff : lt y (A.getD h 0) ↔ t ≤ h := by
      constructor
      · intro hl2
        rcases Nat.lt_or_ge h t with h3 | h3
        · refine absurd hl2 (hO.asm (h1 _ ?_))
          rw [List.mem_take_iff_getElem]
          exact ⟨h, by omega, by simp [List.getD, hhB2]⟩
        · exact h3
      · intro h3
        refine h2 _ ?_
        rw [List.mem_drop_iff_getElem]
        exact ⟨h - t, by omega, by simp [List.getD, hhB2, show t + (h - t) = h by omega]⟩
    have s1 := sub_nums (k := .i64) (l := P ++ (A ++ (y :: R))) (i := m) (by omega)
    have s2 := sub_nums (k := .i64) (l := P ++ (A ++ (y :: R))) (i := a + h) (by omega)
    rw [hym] at s1
    rw [hyh] at s2
    have k1 : (0 : Int) ≤ (m : Int) := by omega
    have k2 : (0 : Int) ≤ ((a + h : Nat) : Int) := by omega
    have k3 : (m : Int) < (N : Int) := by omega
    have k4 : ((a + h : Nat) : Int) < (N : Int) := by omega
    have e4 : IntKind.i64.wrap (((a + h : Nat) : Int) + 1) = ((a + (h + 1) : Nat) : Int) := by rw [wrap_i64 (by omega) (by omega)]; omega
    clear hl
    generalize P ++ (A ++ (y :: R)) = l at *
    generalize A.getD h 0 = z at *
    simp only [rowM] at hcaps
    simp only [b140_2, rowM, go_sem, mapI, hlt', e0, e1, shr1, e2, e3, hg, k1, k2, k3, k4, Int.toNat_natCast, s1, s2]
    refine goFn hcaps hcall rfl ?_
    by_cases hty : t ≤ h
    · have hcl : c y z < 0 := hcw.2 (hiff.2 hty)
      simp only [b140_2, rowM, go_sem, hcl]
      exact loopQ_go rfl (h - lo) (by omega) ⟨lo, h, hlo, by omega, by omega, rfl, rfl⟩
    · have hcl : ¬ c y z < 0 := fun h3 => hty (hiff.1 (hcw.1 h3))
      simp only [b140_2, rowM, go_sem, hcl, e4]
      exact loopQ_go rfl (hi - (h + 1)) (by omega) ⟨h + 1, hi, by omega, hhi, hhB, rfl, rfl⟩
  · have hlt' : ¬ ((a + lo : Nat) : Int) < ((a + hi : Nat) : Int) := by omega
    obtain rfl : lo = t := by omega
    simp only [b140_2, k140_3, go_sem, hlt']
    refine mLoop (fun M st => ∃ s : Nat, lo ≤ s ∧ s ≤ A.length ∧ M = s ∧ st = ⟨[(0, .arr K 0), (14, .int .i64 (a + lo : Nat)), (17, .int .i64 (a + s : Nat))], rowM M1 M2 N (P ++ (A.take s ++ (y :: (A.drop s ++ R))))⟩) A.length
      ⟨_, rfl, A.length, ht, by omega, rfl, by simp [getE]; omega⟩ ?_
    rintro s s0 ⟨_, hs, hsA, rfl, rfl⟩
    by_cases hslt : lo < s
    · obtain ⟨r, rfl⟩ : ∃ r, s = r + 1 := ⟨s - 1, by omega⟩
      have hslt' : ((a + lo : Nat) : Int) < ((a + (r + 1) : Nat) : Int) := by omega
      have hsB : r < A.length := by omega
      have hl : P ++ (A.take (r + 1) ++ (y :: (A.drop (r + 1) ++ R))) = (P ++ A.take r) ++ A.getD r 0 :: ([] ++ y :: (A.drop (r + 1) ++ R)) := by rw [tk_getD hsB]; simp
      have hl2 : (P ++ A.take r) ++ y :: ([] ++ A.getD r 0 :: (A.drop (r + 1) ++ R)) = P ++ (A.take r ++ (y :: (A.drop r ++ R))) := by rw [getD_drop hsB]; simp
      obtain ⟨q1, q2, q3, q4, l1, q5, q6, q7⟩ := swp_dn (p := a + r) (q := a + (r + 1)) hl (by simp; omega) (by simp; omega)
      rw [hl2] at q7
      have hlen2 : (P ++ (A.take (r + 1) ++ (y :: (A.drop (r + 1) ++ R)))).length = N := by simp; omega
      have e6 : IntKind.i64.wrap (((a + (r + 1) : Nat) : Int) - 1) = ((a + r : Nat) : Int) := by rw [wrap_i64 (by omega) (by omega)]; omega
      clear hl hl2
      generalize P ++ (A.take (r + 1) ++ (y :: (A.drop (r + 1) ++ R))) = l at *
      generalize A.getD r 0 = z at *
      have s1 := sub_nums (k := .i64) (l := l) (i := a + r) (by omega)
      have s2 := sub_nums (k := .i64) (l := l) (i := a + (r + 1)) (by omega)
      rw [q1] at s1
      rw [q2] at s2
      have k1 : (0 : Int) ≤ ((a + r : Nat) : Int) := by omega
      have k2 : (0 : Int) ≤ ((a + (r + 1) : Nat) : Int) := by omega
      have k3 : ((a + r : Nat) : Int) < (N : Int) := by omega
      have k4 : ((a + (r + 1) : Nat) : Int) < (N : Int) := by omega
      generalize hp0 : a + r = p0 at *
      generalize hq0 : a + (r + 1) = q0 at *
      simp only [b140_3, rowM, go_sem, mapI, hslt', e6, hg, hst, k1, k2, k3, k4, Int.toNat_natCast, s1, s2, q3, q4, q6, put_nums, q5, q7]
      exact loopQ_go rfl r (by omega) ⟨r, by omega, by omega, rfl, by rw [hp0]; rfl⟩
    · have hslt' : ¬ ((a + lo : Nat) : Int) < ((a + s : Nat) : Int) := by omega
      obtain rfl : s = lo := by omega
      simp only [b140_3, k140_2, rowM, go_sem, hslt']
      simp only [i140, Out, resAll, geto, ints, List.getElem?_cons_zero, List.getElem?_cons_succ, resOf, outOf, snap, snapL, ev, getE, List.mapM_cons, List.mapM_nil, Option.bind_some, Option.pure_def, Option.bind_eq_bind, Option.map_some, reduceIte, Nat.reduceEqDiff, true_and, and_true, List.append_assoc, List.cons_append]
end
section
variable {E : CallRel} {M1 M2 : List AObj} {K N f : Nat} {caps bs : List AV} {Sd : Int → Prop} {c : Int → Int → Int} {lt : Int → Int → Prop}
def SymP (E : CallRel) (M1 M2 : List AObj) (K N f : Nat) (caps : List AV) (Sd : Int → Prop) (c : Int → Int → Int) (lt : Int → Int → Prop) (sz : Nat) : Prop :=
  ∀ (P A B R : List Int) (a m b : Nat), A.length + B.length ≤ sz → P.length = a → a + A.length = m → m + B.length = b → b + R.length = N → 0 < A.length → 0 < B.length → (∀ x ∈ A, Sd x) → (∀ y ∈ B, Sd y) → A.Pairwise lt → B.Pairwise lt → (∀ x ∈ A, ∀ y ∈ B, Hc c lt x y) →
    ∃ C, C.Perm (A ++ B) ∧ C.Pairwise lt ∧ Go.V.Call tab E 140 [.arr K 0, .int .i64 a, .int .i64 m, .int .i64 b, .fn f caps] (rowM M1 M2 N (P ++ (A ++ (B ++ R)))) (.tup []) (rowM M1 M2 N (P ++ (C ++ R)))
theorem sym_right {Q : List Int → Prop} {mem0 : List AObj} {P A2 B2 R : List Int} {mid e b sz : Nat} (ih : SymP E M1 M2 K N f caps Sd c lt sz) (hsz : A2.length + B2.length ≤ sz) (hp : P.length = mid) (he : mid + A2.length = e) (hb : e + B2.length = b) (hN : b + R.length = N) (hN2 : N ≤ 1000000)
    (h1 : ∀ x ∈ A2, Sd x) (h2 : ∀ y ∈ B2, Sd y) (h3 : A2.Pairwise lt) (h4 : B2.Pairwise lt) (h5 : ∀ x ∈ A2, ∀ y ∈ B2, Hc c lt x y)
    (hQ : ∀ C2 : List Int, C2.Perm (A2 ++ B2) → C2.Pairwise lt → ∃ C, Q C ∧ P ++ (C2 ++ R) = C) :
    Mach (Go.V.Call tab E) (fun x st => ∃ C, Q C ∧ Fin i140 mem0 (.tup []) (rowM M1 M2 N C) x st) [.code t140_0] .nrm ⟨[(0, .arr K 0), (3, .int .i64 b), (4, .fn f caps), (18, .int .i64 mid), (24, .int .i64 e)], rowM M1 M2 N (P ++ (A2 ++ (B2 ++ R)))⟩ := by
  by_cases c1 : mid < e
  · have c1' : (mid : Int) < (e : Int) := by omega
    by_cases c2 : e < b
    · have c2' : (e : Int) < (b : Int) := by omega
      obtain ⟨C2, g1, g2, g3⟩ := ih P A2 B2 R mid e b hsz hp he hb hN (by omega) (by omega) h1 h2 h3 h4 h5
      obtain ⟨C, q1, q2⟩ := hQ C2 g1 g2
      rw [q2] at g3
      simp only [t140_0, go_sem, c1', c2']
      refine goM g3 ?_
      simp only [go_sem]
      exact ⟨C, q1, by simp only [i140, Out, resAll, geto, ints, List.getElem?_cons_zero, List.getElem?_cons_succ, resOf, outOf, snap, snapL, ev, getE, List.mapM_cons, List.mapM_nil, Option.bind_some, Option.pure_def, Option.bind_eq_bind, Option.map_some, reduceIte, Nat.reduceEqDiff, true_and, and_true]⟩
    · have c2' : ¬ (e : Int) < (b : Int) := by omega
      obtain rfl : B2 = [] := List.length_eq_zero_iff.1 (by omega)
      obtain ⟨C, q1, q2⟩ := hQ A2 (by simp) h3
      rw [List.nil_append, q2]
      simp only [t140_0, go_sem, c1', c2']
      exact ⟨C, q1, by simp only [i140, Out, resAll, geto, ints, List.getElem?_cons_zero, List.getElem?_cons_succ, resOf, outOf, snap, snapL, ev, getE, List.mapM_cons, List.mapM_nil, Option.bind_some, Option.pure_def, Option.bind_eq_bind, Option.map_some, reduceIte, Nat.reduceEqDiff, true_and, and_true]⟩
  · have c1' : ¬ (mid : Int) < (e : Int) := by omega
    obtain rfl : A2 = [] := List.length_eq_zero_iff.1 (by omega)
    obtain ⟨C, q1, q2⟩ := hQ B2 (by simp) h4
    rw [List.nil_append, q2]
    simp only [t140_0, go_sem, c1']
    exact ⟨C, q1, by simp only [i140, Out, resAll, geto, ints, List.getElem?_cons_zero, List.getElem?_cons_succ, resOf, outOf, snap, snapL, ev, getE, List.mapM_cons, List.mapM_nil, Option.bind_some, Option.pure_def, Option.bind_eq_bind, Option.map_some, reduceIte, Nat.reduceEqDiff, true_and, and_true]⟩
theorem sym_both {Q : List Int → Prop} {mem0 : List AObj} {P A1 B1 A2 B2 R : List Int} {a s mid e b sz : Nat} (ih : SymP E M1 M2 K N f caps Sd c lt sz) (hsz : A1.length + B1.length ≤ sz) (hsz2 : A2.length + B2.length ≤ sz) (hp : P.length = a) (hs : a + A1.length = s) (hmid : s + B1.length = mid) (he : mid + A2.length = e) (hb : e + B2.length = b) (hN : b + R.length = N) (hN2 : N ≤ 1000000)
    (hA1 : ∀ x ∈ A1, Sd x) (hB1 : ∀ x ∈ B1, Sd x) (hA2 : ∀ x ∈ A2, Sd x) (hB2 : ∀ x ∈ B2, Sd x) (pA : (A1 ++ A2).Pairwise lt) (pB : (B1 ++ B2).Pairwise lt) (h11 : ∀ x ∈ A1, ∀ y ∈ B1, Hc c lt x y) (h22 : ∀ x ∈ A2, ∀ y ∈ B2, Hc c lt x y) (h12 : ∀ x ∈ A1, ∀ y ∈ B2, lt x y) (h21 : ∀ x ∈ B1, ∀ y ∈ A2, lt x y)
    (hQ : ∀ C : List Int, C.Perm ((A1 ++ A2) ++ (B1 ++ B2)) → C.Pairwise lt → Q (P ++ (C ++ R))) :
    Mach (Go.V.Call tab E) (fun x st => ∃ C, Q C ∧ Fin i140 mem0 (.tup []) (rowM M1 M2 N C) x st) [.code t140_1] .nrm ⟨[(0, .arr K 0), (1, .int .i64 a), (3, .int .i64 b), (4, .fn f caps), (18, .int .i64 mid), (20, .int .i64 s), (24, .int .i64 e)], rowM M1 M2 N (P ++ (A1 ++ (B1 ++ (A2 ++ (B2 ++ R)))))⟩ := by
  obtain ⟨pA1, pA2, pA3⟩ := List.pairwise_append.1 pA
  obtain ⟨pB1, pB2, pB3⟩ := List.pairwise_append.1 pB
  have rest : ∀ C1 : List Int, C1.Perm (A1 ++ B1) → C1.Pairwise lt → Mach (Go.V.Call tab E) (fun x st => ∃ C, Q C ∧ Fin i140 mem0 (.tup []) (rowM M1 M2 N C) x st) [.code t140_0] .nrm ⟨[(0, .arr K 0), (3, .int .i64 b), (4, .fn f caps), (18, .int .i64 mid), (24, .int .i64 e)], rowM M1 M2 N (P ++ (C1 ++ (A2 ++ (B2 ++ R))))⟩ := by
    intro C1 q1 q2
    have hl1 := q1.length_eq
    rw [List.length_append] at hl1
    rw [← List.append_assoc]
    refine sym_right ih hsz2 (by rw [List.length_append]; omega) he hb hN hN2 hA2 hB2 pA2 pB2 h22 fun C2 q3 q4 => ⟨_, hQ (C1 ++ C2) ?_ ?_, by simp⟩
    · refine (q1.append q3).trans ?_
      have h : (A1 ++ B1 ++ (A2 ++ B2)).Perm (A1 ++ (A2 ++ (B1 ++ B2))) := by
        rw [List.append_assoc]
        refine List.Perm.append_left _ ?_
        rw [← List.append_assoc, ← List.append_assoc]
        exact List.Perm.append_right _ List.perm_append_comm
      rwa [← List.append_assoc A1] at h
    · refine List.pairwise_append.2 ⟨q2, q4, fun x hx y hy => ?_⟩
      rcases List.mem_append.1 (q1.mem_iff.1 hx) with hx | hx <;> rcases List.mem_append.1 (q3.mem_iff.1 hy) with hy | hy
      · exact pA3 x hx y hy
      · exact h12 x hx y hy
      · exact h21 x hx y hy
      · exact pB3 x hx y hy
  by_cases c1 : a < s
  · have c1' : (a : Int) < (s : Int) := by omega
    by_cases c2 : s < mid
    · have c2' : (s : Int) < (mid : Int) := by omega
      obtain ⟨C1, g1, g2, g3⟩ := ih P A1 B1 (A2 ++ (B2 ++ R)) a s mid hsz hp hs hmid (by simp; omega) (by omega) (by omega) hA1 hB1 pA1 pB1 h11
      simp only [t140_1, go_sem, c1', c2']
      refine goM g3 ?_
      simp only [go_sem]
      exact rest C1 g1 g2
    · have c2' : ¬ (s : Int) < (mid : Int) := by omega
      obtain rfl : B1 = [] := List.length_eq_zero_iff.1 (by omega)
      rw [List.nil_append]
      simp only [t140_1, go_sem, c1', c2']
      exact rest A1 (by simp) pA1
  · have c1' : ¬ (a : Int) < (s : Int) := by omega
    obtain rfl : A1 = [] := List.length_eq_zero_iff.1 (by omega)
    rw [List.nil_append]
    simp only [t140_1, go_sem, c1']
    exact rest B1 (by simp) pB1
theorem mid_A {P A X : List Int} {q : Nat} (h : P.length ≤ q) (h2 : q < P.length + A.length) : (P ++ (A ++ X)).getD q 0 = A.getD (q - P.length) 0 := by
  simp only [List.getD]
  rw [List.getElem?_append_right h, List.getElem?_append_left (by omega)]
theorem mid_B {P A B X : List Int} {q : Nat} (h : P.length + A.length ≤ q) (h2 : q < P.length + A.length + B.length) : (P ++ (A ++ (B ++ X))).getD q 0 = B.getD (q - P.length - A.length) 0 := by
  simp only [List.getD]
  rw [List.getElem?_append_right (by omega), List.getElem?_append_right (by omega), List.getElem?_append_left (by omega)]
theorem getD_memI {A : List Int} {i : Nat} (h : i < A.length) : A.getD i 0 ∈ A := by simp [List.getD, h]
theorem le_get {A : List Int} (hO : Ord lt) (h : A.Pairwise lt) {i j : Nat} (hij : i ≤ j) (hj : j < A.length) : A.getD i 0 = A.getD j 0 ∨ lt (A.getD i 0) (A.getD j 0) := by
  rcases Nat.lt_or_ge i j with h1 | h1
  · exact .inr (pw_get h h1 hj)
  · exact .inl (by rw [show i = j by omega])
set_option maxHeartbeats 2000000 in
theorem sym_tail {P A B R : List Int} {a m b mid s0 r0 sz : Nat} (hO : Ord lt) (hC : CmpOk (Go.V.Call tab E) M1 M2 N f caps bs Sd c) (hK : M1.length = K) (ih : SymP E M1 M2 K N f caps Sd c lt sz) (hsz : A.length + B.length ≤ sz + 1)
    (ha : P.length = a) (hm : a + A.length = m) (hb : m + B.length = b) (hN : b + R.length = N) (hN2 : N ≤ 1000000) (hA2 : 2 ≤ A.length) (hB2 : 2 ≤ B.length) (hSA : ∀ x ∈ A, Sd x) (hSB : ∀ y ∈ B, Sd y) (hA : A.Pairwise lt) (hB : B.Pairwise lt) (hH : ∀ x ∈ A, ∀ y ∈ B, Hc c lt x y)
    (hmid : mid = (a + b) / 2) (h1 : s0 ≤ r0) (h2 : a ≤ s0) (h3 : mid + m ≤ s0 + b) (h4 : r0 ≤ m) (h5 : r0 ≤ mid) (h6 : s0 = a ∨ s0 + b = mid + m) (h7 : r0 = m ∨ r0 = mid) :
    Mach (Go.V.Call tab E) (fun x st => ∃ C, (∃ C', C'.Perm (A ++ B) ∧ C'.Pairwise lt ∧ C = P ++ (C' ++ R)) ∧ Fin i140 (rowM M1 M2 N (P ++ (A ++ (B ++ R)))) (.tup []) (rowM M1 M2 N C) x st)
      [.code (.loop [0, 1, 2, 3, 4, 18, 19, 20, 21, 22] none b140_4), .endb 8, .code k140_4] .nrm
      ⟨[(0, .arr K 0), (1, .int .i64 a), (2, .int .i64 m), (3, .int .i64 b), (4, .fn f caps), (18, .int .i64 mid), (19, .int .i64 (mid + m : Nat)), (20, .int .i64 s0), (21, .int .i64 r0), (22, .int .i64 (mid + m - 1 : Nat))], rowM M1 M2 N (P ++ (A ++ (B ++ R)))⟩ := by
  generalize hmem0 : rowM M1 M2 N (P ++ (A ++ (B ++ R))) = mem0
  have hmid1 : a < mid ∧ mid < b := by omega
  have hg : ∀ o : AObj, (M1 ++ o :: M2)[K]? = some o := fun o => row_get hK
  have hlen : (P ++ (A ++ (B ++ R))).length = N := by simp; omega
  have hcaps := hC.1 (P ++ (A ++ (B ++ R)))
  have gA : ∀ q : Nat, a ≤ q → q < m → (P ++ (A ++ (B ++ R))).getD q 0 = A.getD (q - a) 0 := fun q g1 g2 => by rw [mid_A (by omega) (by omega), ha]
  have gB : ∀ q : Nat, m ≤ q → q < b → (P ++ (A ++ (B ++ R))).getD q 0 = B.getD (q - m) 0 := fun q g1 g2 => by rw [mid_B (by omega) (by omega)]; congr 1; omega
  refine mLoop (fun M st => ∃ lo hi : Nat, s0 ≤ lo ∧ lo ≤ hi ∧ hi ≤ r0 ∧ M = hi - lo ∧ (lo = s0 ∨ ¬ lt ((P ++ (A ++ (B ++ R))).getD (mid + m - lo) 0) ((P ++ (A ++ (B ++ R))).getD (lo - 1) 0)) ∧ (hi = r0 ∨ lt ((P ++ (A ++ (B ++ R))).getD (mid + m - 1 - hi) 0) ((P ++ (A ++ (B ++ R))).getD hi 0)) ∧
    st = ⟨[(0, .arr K 0), (1, .int .i64 a), (2, .int .i64 m), (3, .int .i64 b), (4, .fn f caps), (18, .int .i64 mid), (19, .int .i64 (mid + m : Nat)), (20, .int .i64 lo), (21, .int .i64 hi), (22, .int .i64 (mid + m - 1 : Nat))], mem0⟩) (r0 - s0)
    ⟨_, rfl, s0, r0, Nat.le_refl _, h1, Nat.le_refl _, rfl, .inl rfl, .inl rfl, rfl⟩ ?_
  rintro M s1 ⟨lo, hi, g1, g2, g3, rfl, g4, g5, rfl⟩
  by_cases hlt : lo < hi
  · have hlt' : (lo : Int) < (hi : Int) := by omega
    have e0 := wad (a := lo) (b := hi) (by omega)
    have e1 := wu64 (n := lo + hi) (by omega)
    have e3 := wi64 (n := (lo + hi) / 2) (by omega)
    have hh : (lo + hi) / 2 < hi ∧ lo ≤ (lo + hi) / 2 := by omega
    generalize hhe : (lo + hi) / 2 = h at *
    have e4 := wsb (a := mid + m - 1) (b := h) (by omega) (by omega)
    have e5 : IntKind.i64.wrap ((h : Int) + 1) = ((h + 1 : Nat) : Int) := by rw [wrap_i64 (by omega) (by omega)]; omega
    have x1 := gA h (by omega) (by omega)
    have x2 := gB (mid + m - 1 - h) (by omega) (by omega)
    have mA := getD_memI (A := A) (i := h - a) (by omega)
    have mB := getD_memI (A := B) (i := mid + m - 1 - h - m) (by omega)
    rw [← x1] at mA
    rw [← x2] at mB
    have hcall := hC.2 _ _ (hSB _ mB) (hSA _ mA)
    have hcw := (hH _ mA _ mB).2
    have n1 : mid + m - (h + 1) = mid + m - 1 - h := by omega
    have n2 : h + 1 - 1 = h := by omega
    have s1 := sub_nums (k := .i64) (l := P ++ (A ++ (B ++ R))) (i := h) (by omega)
    have s2 := sub_nums (k := .i64) (l := P ++ (A ++ (B ++ R))) (i := mid + m - 1 - h) (by omega)
    have k1 : (0 : Int) ≤ (h : Int) := by omega
    have k2 : (0 : Int) ≤ ((mid + m - 1 - h : Nat) : Int) := by omega
    have k3 : (h : Int) < (N : Int) := by omega
    have k4 : ((mid + m - 1 - h : Nat) : Int) < (N : Int) := by omega
    clear x1 x2 mA mB gA gB
    by_cases hty : lt ((P ++ (A ++ (B ++ R))).getD (mid + m - 1 - h) 0) ((P ++ (A ++ (B ++ R))).getD h 0)
    · have hcl := hcw.2 hty
      have fin : LoopQ [0, 1, 2, 3, 4, 18, 19, 20, 21, 22] none (fun M st => ∃ lo hi : Nat, s0 ≤ lo ∧ lo ≤ hi ∧ hi ≤ r0 ∧ M = hi - lo ∧ (lo = s0 ∨ ¬ lt ((P ++ (A ++ (B ++ R))).getD (mid + m - lo) 0) ((P ++ (A ++ (B ++ R))).getD (lo - 1) 0)) ∧ (hi = r0 ∨ lt ((P ++ (A ++ (B ++ R))).getD (mid + m - 1 - hi) 0) ((P ++ (A ++ (B ++ R))).getD hi 0)) ∧
          st = ⟨[(0, .arr K 0), (1, .int .i64 a), (2, .int .i64 m), (3, .int .i64 b), (4, .fn f caps), (18, .int .i64 mid), (19, .int .i64 (mid + m : Nat)), (20, .int .i64 lo), (21, .int .i64 hi), (22, .int .i64 (mid + m - 1 : Nat))], mem0⟩) (hi - lo) (Mach (Go.V.Call tab E) (fun x st => ∃ C, (∃ C', C'.Perm (A ++ B) ∧ C'.Pairwise lt ∧ C = P ++ (C' ++ R)) ∧ Fin i140 mem0 (.tup []) (rowM M1 M2 N C) x st) [.endb 8, .code k140_4]) .nrm
          ⟨[(0, .arr K 0), (1, .int .i64 a), (2, .int .i64 m), (3, .int .i64 b), (4, .fn f caps), (18, .int .i64 mid), (19, .int .i64 (mid + m : Nat)), (20, .int .i64 lo), (21, .int .i64 h), (22, .int .i64 (mid + m - 1 : Nat))], mem0⟩ :=
        loopQ_go rfl (h - lo) (by omega) ⟨lo, h, g1, by omega, by omega, rfl, g4, .inr hty, rfl⟩
      clear g4 g5 hcw hty
      generalize (P ++ (A ++ (B ++ R))).getD h 0 = xa at *
      generalize (P ++ (A ++ (B ++ R))).getD (mid + m - 1 - h) 0 = xb at *
      subst hmem0
      simp only [rowM] at hcaps
      generalize P ++ (A ++ (B ++ R)) = l at *
      simp only [b140_4, rowM, go_sem, mapI, hlt', e0, e1, shr1, hhe, e3, e4, hg, k1, k2, k3, k4, Int.toNat_natCast, s1, s2]
      refine goFn hcaps hcall rfl ?_
      simp only [b140_4, rowM, go_sem, hcl]
      simp only [rowM] at fin
      exact fin
    · have hcl : ¬ c _ _ < 0 := fun h => hty (hcw.1 h)
      have fin : LoopQ [0, 1, 2, 3, 4, 18, 19, 20, 21, 22] none (fun M st => ∃ lo hi : Nat, s0 ≤ lo ∧ lo ≤ hi ∧ hi ≤ r0 ∧ M = hi - lo ∧ (lo = s0 ∨ ¬ lt ((P ++ (A ++ (B ++ R))).getD (mid + m - lo) 0) ((P ++ (A ++ (B ++ R))).getD (lo - 1) 0)) ∧ (hi = r0 ∨ lt ((P ++ (A ++ (B ++ R))).getD (mid + m - 1 - hi) 0) ((P ++ (A ++ (B ++ R))).getD hi 0)) ∧
          st = ⟨[(0, .arr K 0), (1, .int .i64 a), (2, .int .i64 m), (3, .int .i64 b), (4, .fn f caps), (18, .int .i64 mid), (19, .int .i64 (mid + m : Nat)), (20, .int .i64 lo), (21, .int .i64 hi), (22, .int .i64 (mid + m - 1 : Nat))], mem0⟩) (hi - lo) (Mach (Go.V.Call tab E) (fun x st => ∃ C, (∃ C', C'.Perm (A ++ B) ∧ C'.Pairwise lt ∧ C = P ++ (C' ++ R)) ∧ Fin i140 mem0 (.tup []) (rowM M1 M2 N C) x st) [.endb 8, .code k140_4]) .nrm
          ⟨[(0, .arr K 0), (1, .int .i64 a), (2, .int .i64 m), (3, .int .i64 b), (4, .fn f caps), (18, .int .i64 mid), (19, .int .i64 (mid + m : Nat)), (20, .int .i64 (h + 1 : Nat)), (21, .int .i64 hi), (22, .int .i64 (mid + m - 1 : Nat))], mem0⟩ :=
        loopQ_go rfl (hi - (h + 1)) (by omega) ⟨h + 1, hi, by omega, by omega, g3, rfl, .inr (by rw [n1, n2]; exact hty), g5, rfl⟩
      clear g4 g5 hcw hty
      generalize (P ++ (A ++ (B ++ R))).getD h 0 = xa at *
      generalize (P ++ (A ++ (B ++ R))).getD (mid + m - 1 - h) 0 = xb at *
      subst hmem0
      simp only [rowM] at hcaps
      generalize P ++ (A ++ (B ++ R)) = l at *
      simp only [b140_4, rowM, go_sem, mapI, hlt', e0, e1, shr1, hhe, e3, e4, hg, k1, k2, k3, k4, Int.toNat_natCast, s1, s2]
      refine goFn hcaps hcall rfl ?_
      simp only [b140_4, rowM, go_sem, hcl, e5]
      simp only [rowM] at fin
      exact fin
  · have hlt' : ¬ (lo : Int) < (hi : Int) := by omega
    obtain rfl : hi = lo := by omega
    have e6 := wsb (a := mid + m) (b := hi) (by omega) (by omega)
    -- the four parts
    have lA1 : (A.take (hi - a)).length = hi - a := by rw [List.length_take]; omega
    have lA2 : (A.drop (hi - a)).length = m - hi := by rw [List.length_drop]; omega
    have lB1 : (B.take (mid - hi)).length = mid - hi := by rw [List.length_take]; omega
    have lB2 : (B.drop (mid - hi)).length = b - (mid + m - hi) := by rw [List.length_drop]; omega
    have cA := List.take_append_drop (hi - a) A
    have cB := List.take_append_drop (mid - hi) B
    have c12 : ∀ x ∈ A.take (hi - a), ∀ y ∈ B.drop (mid - hi), lt x y := by
      intro x hx y hy
      obtain ⟨i, hi1, hi2, rfl⟩ := mem_take hx
      obtain ⟨k, hk1, hk2, rfl⟩ := mem_drop hy
      have hne : ¬ lt ((P ++ (A ++ (B ++ R))).getD (mid + m - hi) 0) ((P ++ (A ++ (B ++ R))).getD (hi - 1) 0) := g4.resolve_left fun h => by
        rcases h6 with h6 | h6 <;> omega
      rw [gA (hi - 1) (by omega) (by omega), gB (mid + m - hi) (by omega) (by omega)] at hne
      have hx2 := (hH _ (getD_memI (i := hi - 1 - a) (by omega)) _ (getD_memI (i := mid + m - hi - m) (by omega))).not hO hne
      have hx3 := le_get hO hA (i := i) (j := hi - 1 - a) (by omega) (by omega)
      have hx4 := le_get hO hB (i := mid + m - hi - m) (j := k) (by omega) (by omega)
      have hx5 : lt (A.getD i 0) (B.getD (mid + m - hi - m) 0) := by
        rcases hx3 with e | e
        · rw [e]; exact hx2
        · exact hO.tra e hx2
      rcases hx4 with e | e
      · rw [← e]; exact hx5
      · exact hO.tra hx5 e
    have c21 : ∀ x ∈ B.take (mid - hi), ∀ y ∈ A.drop (hi - a), lt x y := by
      intro x hx y hy
      obtain ⟨k, hk1, hk2, rfl⟩ := mem_take hx
      obtain ⟨i, hi1, hi2, rfl⟩ := mem_drop hy
      have hne : lt ((P ++ (A ++ (B ++ R))).getD (mid + m - 1 - hi) 0) ((P ++ (A ++ (B ++ R))).getD hi 0) := g5.resolve_left fun h => by
        rcases h7 with h7 | h7 <;> omega
      rw [gA hi (by omega) (by omega), gB (mid + m - 1 - hi) (by omega) (by omega)] at hne
      have hx3 := le_get hO hB (i := k) (j := mid + m - 1 - hi - m) (by omega) (by omega)
      have hx4 := le_get hO hA (i := hi - a) (j := i) (by omega) (by omega)
      have hx5 : lt (B.getD k 0) (A.getD (hi - a) 0) := by
        rcases hx3 with e | e
        · rw [e]; exact hne
        · exact hO.tra e hne
      rcases hx4 with e | e
      · rw [← e]; exact hx5
      · exact hO.tra hx5 e
    have mA1 : ∀ x ∈ A.take (hi - a), x ∈ A := fun x hx => List.mem_of_mem_take hx
    have mA2 : ∀ x ∈ A.drop (hi - a), x ∈ A := fun x hx => List.mem_of_mem_drop hx
    have mB1 : ∀ x ∈ B.take (mid - hi), x ∈ B := fun x hx => List.mem_of_mem_take hx
    have mB2 : ∀ x ∈ B.drop (mid - hi), x ∈ B := fun x hx => List.mem_of_mem_drop hx
    have pA := hA
    have pB := hB
    rw [← cA] at pA
    rw [← cB] at pB
    have hrest : Mach (Go.V.Call tab E) (fun x st => ∃ C, (∃ C', C'.Perm (A ++ B) ∧ C'.Pairwise lt ∧ C = P ++ (C' ++ R)) ∧ Fin i140 mem0 (.tup []) (rowM M1 M2 N C) x st) [.code t140_1] .nrm ⟨[(0, .arr K 0), (1, .int .i64 a), (3, .int .i64 b), (4, .fn f caps), (18, .int .i64 mid), (20, .int .i64 hi), (24, .int .i64 (mid + m - hi : Nat))], rowM M1 M2 N (P ++ (A.take (hi - a) ++ (B.take (mid - hi) ++ (A.drop (hi - a) ++ (B.drop (mid - hi) ++ R)))))⟩ :=
      sym_both (Q := fun C => ∃ C', C'.Perm (A ++ B) ∧ C'.Pairwise lt ∧ C = P ++ (C' ++ R)) (mem0 := mem0) (P := P) (A1 := A.take (hi - a)) (B1 := B.take (mid - hi)) (A2 := A.drop (hi - a)) (B2 := B.drop (mid - hi)) (R := R) (a := a) (s := hi) (mid := mid) (e := mid + m - hi) (b := b) (sz := sz) ih (by omega) (by omega) ha (by omega) (by omega) (by omega) (by omega) hN hN2 (fun x hx => hSA x (mA1 x hx)) (fun x hx => hSB x (mB1 x hx)) (fun x hx => hSA x (mA2 x hx)) (fun x hx => hSB x (mB2 x hx)) pA pB
        (fun x hx y hy => hH x (mA1 x hx) y (mB1 y hy)) (fun x hx y hy => hH x (mA2 x hx) y (mB2 y hy)) c12 c21 fun C q1 q2 => ⟨C, by rwa [cA, cB] at q1, q2, rfl⟩
    have hmem1 : mem0 = rowM M1 M2 N (P ++ (A.take (hi - a) ++ (A.drop (hi - a) ++ (B.take (mid - hi) ++ (B.drop (mid - hi) ++ R))))) := by
      rw [← hmem0, ← List.append_assoc (A.take (hi - a)), cA, ← List.append_assoc (B.take (mid - hi)), cB]
    clear gA gB g4 g5 c12 c21 mA1 mA2 mB1 mB2 pA pB
    by_cases d1 : hi < m ∧ hi < mid
    · have d1' : (hi : Int) < (m : Int) := by omega
      have d2' : (m : Int) < ((mid + m - hi : Nat) : Int) := by omega
      have h162 := c162_ok (E := E) (fn := .fn f caps) (M1 := M1) (M2 := M2) (K := K) (N := N) (P := P ++ A.take (hi - a)) (X := A.drop (hi - a)) (Y := B.take (mid - hi)) (R := B.drop (mid - hi) ++ R) (a := hi) (m := m) (b := mid + m - hi) hK (by rw [List.length_append]; omega) (by omega) (by omega) (by rw [List.length_append]; omega) hN2 (by omega) (by omega)
      rw [List.append_assoc, List.append_assoc, ← hmem1] at h162
      simp only [b140_4, k140_4, go_sem, hlt', e6, d1', d2']
      refine goM h162 ?_
      simp only [go_sem]
      exact hrest
    · have hsame : mem0 = rowM M1 M2 N (P ++ (A.take (hi - a) ++ (B.take (mid - hi) ++ (A.drop (hi - a) ++ (B.drop (mid - hi) ++ R))))) := by
        rw [hmem1]
        rcases Nat.lt_or_ge hi m with q | q
        · rw [List.length_eq_zero_iff.1 (show (B.take (mid - hi)).length = 0 by omega)]; simp
        · rw [List.length_eq_zero_iff.1 (show (A.drop (hi - a)).length = 0 by omega)]; simp
      rw [← hsame] at hrest
      by_cases d2 : hi < m
      · have d2' : (hi : Int) < (m : Int) := by omega
        have d3' : ¬ (m : Int) < ((mid + m - hi : Nat) : Int) := by omega
        simp only [b140_4, k140_4, go_sem, hlt', e6, d2', d3']
        exact hrest
      · have d2' : ¬ (hi : Int) < (m : Int) := by omega
        simp only [b140_4, k140_4, go_sem, hlt', e6, d2']
        exact hrest
set_option maxHeartbeats 1000000 in
theorem c140_ok (hO : Ord lt) (hC : CmpOk (Go.V.Call tab E) M1 M2 N f caps bs Sd c) (hK : M1.length = K) (hN2 : N ≤ 1000000) : ∀ sz : Nat, SymP E M1 M2 K N f caps Sd c lt sz
  | 0 => fun P A B R a m b h _ _ _ _ hA _ => by omega
  | sz + 1 => fun P A B R a m b hsz ha hm hb hN hA0 hB0 hSA hSB hA hB hH => by
    have ih := c140_ok hO hC hK hN2 sz
    by_cases hA1 : A.length = 1
    · obtain ⟨x, rfl⟩ := List.length_eq_one_iff.1 hA1
      exact c140_one hO hC hK ha hm hb hN hN2 (hSA x (by simp)) hSB hB fun y hy => hH x (by simp) y hy
    by_cases hB1 : B.length = 1
    · obtain ⟨y, rfl⟩ := List.length_eq_one_iff.1 hB1
      exact c140_last hO hC hK ha hm hA1 hb hN hN2 (hSB y (by simp)) hSA hA fun x hx => hH x hx y (by simp)
    suffices h : Mach (Go.V.Call tab E) (fun x st => ∃ C, (∃ C', C'.Perm (A ++ B) ∧ C'.Pairwise lt ∧ C = P ++ (C' ++ R)) ∧ Fin i140 (rowM M1 M2 N (P ++ (A ++ (B ++ R)))) (.tup []) (rowM M1 M2 N C) x st) [.code c140] .nrm ⟨argsE 0 [.arr K 0, .int .i64 a, .int .i64 m, .int .i64 b, .fn f caps], rowM M1 M2 N (P ++ (A ++ (B ++ R)))⟩ by
      obtain ⟨x, st, h1, h4⟩ := wp_exec h
      rw [mNil] at h4
      obtain ⟨_, ⟨C, h2, h3, rfl⟩, h5⟩ := h4
      exact ⟨C, h2, h3, Go.V.Call.go i140 c140 rfl rfl rfl rfl (exec_wp h1 h5)⟩
    have tail := fun {s0 r0 : Nat} => sym_tail (s0 := s0) (r0 := r0) (mid := (a + b) / 2) hO hC hK ih hsz ha hm hb hN hN2 (by omega) (by omega) hSA hSB hA hB hH rfl
    have w1 : IntKind.i64.wrap ((m : Int) - (a : Int)) = (A.length : Int) := by rw [wrap_i64 (by omega) (by omega)]; omega
    have w2 : IntKind.i64.wrap ((b : Int) - (m : Int)) = (B.length : Int) := by rw [wrap_i64 (by omega) (by omega)]; omega
    have w3 : ((A.length : Int) == 1) = false := beq_eq_false_iff_ne.2 (by omega)
    have w4 : ((B.length : Int) == 1) = false := beq_eq_false_iff_ne.2 (by omega)
    have e0 := wad (a := a) (b := b) (by omega)
    have e1 := wu64 (n := a + b) (by omega)
    have e3 := wi64 (n := (a + b) / 2) (by omega)
    have hmid : a < (a + b) / 2 ∧ (a + b) / 2 < b ∧ 2 * ((a + b) / 2) ≤ a + b ∧ a + b ≤ 2 * ((a + b) / 2) + 1 := by omega
    generalize hme : (a + b) / 2 = mid at *
    have e4 := wad (a := mid) (b := m) (by omega)
    have e5 : IntKind.i64.wrap (((mid + m : Nat) : Int) - 1) = ((mid + m - 1 : Nat) : Int) := by rw [wrap_i64 (by omega) (by omega)]; omega
    by_cases hgt : mid < m
    · have hgt' : (mid : Int) < (m : Int) := by omega
      have e6 := wsb (a := mid + m) (b := b) (by omega) (by omega)
      simp only [c140, k140_6, k140_5, go_sem, w1, w2, w3, w4, e0, e1, shr1, hme, e3, e4, e5, hgt', e6]
      exact tail (by omega) (by omega) (by omega) (by omega) (by omega) (.inr (by omega)) (.inr rfl)
    · have hgt' : ¬ (mid : Int) < (m : Int) := by omega
      simp only [c140, k140_6, k140_5, go_sem, w1, w2, w3, w4, e0, e1, shr1, hme, e3, e4, e5, hgt']
      exact tail (by omega) (by omega) (by omega) (by omega) (by omega) (.inl rfl) (.inl rfl)
end
def seg (l : List Int) (p q : Nat) : List Int := (l.drop p).take (q - p)
theorem seg_len {l : List Int} {p q : Nat} : (seg l p q).length = min (q - p) (l.length - p) := by simp [seg]
theorem seg_split {l : List Int} {p m q : Nat} (h : p ≤ m) (h2 : m ≤ q) : seg l p q = seg l p m ++ seg l m q := by
  simp only [seg]
  have e : l.drop m = (l.drop p).drop (m - p) := by rw [List.drop_drop, show p + (m - p) = m by omega]
  rw [e]
  generalize l.drop p = x
  conv => lhs; rw [← List.take_append_drop (m - p) x]
  rw [List.take_append]
  congr 1
  · rw [List.take_take, Nat.min_eq_right (by omega)]
  · rw [List.length_take]
    rcases Nat.le_total (m - p) x.length with h3 | h3
    · rw [Nat.min_eq_left h3, show q - p - (m - p) = q - m by omega]
    · rw [List.drop_eq_nil_of_le h3]; simp
theorem cut3 {l : List Int} {p q : Nat} (h : p ≤ q) : l = l.take p ++ (seg l p q ++ l.drop q) := by
  have e : l.drop q = (l.drop p).drop (q - p) := by rw [List.drop_drop, show p + (q - p) = q by omega]
  rw [seg, e, List.take_append_drop, List.take_append_drop]
theorem seg_end {l : List Int} {p q r : Nat} (h : l.length ≤ q) (h2 : l.length ≤ r) : seg l p q = seg l p r := by
  rw [seg, seg, List.take_of_length_le (by simp; omega), List.take_of_length_le (by simp; omega)]
theorem seg_left {P X : List Int} {p q : Nat} (h : q ≤ P.length) : seg (P ++ X) p q = seg P p q := by
  rw [seg, seg]
  rcases Nat.le_total p P.length with h3 | h3
  · rw [List.drop_append_of_le_length h3, List.take_append_of_le_length (by simp; omega)]
  · rw [show q - p = 0 by omega, List.take_zero, List.take_zero]
theorem seg_right {P S D R : List Int} {p q : Nat} (h : P.length + S.length ≤ p) (hD : D.length = S.length) : seg (P ++ (D ++ R)) p q = seg (P ++ (S ++ R)) p q := by
  have d1 : ∀ x : List Int, x.length ≤ p - P.length → x.drop (p - P.length) = [] := fun x h => List.drop_eq_nil_of_le h
  rw [seg, seg, List.drop_append, List.drop_append, List.drop_append, List.drop_append, d1 D (by omega), d1 S (by omega), hD]
theorem seg_mid {P D R : List Int} {p q : Nat} (h : P.length = p) (h2 : p + D.length = q) : seg (P ++ (D ++ R)) p q = D := by
  subst h; subst h2
  rw [seg, List.drop_left, Nat.add_sub_cancel_left, List.take_left]
theorem mem_seg {l : List Int} {p q : Nat} {z : Int} (h : z ∈ seg l p q) : ∃ k, p ≤ k ∧ k < q ∧ k < l.length ∧ l.getD k 0 = z := by
  obtain ⟨k, hk, hk2, rfl⟩ := mem_take h
  rw [List.length_drop] at hk2
  exact ⟨p + k, by omega, by omega, by omega, by simp [List.getD]⟩
def Gd (lt : Int → Int → Prop) (l0 l : List Int) (p q : Nat) : Prop := (seg l p q).Perm (seg l0 p q) ∧ (seg l p q).Pairwise lt
theorem Gd.put {lt : Int → Int → Prop} {l0 P S D R : List Int} {p q p' q' : Nat} (hp : P.length = p) (hq : p + S.length = q) (hD : D.length = S.length) (h : q' ≤ p ∨ q ≤ p') (hG : Gd lt l0 (P ++ (S ++ R)) p' q') : Gd lt l0 (P ++ (D ++ R)) p' q' := by
  have e : seg (P ++ (D ++ R)) p' q' = seg (P ++ (S ++ R)) p' q' := by
    rcases h with h | h
    · rw [seg_left (by omega), seg_left (by omega)]
    · exact seg_right (by omega) hD
  rw [Gd, e]
  exact hG
def Blk (W p : Nat) : Prop := ∃ t, p = t * W
theorem Blk.zero {W : Nat} : Blk W 0 := ⟨0, by simp⟩
theorem Blk.next {W p : Nat} (h : Blk W p) : Blk W (p + W) := by
  obtain ⟨t, rfl⟩ := h
  exact ⟨t + 1, by rw [Nat.succ_mul]⟩
theorem Blk.half {W p : Nat} (h : Blk (2 * W) p) : Blk W p := by
  obtain ⟨t, rfl⟩ := h
  exact ⟨2 * t, by rw [Nat.mul_comm 2 t, Nat.mul_assoc]⟩
theorem Blk.le {W p a : Nat} (hp : Blk W p) (ha : Blk W a) (h : p < a) : p + W ≤ a := by
  obtain ⟨t, rfl⟩ := hp
  obtain ⟨u, rfl⟩ := ha
  have h1 : t < u := Nat.lt_of_mul_lt_mul_right h
  have := Nat.mul_le_mul_right W (show t + 1 ≤ u from h1)
  rwa [Nat.succ_mul] at this
section
variable {E : CallRel} {M1 M2 : List AObj} {K N f : Nat} {caps bs : List AV} {Sd : Int → Prop} {c : Int → Int → Int} {lt : Int → Int → Prop}
theorem ins_step {l0 l : List Int} {a b : Nat} (hO : Ord lt) (hC : CmpOk (Go.V.Call tab E) M1 M2 N f caps bs Sd c) (hK : M1.length = K) (hN2 : N ≤ 1000000) (h0 : l0.length = N) (hl : l.length = N) (hS : ∀ x ∈ l0, Sd x) (hp : l0.Pairwise (Hc c lt)) (hab : a ≤ b) (hb : b ≤ N) (hd : l.drop a = l0.drop a) :
    ∃ l', l'.length = N ∧ Gd lt l0 l' a b ∧ l'.drop b = l0.drop b ∧ (∀ p q, q ≤ a → Gd lt l0 l p q → Gd lt l0 l' p q) ∧ Go.V.Call tab E 139 [.arr K 0, .int .i64 a, .int .i64 b, .fn f caps] (rowM M1 M2 N l) (.tup []) (rowM M1 M2 N l') := by
  have hc := cut3 (l := l) hab
  have e1 : seg l a b = seg l0 a b := by rw [seg, seg, hd]
  have e2 : l.drop b = l0.drop b := by
    have x1 : l.drop b = (l.drop a).drop (b - a) := by rw [List.drop_drop, show a + (b - a) = b by omega]
    rw [x1, hd, List.drop_drop, show a + (b - a) = b by omega]
  have sl := seg_len (l := l) (p := a) (q := b)
  have tl : (l.take a).length = a := by rw [List.length_take]; omega
  obtain ⟨D, g1, g2, g3⟩ := c139_ok (P := l.take a) (S := seg l a b) (R := l.drop b) (a := a) (b := b) hO hC hK tl (by omega) (by rw [List.length_drop]; omega) hN2 (fun x hx => by
    rw [e1] at hx
    exact hS x (List.mem_of_mem_drop (List.mem_of_mem_take hx))) (by
    rw [e1]
    exact (hp.sublist (List.drop_sublist _ _)).sublist (List.take_sublist _ _))
  rw [← hc] at g3
  have gl := g1.length_eq
  refine ⟨_, ?_, ⟨?_, ?_⟩, ?_, fun p q hq hG => ?_, g3⟩
  · rw [List.length_append, List.length_append, List.length_drop]; omega
  · rw [seg_mid tl (by omega), ← e1]; exact g1
  · rw [seg_mid tl (by omega)]; exact g2
  · rw [← List.append_assoc, List.drop_left' (by rw [List.length_append]; omega), e2]
  · rw [hc] at hG
    exact Gd.put (q := b) tl (by omega) gl (.inl hq) hG
theorem mrg_step {l0 l : List Int} {a m b : Nat} (hO : Ord lt) (hC : CmpOk (Go.V.Call tab E) M1 M2 N f caps bs Sd c) (hK : M1.length = K) (hN2 : N ≤ 1000000) (h0 : l0.length = N) (hl : l.length = N) (hS : ∀ x ∈ l0, Sd x) (hp : l0.Pairwise (Hc c lt)) (ham : a < m) (hmb : m < b) (hb : b ≤ N) (hA : Gd lt l0 l a m) (hB : Gd lt l0 l m b) :
    ∃ l', l'.length = N ∧ Gd lt l0 l' a b ∧ (∀ p q, q ≤ a ∨ b ≤ p → Gd lt l0 l p q → Gd lt l0 l' p q) ∧ Go.V.Call tab E 140 [.arr K 0, .int .i64 a, .int .i64 m, .int .i64 b, .fn f caps] (rowM M1 M2 N l) (.tup []) (rowM M1 M2 N l') := by
  have hc := cut3 (l := l) (show a ≤ b by omega)
  have hsp := seg_split (l := l) (show a ≤ m by omega) (show m ≤ b by omega)
  have hsp0 := seg_split (l := l0) (show a ≤ m by omega) (show m ≤ b by omega)
  have sl := seg_len (l := l) (p := a) (q := b)
  have sA := seg_len (l := l) (p := a) (q := m)
  have sB := seg_len (l := l) (p := m) (q := b)
  have tl : (l.take a).length = a := by rw [List.length_take]; omega
  have inS : ∀ p q x, x ∈ seg l0 p q → Sd x := fun p q x hx => hS x (List.mem_of_mem_drop (List.mem_of_mem_take hx))
  obtain ⟨C, g1, g2, g3⟩ := c140_ok hO hC hK hN2 ((seg l a m).length + (seg l m b).length) (l.take a) (seg l a m) (seg l m b) (l.drop b) a m b (Nat.le_refl _) tl (by omega) (by omega) (by rw [List.length_drop]; omega) (by omega) (by omega)
    (fun x hx => inS a m x (hA.1.mem_iff.1 hx)) (fun x hx => inS m b x (hB.1.mem_iff.1 hx)) hA.2 hB.2 (fun x hx y hy => by
      obtain ⟨i, i1, i2, i3, rfl⟩ := mem_seg (hA.1.mem_iff.1 hx)
      obtain ⟨j, j1, j2, j3, rfl⟩ := mem_seg (hB.1.mem_iff.1 hy)
      exact pw_get hp (by omega) j3)
  have hc2 : l = l.take a ++ (seg l a m ++ (seg l m b ++ l.drop b)) := by
    conv => lhs; rw [hc, hsp]
    rw [List.append_assoc]
  rw [← hc2] at g3
  have gl := g1.length_eq
  rw [List.length_append] at gl
  refine ⟨_, ?_, ⟨?_, ?_⟩, fun p q hq hG => ?_, g3⟩
  · rw [List.length_append, List.length_append, List.length_drop]; omega
  · rw [seg_mid tl (by omega), hsp0]; exact g1.trans (hA.1.append hB.1)
  · rw [seg_mid tl (by omega)]; exact g2
  · rw [hc] at hG
    exact Gd.put (q := b) tl (by omega) (by omega) hq hG
set_option maxHeartbeats 2000000 in
theorem c102_ok {l0 : List Int} (hO : Ord lt) (hC : CmpOk (Go.V.Call tab E) M1 M2 N f caps bs Sd c) (hK : M1.length = K) (hN2 : N ≤ 1000000) (h0 : l0.length = N) (hS : ∀ x ∈ l0, Sd x) (hp : l0.Pairwise (Hc c lt)) :
    ∃ l, l.Perm l0 ∧ l.Pairwise lt ∧ Go.V.Call tab E 102 [.arr K 0, .int .i64 N, .fn f caps] (rowM M1 M2 N l0) (.tup []) (rowM M1 M2 N l) := by
  suffices h : Mach (Go.V.Call tab E) (fun x st => ∃ l, (l.Perm l0 ∧ l.Pairwise lt) ∧ Fin i102 (rowM M1 M2 N l0) (.tup []) (rowM M1 M2 N l) x st) [.code c102] .nrm ⟨argsE 0 [.arr K 0, .int .i64 N, .fn f caps], rowM M1 M2 N l0⟩ by
    obtain ⟨x, st, h1, h4⟩ := wp_exec h
    rw [mNil] at h4
    obtain ⟨l, ⟨h2, h3⟩, h5⟩ := h4
    exact ⟨l, h2, h3, Go.V.Call.go i102 c102 rfl rfl rfl rfl (exec_wp h1 h5)⟩
  simp only [c102, go_sem]
  refine mLoop (fun M st => ∃ (a : Nat) (l : List Int), Blk 20 a ∧ a ≤ N ∧ M = N - a ∧ l.length = N ∧ l.drop a = l0.drop a ∧ (∀ p, Blk 20 p → p < a → Gd lt l0 l p (p + 20)) ∧
    st = ⟨[(0, .arr K 0), (1, .int .i64 N), (2, .fn f caps), (6, .int .i64 20), (7, .int .i64 a), (8, .int .i64 (a + 20 : Nat))], rowM M1 M2 N l⟩) N ⟨_, rfl, 0, l0, Blk.zero, by omega, by omega, h0, rfl, fun p _ h => by omega, rfl⟩ ?_
  rintro M s0 ⟨a, l, ha, haN, rfl, hl, hd, hG, rfl⟩
  by_cases hlt : a + 20 ≤ N
  · have hlt' : ((a + 20 : Nat) : Int) ≤ (N : Int) := by omega
    have w1 : IntKind.i64.wrap (((a + 20 : Nat) : Int) + 20) = ((a + 20 + 20 : Nat) : Int) := by rw [wrap_i64 (by omega) (by omega)]; omega
    obtain ⟨l', g1, g2, g3, g4, g5⟩ := ins_step (a := a) (b := a + 20) hO hC hK hN2 h0 hl hS hp (by omega) hlt hd
    simp only [b102_0, go_sem, hlt']
    refine goM g5 ?_
    simp only [go_sem, w1]
    refine loopQ_go rfl (N - (a + 20)) (by omega) ⟨a + 20, l', ha.next, by omega, rfl, g1, g3, fun p hpb hpa => ?_, rfl⟩
    rcases Nat.lt_or_ge p a with h | h
    · exact g4 p (p + 20) (hpb.le ha h) (hG p hpb h)
    · have : p + 20 ≤ a + 20 := hpb.le ha.next hpa
      rw [show p = a by omega]
      exact g2
  · have hlt' : ¬ ((a + 20 : Nat) : Int) ≤ (N : Int) := by omega
    obtain ⟨l', g1, g2, g3, g4, g5⟩ := ins_step (a := a) (b := N) hO hC hK hN2 h0 hl hS hp haN (Nat.le_refl _) hd
    have hAll : ∀ p, Blk 20 p → Gd lt l0 l' p (p + 20) := fun p hpb => by
      rcases Nat.lt_or_ge p a with h | h
      · exact g4 p (p + 20) (hpb.le ha h) (hG p hpb h)
      · rcases Nat.lt_or_ge p (a + 20) with h2 | h2
        · have : p + 20 ≤ a + 20 := hpb.le ha.next h2
          rw [show p = a by omega, Gd, seg_end (l := l') (r := N) (by omega) (by omega), seg_end (l := l0) (r := N) (by omega) (by omega)]
          exact g2
        · have e1 : seg l' p (p + 20) = [] := List.length_eq_zero_iff.1 (by rw [seg_len]; omega)
          have e2 : seg l0 p (p + 20) = [] := List.length_eq_zero_iff.1 (by rw [seg_len]; omega)
          rw [Gd, e1, e2]
          exact ⟨List.Perm.refl _, List.Pairwise.nil⟩
    simp only [b102_0, k102_1, go_sem, hlt']
    refine goM g5 ?_
    simp only [go_sem]
    clear hG g2 g3 g4 g5 hd hl
    refine mLoop (fun M st => ∃ (w : Nat) (l : List Int), 20 ≤ w ∧ w ≤ 4000000 ∧ M = N - w ∧ l.length = N ∧ (∀ p, Blk w p → Gd lt l0 l p (p + w)) ∧ st = ⟨[(0, .arr K 0), (1, .int .i64 N), (2, .fn f caps), (6, .int .i64 w)], rowM M1 M2 N l⟩) (N - 20) ⟨_, rfl, 20, l', by omega, by omega, rfl, g1, hAll, rfl⟩ ?_
    rintro M s1 ⟨w, l, hw, hw4, rfl, hl, hG, rfl⟩
    by_cases hwn : w < N
    · have hwn' : (w : Int) < (N : Int) := by omega
      have w1 : IntKind.i64.wrap (2 * (w : Int)) = ((2 * w : Nat) : Int) := by rw [wrap_i64 (by omega) (by omega)]; omega
      have w2 : IntKind.i64.wrap ((w : Int) * 2) = ((2 * w : Nat) : Int) := by rw [wrap_i64 (by omega) (by omega)]; omega
      simp only [b102_1, go_sem, hwn', w1]
      refine mLoop (fun M st => ∃ (a : Nat) (l : List Int), Blk (2 * w) a ∧ a ≤ N ∧ M = N - a ∧ l.length = N ∧ (∀ p, Blk (2 * w) p → p < a → Gd lt l0 l p (p + 2 * w)) ∧ (∀ p, Blk w p → a ≤ p → Gd lt l0 l p (p + w)) ∧
        st = ⟨[(0, .arr K 0), (1, .int .i64 N), (2, .fn f caps), (6, .int .i64 w), (7, .int .i64 a), (8, .int .i64 (a + 2 * w : Nat))], rowM M1 M2 N l⟩) N ⟨_, rfl, 0, l, Blk.zero, by omega, by omega, hl, fun p _ h => by omega, fun p hpb _ => hG p hpb, by simp [getE]⟩ ?_
      rintro M s2 ⟨a, l, ha, haN, rfl, hl, hG1, hG2, rfl⟩
      have v1 := wad (a := a) (b := w) (by omega)
      by_cases hlt : a + 2 * w ≤ N
      · have hlt' : ((a + 2 * w : Nat) : Int) ≤ (N : Int) := by omega
        have v2 := wad (a := a + 2 * w) (b := 2 * w) (by omega)
        have gA := hG2 a ha.half (Nat.le_refl _)
        have gB := hG2 (a + w) ha.half.next (by omega)
        rw [show a + w + w = a + 2 * w by omega] at gB
        obtain ⟨l', g1, g2, g3, g4⟩ := mrg_step (a := a) (m := a + w) (b := a + 2 * w) hO hC hK hN2 h0 hl hS hp (by omega) (by omega) hlt gA gB
        simp only [b102_2, go_sem, hlt', v1]
        refine goM g4 ?_
        simp only [go_sem, w1, v2]
        refine loopQ_go rfl (N - (a + 2 * w)) (by omega) ⟨a + 2 * w, l', ha.next, hlt, rfl, g1, fun p hpb hpa => ?_, fun p hpb hpa => g3 p (p + w) (.inr hpa) (hG2 p hpb (by omega)), rfl⟩
        rcases Nat.lt_or_ge p a with h | h
        · exact g3 p (p + 2 * w) (.inl (hpb.le ha h)) (hG1 p hpb h)
        · have : p + 2 * w ≤ a + 2 * w := hpb.le ha.next hpa
          rw [show p = a by omega]
          exact g2
      · have hlt' : ¬ ((a + 2 * w : Nat) : Int) ≤ (N : Int) := by omega
        have gA := hG2 a ha.half (Nat.le_refl _)
        have gB := hG2 (a + w) ha.half.next (by omega)
        have fin : ∀ l', l'.length = N → Gd lt l0 l' a N → (∀ p, Blk (2 * w) p → p < a → Gd lt l0 l' p (p + 2 * w)) → ∀ p, Blk (2 * w) p → Gd lt l0 l' p (p + 2 * w) := fun l' q1 q2 q3 p hpb => by
          rcases Nat.lt_or_ge p a with h | h
          · exact q3 p hpb h
          · rcases Nat.lt_or_ge p (a + 2 * w) with h2 | h2
            · have : p + 2 * w ≤ a + 2 * w := hpb.le ha.next h2
              rw [show p = a by omega, Gd, seg_end (l := l') (r := N) (by omega) (by omega), seg_end (l := l0) (r := N) (by omega) (by omega)]
              exact q2
            · have e1 : seg l' p (p + 2 * w) = [] := List.length_eq_zero_iff.1 (by rw [seg_len]; omega)
              have e2 : seg l0 p (p + 2 * w) = [] := List.length_eq_zero_iff.1 (by rw [seg_len]; omega)
              rw [Gd, e1, e2]
              exact ⟨List.Perm.refl _, List.Pairwise.nil⟩
        by_cases hm : a + w < N
        · have hm' : ((a + w : Nat) : Int) < (N : Int) := by omega
          rw [Gd, seg_end (l := l) (r := N) (by omega) (by omega), seg_end (l := l0) (r := N) (by omega) (by omega)] at gB
          obtain ⟨l', g1, g2, g3, g4⟩ := mrg_step (a := a) (m := a + w) (b := N) hO hC hK hN2 h0 hl hS hp (by omega) hm (Nat.le_refl _) gA gB
          simp only [b102_2, k102_0, go_sem, hlt', v1, hm']
          refine goM g4 ?_
          simp only [go_sem, w2]
          exact loopQ_go rfl (N - 2 * w) (by omega) ⟨2 * w, l', by omega, by omega, rfl, g1, fin l' g1 g2 fun p hpb h => g3 p (p + 2 * w) (.inl (hpb.le ha h)) (hG1 p hpb h), rfl⟩
        · have hm' : ¬ ((a + w : Nat) : Int) < (N : Int) := by omega
          rw [Gd, seg_end (l := l) (r := N) (by omega) (by omega), seg_end (l := l0) (r := N) (by omega) (by omega)] at gA
          simp only [b102_2, k102_0, go_sem, hlt', v1, hm', w2]
          exact loopQ_go rfl (N - 2 * w) (by omega) ⟨2 * w, l, by omega, by omega, rfl, hl, fin l hl gA hG1, rfl⟩
    · have hwn' : ¬ (w : Int) < (N : Int) := by omega
      have g := hG 0 Blk.zero
      have e : ∀ x : List Int, x.length = N → seg x 0 (0 + w) = x := fun x hx => by rw [seg, List.drop_zero, List.take_of_length_le (by omega)]
      rw [Gd, e l hl, e l0 h0] at g
      simp only [b102_1, go_sem, hwn']
      exact ⟨l, g, by simp only [i102, Out, resAll, geto, ints, List.getElem?_cons_zero, List.getElem?_cons_succ, resOf, outOf, snap, snapL, ev, getE, List.mapM_cons, List.mapM_nil, Option.bind_some, Option.pure_def, Option.bind_eq_bind, Option.map_some, reduceIte, Nat.reduceEqDiff, true_and, and_true]⟩
theorem c58_ok {l0 : List Int} (hO : Ord lt) (hC : CmpOk (Go.V.Call tab E) M1 M2 N f caps bs Sd c) (hK : M1.length = K) (hN2 : N ≤ 1000000) (h0 : l0.length = N) (hS : ∀ x ∈ l0, Sd x) (hp : l0.Pairwise (Hc c lt)) :
    ∃ l, l.Perm l0 ∧ l.Pairwise lt ∧ Go.V.Call tab E 58 [.arr K 0, .fn f caps] (rowM M1 M2 N l0) (.tup []) (rowM M1 M2 N l) := by
  obtain ⟨l, g1, g2, g3⟩ := c102_ok hO hC hK hN2 h0 hS hp
  refine ⟨l, g1, g2, Go.V.Call.mach i58 c58 rfl rfl rfl rfl ?_⟩
  have hg : ∀ o : AObj, (M1 ++ o :: M2)[K]? = some o := fun o => row_get hK
  simp only [rowM] at g3
  simp only [c58, rowM, go_sem, hg]
  refine goM g3 ?_
  simp only [go_sem]
  simp only [i58, Out, resAll, geto, ints, List.getElem?_cons_zero, List.getElem?_cons_succ, resOf, outOf, snap, snapL, ev, getE, List.mapM_cons, List.mapM_nil, Option.bind_some, Option.pure_def, Option.bind_eq_bind, Option.map_some, reduceIte, Nat.reduceEqDiff, true_and, and_true]
end
structure Cf {α : Type} (v : α → α → Int) : Prop where
  anti : ∀ {x y : α}, v x y < 0 ↔ 0 < v y x
  neg : ∀ {x y : α} (z : α), v x y < 0 → v x z < 0 ∨ v z y < 0
theorem Cf.irr {α : Type} {v : α → α → Int} (h : Cf v) {x : α} : ¬ v x x < 0 := fun hx => by
  have := h.anti.1 hx
  omega
theorem Cf.tra {α : Type} {v : α → α → Int} (h : Cf v) {x y z : α} (h1 : v x y < 0) (h2 : v y z < 0) : v x z < 0 := by
  rcases h.neg z h1 with h3 | h3
  · exact h3
  · have := h.anti.1 h2
    omega
def cmpI (x y : Int) : Int := if x < y then -1 else if y < x then 1 else 0
theorem cmpI_cf : Cf cmpI := by
  constructor
  · intro x y; unfold cmpI; split <;> split <;> (try split) <;> (try split) <;> omega
  · intro x y z; unfold cmpI; split <;> split <;> split <;> (try split) <;> (try split) <;> (try split) <;> omega
def sg (x : Rt) : Int := if x.1 then -(x.2.1 : Int) else x.2.1
def dnI (x : Rt) : Int := (dn x.2.2 : Nat)
theorem dnI_pos {x : Rt} : 0 < dnI x := by
  unfold dnI dn
  split <;> omega
theorem wcmp_sg {b d : Bool} {p q : Nat} : (wcmp ((b != false) && decide (p ≠ 0)) p ((d != false) && decide (q ≠ 0)) q < 0 ↔ (if b then -(p : Int) else p) < (if d then -(q : Int) else q)) ∧
    (0 < wcmp ((b != false) && decide (p ≠ 0)) p ((d != false) && decide (q ≠ 0)) q ↔ (if d then -(q : Int) else q) < (if b then -(p : Int) else p)) := by
  by_cases hp : p = 0 <;> by_cases hq : q = 0 <;> cases b <;> cases d <;> simp [wcmp, cmpZ, hp, hq] <;> (try split) <;> (try split) <;> (try omega)
theorem rcmp_sg {x y : Rt} : (rcmp x y < 0 ↔ sg x * dnI y < sg y * dnI x) ∧ (0 < rcmp x y ↔ sg y * dnI x < sg x * dnI y) := by
  have h := wcmp_sg (b := x.1) (d := y.1) (p := x.2.1 * dn y.2.2) (q := y.2.1 * dn x.2.2)
  have e : ∀ (b : Bool) (p d : Nat), (if b then -((p * d : Nat) : Int) else ((p * d : Nat) : Int)) = (if b then -(p : Int) else p) * (d : Int) := fun b p d => by
    cases b
    · simp
    · simp [Int.neg_mul]
  rw [e, e] at h
  exact h
theorem rcmp_cf : Cf rcmp := by
  constructor
  · intro x y
    rw [rcmp_sg.1, rcmp_sg.2]
  · intro x y z
    rw [rcmp_sg.1, rcmp_sg.1, rcmp_sg.1]
    intro h
    by_cases h1 : sg x * dnI z < sg z * dnI x
    · exact .inl h1
    · refine .inr ?_
      have hx := dnI_pos (x := x)
      have hy := dnI_pos (x := y)
      have hz := dnI_pos (x := z)
      have a1 := Int.mul_le_mul_of_nonneg_right (show sg z * dnI x ≤ sg x * dnI z by omega) (Int.le_of_lt hy)
      have a2 := Int.mul_lt_mul_of_pos_right h hz
      refine Int.lt_of_mul_lt_mul_right (a := dnI x) ?_ (Int.le_of_lt hx)
      have e1 : sg z * dnI y * dnI x = sg z * dnI x * dnI y := by rw [Int.mul_assoc, Int.mul_comm (dnI y), ← Int.mul_assoc]
      have e2 : sg x * dnI z * dnI y = sg x * dnI y * dnI z := by rw [Int.mul_assoc, Int.mul_comm (dnI z), ← Int.mul_assoc]
      have e3 : sg y * dnI z * dnI x = sg y * dnI x * dnI z := by rw [Int.mul_assoc, Int.mul_comm (dnI z), ← Int.mul_assoc]
      rw [e1, e3]
      omega
def ordV (ch : Bool) (t : List Int) (L : List Rt) (i : Int) (t' : List Int) (L' : List Rt) (k : Int) : Int := if ch then cmpI (runeAt t i) (runeAt t' k) else rcmp (pickR L i) (pickR L' k)
theorem ordV_cf {ch : Bool} {t : List Int} {L : List Rt} : Cf fun i k : Int => ordV ch t L i t L k := by
  cases ch with
  | true => exact ⟨cmpI_cf.anti, fun z => cmpI_cf.neg _⟩
  | false => exact ⟨rcmp_cf.anti, fun z => rcmp_cf.neg _⟩
def stb (v : Int → Int → Int) (i k : Int) : Prop := v i k < 0 ∨ (v i k = 0 ∧ i < k)
theorem Cf.zero {α : Type} {v : α → α → Int} (h : Cf v) {x y : α} : v x y = 0 ↔ ¬ v x y < 0 ∧ ¬ v y x < 0 := by
  have h1 := h.anti (x := x) (y := y)
  have h2 := h.anti (x := y) (y := x)
  omega
theorem stb_ord {v : Int → Int → Int} (h : Cf v) : Ord (stb v) := by
  constructor
  · intro x y z h1 h2
    unfold stb at *
    rw [h.zero] at *
    rcases h1 with h1 | ⟨⟨a1, a2⟩, a3⟩ <;> rcases h2 with h2 | ⟨⟨b1, b2⟩, b3⟩
    · exact .inl (h.tra h1 h2)
    · rcases h.neg z h1 with h3 | h3
      · exact .inl h3
      · exact absurd h3 b2
    · rcases h.neg x h2 with h3 | h3
      · exact absurd h3 a2
      · exact .inl h3
    · refine .inr ⟨⟨fun h3 => ?_, fun h3 => ?_⟩, by omega⟩
      · rcases h.neg y h3 with h4 | h4
        · exact a1 h4
        · exact b1 h4
      · rcases h.neg y h3 with h4 | h4
        · exact b2 h4
        · exact a2 h4
  · intro x y hxy
    unfold stb
    have h1 := h.anti (x := x) (y := y)
    have h2 := h.anti (x := y) (y := x)
    omega
  · intro x hx
    unfold stb at hx
    have := h.irr (x := x)
    omega
section
variable {E : CallRel}
theorem c141_ok {x : Int} : Go.V.Call tab E 141 [.int .i32 x] [] (.bool false) [] := by
  refine Go.V.Call.mach i141 c141 rfl rfl rfl rfl ?_
  simp only [c141, go_sem, bne_self_eq_false]
  simp only [i141, Out, resAll, geto, ints, List.getElem?_cons_zero, List.getElem?_cons_succ, resOf, outOf, snap, snapL, ev, getE, List.mapM_cons, List.mapM_nil, Option.bind_some, Option.pure_def, Option.bind_eq_bind, Option.map_some, reduceIte, Nat.reduceEqDiff, true_and, and_true]
theorem c103_ok {x y : Int} : Go.V.Call tab E 103 [.int .i32 x, .int .i32 y] [] (.int .i64 (cmpI x y)) [] := by
  refine Go.V.Call.mach i103 c103 rfl rfl rfl rfl ?_
  simp only [c103, go_sem, snap]
  refine goP c141_ok ?_
  simp only [go_sem, snap]
  refine goP c141_ok ?_
  by_cases h1 : x < y
  · simp only [go_sem, h1]
    simp only [i103, Out, resAll, geto, ints, List.getElem?_cons_zero, List.getElem?_cons_succ, resOf, outOf, snap, snapL, ev, getE, List.mapM_cons, List.mapM_nil, Option.bind_some, Option.pure_def, Option.bind_eq_bind, Option.map_some, reduceIte, Nat.reduceEqDiff, true_and, and_true, cmpI, h1, if_true]
  · by_cases h2 : y < x
    · simp only [go_sem, h1, h2]
      simp only [i103, Out, resAll, geto, ints, List.getElem?_cons_zero, List.getElem?_cons_succ, resOf, outOf, snap, snapL, ev, getE, List.mapM_cons, List.mapM_nil, Option.bind_some, Option.pure_def, Option.bind_eq_bind, Option.map_some, reduceIte, Nat.reduceEqDiff, true_and, and_true, cmpI, h1, h2, if_true, if_false]
    · simp only [go_sem, h1, h2]
      simp only [i103, Out, resAll, geto, ints, List.getElem?_cons_zero, List.getElem?_cons_succ, resOf, outOf, snap, snapL, ev, getE, List.mapM_cons, List.mapM_nil, Option.bind_some, Option.pure_def, Option.bind_eq_bind, Option.map_some, reduceIte, Nat.reduceEqDiff, true_and, and_true, cmpI, h1, h2, if_false]
end
theorem pick_RtOk {L : List Rt} (h : ∀ x ∈ L, RtOk x) {k : Int} : RtOk (pickR L k) := by
  rw [pickR]
  split
  · exact h _ (rtAt_mem (by omega))
  · exact ⟨(zR_ok (z := 0) ⟨by omega, by omega⟩).1, (zR_ok (z := 0) ⟨by omega, by omega⟩).2⟩
section
variable {s t s' t' : List Int} {ch ch' : Bool} {L L' : List Rt} {i k : Int}
theorem c61_ok (ht : (t.length : Int) ≤ 1000000000) (ht' : (t'.length : Int) ≤ 1000000000) (hL : (L.length : Int) ≤ 1000000000) (hL' : (L'.length : Int) ≤ 1000000000) (hk : ∀ x ∈ L, RtOk x) (hk' : ∀ x ∈ L', RtOk x) :
    Go.V.Call tab E 61 [.agg (arrX s ch t L), .int .i64 i, .agg (arrX s' ch' t' L'), .int .i64 k] [] (.int .i64 (ordV ch t L i t' L' k)) [] := by
  refine Go.V.Call.mach i61 c61 rfl rfl rfl rfl ?_
  have h39 := c39_ok (s := s) (t := t) (l := L) (ch := ch)
  cases ch with
  | true =>
    have h1 := c104_ok (s := s) (t := t) (l := L) (ch := true) (k := i) (by omega)
    have h2 := c104_ok (s := s') (t := t') (l := L') (ch := ch') (k := k) (by omega)
    simp only [arrX, runes, ints] at h39 h1 h2
    simp only [c61, arrX, runes, ints, go_sem, fillAll, fillIn, shiftR, shiftV, List.take_succ_cons, List.take_zero, List.drop_succ_cons, List.drop_zero, List.append_nil, Nat.zero_add, subA5]
    refine goP h39 ?_
    simp only [go_sem, fillAll, fillIn, shiftR, shiftV, List.take_succ_cons, List.take_zero, List.drop_succ_cons, List.drop_zero, List.append_nil, Nat.zero_add, subA5]
    refine goP h1 ?_
    simp only [go_sem, fillAll, fillIn, shiftR, shiftV, List.take_succ_cons, List.take_zero, List.drop_succ_cons, List.drop_zero, List.append_nil, Nat.zero_add, subA5]
    refine goP h2 ?_
    simp only [go_sem, fillAll, fillIn, shiftR, shiftV, List.take_succ_cons, List.take_zero, List.drop_succ_cons, List.drop_zero, List.append_nil, Nat.zero_add, subA5]
    refine goP c103_ok ?_
    simp only [go_sem]
    simp only [i61, Out, resAll, geto, ints, List.getElem?_cons_zero, List.getElem?_cons_succ, resOf, outOf, snap, snapL, ev, getE, List.mapM_cons, List.mapM_nil, Option.bind_some, Option.pure_def, Option.bind_eq_bind, Option.map_some, reduceIte, Nat.reduceEqDiff, true_and, and_true, ordV, if_true]
  | false =>
    have h1 := c24_ok (s := s) (t := t) (l := L) (ch := false) (k := i) (by omega)
    have h2 := c24_ok (s := s') (t := t') (l := L') (ch := ch') (k := k) (by omega)
    have h3 := c25_ok (E := E) (pick_RtOk hk (k := i)) (pick_RtOk hk' (k := k))
    have e : ordV false t L i t' L' k = rcmp (pickR L i) (pickR L' k) := rfl
    rw [e]
    generalize pickR L i = a at *
    generalize pickR L' k = b at *
    simp only [arrX, runes, ints, rtC, ratG, us32] at h39 h1 h2 h3
    simp only [c61, arrX, runes, ints, go_sem, fillAll, fillIn, shiftR, shiftV, List.take_succ_cons, List.take_zero, List.drop_succ_cons, List.drop_zero, List.append_nil, Nat.zero_add, subA5]
    refine goP h39 ?_
    simp only [go_sem, fillAll, fillIn, shiftR, shiftV, List.take_succ_cons, List.take_zero, List.drop_succ_cons, List.drop_zero, List.append_nil, Nat.zero_add, subA5]
    refine goP h1 ?_
    simp only [go_sem, fillAll, fillIn, shiftR, shiftV, List.take_succ_cons, List.take_zero, List.drop_succ_cons, List.drop_zero, List.append_nil, Nat.zero_add, subA5]
    refine goP h2 ?_
    simp only [go_sem, fillAll, fillIn, shiftR, shiftV, List.take_succ_cons, List.take_zero, List.drop_succ_cons, List.drop_zero, List.append_nil, Nat.zero_add, subA5]
    refine goP h3 ?_
    simp only [go_sem]
    simp only [i61, Out, resAll, geto, ints, List.getElem?_cons_zero, List.getElem?_cons_succ, resOf, outOf, snap, snapL, ev, getE, List.mapM_cons, List.mapM_nil, Option.bind_some, Option.pure_def, Option.bind_eq_bind, Option.map_some, reduceIte, Nat.reduceEqDiff, true_and, and_true]
theorem c101_ok (ht : (t.length : Int) ≤ 1000000000) (hL : (L.length : Int) ≤ 1000000000) (hk : ∀ x ∈ L, RtOk x) :
    Go.V.Call tab E 101 [.int .i64 i, .int .i64 k, .ptr (arrX s ch t L) 0] [] (.int .i64 (ordV ch t L i t L k)) [] := by
  refine Go.V.Call.mach i101 c101 rfl rfl rfl rfl ?_
  have h := c61_ok (s := s) (s' := s) (t := t) (t' := t) (ch := ch) (ch' := ch) (L := L) (L' := L) (i := i) (k := k) ht ht hL hL hk hk
  simp only [arrX, runes, ints] at h
  simp only [c101, arrX, runes, ints, go_sem, fillAll, fillIn, shiftR, shiftV, List.take_succ_cons, List.take_zero, List.drop_succ_cons, List.drop_zero, List.append_nil, Nat.zero_add, subA5]
  refine goP h ?_
  simp only [go_sem]
  simp only [i101, Out, resAll, geto, ints, List.getElem?_cons_zero, List.getElem?_cons_succ, resOf, outOf, snap, snapL, ev, getE, List.mapM_cons, List.mapM_nil, Option.bind_some, Option.pure_def, Option.bind_eq_bind, Option.map_some, reduceIte, Nat.reduceEqDiff, true_and, and_true, ownOut, ownL, ownV, scalar, Nat.zero_add]
def rng (n : Nat) : List Int := (List.range n).map fun i : Nat => (i : Int)
theorem rng_len {n : Nat} : (rng n).length = n := by simp [rng]
theorem rng_mem {n : Nat} {x : Int} : x ∈ rng n ↔ 0 ≤ x ∧ x < n := by
  rw [rng, List.mem_map]
  constructor
  · rintro ⟨i, hi, rfl⟩
    have := List.mem_range.1 hi
    omega
  · intro h
    exact ⟨x.toNat, List.mem_range.2 (by omega), by omega⟩
theorem rng_pw {n : Nat} : (rng n).Pairwise (· < ·) := by
  rw [rng, List.pairwise_map]
  exact List.pairwise_lt_range.imp fun h => by omega
theorem Hc_stb {v : Int → Int → Int} {x y : Int} (h : x < y) : Hc v (stb v) x y := by
  refine ⟨by omega, ?_⟩
  unfold stb
  omega
theorem c57_ok (hsl : (s.length : Int) ≤ 1000000000) (hn : t.length + L.length ≤ 1000000) (hk : ∀ x ∈ L, RtOk x) :
    ∃ l, l.Perm (rng (t.length + L.length)) ∧ l.Pairwise (stb fun i k => ordV ch t L i t L k) ∧ Go.V.Call tab E 57 [.agg (arrX s ch t L)] [] (.arr 0 0) [rowI l] := by
  obtain ⟨l, g1, g2, g3⟩ := c58_ok (E := E) (M1 := [⟨true, 31, 5, 0, 1, arrX s ch t L, false⟩, ⟨false, 3, 1, 0, 0, [], false⟩]) (M2 := []) (K := 2) (N := t.length + L.length) (f := 101) (caps := [.loc 0 0 0]) (bs := [.ptr (arrX s ch t L) 0]) (Sd := fun _ => True) (c := fun i k => ordV ch t L i t L k) (lt := stb fun i k => ordV ch t L i t L k) (l0 := rng (t.length + L.length))
    (stb_ord ordV_cf) ⟨fun _ => rfl, fun x y _ _ => c101_ok (by omega) (by omega) hk⟩ rfl hn rng_len (fun _ _ => trivial) (rng_pw.imp fun h => Hc_stb h)
  have hll : l.length = t.length + L.length := by rw [g1.length_eq, rng_len]
  refine ⟨l, g1, g2, Go.V.Call.mach i57 c57 rfl rfl rfl rfl ?_⟩
  have h23 := c23_X (s := s) (t := t) (l := L) (ch := ch) (by omega) (by omega)
  generalize hN : t.length + L.length = N at *
  have z0 : (0 : Int) ≤ (N : Int) := by omega
  have z1 : 8 * N ≤ 140737488355328 := by omega
  have z2 : (N : Int) ≤ 140737488355328 := by omega
  simp only [arrX, runes, ints] at h23
  simp only [c57, arrX, runes, ints, go_sem, fillAll, fillIn, shiftR, shiftV, List.take_succ_cons, List.take_zero, List.drop_succ_cons, List.drop_zero, List.append_nil, Nat.zero_add, subA5]
  refine goP h23 ?_
  simp only [go_sem, fillAll, fillIn, shiftR, shiftV, List.take_succ_cons, List.take_zero, List.drop_succ_cons, List.drop_zero, List.append_nil, Nat.zero_add, subA5, Int.toNat_natCast, z0, z1, z2, flat_nums]
  refine mLoop (fun M st => ∃ i : Nat, i ≤ N ∧ M = N - i ∧ st = ⟨[(1, .loc 0 0 0), (3, .arr 2 0), (9, .int .i64 N), (10, .int .i64 i)],
    [⟨true, 31, 5, 0, 1, arrX s ch t L, false⟩, ⟨false, 3, 1, 0, 0, [], false⟩, ⟨false, 3, 1, 0, N, nums .i64 ((rng N).take i ++ List.replicate (N - i) 0), false⟩]⟩) N ⟨_, rfl, 0, by omega, by omega, by simp [getE, arrX, ints, runes, nums]⟩ ?_
  rintro M s0 ⟨i, hi, rfl, rfl⟩
  by_cases hlt : i < N
  · have hlt' : (i : Int) < (N : Int) := by omega
    have hi0 : (0 : Int) ≤ (i : Int) := by omega
    have hi1 : IntKind.i64.wrap ((i : Int) + 1) = ((i + 1 : Nat) : Int) := by rw [wrap_i64 (by omega) (by omega)]; omega
    have hrow : ((rng N).take i ++ List.replicate (N - i) 0).take i ++ (i : Int) :: ((rng N).take i ++ List.replicate (N - i) 0).drop (i + 1) = (rng N).take (i + 1) ++ List.replicate (N - (i + 1)) 0 := by
      have e : ((rng N).take i).length = i := by rw [List.length_take, rng_len]; omega
      rw [List.take_left' e, tk_getD (l := rng N) (by rw [rng_len]; omega), List.drop_append, List.drop_eq_nil_of_le (by omega), e]
      simp [rng, List.getD, hlt]
      omega
    have hst : i * 1 + 1 ≤ ((rng N).take i ++ List.replicate (N - i) 0).length := by
      rw [List.length_append, List.length_take, rng_len, List.length_replicate]; omega
    generalize (rng N).take i ++ List.replicate (N - i) 0 = y at *
    simp only [b57_0, go_sem, mapI, hlt', hi0, Int.toNat_natCast, hst, put_nums, hrow, hi1]
    exact loopQ_go rfl (N - (i + 1)) (by omega) ⟨i + 1, by omega, rfl, rfl⟩
  · have hlt' : ¬ (i : Int) < (N : Int) := by omega
    obtain rfl : i = N := by omega
    rw [List.take_of_length_le (by rw [rng_len]; omega), Nat.sub_self, List.replicate_zero, List.append_nil]
    simp only [rowM, arrX, runes, ints, List.cons_append, List.nil_append] at g3
    simp only [b57_0, k57_0, arrX, runes, ints, go_sem, fillAll, fillIn, shiftR, shiftV, List.take_succ_cons, List.take_zero, List.drop_succ_cons, List.drop_zero, List.append_nil, Nat.zero_add, hlt']
    refine goM g3 ?_
    simp only [go_sem]
    simp only [i57, Out, resAll, geto, ints, List.getElem?_cons_zero, List.getElem?_cons_succ, resOf, outOf, snap, snapL, ev, getE, List.mapM_cons, List.mapM_nil, Option.bind_some, Option.pure_def, Option.bind_eq_bind, Option.map_some, reduceIte, Nat.reduceEqDiff, true_and, and_true, ownOut, ownL, ownV, scalar, List.contains_nil, List.length_nil, List.length_cons, List.nil_append, List.cons_append, storeOp, apartOf, freeze_nil, refsL, refs, List.flatMap_cons, List.flatMap_nil, List.append_nil, List.contains_nil, List.set_cons_zero, List.set_cons_succ, snap, snapL, fill_nums, flat_nums, nums_length, reduceCtorEq, Bool.false_eq_true, and_self, not_false_eq_true, beq_self_eq_true, Nat.zero_add, rowI, hll]
end
end Go.Proofs.YtlejgleocnemoabGreat.I

namespace Go.Proofs.YtlejgleocnemoabGreat.I
open Go Go.V
attribute [local go_sem] mNil nat0 beq_self_eq_true mSkip mRet mExit mReg mSeq mCond mTrue mFalse mBlock mLv mCodeE mCodeR mEndN mEndR mEndE mOps mSome mGuard mGtt mGff mGtf mGft mGu mCallP mCallR mCallF mCallO mCallZ mCallG mCallM mCallV loopQ_exit loopQ_ret mO_mov mO_newnil mO_pick mO_alloc mO_box mO_build mO_bsl mO_bslF mO_ldf mO_ld mO_st mO_sta mO_nilchk mO_bin mO_binb mO_binp mO_bins mO_neg mO_com mO_not mO_conv mO_mk mO_mk0 mO_s2b mO_b2s mO_cpy mO_cut mO_faddr mO_fld mO_iaddr mO_iaddrf mO_sidx mO_len mO_lenf mO_slen mO_scut mO_app mO_ext mO_mx mO_mn mO_mkfn evalOp cutOp argsE ev getE putE cellsOf adopt rowOf binV boolV nilV ar_add ar_sub ar_mul ar_quo ar_rem ar_eq ar_ne ar_lt ar_le ar_gt ar_ge ar_and ar_or ar_xor geto bound finRet finNrm ints List.length_cons List.length_nil List.length_append List.getElem?_cons_zero List.getElem?_cons_succ List.nil_append List.cons_append List.map_cons List.map_nil List.mapM_cons List.mapM_nil Option.map_some Option.map_none Option.bind_some Option.pure_def Option.bind_eq_bind List.drop_zero or_self or_false false_or or_true true_or true_and and_true and_self decide_true decide_false Bool.false_eq_true Bool.true_eq_false Bool.not_true Bool.not_false Nat.le_refl eq_self gt_iff_lt ge_iff_le ne_eq not_true_eq_false not_false_eq_true storeOp apartOf freeze_nil refsL refs List.flatMap_cons List.flatMap_nil List.append_nil List.contains_nil List.set_cons_zero List.set_cons_succ snap snapL fill_nums flat_nums nums_length Go.V.freeze List.mapIdx_cons List.mapIdx_nil List.contains_cons Bool.or_false Bool.false_or Bool.or_true Bool.true_or
def orI : List Int → Int
  | [] => 0
  | a :: l => if a ≠ 0 then a else orI l
section
variable {E : CallRel}
end
def dwnV (v : Int → Int → Int) (i k : Int) : Int := orI [v k i, cmpI i k]
section
variable {s t : List Int} {ch : Bool} {L : List Rt} {i k o : Int}
def grdM (s t : List Int) (ch : Bool) (L : List Rt) : List AObj :=
  [⟨true, 31, 5, 0, 1, arrX s ch t L, false⟩, ⟨false, 3, 1, 0, 0, [], false⟩, ⟨false, 21, 1, 0, 0, [], false⟩, ⟨false, 57, 3, 0, 0, [], false⟩, ⟨true, 31, 5, 0, 1, [.arr 1 0, .bool false, .arr 2 0, .arr 3 0, .bool false], false⟩]
def plus (l : List Int) (o : Int) : List Int := l.map fun z => z + o
theorem plus_len {l : List Int} {o : Int} : (plus l o).length = l.length := by simp [plus]
def grdO (down : Bool) (ch : Bool) (t : List Int) (L : List Rt) : Int → Int → Prop := stb fun i k => if down then ordV ch t L k t L i else ordV ch t L i t L k
end
theorem c17_awake : Go.V.Call tab E 17 [] [] (.bool true) [] := Go.V.Call.run (ext := ext) (fun h => h) (fuel := 1000) (n := 60) (by kernel_rfl)
theorem c16_ok {s t : List Int} {l : List Nm} {ch ok : Bool} (hs : ∀ d ∈ s, In64 d) (hu : ∀ x ∈ l, U8 x.2.1 ∧ U8 x.2.2) (hok : ok = true ↔ LightP s ch t l 120) : Go.V.Call tab E 16 [.agg (plX s ch t l)] [] (.bool ok) [] := by
  refine Go.V.Call.mach i16 c16 rfl rfl rfl rfl ?_
  have h := c32_ok (s := s) (t := t) (l := l) (ch := ch) (ok := ok) (most := 120) (by omega) hs hu hok
  simp only [plX, runes, ints] at h
  simp only [c16, plX, runes, ints, go_sem, ↓reduceIte, Nat.reduceEqDiff, Nat.reduceAdd, Nat.reduceMul, Nat.reduceLeDiff, Nat.reduceLT, Int.reduceToNat, Int.reduceLT, Int.reduceLE, reduceCtorEq, Nat.reduceBEq, fillAll, fillIn, shiftR, shiftV, List.take_succ_cons, List.take_zero, List.drop_succ_cons, List.drop_zero, List.append_nil, Nat.zero_add, subP4]
  refine goP h ?_
  simp only [go_sem, ↓reduceIte, Nat.reduceEqDiff, Nat.reduceAdd, Nat.reduceMul, Nat.reduceLeDiff, Nat.reduceLT, Int.reduceToNat, Int.reduceLT, Int.reduceLE, reduceCtorEq, Nat.reduceBEq]
  simp only [i16, Out, resAll, geto, ints, List.getElem?_cons_zero, List.getElem?_cons_succ, resOf, outOf, snap, snapL, ev, getE, List.mapM_cons, List.mapM_nil, Option.bind_some, Option.pure_def, Option.bind_eq_bind, Option.map_some, reduceIte, Nat.reduceEqDiff, true_and, and_true]
def metC (g : List Int) (n : Nat) : List AV := (List.range n).map fun j : Nat => .bool (decide ((j : Int) ∈ g))
def risM (s t : List Int) (ch : Bool) (l : List Nm) (L : List Rt) (n : Nat) (g : List Int) (i : Nat) : List AObj :=
  [⟨true, 26, 4, 0, 1, plX s ch t l, false⟩, ⟨false, 3, 1, 0, 0, [], false⟩, ⟨false, 21, 1, 0, 0, [], false⟩, ⟨false, 57, 3, 0, 0, [], false⟩, ⟨true, 31, 5, 0, 1, arrX s ch t L, false⟩, ⟨false, 3, 1, 0, 0, [], false⟩, ⟨false, 21, 1, 0, 0, [], false⟩, ⟨false, 57, 3, 0, 0, [], false⟩, ⟨true, 31, 5, 0, 1, arrX [(n : Int)] false [] (g.map zR), false⟩,
    ⟨false, 3, 1, 0, n, nums .i64 g, false⟩, ⟨false, 4, 1, 0, n, metC (g.take i) n, false⟩]
end Go.Proofs.YtlejgleocnemoabGreat.I

namespace Go.Proofs.YtlejgleocnemoabGreat.I
open Go Go.V
theorem sgn_mul {a b : Int} : decide (a * b < 0) = ((decide (a < 0) != decide (b < 0)) && decide (a.natAbs * b.natAbs ≠ 0)) := by
  by_cases ha : a < 0
  · by_cases hb : b < 0
    · have h1 := Int.mul_pos_of_neg_of_neg ha hb
      rw [decide_eq_true ha, decide_eq_true hb, decide_eq_false (show ¬ a * b < 0 by omega)]
      rfl
    · rw [decide_eq_true ha, decide_eq_false hb]
      by_cases h0 : b = 0
      · subst h0; simp
      · have h1 := Int.mul_neg_of_neg_of_pos ha (show 0 < b by omega)
        rw [decide_eq_true h1, decide_eq_true (Nat.mul_ne_zero (by omega) (by omega))]
        rfl
  · rw [decide_eq_false ha]
    by_cases hb : b < 0
    · rw [decide_eq_true hb]
      by_cases h0 : a = 0
      · subst h0; simp
      · have h1 := Int.mul_neg_of_pos_of_neg (show 0 < a by omega) hb
        rw [decide_eq_true h1, decide_eq_true (Nat.mul_ne_zero (by omega) (by omega))]
        rfl
    · have h1 := Int.mul_nonneg (show 0 ≤ a by omega) (show 0 ≤ b by omega)
      rw [decide_eq_false hb, decide_eq_false (show ¬ a * b < 0 by omega)]
      rfl
theorem divInt_parts {a b : Int} (hb : b ≠ 0) : (Rat.divInt a b).num.natAbs = a.natAbs / Nat.gcd a.natAbs b.natAbs ∧ (Rat.divInt a b).den = b.natAbs / Nat.gcd a.natAbs b.natAbs ∧
    (decide ((Rat.divInt a b).num < 0)) = ((decide (a < 0) != decide (b < 0)) && decide (a.natAbs / Nat.gcd a.natAbs b.natAbs ≠ 0)) := by
  have hg : Int.gcd b a = Nat.gcd a.natAbs b.natAbs := by rw [Int.gcd_comm]; rfl
  have hgp : 0 < Nat.gcd a.natAbs b.natAbs := Nat.gcd_pos_of_pos_right _ (by omega)
  have hd1 : Nat.gcd a.natAbs b.natAbs ∣ a.natAbs := Nat.gcd_dvd_left _ _
  rw [Rat.num_divInt, Rat.den_divInt, if_neg hb, hg]
  generalize Nat.gcd a.natAbs b.natAbs = g at *
  have hdi : (g : Int) ∣ a := Int.dvd_natAbs.1 (Int.natCast_dvd_natCast.2 hd1)
  obtain ⟨k, hk⟩ := hdi
  have hgz : (g : Int) ≠ 0 := by omega
  have hq : b.sign * a / (g : Int) = b.sign * k := by
    rw [hk, ← Int.mul_assoc, Int.mul_comm b.sign, Int.mul_assoc]
    exact Int.mul_ediv_cancel_left _ hgz
  have hka : a.natAbs / g = k.natAbs := by
    rw [hk, Int.natAbs_mul, Int.natAbs_natCast]
    exact Nat.mul_div_cancel_left _ hgp
  have hs : (b.sign).natAbs = 1 := Int.natAbs_sign_of_ne_zero hb
  rw [hq, hka]
  refine ⟨by rw [Int.natAbs_mul, hs, Nat.one_mul], rfl, ?_⟩
  have hak : decide (a < 0) = decide (k < 0) := by
    by_cases h : k < 0
    · have := Int.mul_neg_of_pos_of_neg (show (0 : Int) < g by omega) h
      rw [decide_eq_true h, decide_eq_true (show a < 0 by omega)]
    · have := Int.mul_nonneg (show (0 : Int) ≤ g by omega) (show 0 ≤ k by omega)
      rw [decide_eq_false h, decide_eq_false (show ¬ a < 0 by omega)]
  rw [hak, sgn_mul]
  have hsb : decide (b.sign < 0) = decide (b < 0) := by
    rcases Int.lt_trichotomy b 0 with h | h | h
    · rw [Int.sign_eq_neg_one_of_neg h]; simp [h]
    · exact absurd h hb
    · rw [Int.sign_eq_one_of_pos h]; simp; omega
  rw [hsb, hs, Nat.one_mul]
  cases decide (b < 0) <;> cases decide (k < 0) <;> rfl
theorem add_divInt (a b : Rat) : Rat.divInt (a.num * b.den + b.num * a.den) ((a.den : Int) * b.den) = a + b := by
  rw [Rat.add_def', ← Rat.divInt_ofNat]; rfl
theorem mul_divInt (a b : Rat) : Rat.divInt (a.num * b.num) ((a.den : Int) * b.den) = a * b := by
  rw [Rat.mul_def', ← Rat.divInt_ofNat]; rfl
def Sz (k : Nat) (r : Rat) : Prop := r.num.natAbs < 2 ^ k ∧ r.den < 2 ^ k
theorem Sz.mono {i j : Nat} {r : Rat} (h : Sz i r) (hij : i ≤ j) : Sz j r := ⟨Nat.lt_of_lt_of_le h.1 (Nat.pow_le_pow_right (by omega) hij), Nat.lt_of_lt_of_le h.2 (Nat.pow_le_pow_right (by omega) hij)⟩
theorem lt_mul_pow {a b i j : Nat} (ha : a < 2 ^ i) (hb : b < 2 ^ j) : a * b < 2 ^ (i + j) := by
  rw [Nat.pow_add]
  exact Nat.mul_lt_mul'' ha hb
theorem add_num_lt {a b : Rat} {i j : Nat} (ha : Sz i a) (hb : Sz j b) : (a.num * b.den + b.num * a.den).natAbs < 2 ^ (i + j + 1) ∧ ((a.den : Int) * b.den).natAbs < 2 ^ (i + j) := by
  have h1 := lt_mul_pow ha.1 hb.2
  have h2 := lt_mul_pow hb.1 ha.2
  have h3 := lt_mul_pow ha.2 hb.2
  rw [Nat.add_comm j i] at h2
  have e1 : (a.num * b.den).natAbs = a.num.natAbs * b.den := by rw [Int.natAbs_mul, Int.natAbs_natCast]
  have e2 : (b.num * a.den).natAbs = b.num.natAbs * a.den := by rw [Int.natAbs_mul, Int.natAbs_natCast]
  refine ⟨?_, by rw [Int.natAbs_mul, Int.natAbs_natCast, Int.natAbs_natCast]; exact h3⟩
  rw [Nat.pow_succ]
  have := Int.natAbs_add_le (a.num * b.den) (b.num * a.den)
  omega
theorem Sz.of_divInt {a b : Int} {k : Nat} (h1 : a.natAbs < 2 ^ k) (h2 : b.natAbs < 2 ^ k) (hb : b ≠ 0) : Sz k (Rat.divInt a b) := by
  obtain ⟨p1, p2, _⟩ := divInt_parts (a := a) hb
  exact ⟨by rw [p1]; exact Nat.lt_of_le_of_lt (Nat.div_le_self _ _) h1, by rw [p2]; exact Nat.lt_of_le_of_lt (Nat.div_le_self _ _) h2⟩
theorem den_mul_ne {a b : Rat} : ((a.den : Int) * b.den) ≠ 0 := by
  have := a.den_nz; have := b.den_nz
  exact Int.mul_ne_zero (by omega) (by omega)
theorem Sz.add {a b : Rat} {i j : Nat} (ha : Sz i a) (hb : Sz j b) : Sz (i + j + 1) (a + b) := by
  obtain ⟨h1, h2⟩ := add_num_lt ha hb
  rw [← add_divInt]
  exact Sz.of_divInt h1 (Nat.lt_trans h2 (Nat.pow_lt_pow_right (by omega) (by omega))) den_mul_ne
theorem mul_num_lt {a b : Rat} {i j : Nat} (ha : Sz i a) (hb : Sz j b) : (a.num * b.num).natAbs < 2 ^ (i + j) ∧ ((a.den : Int) * b.den).natAbs < 2 ^ (i + j) :=
  ⟨by rw [Int.natAbs_mul]; exact lt_mul_pow ha.1 hb.1, by rw [Int.natAbs_mul, Int.natAbs_natCast, Int.natAbs_natCast]; exact lt_mul_pow ha.2 hb.2⟩
theorem Sz.mul {a b : Rat} {i j : Nat} (ha : Sz i a) (hb : Sz j b) : Sz (i + j) (a * b) := by
  obtain ⟨h1, h2⟩ := mul_num_lt ha hb
  rw [← mul_divInt]
  exact Sz.of_divInt h1 h2 den_mul_ne
theorem Sz.neg {a : Rat} {i : Nat} (ha : Sz i a) : Sz i (-a) := by
  unfold Sz
  rw [Rat.neg_num, Rat.neg_den, Int.natAbs_neg]
  exact ha
def rR (r : Rat) : Rt := (decide (r.num < 0), r.num.natAbs, r.den)
def RV (x : Rt) (r : Rat) : Prop := x.1 = decide (r.num < 0) ∧ x.2.1 = r.num.natAbs ∧ dn x.2.2 = r.den
theorem RV.zero : RV (false, 0, 0) 0 := ⟨rfl, rfl, rfl⟩
def wI (z : Int) : List AV := whC (decide (z < 0)) z.natAbs
def ofN (x : Rt) : Rat := mkRat (if x.1 then -(x.2.1 : Int) else x.2.1) x.2.2
theorem ofN_rR {x : Rt} (hq : x.2.2 ≠ 0) (hg : Nat.gcd x.2.1 x.2.2 = 1) (hs : x.1 = true → x.2.1 ≠ 0) : rR (ofN x) = x := by
  obtain ⟨n, p, q⟩ := x
  simp only at hq hg hs
  have hnum : ∀ z : Int, z.natAbs = p → (mkRat z q).num = z ∧ (mkRat z q).den = q := fun z hz => by
    rw [Rat.mkRat_def, dif_neg hq, Rat.normalize_eq]
    simp only [hz, hg, Nat.div_one]
    exact ⟨by simp, trivial⟩
  cases n with
  | true =>
    have := hs rfl
    obtain ⟨h1, h2⟩ := hnum (-(p : Int)) (by omega)
    simp only [rR, ofN, if_true, h1, h2]
    rw [decide_eq_true (by omega)]
    congr 2
    omega
  | false =>
    obtain ⟨h1, h2⟩ := hnum (p : Int) (by omega)
    simp only [rR, ofN, Bool.false_eq_true, if_false, h1, h2]
    rw [decide_eq_false (by omega)]
    congr 2
end Go.Proofs.YtlejgleocnemoabGreat.I

namespace Go.Proofs.YtlejgleocnemoabGreat.I
open Go Go.V
attribute [local go_sem] mNil nat0 beq_self_eq_true mSkip mRet mExit mReg mSeq mCond mTrue mFalse mBlock mLv mCodeE mCodeR mEndN mEndR mEndE mOps mSome mGuard mGtt mGff mGtf mGft mGu mCallP mCallR mCallF mCallO mCallZ mCallG mCallM mCallV loopQ_exit loopQ_ret mO_mov mO_newnil mO_pick mO_alloc mO_box mO_build mO_bsl mO_bslF mO_ldf mO_ld mO_st mO_sta mO_nilchk mO_bin mO_binb mO_binp mO_bins mO_neg mO_com mO_not mO_conv mO_mk mO_mk0 mO_s2b mO_b2s mO_cpy mO_cut mO_faddr mO_fld mO_iaddr mO_iaddrf mO_sidx mO_len mO_lenf mO_slen mO_scut mO_app mO_ext mO_mx mO_mn mO_mkfn evalOp cutOp argsE ev getE putE cellsOf adopt rowOf binV boolV nilV ar_add ar_sub ar_mul ar_quo ar_rem ar_eq ar_ne ar_lt ar_le ar_gt ar_ge ar_and ar_or ar_xor geto bound finRet finNrm ints List.length_cons List.length_nil List.length_append List.getElem?_cons_zero List.getElem?_cons_succ List.nil_append List.cons_append List.map_cons List.map_nil List.mapM_cons List.mapM_nil Option.map_some Option.map_none Option.bind_some Option.pure_def Option.bind_eq_bind List.drop_zero or_self or_false false_or or_true true_or true_and and_true and_self decide_true decide_false Bool.false_eq_true Bool.true_eq_false Bool.not_true Bool.not_false Nat.le_refl eq_self gt_iff_lt ge_iff_le ne_eq not_true_eq_false not_false_eq_true storeOp apartOf freeze_nil refsL refs List.flatMap_cons List.flatMap_nil List.append_nil List.contains_nil List.set_cons_zero List.set_cons_succ snap snapL fill_nums flat_nums nums_length Go.V.freeze List.mapIdx_cons List.mapIdx_nil List.contains_cons Bool.or_false Bool.false_or Bool.or_true Bool.true_or
section
variable {E : CallRel}
end
section
variable {E : CallRel}
end
def R9d (l : List Int) : Prop := ∀ x ∈ l, 0 ≤ x ∧ x ≤ 9
section
variable {E : CallRel}
end
section
variable {E : CallRel}
end
def wdI (z : Int) : List AV := wdC (decide (z < 0)) z.natAbs
def numR (r : Rat) : List AV := numG (decide (r.num < 0)) r.num.natAbs r.den
theorem Sz.pos {i : Nat} {r : Rat} (h : Sz i r) : 1 ≤ i := by
  rcases Nat.eq_zero_or_pos i with h0 | h0
  · subst h0
    have := h.2
    have := r.den_nz
    simp at *
    omega
  · exact h0
section
variable {E : CallRel}
end
def sgnI (z : Int) : Int := if z = 0 then 0 else if z < 0 then -1 else 1
section
variable {E : CallRel}
end
theorem subR1 {a b c d : AV} : sub false 1 [a, b, c, d] 1 = some b := rfl
theorem subR2 {a b c d : AV} : sub false 1 [a, b, c, d] 2 = some c := rfl
theorem subR3 {a b c d : AV} : sub false 1 [a, b, c, d] 3 = some d := rfl
section
variable {s t : List Int} {ch : Bool} {L : List Rt} {i k N : Nat} {o : Int}
def grdB (down : Bool) (ch : Bool) (t : List Int) (L : List Rt) (k i : Int) : Bool :=
  if down then decide (ordV ch t L i t L k < 0) || (decide (ordV ch t L i t L k = 0) && decide (k < i)) else decide (ordV ch t L k t L i < 0) || (decide (ordV ch t L k t L i = 0) && decide (k < i))
end
theorem numC_zR {z : Int} : numC z = nmC (toNm (zR z)) := by
  have h1 : toNm (zR z) = (decide (z < 0), decL z.natAbs, decL (dn 1)) := rfl
  rw [h1]
  simp only [numC, nmC, dec_eq]
  rw [show dn 1 = 1 from rfl, decL_digit (d := 1) (by omega)]
  rfl
theorem numsC_zR {l : List Int} : numsC l = nmsC ((l.map zR).map toNm) := by
  induction l with
  | nil => rfl
  | cons z l ih =>
    have e1 : numsC (z :: l) = numC z ++ numsC l := by simp [numsC]
    rw [e1, ih, numC_zR]
    simp [nmsC]
theorem plG_X {s t l : List Int} {ch : Bool} : plG s ch t l = plX s ch t ((l.map zR).map toNm) := by
  rw [plG, plX, numsC_zR]
  simp
end Go.Proofs.YtlejgleocnemoabGreat.I

namespace Go.Proofs.YtlejgleocnemoabGreat.I
open Go Go.V
attribute [local go_sem_proc ↓] reduceIte
attribute [local go_sem_proc] Nat.reduceEqDiff Nat.reduceAdd Nat.reduceMul Nat.reduceLeDiff Nat.reduceLT Int.reduceToNat Int.reduceLT Int.reduceLE reduceCtorEq Nat.reduceBEq
attribute [local go_sem] mNil nat0 beq_self_eq_true mSkip mRet mExit mReg mSeq mCond mTrue mFalse mBlock mLv mCodeE mCodeR mEndN mEndR mEndE mOps mSome mGuard mGtt mGff mGtf mGft mGu mCallP mCallR mCallF mCallO mCallZ mCallG mCallM mCallV loopQ_exit loopQ_ret mO_mov mO_newnil mO_pick mO_alloc mO_box mO_build mO_bsl mO_bslF mO_ldf mO_ld mO_st mO_sta mO_nilchk mO_bin mO_binb mO_binp mO_bins mO_neg mO_com mO_not mO_conv mO_mk mO_mk0 mO_s2b mO_b2s mO_cpy mO_cut mO_faddr mO_fld mO_iaddr mO_iaddrf mO_sidx mO_len mO_lenf mO_slen mO_scut mO_app mO_ext mO_mx mO_mn mO_mkfn evalOp cutOp argsE ev getE putE cellsOf adopt rowOf binV boolV nilV ar_add ar_sub ar_mul ar_quo ar_rem ar_eq ar_ne ar_lt ar_le ar_gt ar_ge ar_and ar_or ar_xor geto bound finRet finNrm ints List.length_cons List.length_nil List.length_append List.getElem?_cons_zero List.getElem?_cons_succ List.nil_append List.cons_append List.map_cons List.map_nil List.mapM_cons List.mapM_nil Option.map_some Option.map_none Option.bind_some Option.pure_def Option.bind_eq_bind List.drop_zero or_self or_false false_or or_true true_or true_and and_true and_self decide_true decide_false Bool.false_eq_true Bool.true_eq_false Bool.not_true Bool.not_false Nat.le_refl eq_self gt_iff_lt ge_iff_le ne_eq not_true_eq_false not_false_eq_true storeOp apartOf freeze_nil refsL refs List.flatMap_cons List.flatMap_nil List.append_nil List.contains_nil List.set_cons_zero List.set_cons_succ snap snapL fill_nums flat_nums nums_length Go.V.freeze List.mapIdx_cons List.mapIdx_nil List.contains_cons Bool.or_false Bool.false_or Bool.or_true Bool.true_or
section
variable {s t : List Int} {ch : Bool} {L : List Rt} {N : Nat} {o : Int}
theorem c21_yes (hs : (s.length : Int) ≤ 1000000000) (ht : (t.length : Int) ≤ 1000000000) (hl : (L.length : Int) ≤ 1000000000) (hlk : ∀ x ∈ L, RtOk x) :
    Go.V.Call tab E 21 [.agg (arrX s ch t L), .int .i64 0, .agg (plX s ch t (L.map toNm)), .int .i64 0] [] (.bool true) [] := by
  refine Go.V.Call.mach i21 c21 rfl rfl rfl rfl ?_
  have hlm : (L.map toNm).length = L.length := by simp
  have hu : ∀ x ∈ L.map toNm, NmU x := fun z hz => by
    obtain ⟨x, hx, rfl⟩ := List.mem_map.1 hz
    exact ⟨(decL_dig _).u8, (decL_dig _).u8, (hlk x hx).len.1, (hlk x hx).len.2⟩
  have h31 := c30_X (s := s) (t := t) (l := L) (ch := ch) (by omega) (by omega) (by omega) hlk
  have h29 := c28_gen (s := s) (s' := s) (t := t) (t' := t) (l := L.map toNm) (l' := L.map toNm) (ch := ch) (ch' := ch) (by omega) (by omega) (by omega) (by omega) (by omega) (by omega) hu hu
  rw [decide_eq_true ⟨rfl, rfl, rfl, rfl⟩] at h29
  simp only [plX, arrX, runes, ints] at h31 h29
  simp only [c21, plX, arrX, runes, ints, go_sem, fillAll, fillIn, shiftR, shiftV, List.take_succ_cons, List.take_zero, List.drop_succ_cons, List.drop_zero, List.append_nil, Nat.zero_add, subA5, subP4, bne_self_eq_false]
  refine goP h31 ?_
  simp only [go_sem, fillAll, fillIn, shiftR, shiftV, List.take_succ_cons, List.take_zero, List.drop_succ_cons, List.drop_zero, List.append_nil, Nat.zero_add, subA5, subP4]
  refine goP h29 ?_
  simp only [go_sem]
  simp only [i21, Out, resAll, geto, ints, List.getElem?_cons_zero, List.getElem?_cons_succ, resOf, outOf, snap, snapL, ev, getE, List.mapM_cons, List.mapM_nil, Option.bind_some, Option.pure_def, Option.bind_eq_bind, Option.map_some, reduceIte, Nat.reduceEqDiff, true_and, and_true]
theorem c21_err {e : Int} (he : e ≠ 0) : Go.V.Call tab E 21 [.agg noA, .int .i64 e, .agg noP, .int .i64 e] [] (.bool true) [] := by
  refine Go.V.Call.mach i21 c21 rfl rfl rfl rfl ?_
  have h55 := noA_len
  have hne : (e != 0) = true := by rw [bne_iff_ne]; exact he
  simp only [noA] at h55
  simp only [c21, noP, plX, noA, runes, ints, nums, nmsC, List.flatMap_nil, go_sem, fillAll, fillIn, shiftR, shiftV, List.take_succ_cons, List.take_zero, List.drop_succ_cons, List.drop_zero, List.append_nil, Nat.zero_add, subA5, subP4, bne_self_eq_false, hne]
  refine goP h55 ?_
  simp only [go_sem, beq_self_eq_true]
  simp only [i21, Out, resAll, geto, ints, List.getElem?_cons_zero, List.getElem?_cons_succ, resOf, outOf, snap, snapL, ev, getE, List.mapM_cons, List.mapM_nil, Option.bind_some, Option.pure_def, Option.bind_eq_bind, Option.map_some, reduceIte, Nat.reduceEqDiff, true_and, and_true]
theorem c19_ok {one : Bool} : Go.V.Call tab E 19 [.bool one] [] (.int .i64 (if one then 1 else 0)) [] := by
  refine Go.V.Call.mach i19 c19 rfl rfl rfl rfl ?_
  cases one
  · simp only [c19, go_sem]
    simp only [i19, Out, resAll, geto, ints, List.getElem?_cons_zero, List.getElem?_cons_succ, resOf, outOf, snap, snapL, ev, getE, List.mapM_cons, List.mapM_nil, Option.bind_some, Option.pure_def, Option.bind_eq_bind, Option.map_some, reduceIte, Nat.reduceEqDiff, true_and, and_true, Bool.false_eq_true, if_false]
  · simp only [c19, go_sem]
    simp only [i19, Out, resAll, geto, ints, List.getElem?_cons_zero, List.getElem?_cons_succ, resOf, outOf, snap, snapL, ev, getE, List.mapM_cons, List.mapM_nil, Option.bind_some, Option.pure_def, Option.bind_eq_bind, Option.map_some, reduceIte, Nat.reduceEqDiff, true_and, and_true, if_true]
def docG (s t : List Int) (ch : Bool) (l : List Nm) (N : Nat) (r : List Int) : List AObj :=
  [⟨true, 26, 4, 0, 1, plX s ch t l, false⟩, ⟨false, 3, 1, 0, 0, [], false⟩, ⟨false, 21, 1, 0, 0, [], false⟩, ⟨false, 66, 3, 0, 0, [], false⟩, ⟨true, 26, 4, 0, 1, [.arr 1 0, .bool false, .arr 2 0, .arr 3 0], false⟩, ⟨false, 3, 1, 0, N, nums .i64 r, false⟩]
def laidG (g : List Int) (o : Int) (i : Nat) : List Int := g.map fun z : Int => if z < (i : Int) then z + o else 0
def cntA (down ch : Bool) (t : List Int) (L : List Rt) (N i k : Nat) : Nat := ((rng N).take k).countP fun j => grdB down ch t L j i
end
def fstW (v : Nat → Int) : Nat → Nat
  | 0 => 0
  | n + 1 => if fstW v n < n then fstW v n else if v n = 0 then n else n + 1
def IsF (v : Nat → Int) (n r : Nat) : Prop := r ≤ n ∧ (∀ j, j < r → v j ≠ 0) ∧ (r < n → v r = 0)
theorem fstW_is {v : Nat → Int} : ∀ {n : Nat}, IsF v n (fstW v n)
  | 0 => ⟨Nat.le_refl _, fun j h => absurd h (Nat.not_lt_zero _), fun h => absurd h (Nat.not_lt_zero _)⟩
  | n + 1 => by
    obtain ⟨h1, h2, h3⟩ := fstW_is (v := v) (n := n)
    rw [fstW]
    by_cases h : fstW v n < n
    · rw [if_pos h]
      exact ⟨by omega, h2, fun _ => h3 h⟩
    · have e : fstW v n = n := by omega
      rw [e] at h2
      rw [if_neg h]
      by_cases hv : v n = 0
      · rw [if_pos hv]
        exact ⟨by omega, h2, fun _ => hv⟩
      · rw [if_neg hv]
        refine ⟨Nat.le_refl _, fun j hj => ?_, fun h => absurd h (Nat.lt_irrefl _)⟩
        by_cases hjn : j = n
        · rw [hjn]; exact hv
        · exact h2 j (by omega)
theorem IsF.eq {v : Nat → Int} {n r : Nat} (h : IsF v n r) : r = fstW v n := by
  obtain ⟨a1, a2, a3⟩ := h
  obtain ⟨b1, b2, b3⟩ := fstW_is (v := v) (n := n)
  rcases Nat.lt_trichotomy r (fstW v n) with h | h | h
  · exact absurd (a3 (by omega)) (b2 r h)
  · exact h
  · exact absurd (b3 (by omega)) (a2 _ h)
theorem cut_neg {v : Int → Int} : ∀ {l : List Int}, l.Pairwise (fun x y => v y < 0 → v x < 0) → ∃ r, r ≤ l.length ∧ (∀ j, j < r → v (l.getD j 0) < 0) ∧ ∀ j, r ≤ j → j < l.length → ¬ v (l.getD j 0) < 0
  | [], _ => ⟨0, Nat.le_refl _, fun j h => absurd h (Nat.not_lt_zero _), fun j _ h => absurd h (Nat.not_lt_zero _)⟩
  | b :: l, h => by
    rw [List.pairwise_cons] at h
    by_cases hb : v b < 0
    · obtain ⟨r, h1, h2, h3⟩ := cut_neg h.2
      refine ⟨r + 1, by simpa using h1, fun j hj => ?_, fun j hj hjl => ?_⟩
      · cases j with
        | zero => exact hb
        | succ j => exact h2 j (by omega)
      · cases j with
        | zero => omega
        | succ j => exact h3 j (by omega) (by simpa using hjl)
    · refine ⟨0, Nat.zero_le _, fun j hj => absurd hj (Nat.not_lt_zero _), fun j _ hjl => ?_⟩
      cases j with
      | zero => exact hb
      | succ j => exact fun hv => hb (h.1 _ (getD_memI (by simpa using hjl)) hv)
theorem srch {u : Int → Int → Int} {v : Int → Int} {g : List Int} {n : Nat} (hu : Cf u) (h1 : g.Perm (rng n)) (h2 : g.Pairwise (stb u)) (m1 : ∀ x y, ¬ u y x < 0 → v y < 0 → v x < 0) (m2 : ∀ x y, v x = 0 → v y = 0 → u x y = 0) (m3 : ∀ x y, ¬ u y x < 0 → 0 < v x → 0 < v y) :
    ∃ r, r ≤ n ∧ (∀ j, j < r → v (g.getD j 0) < 0) ∧ (∀ j, r ≤ j → j < n → ¬ v (g.getD j 0) < 0) ∧ IsF (fun k => v k) n (if r < n ∧ v (g.getD r 0) = 0 then (g.getD r 0).toNat else n) := by
  have hgl : g.length = n := by rw [h1.length_eq, rng_len]
  have hsb : ∀ x y, stb u x y → ¬ u y x < 0 := fun x y h h3 => by
    have := hu.anti.1 h3
    unfold stb at h
    omega
  obtain ⟨r, r1, r2, r3⟩ := cut_neg (v := v) (h2.imp fun h => m1 _ _ (hsb _ _ h))
  rw [hgl] at r1 r3
  refine ⟨r, r1, r2, r3, ?_⟩
  have pos : ∀ k : Nat, k < n → ∃ q, q < n ∧ g.getD q 0 = (k : Int) := fun k hk => by
    obtain ⟨q, hq, h⟩ := List.getElem_of_mem (h1.mem_iff.2 (rng_mem.2 (show 0 ≤ (k : Int) ∧ (k : Int) < (n : Int) from ⟨by omega, by omega⟩)))
    exact ⟨q, by omega, by simpa [List.getD, hq] using h⟩
  by_cases hr : r < n ∧ v (g.getD r 0) = 0
  · rw [if_pos hr]
    obtain ⟨hrn, hv⟩ := hr
    have hm := rng_mem.1 (h1.mem_iff.1 (getD_memI (A := g) (i := r) (by omega)))
    refine ⟨by omega, fun j hj hvj => ?_, fun _ => by show v _ = 0; rw [Int.toNat_of_nonneg hm.1]; exact hv⟩
    have hvj : v (j : Int) = 0 := hvj
    obtain ⟨q, hq, hgq⟩ := pos j (by omega)
    have hqr : r ≤ q := by
      rcases Nat.lt_or_ge q r with h | h
      · have := r2 q h
        rw [hgq] at this
        omega
      · exact h
    rcases Nat.lt_or_ge r q with h | h
    · have h5 := pw_get h2 h (by omega)
      rw [hgq] at h5
      have h6 := m2 _ _ hv hvj
      unfold stb at h5
      omega
    · have e : q = r := by omega
      rw [e] at hgq
      omega
  · rw [if_neg hr]
    refine ⟨Nat.le_refl _, fun j hj hvj => ?_, fun h => absurd h (Nat.lt_irrefl _)⟩
    have hvj : v (j : Int) = 0 := hvj
    obtain ⟨q, hq, hgq⟩ := pos j hj
    have hqr : r ≤ q := by
      rcases Nat.lt_or_ge q r with h | h
      · have := r2 q h
        rw [hgq] at this
        omega
      · exact h
    have hne : v (g.getD r 0) ≠ 0 := fun h => hr ⟨by omega, h⟩
    have hnn := r3 r (Nat.le_refl _) (by omega)
    rcases Nat.lt_or_ge r q with h | h
    · have h5 := hsb _ _ (pw_get h2 h (by omega))
      have h6 := m3 _ _ h5 (by omega)
      rw [hgq] at h6
      omega
    · have e : q = r := by omega
      rw [e] at hgq
      rw [hgq] at hne
      exact hne hvj
section
variable {ch : Bool} {t t' : List Int} {L L' : List Rt} {i : Int}
theorem cf_m {α : Type} {c : α → α → Int} (h : Cf c) (z : α) : (∀ x y, ¬ c y x < 0 → c y z < 0 → c x z < 0) ∧ (∀ x y, c x z = 0 → c y z = 0 → c x y = 0) ∧ ∀ x y, ¬ c y x < 0 → 0 < c x z → 0 < c y z := by
  refine ⟨fun x y h1 h2 => (h.neg x h2).resolve_left h1, fun x y h1 h2 => ?_, fun x y h1 h2 => ?_⟩
  · rw [h.zero] at h1 h2 ⊢
    refine ⟨fun h3 => ?_, fun h3 => ?_⟩
    · rcases h.neg z h3 with h4 | h4
      · exact h1.1 h4
      · exact h2.2 h4
    · rcases h.neg z h3 with h4 | h4
      · exact h2.1 h4
      · exact h1.2 h4
  · exact h.anti.1 ((h.neg y (h.anti.2 h2)).resolve_right h1)
theorem ordV_m : (∀ x y, ¬ ordV ch t L y t L x < 0 → ordV ch t L y t' L' i < 0 → ordV ch t L x t' L' i < 0) ∧ (∀ x y, ordV ch t L x t' L' i = 0 → ordV ch t L y t' L' i = 0 → ordV ch t L x t L y = 0) ∧ ∀ x y, ¬ ordV ch t L y t L x < 0 → 0 < ordV ch t L x t' L' i → 0 < ordV ch t L y t' L' i := by
  cases ch with
  | true =>
    obtain ⟨a, b, c⟩ := cf_m cmpI_cf (runeAt t' i)
    exact ⟨fun x y => a _ _, fun x y => b _ _, fun x y => c _ _⟩
  | false =>
    obtain ⟨a, b, c⟩ := cf_m rcmp_cf (pickR L' i)
    exact ⟨fun x y => a _ _, fun x y => b _ _, fun x y => c _ _⟩
end
section
variable {E : CallRel}
theorem c113_ok {g : List Int} {i : Int} {f n r : Nat} {caps : List AV} {v : Int → Int} (hg : g.length = n) (hn : n ≤ 1000000) (hcaps : ∀ mem, caps.mapM (fun c => snap mem 10 c) = some caps) (hu : underL 0 caps = true)
    (hcall : ∀ x : Int, Go.V.Call tab E f (.int .i64 x :: .int .i64 i :: caps) [] (.int .i64 (v x)) []) (hr : r ≤ n) (h1 : ∀ j, j < r → v (g.getD j 0) < 0) (h2 : ∀ j, r ≤ j → j < n → ¬ v (g.getD j 0) < 0) :
    Go.V.Call tab E 113 [ints g, .int .i64 i, .fn f caps] [] (.tup [.int .i64 r, .bool (decide (r < n ∧ v (g.getD r 0) = 0))]) [] := by
  refine Go.V.Call.mach i113 c113 rfl rfl rfl rfl ?_
  simp only [c113, go_sem, hg]
  refine mLoop (fun M st => ∃ lo hi : Nat, lo ≤ r ∧ r ≤ hi ∧ hi ≤ n ∧ M = hi - lo ∧ st = ⟨[(0, ints g), (1, .int .i64 i), (2, .fn f caps), (8, .int .i64 n), (9, .int .i64 lo), (10, .int .i64 hi)], []⟩) n
    ⟨_, by simp only [headOf]; exact (if_pos (by simp [under, underL, hu, getE])).trans rfl, 0, n, by omega, hr, by omega, by omega, by simp [getE, ints, hg]⟩ ?_
  rintro M s0 ⟨lo, hi, hlo, hhi, hhn, rfl, rfl⟩
  by_cases hlt : lo < hi
  · have hlt' : (lo : Int) < (hi : Int) := by omega
    have e0 := wad (a := lo) (b := hi) (by omega)
    have e1 := wu64 (n := lo + hi) (by omega)
    have e3 := wi64 (n := (lo + hi) / 2) (by omega)
    have hh : (lo + hi) / 2 < hi ∧ lo ≤ (lo + hi) / 2 := by omega
    generalize hhe : (lo + hi) / 2 = h at *
    have e5 : IntKind.i64.wrap ((h : Int) + 1) = ((h + 1 : Nat) : Int) := by rw [wrap_i64 (by omega) (by omega)]; omega
    have k1 : (0 : Int) ≤ (h : Int) := by omega
    have k2 : (h : Int) < (n : Int) := by omega
    have s1 := sub_nums (k := .i64) (l := g) (i := h) (by omega)
    have hc := hcall (g.getD h 0)
    have f1 := h1 h
    have f2 := h2 h
    generalize g.getD h 0 = x at *
    simp only [b113_0, ints, hg, go_sem, hlt', e0, e1, shr1, hhe, e3, k1, k2, Int.toNat_natCast, s1]
    refine goFn (hcaps _) hc rfl ?_
    by_cases hhr : h < r
    · have hv := f1 hhr
      simp only [go_sem, hv, e5]
      exact loopQ_go (by simp only [headOf]; exact (if_pos (by simp [under, underL, hu, getE])).trans rfl) (hi - (h + 1)) (by omega) ⟨h + 1, hi, by omega, hhi, hhn, rfl, by simp [getE]⟩
    · have hv := f2 (by omega) (by omega)
      simp only [go_sem, hv]
      exact loopQ_go (by simp only [headOf]; exact (if_pos (by simp [under, underL, hu, getE])).trans rfl) (h - lo) (by omega) ⟨lo, h, hlo, by omega, by omega, rfl, by simp [getE]⟩
  · have hlt' : ¬ (lo : Int) < (hi : Int) := by omega
    obtain rfl : lo = r := by omega
    by_cases hrn : lo < n
    · have hrn' : (lo : Int) < (n : Int) := by omega
      have k1 : (0 : Int) ≤ (lo : Int) := by omega
      have s1 := sub_nums (k := .i64) (l := g) (i := lo) (by omega)
      have hc := hcall (g.getD lo 0)
      have hd : decide (lo < n ∧ v (g.getD lo 0) = 0) = (v (g.getD lo 0) == 0) := by
        rw [show (v (g.getD lo 0) == 0) = decide (v (g.getD lo 0) = 0) from rfl]
        exact decide_eq_decide.2 ⟨fun h => h.2, fun h => ⟨hrn, h⟩⟩
      rw [hd]
      generalize g.getD lo 0 = x at *
      simp only [b113_0, k113_0, ints, hg, go_sem, hlt', hrn', k1, Int.toNat_natCast, s1]
      refine goFn (hcaps _) hc rfl ?_
      simp only [go_sem]
      simp only [i113, Out, resAll, geto, ints, List.getElem?_cons_zero, List.getElem?_cons_succ, resOf, outOf, snap, snapL, ev, getE, List.mapM_cons, List.mapM_nil, Option.bind_some, Option.pure_def, Option.bind_eq_bind, Option.map_some, reduceIte, Nat.reduceEqDiff, true_and, and_true]
    · have hrn' : ¬ (lo : Int) < (n : Int) := by omega
      rw [decide_eq_false fun h => hrn h.1]
      simp only [b113_0, k113_0, ints, hg, go_sem, hlt', hrn']
      simp only [i113, Out, resAll, geto, ints, List.getElem?_cons_zero, List.getElem?_cons_succ, resOf, outOf, snap, snapL, ev, getE, List.mapM_cons, List.mapM_nil, Option.bind_some, Option.pure_def, Option.bind_eq_bind, Option.map_some, reduceIte, Nat.reduceEqDiff, true_and, and_true]
end
end Go.Proofs.YtlejgleocnemoabGreat.I
