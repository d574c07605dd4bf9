/- Layer 6: ArrayBuilds. -/
import Derived.Test.YtcmbaabkfihdmaaL06a
import Derived.Test.YtcmbaabkfihdmaaL06f
set_option linter.unusedVariables false
set_option linter.unusedSimpArgs false
namespace Go.Proofs.Ytcmbaabkfihdmaa.I
open Go Go.V
attribute [local go_sem] mNil nat0 beq_self_eq_true mSkip mRet mExit mReg mSeq mCond mTrue mFalse mBlock mLv mCodeE mCodeR mEndN mEndR mEndE mOps mSome mGuard mGtt mGff mGtf mGft mGu mCallP mCallR mCallF mCallO mCallZ mCallG mCallM mCallV loopQ_exit loopQ_ret mO_mov mO_newnil mO_pick mO_alloc mO_box mO_build mO_bsl mO_ldf mO_ld mO_st mO_sta mO_nilchk mO_bin mO_binb mO_binp mO_bins mO_neg mO_not mO_conv mO_mk mO_mk0 mO_s2b mO_b2s mO_cpy mO_cut mO_faddr mO_fld mO_iaddr mO_iaddrf mO_sidx mO_len mO_lenf mO_slen mO_scut mO_app mO_ext mO_mx mO_mn mO_mkfn evalOp cutOp argsE ev getE putE cellsOf adopt rowOf binV boolV nilV arith geto bound finRet finNrm ints List.length_cons List.length_nil List.length_append List.getElem?_cons_zero List.getElem?_cons_succ List.nil_append List.cons_append List.map_cons List.map_nil List.mapM_cons List.mapM_nil Option.map_some Option.map_none Option.bind_some Option.pure_def Option.bind_eq_bind List.drop_zero or_self or_false false_or or_true true_or true_and and_true and_self decide_true decide_false Bool.false_eq_true Bool.true_eq_false Bool.not_true Bool.not_false Nat.le_refl eq_self gt_iff_lt ge_iff_le ne_eq not_true_eq_false not_false_eq_true storeOp apartOf freeze_nil refsL refs List.flatMap_cons List.flatMap_nil List.append_nil List.contains_nil List.set_cons_zero List.set_cons_succ snap snapL fill_nums flat_nums nums_length Go.V.freeze List.mapIdx_cons List.mapIdx_nil List.contains_cons Bool.or_false Bool.false_or Bool.or_true Bool.true_or
set_option maxHeartbeats 4000000 in
theorem c9_ok {s l t : List Int} {c n : Int} (hs : ∀ d ∈ s, In64 d) (hl0 : ∀ d ∈ l, In64 d) (hn : In64 n) (hs1 : (s.length : Int) ≤ 1000000000000000) (hl1 : (l.length : Int) ≤ 1000000000000000) (ht1 : (t.length : Int) ≤ 1000000000000000) :
    Go.V.Call tab E 9 [ints s, ints l, runes t, .int .i32 c, .int .i64 n] [] (.bool true) [] := by
  refine Go.V.Call.mach i9 c9 rfl rfl rfl rfl ?_
  by_cases h1 : (60 : Int) < (s.length : Int)
  · simp only [c9, runes, go_sem, ↓reduceIte, Nat.reduceEqDiff, Nat.reduceAdd, Nat.reduceMul, Nat.reduceLeDiff, Nat.reduceLT, Int.reduceToNat, Int.reduceLT, Int.reduceLE, reduceCtorEq, Nat.reduceBEq, h1]
    refine goP c34_ok ?_
    simp only [go_sem, ↓reduceIte, Nat.reduceEqDiff, Nat.reduceAdd, Nat.reduceMul, Nat.reduceLeDiff, Nat.reduceLT, Int.reduceToNat, Int.reduceLT, Int.reduceLE, reduceCtorEq, Nat.reduceBEq]
    simp only [i9, Out, resAll, geto, ints, List.getElem?_cons_zero, List.getElem?_cons_succ, resOf, outOf, snap, snapL, ev, getE, List.mapM_cons, List.mapM_nil, Option.bind_some, Option.pure_def, Option.bind_eq_bind, Option.map_some, reduceIte, Nat.reduceEqDiff, true_and, and_true]
  by_cases h2 : (200 : Int) < (l.length : Int)
  · simp only [c9, runes, go_sem, ↓reduceIte, Nat.reduceEqDiff, Nat.reduceAdd, Nat.reduceMul, Nat.reduceLeDiff, Nat.reduceLT, Int.reduceToNat, Int.reduceLT, Int.reduceLE, reduceCtorEq, Nat.reduceBEq, h1, h2]
    refine goP c34_ok ?_
    simp only [go_sem, ↓reduceIte, Nat.reduceEqDiff, Nat.reduceAdd, Nat.reduceMul, Nat.reduceLeDiff, Nat.reduceLT, Int.reduceToNat, Int.reduceLT, Int.reduceLE, reduceCtorEq, Nat.reduceBEq]
    simp only [i9, Out, resAll, geto, ints, List.getElem?_cons_zero, List.getElem?_cons_succ, resOf, outOf, snap, snapL, ev, getE, List.mapM_cons, List.mapM_nil, Option.bind_some, Option.pure_def, Option.bind_eq_bind, Option.map_some, reduceIte, Nat.reduceEqDiff, true_and, and_true]
  by_cases h3 : (200 : Int) < (t.length : Int)
  · simp only [c9, runes, go_sem, ↓reduceIte, Nat.reduceEqDiff, Nat.reduceAdd, Nat.reduceMul, Nat.reduceLeDiff, Nat.reduceLT, Int.reduceToNat, Int.reduceLT, Int.reduceLE, reduceCtorEq, Nat.reduceBEq, h1, h2, h3]
    refine goP c34_ok ?_
    simp only [go_sem, ↓reduceIte, Nat.reduceEqDiff, Nat.reduceAdd, Nat.reduceMul, Nat.reduceLeDiff, Nat.reduceLT, Int.reduceToNat, Int.reduceLT, Int.reduceLE, reduceCtorEq, Nat.reduceBEq]
    simp only [i9, Out, resAll, geto, ints, List.getElem?_cons_zero, List.getElem?_cons_succ, resOf, outOf, snap, snapL, ev, getE, List.mapM_cons, List.mapM_nil, Option.bind_some, Option.pure_def, Option.bind_eq_bind, Option.map_some, reduceIte, Nat.reduceEqDiff, true_and, and_true]
  simp only [c9, runes, go_sem, ↓reduceIte, Nat.reduceEqDiff, Nat.reduceAdd, Nat.reduceMul, Nat.reduceLeDiff, Nat.reduceLT, Int.reduceToNat, Int.reduceLT, Int.reduceLE, reduceCtorEq, Nat.reduceBEq, h1, h2, h3]
  refine mLoop (fun N st => ∃ (i : Nat), i ≤ l.length ∧ N = l.length - i ∧
    st = ⟨[(0, ints s), (1, ints l), (2, runes t), (3, .int .i32 c), (4, .int .i64 n), (11, .arr 0 i), (12, .int .i64 i)], [⟨false, 70, 3, i, i, ratsC (l.take i), false⟩]⟩) l.length ⟨_, rfl, 0, by omega, by omega, by simp [getE, ints, runes, ratsC]⟩ ?_
  rintro N s0 ⟨i, hi, rfl, rfl⟩
  by_cases hlt : i < l.length
  · have hlt' : (i : Int) < (l.length : Int) := by omega
    have hi0 : (0 : Int) ≤ (i : Int) := by omega
    have hi1 : IntKind.i64.wrap ((i : Int) + 1) = ((i + 1 : Nat) : Int) := by rw [wrap_i64 (by omega) (by omega)]; omega
    have hsub := sub_nums (k := .i64) hlt
    have hzi : In64 (l.getD i 0) := hl0 _ (by simp [List.getD, hlt])
    have htk := take_snoc hlt
    have e1 : (i + 1) * 56 ≤ 140737488355328 := by omega
    have e2 : i + 1 ≤ 140737488355328 := by omega
    simp only [b9_0, runes, go_sem, ↓reduceIte, Nat.reduceEqDiff, Nat.reduceAdd, Nat.reduceMul, Nat.reduceLeDiff, Nat.reduceLT, Int.reduceToNat, Int.reduceLT, Int.reduceLE, reduceCtorEq, Nat.reduceBEq, hlt', hi0, Int.toNat_natCast, hsub]
    refine goP (c45_ok hzi) ?_
    simp only [go_sem, ↓reduceIte, Nat.reduceEqDiff, Nat.reduceAdd, Nat.reduceMul, Nat.reduceLeDiff, Nat.reduceLT, Int.reduceToNat, Int.reduceLT, Int.reduceLE, reduceCtorEq, Nat.reduceBEq, fillAll, fillIn, shiftR, shiftV, List.take_succ_cons, List.take_zero, List.drop_succ_cons, List.drop_zero, List.append_nil, Nat.zero_add, hi1, e1, e2, ratC, us32, List.flatten_cons, List.flatten_nil, Option.getD_some]
    refine loopQ_go rfl (l.length - (i + 1)) (by omega) ⟨i + 1, by omega, rfl, ?_⟩
    rw [htk, ratsC_snoc]
    rfl
  have hlt' : ¬ (i : Int) < (l.length : Int) := by omega
  obtain rfl : i = l.length := by omega
  have h46 := c46_ok (s := s) (l := l) hs (by omega) (by omega)
  have h47 := c47_ok (s := s) (t := t) hs (by omega) (by omega)
  have h17 := c17_ok (E := E) (s := s) hs (by omega)
  have h48 := c48_ok (E := E) (l := l) (by omega) hl0
  have h49 := c49_ok (E := E) (t := t)
  have h51 := c51_ok (E := E) (l := l) (by omega) hl0
  have h52l := c52_ok (s := [(l.length : Int)]) (ch := false) (t := []) (l := l) (by simp) (by simp) (by omega) hl0
  have h50l := c50_ok (E := E) (s := [(l.length : Int)]) (ch := false) (t := []) (l := l) (by simp) (by simp) (by omega)
  have h53 := c53_ok (t := t) (by omega)
  have h52t := c52_ok (s := [(t.length : Int)]) (ch := true) (t := t) (l := []) (by simp) (by omega) (by simp) (by simp)
  have h50t := c50_ok (E := E) (s := [(t.length : Int)]) (ch := true) (t := t) (l := []) (by simp) (by omega) (by simp)
  have h52a := c52_ok (s := s) (ch := false) (t := []) (l := l) (by omega) (by simp) (by omega) hl0
  have h50a := c50_ok (E := E) (s := s) (ch := false) (t := []) (l := l) (by omega) (by simp) (by omega)
  have h52b := c52_ok (s := s) (ch := true) (t := t) (l := []) (by omega) (by omega) (by simp) (by simp)
  have h50b := c50_ok (E := E) (s := s) (ch := true) (t := t) (l := []) (by omega) (by omega) (by simp)
  have h38 := c38_ok (E := E) (z := n) hn
  have h52n := c52_ok (s := []) (ch := false) (t := []) (l := [n]) (by simp) (by simp) (by simp) (by simpa using hn)
  have h55 := c55_ok (E := E) (z := n) hn
  have h50n := c50_ok (E := E) (s := []) (ch := false) (t := []) (l := [n]) (by simp) (by simp) (by simp)
  have h45 := c45_ok (E := E) (z := n) hn
  have h56 := c56_ok (E := E) (z := n)
  have h57 := c57_ok (E := E) (c := c)
  have h52c := c52_ok (s := []) (ch := true) (t := [c]) (l := []) (by simp) (by simp) (by simp) (by simp)
  have h50c := c50_ok (E := E) (s := []) (ch := true) (t := [c]) (l := []) (by simp) (by simp) (by simp)
  have h58t := c58_ok (E := E) (ch := true)
  have h52u := c52_ok (s := [0]) (ch := true) (t := []) (l := []) (by simp) (by simp) (by simp) (by simp)
  have h50u := c50_ok (E := E) (s := [0]) (ch := true) (t := []) (l := []) (by simp) (by simp) (by simp)
  have h58f := c58_ok (E := E) (ch := false)
  have h52v := c52_ok (s := [0]) (ch := false) (t := []) (l := []) (by simp) (by simp) (by simp) (by simp)
  have h50v := c50_ok (E := E) (s := [0]) (ch := false) (t := []) (l := []) (by simp) (by simp) (by simp)
  have h49e := c49_ok (E := E) (t := [])
  have h48e := c48_ok (E := E) (l := []) (by simp) (by simp)
  have hsubB : ∀ {a b c d e : AV}, sub true 5 [a, b, c, d, e] 0 = some (.agg [a, b, c, d, e]) := fun {a b c d e} => rfl
  cases hc : count s with
  | none =>
    have hf1 : fits s l.length = false := by simp [fits, hc]
    have hf2 : fits s t.length = false := by simp [fits, hc]
    rw [hf1] at h46
    rw [hf2] at h47
    rw [hc] at h17
    simp only [b9_0, k9_0, hlt', List.take_length, go_sem, ↓reduceIte, Nat.reduceEqDiff, Nat.reduceAdd, Nat.reduceMul, Nat.reduceLeDiff, Nat.reduceLT, Int.reduceToNat, Int.reduceLT, Int.reduceLE, reduceCtorEq, Nat.reduceBEq, fillAll, fillIn, shiftR, shiftV, List.take_succ_cons, List.take_zero, List.drop_succ_cons, List.drop_zero, List.append_nil, Nat.zero_add, subA5, subP4, arrG, plG, runes, noA, if_true, if_false, beq_self_eq_true, bne_self_eq_false]
    refine goF h46 ?_
    simp only [go_sem, ↓reduceIte, Nat.reduceEqDiff, Nat.reduceAdd, Nat.reduceMul, Nat.reduceLeDiff, Nat.reduceLT, Int.reduceToNat, Int.reduceLT, Int.reduceLE, reduceCtorEq, Nat.reduceBEq, fillAll, fillIn, shiftR, shiftV, List.take_succ_cons, List.take_zero, List.drop_succ_cons, List.drop_zero, List.append_nil, Nat.zero_add, subA5, subP4, arrG, plG, runes, noA, if_true, if_false, beq_self_eq_true, bne_self_eq_false]
    refine goP h47 ?_
    simp only [go_sem, ↓reduceIte, Nat.reduceEqDiff, Nat.reduceAdd, Nat.reduceMul, Nat.reduceLeDiff, Nat.reduceLT, Int.reduceToNat, Int.reduceLT, Int.reduceLE, reduceCtorEq, Nat.reduceBEq, fillAll, fillIn, shiftR, shiftV, List.take_succ_cons, List.take_zero, List.drop_succ_cons, List.drop_zero, List.append_nil, Nat.zero_add, subA5, subP4, arrG, plG, runes, noA, if_true, if_false, beq_self_eq_true, bne_self_eq_false]
    refine goP h17 ?_
    simp only [optP, go_sem, ↓reduceIte, Nat.reduceEqDiff, Nat.reduceAdd, Nat.reduceMul, Nat.reduceLeDiff, Nat.reduceLT, Int.reduceToNat, Int.reduceLT, Int.reduceLE, reduceCtorEq, Nat.reduceBEq, fillAll, fillIn, shiftR, shiftV, List.take_succ_cons, List.take_zero, List.drop_succ_cons, List.drop_zero, List.append_nil, Nat.zero_add, subA5, subP4, arrG, plG, runes, noA, if_true, if_false, beq_self_eq_true, bne_self_eq_false]
    refine goP h48 ?_
    simp only [go_sem, ↓reduceIte, Nat.reduceEqDiff, Nat.reduceAdd, Nat.reduceMul, Nat.reduceLeDiff, Nat.reduceLT, Int.reduceToNat, Int.reduceLT, Int.reduceLE, reduceCtorEq, Nat.reduceBEq, fillAll, fillIn, shiftR, shiftV, List.take_succ_cons, List.take_zero, List.drop_succ_cons, List.drop_zero, List.append_nil, Nat.zero_add, subA5, subP4, arrG, plG, runes, noA, if_true, if_false, beq_self_eq_true, bne_self_eq_false]
    refine goP h49 ?_
    simp only [go_sem, ↓reduceIte, Nat.reduceEqDiff, Nat.reduceAdd, Nat.reduceMul, Nat.reduceLeDiff, Nat.reduceLT, Int.reduceToNat, Int.reduceLT, Int.reduceLE, reduceCtorEq, Nat.reduceBEq, fillAll, fillIn, shiftR, shiftV, List.take_succ_cons, List.take_zero, List.drop_succ_cons, List.drop_zero, List.append_nil, Nat.zero_add, subA5, subP4, arrG, plG, runes, noA, if_true, if_false, beq_self_eq_true, bne_self_eq_false]
    refine goP h51 ?_
    simp only [go_sem, ↓reduceIte, Nat.reduceEqDiff, Nat.reduceAdd, Nat.reduceMul, Nat.reduceLeDiff, Nat.reduceLT, Int.reduceToNat, Int.reduceLT, Int.reduceLE, reduceCtorEq, Nat.reduceBEq, fillAll, fillIn, shiftR, shiftV, List.take_succ_cons, List.take_zero, List.drop_succ_cons, List.drop_zero, List.append_nil, Nat.zero_add, subA5, subP4, arrG, plG, runes, noA, if_true, if_false, beq_self_eq_true, bne_self_eq_false]
    refine goP h52l ?_
    simp only [go_sem, ↓reduceIte, Nat.reduceEqDiff, Nat.reduceAdd, Nat.reduceMul, Nat.reduceLeDiff, Nat.reduceLT, Int.reduceToNat, Int.reduceLT, Int.reduceLE, reduceCtorEq, Nat.reduceBEq, fillAll, fillIn, shiftR, shiftV, List.take_succ_cons, List.take_zero, List.drop_succ_cons, List.drop_zero, List.append_nil, Nat.zero_add, subA5, subP4, arrG, plG, runes, noA, if_true, if_false, beq_self_eq_true, bne_self_eq_false]
    refine goR h50l rfl ?_
    simp only [go_sem, ↓reduceIte, Nat.reduceEqDiff, Nat.reduceAdd, Nat.reduceMul, Nat.reduceLeDiff, Nat.reduceLT, Int.reduceToNat, Int.reduceLT, Int.reduceLE, reduceCtorEq, Nat.reduceBEq, fillAll, fillIn, shiftR, shiftV, List.take_succ_cons, List.take_zero, List.drop_succ_cons, List.drop_zero, List.append_nil, Nat.zero_add, subA5, subP4, arrG, plG, runes, noA, if_true, if_false, beq_self_eq_true, bne_self_eq_false]
    refine goP h53 ?_
    simp only [go_sem, ↓reduceIte, Nat.reduceEqDiff, Nat.reduceAdd, Nat.reduceMul, Nat.reduceLeDiff, Nat.reduceLT, Int.reduceToNat, Int.reduceLT, Int.reduceLE, reduceCtorEq, Nat.reduceBEq, fillAll, fillIn, shiftR, shiftV, List.take_succ_cons, List.take_zero, List.drop_succ_cons, List.drop_zero, List.append_nil, Nat.zero_add, subA5, subP4, arrG, plG, runes, noA, if_true, if_false, beq_self_eq_true, bne_self_eq_false]
    refine goP h52t ?_
    simp only [go_sem, ↓reduceIte, Nat.reduceEqDiff, Nat.reduceAdd, Nat.reduceMul, Nat.reduceLeDiff, Nat.reduceLT, Int.reduceToNat, Int.reduceLT, Int.reduceLE, reduceCtorEq, Nat.reduceBEq, fillAll, fillIn, shiftR, shiftV, List.take_succ_cons, List.take_zero, List.drop_succ_cons, List.drop_zero, List.append_nil, Nat.zero_add, subA5, subP4, arrG, plG, runes, noA, if_true, if_false, beq_self_eq_true, bne_self_eq_false]
    refine goR h50t rfl ?_
    simp only [go_sem, ↓reduceIte, Nat.reduceEqDiff, Nat.reduceAdd, Nat.reduceMul, Nat.reduceLeDiff, Nat.reduceLT, Int.reduceToNat, Int.reduceLT, Int.reduceLE, reduceCtorEq, Nat.reduceBEq, fillAll, fillIn, shiftR, shiftV, List.take_succ_cons, List.take_zero, List.drop_succ_cons, List.drop_zero, List.append_nil, Nat.zero_add, subA5, subP4, arrG, plG, runes, noA, if_true, if_false, beq_self_eq_true, bne_self_eq_false]
    refine goR c54_no rfl ?_
    simp only [go_sem, ↓reduceIte, Nat.reduceEqDiff, Nat.reduceAdd, Nat.reduceMul, Nat.reduceLeDiff, Nat.reduceLT, Int.reduceToNat, Int.reduceLT, Int.reduceLE, reduceCtorEq, Nat.reduceBEq, fillAll, fillIn, shiftR, shiftV, List.take_succ_cons, List.take_zero, List.drop_succ_cons, List.drop_zero, List.append_nil, Nat.zero_add, subA5, subP4, arrG, plG, runes, noA, if_true, if_false, beq_self_eq_true, bne_self_eq_false]
    refine goR c54_no rfl ?_
    simp only [go_sem, ↓reduceIte, Nat.reduceEqDiff, Nat.reduceAdd, Nat.reduceMul, Nat.reduceLeDiff, Nat.reduceLT, Int.reduceToNat, Int.reduceLT, Int.reduceLE, reduceCtorEq, Nat.reduceBEq, fillAll, fillIn, shiftR, shiftV, List.take_succ_cons, List.take_zero, List.drop_succ_cons, List.drop_zero, List.append_nil, Nat.zero_add, subA5, subP4, arrG, plG, runes, noA, if_true, if_false, beq_self_eq_true, bne_self_eq_false]
    refine goP h38 ?_
    simp only [go_sem, ↓reduceIte, Nat.reduceEqDiff, Nat.reduceAdd, Nat.reduceMul, Nat.reduceLeDiff, Nat.reduceLT, Int.reduceToNat, Int.reduceLT, Int.reduceLE, reduceCtorEq, Nat.reduceBEq, fillAll, fillIn, shiftR, shiftV, List.take_succ_cons, List.take_zero, List.drop_succ_cons, List.drop_zero, List.append_nil, Nat.zero_add, subA5, subP4, arrG, plG, runes, noA, if_true, if_false, beq_self_eq_true, bne_self_eq_false]
    refine goP h52n ?_
    simp only [go_sem, ↓reduceIte, Nat.reduceEqDiff, Nat.reduceAdd, Nat.reduceMul, Nat.reduceLeDiff, Nat.reduceLT, Int.reduceToNat, Int.reduceLT, Int.reduceLE, reduceCtorEq, Nat.reduceBEq, fillAll, fillIn, shiftR, shiftV, List.take_succ_cons, List.take_zero, List.drop_succ_cons, List.drop_zero, List.append_nil, Nat.zero_add, subA5, subP4, arrG, plG, runes, noA, if_true, if_false, beq_self_eq_true, bne_self_eq_false]
    refine goP h55 ?_
    simp only [go_sem, ↓reduceIte, Nat.reduceEqDiff, Nat.reduceAdd, Nat.reduceMul, Nat.reduceLeDiff, Nat.reduceLT, Int.reduceToNat, Int.reduceLT, Int.reduceLE, reduceCtorEq, Nat.reduceBEq, fillAll, fillIn, shiftR, shiftV, List.take_succ_cons, List.take_zero, List.drop_succ_cons, List.drop_zero, List.append_nil, Nat.zero_add, subA5, subP4, arrG, plG, runes, noA, if_true, if_false, beq_self_eq_true, bne_self_eq_false]
    refine goP h50n ?_
    simp only [go_sem, ↓reduceIte, Nat.reduceEqDiff, Nat.reduceAdd, Nat.reduceMul, Nat.reduceLeDiff, Nat.reduceLT, Int.reduceToNat, Int.reduceLT, Int.reduceLE, reduceCtorEq, Nat.reduceBEq, fillAll, fillIn, shiftR, shiftV, List.take_succ_cons, List.take_zero, List.drop_succ_cons, List.drop_zero, List.append_nil, Nat.zero_add, subA5, subP4, arrG, plG, runes, noA, if_true, if_false, beq_self_eq_true, bne_self_eq_false]
    refine goP h45 ?_
    simp only [go_sem, ↓reduceIte, Nat.reduceEqDiff, Nat.reduceAdd, Nat.reduceMul, Nat.reduceLeDiff, Nat.reduceLT, Int.reduceToNat, Int.reduceLT, Int.reduceLE, reduceCtorEq, Nat.reduceBEq, fillAll, fillIn, shiftR, shiftV, List.take_succ_cons, List.take_zero, List.drop_succ_cons, List.drop_zero, List.append_nil, Nat.zero_add, subA5, subP4, arrG, plG, runes, noA, if_true, if_false, beq_self_eq_true, bne_self_eq_false]
    refine goP h56 ?_
    simp only [go_sem, ↓reduceIte, Nat.reduceEqDiff, Nat.reduceAdd, Nat.reduceMul, Nat.reduceLeDiff, Nat.reduceLT, Int.reduceToNat, Int.reduceLT, Int.reduceLE, reduceCtorEq, Nat.reduceBEq, fillAll, fillIn, shiftR, shiftV, List.take_succ_cons, List.take_zero, List.drop_succ_cons, List.drop_zero, List.append_nil, Nat.zero_add, subA5, subP4, arrG, plG, runes, noA, if_true, if_false, beq_self_eq_true, bne_self_eq_false]
    refine goP h52n ?_
    simp only [go_sem, ↓reduceIte, Nat.reduceEqDiff, Nat.reduceAdd, Nat.reduceMul, Nat.reduceLeDiff, Nat.reduceLT, Int.reduceToNat, Int.reduceLT, Int.reduceLE, reduceCtorEq, Nat.reduceBEq, fillAll, fillIn, shiftR, shiftV, List.take_succ_cons, List.take_zero, List.drop_succ_cons, List.drop_zero, List.append_nil, Nat.zero_add, subA5, subP4, arrG, plG, runes, noA, if_true, if_false, beq_self_eq_true, bne_self_eq_false]
    refine goP h55 ?_
    simp only [go_sem, ↓reduceIte, Nat.reduceEqDiff, Nat.reduceAdd, Nat.reduceMul, Nat.reduceLeDiff, Nat.reduceLT, Int.reduceToNat, Int.reduceLT, Int.reduceLE, reduceCtorEq, Nat.reduceBEq, fillAll, fillIn, shiftR, shiftV, List.take_succ_cons, List.take_zero, List.drop_succ_cons, List.drop_zero, List.append_nil, Nat.zero_add, subA5, subP4, arrG, plG, runes, noA, if_true, if_false, beq_self_eq_true, bne_self_eq_false]
    refine goP h50n ?_
    simp only [go_sem, ↓reduceIte, Nat.reduceEqDiff, Nat.reduceAdd, Nat.reduceMul, Nat.reduceLeDiff, Nat.reduceLT, Int.reduceToNat, Int.reduceLT, Int.reduceLE, reduceCtorEq, Nat.reduceBEq, fillAll, fillIn, shiftR, shiftV, List.take_succ_cons, List.take_zero, List.drop_succ_cons, List.drop_zero, List.append_nil, Nat.zero_add, subA5, subP4, arrG, plG, runes, noA, if_true, if_false, beq_self_eq_true, bne_self_eq_false]
    refine goP h57 ?_
    simp only [go_sem, ↓reduceIte, Nat.reduceEqDiff, Nat.reduceAdd, Nat.reduceMul, Nat.reduceLeDiff, Nat.reduceLT, Int.reduceToNat, Int.reduceLT, Int.reduceLE, reduceCtorEq, Nat.reduceBEq, fillAll, fillIn, shiftR, shiftV, List.take_succ_cons, List.take_zero, List.drop_succ_cons, List.drop_zero, List.append_nil, Nat.zero_add, subA5, subP4, arrG, plG, runes, noA, if_true, if_false, beq_self_eq_true, bne_self_eq_false]
    refine goP h52c ?_
    simp only [go_sem, ↓reduceIte, Nat.reduceEqDiff, Nat.reduceAdd, Nat.reduceMul, Nat.reduceLeDiff, Nat.reduceLT, Int.reduceToNat, Int.reduceLT, Int.reduceLE, reduceCtorEq, Nat.reduceBEq, fillAll, fillIn, shiftR, shiftV, List.take_succ_cons, List.take_zero, List.drop_succ_cons, List.drop_zero, List.append_nil, Nat.zero_add, subA5, subP4, arrG, plG, runes, noA, if_true, if_false, beq_self_eq_true, bne_self_eq_false]
    refine goR h50c rfl ?_
    simp only [go_sem, ↓reduceIte, Nat.reduceEqDiff, Nat.reduceAdd, Nat.reduceMul, Nat.reduceLeDiff, Nat.reduceLT, Int.reduceToNat, Int.reduceLT, Int.reduceLE, reduceCtorEq, Nat.reduceBEq, fillAll, fillIn, shiftR, shiftV, List.take_succ_cons, List.take_zero, List.drop_succ_cons, List.drop_zero, List.append_nil, Nat.zero_add, subA5, subP4, arrG, plG, runes, noA, if_true, if_false, beq_self_eq_true, bne_self_eq_false]
    refine goP h58t ?_
    simp only [go_sem, ↓reduceIte, Nat.reduceEqDiff, Nat.reduceAdd, Nat.reduceMul, Nat.reduceLeDiff, Nat.reduceLT, Int.reduceToNat, Int.reduceLT, Int.reduceLE, reduceCtorEq, Nat.reduceBEq, fillAll, fillIn, shiftR, shiftV, List.take_succ_cons, List.take_zero, List.drop_succ_cons, List.drop_zero, List.append_nil, Nat.zero_add, subA5, subP4, arrG, plG, runes, noA, if_true, if_false, beq_self_eq_true, bne_self_eq_false]
    refine goP h52u ?_
    simp only [go_sem, ↓reduceIte, Nat.reduceEqDiff, Nat.reduceAdd, Nat.reduceMul, Nat.reduceLeDiff, Nat.reduceLT, Int.reduceToNat, Int.reduceLT, Int.reduceLE, reduceCtorEq, Nat.reduceBEq, fillAll, fillIn, shiftR, shiftV, List.take_succ_cons, List.take_zero, List.drop_succ_cons, List.drop_zero, List.append_nil, Nat.zero_add, subA5, subP4, arrG, plG, runes, noA, if_true, if_false, beq_self_eq_true, bne_self_eq_false]
    refine goF h49e ?_
    simp only [go_sem, ↓reduceIte, Nat.reduceEqDiff, Nat.reduceAdd, Nat.reduceMul, Nat.reduceLeDiff, Nat.reduceLT, Int.reduceToNat, Int.reduceLT, Int.reduceLE, reduceCtorEq, Nat.reduceBEq, fillAll, fillIn, shiftR, shiftV, List.take_succ_cons, List.take_zero, List.drop_succ_cons, List.drop_zero, List.append_nil, Nat.zero_add, subA5, subP4, arrG, plG, runes, noA, if_true, if_false, beq_self_eq_true, bne_self_eq_false]
    refine goP h50u ?_
    simp only [go_sem, ↓reduceIte, Nat.reduceEqDiff, Nat.reduceAdd, Nat.reduceMul, Nat.reduceLeDiff, Nat.reduceLT, Int.reduceToNat, Int.reduceLT, Int.reduceLE, reduceCtorEq, Nat.reduceBEq, fillAll, fillIn, shiftR, shiftV, List.take_succ_cons, List.take_zero, List.drop_succ_cons, List.drop_zero, List.append_nil, Nat.zero_add, subA5, subP4, arrG, plG, runes, noA, if_true, if_false, beq_self_eq_true, bne_self_eq_false]
    refine goP h58f ?_
    simp only [go_sem, ↓reduceIte, Nat.reduceEqDiff, Nat.reduceAdd, Nat.reduceMul, Nat.reduceLeDiff, Nat.reduceLT, Int.reduceToNat, Int.reduceLT, Int.reduceLE, reduceCtorEq, Nat.reduceBEq, fillAll, fillIn, shiftR, shiftV, List.take_succ_cons, List.take_zero, List.drop_succ_cons, List.drop_zero, List.append_nil, Nat.zero_add, subA5, subP4, arrG, plG, runes, noA, if_true, if_false, beq_self_eq_true, bne_self_eq_false]
    refine goP h52v ?_
    simp only [go_sem, ↓reduceIte, Nat.reduceEqDiff, Nat.reduceAdd, Nat.reduceMul, Nat.reduceLeDiff, Nat.reduceLT, Int.reduceToNat, Int.reduceLT, Int.reduceLE, reduceCtorEq, Nat.reduceBEq, fillAll, fillIn, shiftR, shiftV, List.take_succ_cons, List.take_zero, List.drop_succ_cons, List.drop_zero, List.append_nil, Nat.zero_add, subA5, subP4, arrG, plG, runes, noA, if_true, if_false, beq_self_eq_true, bne_self_eq_false]
    refine goF h48e ?_
    simp only [go_sem, ↓reduceIte, Nat.reduceEqDiff, Nat.reduceAdd, Nat.reduceMul, Nat.reduceLeDiff, Nat.reduceLT, Int.reduceToNat, Int.reduceLT, Int.reduceLE, reduceCtorEq, Nat.reduceBEq, fillAll, fillIn, shiftR, shiftV, List.take_succ_cons, List.take_zero, List.drop_succ_cons, List.drop_zero, List.append_nil, Nat.zero_add, subA5, subP4, arrG, plG, runes, noA, if_true, if_false, beq_self_eq_true, bne_self_eq_false]
    refine goP h50v ?_
    simp only [go_sem, ↓reduceIte, Nat.reduceEqDiff, Nat.reduceAdd, Nat.reduceMul, Nat.reduceLeDiff, Nat.reduceLT, Int.reduceToNat, Int.reduceLT, Int.reduceLE, reduceCtorEq, Nat.reduceBEq, fillAll, fillIn, shiftR, shiftV, List.take_succ_cons, List.take_zero, List.drop_succ_cons, List.drop_zero, List.append_nil, Nat.zero_add, subA5, subP4, arrG, plG, runes, noA, if_true, if_false, beq_self_eq_true, bne_self_eq_false]
    refine goP c34_ok ?_
    simp only [go_sem, ↓reduceIte, Nat.reduceEqDiff, Nat.reduceAdd, Nat.reduceMul, Nat.reduceLeDiff, Nat.reduceLT, Int.reduceToNat, Int.reduceLT, Int.reduceLE, reduceCtorEq, Nat.reduceBEq]
    simp only [i9, Out, resAll, geto, ints, List.getElem?_cons_zero, List.getElem?_cons_succ, resOf, outOf, snap, snapL, ev, getE, List.mapM_cons, List.mapM_nil, Option.bind_some, Option.pure_def, Option.bind_eq_bind, Option.map_some, reduceIte, Nat.reduceEqDiff, true_and, and_true]
  | some m =>
    by_cases hm1 : m = (l.length : Int)
    · subst hm1
      have hq1 : ((l.length : Int) == (l.length : Int)) = true := beq_self_eq_true _
      by_cases hm2 : (l.length : Int) = (t.length : Int)
      · have hq2 : ((l.length : Int) == (t.length : Int)) = true := by simpa using hm2
        have hf1 : fits s l.length = true := by simp [fits, hc]
        have hf2 : fits s t.length = true := by simp [fits, hc, ← hm2]
        rw [hf1] at h46
        rw [hf2] at h47
        rw [hc] at h17
        simp only [b9_0, k9_0, hlt', List.take_length, go_sem, ↓reduceIte, Nat.reduceEqDiff, Nat.reduceAdd, Nat.reduceMul, Nat.reduceLeDiff, Nat.reduceLT, Int.reduceToNat, Int.reduceLT, Int.reduceLE, reduceCtorEq, Nat.reduceBEq, fillAll, fillIn, shiftR, shiftV, List.take_succ_cons, List.take_zero, List.drop_succ_cons, List.drop_zero, List.append_nil, Nat.zero_add, subA5, subP4, arrG, plG, runes, noA, if_true, if_false, beq_self_eq_true, bne_self_eq_false, hq1, hq2]
        refine goF h46 ?_
        simp only [go_sem, ↓reduceIte, Nat.reduceEqDiff, Nat.reduceAdd, Nat.reduceMul, Nat.reduceLeDiff, Nat.reduceLT, Int.reduceToNat, Int.reduceLT, Int.reduceLE, reduceCtorEq, Nat.reduceBEq, fillAll, fillIn, shiftR, shiftV, List.take_succ_cons, List.take_zero, List.drop_succ_cons, List.drop_zero, List.append_nil, Nat.zero_add, subA5, subP4, arrG, plG, runes, noA, if_true, if_false, beq_self_eq_true, bne_self_eq_false, hq1, hq2]
        refine goP h47 ?_
        simp only [go_sem, ↓reduceIte, Nat.reduceEqDiff, Nat.reduceAdd, Nat.reduceMul, Nat.reduceLeDiff, Nat.reduceLT, Int.reduceToNat, Int.reduceLT, Int.reduceLE, reduceCtorEq, Nat.reduceBEq, fillAll, fillIn, shiftR, shiftV, List.take_succ_cons, List.take_zero, List.drop_succ_cons, List.drop_zero, List.append_nil, Nat.zero_add, subA5, subP4, arrG, plG, runes, noA, if_true, if_false, beq_self_eq_true, bne_self_eq_false, hq1, hq2]
        refine goP h17 ?_
        simp only [optP, go_sem, ↓reduceIte, Nat.reduceEqDiff, Nat.reduceAdd, Nat.reduceMul, Nat.reduceLeDiff, Nat.reduceLT, Int.reduceToNat, Int.reduceLT, Int.reduceLE, reduceCtorEq, Nat.reduceBEq, fillAll, fillIn, shiftR, shiftV, List.take_succ_cons, List.take_zero, List.drop_succ_cons, List.drop_zero, List.append_nil, Nat.zero_add, subA5, subP4, arrG, plG, runes, noA, if_true, if_false, beq_self_eq_true, bne_self_eq_false, hq1, hq2]
        refine goP h48 ?_
        simp only [go_sem, ↓reduceIte, Nat.reduceEqDiff, Nat.reduceAdd, Nat.reduceMul, Nat.reduceLeDiff, Nat.reduceLT, Int.reduceToNat, Int.reduceLT, Int.reduceLE, reduceCtorEq, Nat.reduceBEq, fillAll, fillIn, shiftR, shiftV, List.take_succ_cons, List.take_zero, List.drop_succ_cons, List.drop_zero, List.append_nil, Nat.zero_add, subA5, subP4, arrG, plG, runes, noA, if_true, if_false, beq_self_eq_true, bne_self_eq_false, hq1, hq2]
        refine goP h49 ?_
        simp only [go_sem, ↓reduceIte, Nat.reduceEqDiff, Nat.reduceAdd, Nat.reduceMul, Nat.reduceLeDiff, Nat.reduceLT, Int.reduceToNat, Int.reduceLT, Int.reduceLE, reduceCtorEq, Nat.reduceBEq, fillAll, fillIn, shiftR, shiftV, List.take_succ_cons, List.take_zero, List.drop_succ_cons, List.drop_zero, List.append_nil, Nat.zero_add, subA5, subP4, arrG, plG, runes, noA, if_true, if_false, beq_self_eq_true, bne_self_eq_false, hq1, hq2]
        refine goP h51 ?_
        simp only [go_sem, ↓reduceIte, Nat.reduceEqDiff, Nat.reduceAdd, Nat.reduceMul, Nat.reduceLeDiff, Nat.reduceLT, Int.reduceToNat, Int.reduceLT, Int.reduceLE, reduceCtorEq, Nat.reduceBEq, fillAll, fillIn, shiftR, shiftV, List.take_succ_cons, List.take_zero, List.drop_succ_cons, List.drop_zero, List.append_nil, Nat.zero_add, subA5, subP4, arrG, plG, runes, noA, if_true, if_false, beq_self_eq_true, bne_self_eq_false, hq1, hq2]
        refine goP h52l ?_
        simp only [go_sem, ↓reduceIte, Nat.reduceEqDiff, Nat.reduceAdd, Nat.reduceMul, Nat.reduceLeDiff, Nat.reduceLT, Int.reduceToNat, Int.reduceLT, Int.reduceLE, reduceCtorEq, Nat.reduceBEq, fillAll, fillIn, shiftR, shiftV, List.take_succ_cons, List.take_zero, List.drop_succ_cons, List.drop_zero, List.append_nil, Nat.zero_add, subA5, subP4, arrG, plG, runes, noA, if_true, if_false, beq_self_eq_true, bne_self_eq_false, hq1, hq2]
        refine goR h50l rfl ?_
        simp only [go_sem, ↓reduceIte, Nat.reduceEqDiff, Nat.reduceAdd, Nat.reduceMul, Nat.reduceLeDiff, Nat.reduceLT, Int.reduceToNat, Int.reduceLT, Int.reduceLE, reduceCtorEq, Nat.reduceBEq, fillAll, fillIn, shiftR, shiftV, List.take_succ_cons, List.take_zero, List.drop_succ_cons, List.drop_zero, List.append_nil, Nat.zero_add, subA5, subP4, arrG, plG, runes, noA, if_true, if_false, beq_self_eq_true, bne_self_eq_false, hq1, hq2]
        refine goP h53 ?_
        simp only [go_sem, ↓reduceIte, Nat.reduceEqDiff, Nat.reduceAdd, Nat.reduceMul, Nat.reduceLeDiff, Nat.reduceLT, Int.reduceToNat, Int.reduceLT, Int.reduceLE, reduceCtorEq, Nat.reduceBEq, fillAll, fillIn, shiftR, shiftV, List.take_succ_cons, List.take_zero, List.drop_succ_cons, List.drop_zero, List.append_nil, Nat.zero_add, subA5, subP4, arrG, plG, runes, noA, if_true, if_false, beq_self_eq_true, bne_self_eq_false, hq1, hq2]
        refine goP h52t ?_
        simp only [go_sem, ↓reduceIte, Nat.reduceEqDiff, Nat.reduceAdd, Nat.reduceMul, Nat.reduceLeDiff, Nat.reduceLT, Int.reduceToNat, Int.reduceLT, Int.reduceLE, reduceCtorEq, Nat.reduceBEq, fillAll, fillIn, shiftR, shiftV, List.take_succ_cons, List.take_zero, List.drop_succ_cons, List.drop_zero, List.append_nil, Nat.zero_add, subA5, subP4, arrG, plG, runes, noA, if_true, if_false, beq_self_eq_true, bne_self_eq_false, hq1, hq2]
        refine goR h50t rfl ?_
        simp only [go_sem, ↓reduceIte, Nat.reduceEqDiff, Nat.reduceAdd, Nat.reduceMul, Nat.reduceLeDiff, Nat.reduceLT, Int.reduceToNat, Int.reduceLT, Int.reduceLE, reduceCtorEq, Nat.reduceBEq, fillAll, fillIn, shiftR, shiftV, List.take_succ_cons, List.take_zero, List.drop_succ_cons, List.drop_zero, List.append_nil, Nat.zero_add, subA5, subP4, arrG, plG, runes, noA, if_true, if_false, beq_self_eq_true, bne_self_eq_false, hq1, hq2]
        refine goF h52a ?_
        simp only [go_sem, ↓reduceIte, Nat.reduceEqDiff, Nat.reduceAdd, Nat.reduceMul, Nat.reduceLeDiff, Nat.reduceLT, Int.reduceToNat, Int.reduceLT, Int.reduceLE, reduceCtorEq, Nat.reduceBEq, fillAll, fillIn, shiftR, shiftV, List.take_succ_cons, List.take_zero, List.drop_succ_cons, List.drop_zero, List.append_nil, Nat.zero_add, subA5, subP4, arrG, plG, runes, noA, if_true, if_false, beq_self_eq_true, bne_self_eq_false, hq1, hq2]
        refine goR h50a rfl ?_
        simp only [go_sem, ↓reduceIte, Nat.reduceEqDiff, Nat.reduceAdd, Nat.reduceMul, Nat.reduceLeDiff, Nat.reduceLT, Int.reduceToNat, Int.reduceLT, Int.reduceLE, reduceCtorEq, Nat.reduceBEq, fillAll, fillIn, shiftR, shiftV, List.take_succ_cons, List.take_zero, List.drop_succ_cons, List.drop_zero, List.append_nil, Nat.zero_add, subA5, subP4, arrG, plG, runes, noA, if_true, if_false, beq_self_eq_true, bne_self_eq_false, hq1, hq2]
        refine goF h52b ?_
        simp only [go_sem, ↓reduceIte, Nat.reduceEqDiff, Nat.reduceAdd, Nat.reduceMul, Nat.reduceLeDiff, Nat.reduceLT, Int.reduceToNat, Int.reduceLT, Int.reduceLE, reduceCtorEq, Nat.reduceBEq, fillAll, fillIn, shiftR, shiftV, List.take_succ_cons, List.take_zero, List.drop_succ_cons, List.drop_zero, List.append_nil, Nat.zero_add, subA5, subP4, arrG, plG, runes, noA, if_true, if_false, beq_self_eq_true, bne_self_eq_false, hq1, hq2]
        refine goR h50b rfl ?_
        simp only [go_sem, ↓reduceIte, Nat.reduceEqDiff, Nat.reduceAdd, Nat.reduceMul, Nat.reduceLeDiff, Nat.reduceLT, Int.reduceToNat, Int.reduceLT, Int.reduceLE, reduceCtorEq, Nat.reduceBEq, fillAll, fillIn, shiftR, shiftV, List.take_succ_cons, List.take_zero, List.drop_succ_cons, List.drop_zero, List.append_nil, Nat.zero_add, subA5, subP4, arrG, plG, runes, noA, if_true, if_false, beq_self_eq_true, bne_self_eq_false, hq1, hq2]
        refine goP h38 ?_
        simp only [go_sem, ↓reduceIte, Nat.reduceEqDiff, Nat.reduceAdd, Nat.reduceMul, Nat.reduceLeDiff, Nat.reduceLT, Int.reduceToNat, Int.reduceLT, Int.reduceLE, reduceCtorEq, Nat.reduceBEq, fillAll, fillIn, shiftR, shiftV, List.take_succ_cons, List.take_zero, List.drop_succ_cons, List.drop_zero, List.append_nil, Nat.zero_add, subA5, subP4, arrG, plG, runes, noA, if_true, if_false, beq_self_eq_true, bne_self_eq_false, hq1, hq2]
        refine goP h52n ?_
        simp only [go_sem, ↓reduceIte, Nat.reduceEqDiff, Nat.reduceAdd, Nat.reduceMul, Nat.reduceLeDiff, Nat.reduceLT, Int.reduceToNat, Int.reduceLT, Int.reduceLE, reduceCtorEq, Nat.reduceBEq, fillAll, fillIn, shiftR, shiftV, List.take_succ_cons, List.take_zero, List.drop_succ_cons, List.drop_zero, List.append_nil, Nat.zero_add, subA5, subP4, arrG, plG, runes, noA, if_true, if_false, beq_self_eq_true, bne_self_eq_false, hq1, hq2]
        refine goP h55 ?_
        simp only [go_sem, ↓reduceIte, Nat.reduceEqDiff, Nat.reduceAdd, Nat.reduceMul, Nat.reduceLeDiff, Nat.reduceLT, Int.reduceToNat, Int.reduceLT, Int.reduceLE, reduceCtorEq, Nat.reduceBEq, fillAll, fillIn, shiftR, shiftV, List.take_succ_cons, List.take_zero, List.drop_succ_cons, List.drop_zero, List.append_nil, Nat.zero_add, subA5, subP4, arrG, plG, runes, noA, if_true, if_false, beq_self_eq_true, bne_self_eq_false, hq1, hq2]
        refine goP h50n ?_
        simp only [go_sem, ↓reduceIte, Nat.reduceEqDiff, Nat.reduceAdd, Nat.reduceMul, Nat.reduceLeDiff, Nat.reduceLT, Int.reduceToNat, Int.reduceLT, Int.reduceLE, reduceCtorEq, Nat.reduceBEq, fillAll, fillIn, shiftR, shiftV, List.take_succ_cons, List.take_zero, List.drop_succ_cons, List.drop_zero, List.append_nil, Nat.zero_add, subA5, subP4, arrG, plG, runes, noA, if_true, if_false, beq_self_eq_true, bne_self_eq_false, hq1, hq2]
        refine goP h45 ?_
        simp only [go_sem, ↓reduceIte, Nat.reduceEqDiff, Nat.reduceAdd, Nat.reduceMul, Nat.reduceLeDiff, Nat.reduceLT, Int.reduceToNat, Int.reduceLT, Int.reduceLE, reduceCtorEq, Nat.reduceBEq, fillAll, fillIn, shiftR, shiftV, List.take_succ_cons, List.take_zero, List.drop_succ_cons, List.drop_zero, List.append_nil, Nat.zero_add, subA5, subP4, arrG, plG, runes, noA, if_true, if_false, beq_self_eq_true, bne_self_eq_false, hq1, hq2]
        refine goP h56 ?_
        simp only [go_sem, ↓reduceIte, Nat.reduceEqDiff, Nat.reduceAdd, Nat.reduceMul, Nat.reduceLeDiff, Nat.reduceLT, Int.reduceToNat, Int.reduceLT, Int.reduceLE, reduceCtorEq, Nat.reduceBEq, fillAll, fillIn, shiftR, shiftV, List.take_succ_cons, List.take_zero, List.drop_succ_cons, List.drop_zero, List.append_nil, Nat.zero_add, subA5, subP4, arrG, plG, runes, noA, if_true, if_false, beq_self_eq_true, bne_self_eq_false, hq1, hq2]
        refine goP h52n ?_
        simp only [go_sem, ↓reduceIte, Nat.reduceEqDiff, Nat.reduceAdd, Nat.reduceMul, Nat.reduceLeDiff, Nat.reduceLT, Int.reduceToNat, Int.reduceLT, Int.reduceLE, reduceCtorEq, Nat.reduceBEq, fillAll, fillIn, shiftR, shiftV, List.take_succ_cons, List.take_zero, List.drop_succ_cons, List.drop_zero, List.append_nil, Nat.zero_add, subA5, subP4, arrG, plG, runes, noA, if_true, if_false, beq_self_eq_true, bne_self_eq_false, hq1, hq2]
        refine goP h55 ?_
        simp only [go_sem, ↓reduceIte, Nat.reduceEqDiff, Nat.reduceAdd, Nat.reduceMul, Nat.reduceLeDiff, Nat.reduceLT, Int.reduceToNat, Int.reduceLT, Int.reduceLE, reduceCtorEq, Nat.reduceBEq, fillAll, fillIn, shiftR, shiftV, List.take_succ_cons, List.take_zero, List.drop_succ_cons, List.drop_zero, List.append_nil, Nat.zero_add, subA5, subP4, arrG, plG, runes, noA, if_true, if_false, beq_self_eq_true, bne_self_eq_false, hq1, hq2]
        refine goP h50n ?_
        simp only [go_sem, ↓reduceIte, Nat.reduceEqDiff, Nat.reduceAdd, Nat.reduceMul, Nat.reduceLeDiff, Nat.reduceLT, Int.reduceToNat, Int.reduceLT, Int.reduceLE, reduceCtorEq, Nat.reduceBEq, fillAll, fillIn, shiftR, shiftV, List.take_succ_cons, List.take_zero, List.drop_succ_cons, List.drop_zero, List.append_nil, Nat.zero_add, subA5, subP4, arrG, plG, runes, noA, if_true, if_false, beq_self_eq_true, bne_self_eq_false, hq1, hq2]
        refine goP h57 ?_
        simp only [go_sem, ↓reduceIte, Nat.reduceEqDiff, Nat.reduceAdd, Nat.reduceMul, Nat.reduceLeDiff, Nat.reduceLT, Int.reduceToNat, Int.reduceLT, Int.reduceLE, reduceCtorEq, Nat.reduceBEq, fillAll, fillIn, shiftR, shiftV, List.take_succ_cons, List.take_zero, List.drop_succ_cons, List.drop_zero, List.append_nil, Nat.zero_add, subA5, subP4, arrG, plG, runes, noA, if_true, if_false, beq_self_eq_true, bne_self_eq_false, hq1, hq2]
        refine goP h52c ?_
        simp only [go_sem, ↓reduceIte, Nat.reduceEqDiff, Nat.reduceAdd, Nat.reduceMul, Nat.reduceLeDiff, Nat.reduceLT, Int.reduceToNat, Int.reduceLT, Int.reduceLE, reduceCtorEq, Nat.reduceBEq, fillAll, fillIn, shiftR, shiftV, List.take_succ_cons, List.take_zero, List.drop_succ_cons, List.drop_zero, List.append_nil, Nat.zero_add, subA5, subP4, arrG, plG, runes, noA, if_true, if_false, beq_self_eq_true, bne_self_eq_false, hq1, hq2]
        refine goR h50c rfl ?_
        simp only [go_sem, ↓reduceIte, Nat.reduceEqDiff, Nat.reduceAdd, Nat.reduceMul, Nat.reduceLeDiff, Nat.reduceLT, Int.reduceToNat, Int.reduceLT, Int.reduceLE, reduceCtorEq, Nat.reduceBEq, fillAll, fillIn, shiftR, shiftV, List.take_succ_cons, List.take_zero, List.drop_succ_cons, List.drop_zero, List.append_nil, Nat.zero_add, subA5, subP4, arrG, plG, runes, noA, if_true, if_false, beq_self_eq_true, bne_self_eq_false, hq1, hq2]
        refine goP h58t ?_
        simp only [go_sem, ↓reduceIte, Nat.reduceEqDiff, Nat.reduceAdd, Nat.reduceMul, Nat.reduceLeDiff, Nat.reduceLT, Int.reduceToNat, Int.reduceLT, Int.reduceLE, reduceCtorEq, Nat.reduceBEq, fillAll, fillIn, shiftR, shiftV, List.take_succ_cons, List.take_zero, List.drop_succ_cons, List.drop_zero, List.append_nil, Nat.zero_add, subA5, subP4, arrG, plG, runes, noA, if_true, if_false, beq_self_eq_true, bne_self_eq_false, hq1, hq2]
        refine goP h52u ?_
        simp only [go_sem, ↓reduceIte, Nat.reduceEqDiff, Nat.reduceAdd, Nat.reduceMul, Nat.reduceLeDiff, Nat.reduceLT, Int.reduceToNat, Int.reduceLT, Int.reduceLE, reduceCtorEq, Nat.reduceBEq, fillAll, fillIn, shiftR, shiftV, List.take_succ_cons, List.take_zero, List.drop_succ_cons, List.drop_zero, List.append_nil, Nat.zero_add, subA5, subP4, arrG, plG, runes, noA, if_true, if_false, beq_self_eq_true, bne_self_eq_false, hq1, hq2]
        refine goF h49e ?_
        simp only [go_sem, ↓reduceIte, Nat.reduceEqDiff, Nat.reduceAdd, Nat.reduceMul, Nat.reduceLeDiff, Nat.reduceLT, Int.reduceToNat, Int.reduceLT, Int.reduceLE, reduceCtorEq, Nat.reduceBEq, fillAll, fillIn, shiftR, shiftV, List.take_succ_cons, List.take_zero, List.drop_succ_cons, List.drop_zero, List.append_nil, Nat.zero_add, subA5, subP4, arrG, plG, runes, noA, if_true, if_false, beq_self_eq_true, bne_self_eq_false, hq1, hq2]
        refine goP h50u ?_
        simp only [go_sem, ↓reduceIte, Nat.reduceEqDiff, Nat.reduceAdd, Nat.reduceMul, Nat.reduceLeDiff, Nat.reduceLT, Int.reduceToNat, Int.reduceLT, Int.reduceLE, reduceCtorEq, Nat.reduceBEq, fillAll, fillIn, shiftR, shiftV, List.take_succ_cons, List.take_zero, List.drop_succ_cons, List.drop_zero, List.append_nil, Nat.zero_add, subA5, subP4, arrG, plG, runes, noA, if_true, if_false, beq_self_eq_true, bne_self_eq_false, hq1, hq2]
        refine goP h58f ?_
        simp only [go_sem, ↓reduceIte, Nat.reduceEqDiff, Nat.reduceAdd, Nat.reduceMul, Nat.reduceLeDiff, Nat.reduceLT, Int.reduceToNat, Int.reduceLT, Int.reduceLE, reduceCtorEq, Nat.reduceBEq, fillAll, fillIn, shiftR, shiftV, List.take_succ_cons, List.take_zero, List.drop_succ_cons, List.drop_zero, List.append_nil, Nat.zero_add, subA5, subP4, arrG, plG, runes, noA, if_true, if_false, beq_self_eq_true, bne_self_eq_false, hq1, hq2]
        refine goP h52v ?_
        simp only [go_sem, ↓reduceIte, Nat.reduceEqDiff, Nat.reduceAdd, Nat.reduceMul, Nat.reduceLeDiff, Nat.reduceLT, Int.reduceToNat, Int.reduceLT, Int.reduceLE, reduceCtorEq, Nat.reduceBEq, fillAll, fillIn, shiftR, shiftV, List.take_succ_cons, List.take_zero, List.drop_succ_cons, List.drop_zero, List.append_nil, Nat.zero_add, subA5, subP4, arrG, plG, runes, noA, if_true, if_false, beq_self_eq_true, bne_self_eq_false, hq1, hq2]
        refine goF h48e ?_
        simp only [go_sem, ↓reduceIte, Nat.reduceEqDiff, Nat.reduceAdd, Nat.reduceMul, Nat.reduceLeDiff, Nat.reduceLT, Int.reduceToNat, Int.reduceLT, Int.reduceLE, reduceCtorEq, Nat.reduceBEq, fillAll, fillIn, shiftR, shiftV, List.take_succ_cons, List.take_zero, List.drop_succ_cons, List.drop_zero, List.append_nil, Nat.zero_add, subA5, subP4, arrG, plG, runes, noA, if_true, if_false, beq_self_eq_true, bne_self_eq_false, hq1, hq2]
        refine goP h50v ?_
        simp only [go_sem, ↓reduceIte, Nat.reduceEqDiff, Nat.reduceAdd, Nat.reduceMul, Nat.reduceLeDiff, Nat.reduceLT, Int.reduceToNat, Int.reduceLT, Int.reduceLE, reduceCtorEq, Nat.reduceBEq, fillAll, fillIn, shiftR, shiftV, List.take_succ_cons, List.take_zero, List.drop_succ_cons, List.drop_zero, List.append_nil, Nat.zero_add, subA5, subP4, arrG, plG, runes, noA, if_true, if_false, beq_self_eq_true, bne_self_eq_false, hq1, hq2]
        refine goP c34_ok ?_
        simp only [go_sem, ↓reduceIte, Nat.reduceEqDiff, Nat.reduceAdd, Nat.reduceMul, Nat.reduceLeDiff, Nat.reduceLT, Int.reduceToNat, Int.reduceLT, Int.reduceLE, reduceCtorEq, Nat.reduceBEq]
        simp only [i9, Out, resAll, geto, ints, List.getElem?_cons_zero, List.getElem?_cons_succ, resOf, outOf, snap, snapL, ev, getE, List.mapM_cons, List.mapM_nil, Option.bind_some, Option.pure_def, Option.bind_eq_bind, Option.map_some, reduceIte, Nat.reduceEqDiff, true_and, and_true]
      · have hq2 : ((l.length : Int) == (t.length : Int)) = false := by simpa using hm2
        have hf1 : fits s l.length = true := by simp [fits, hc]
        have hf2 : fits s t.length = false := by simp [fits, hc, hm2]
        rw [hf1] at h46
        rw [hf2] at h47
        rw [hc] at h17
        simp only [b9_0, k9_0, hlt', List.take_length, go_sem, ↓reduceIte, Nat.reduceEqDiff, Nat.reduceAdd, Nat.reduceMul, Nat.reduceLeDiff, Nat.reduceLT, Int.reduceToNat, Int.reduceLT, Int.reduceLE, reduceCtorEq, Nat.reduceBEq, fillAll, fillIn, shiftR, shiftV, List.take_succ_cons, List.take_zero, List.drop_succ_cons, List.drop_zero, List.append_nil, Nat.zero_add, subA5, subP4, arrG, plG, runes, noA, if_true, if_false, beq_self_eq_true, bne_self_eq_false, hq1, hq2]
        refine goF h46 ?_
        simp only [go_sem, ↓reduceIte, Nat.reduceEqDiff, Nat.reduceAdd, Nat.reduceMul, Nat.reduceLeDiff, Nat.reduceLT, Int.reduceToNat, Int.reduceLT, Int.reduceLE, reduceCtorEq, Nat.reduceBEq, fillAll, fillIn, shiftR, shiftV, List.take_succ_cons, List.take_zero, List.drop_succ_cons, List.drop_zero, List.append_nil, Nat.zero_add, subA5, subP4, arrG, plG, runes, noA, if_true, if_false, beq_self_eq_true, bne_self_eq_false, hq1, hq2]
        refine goP h47 ?_
        simp only [go_sem, ↓reduceIte, Nat.reduceEqDiff, Nat.reduceAdd, Nat.reduceMul, Nat.reduceLeDiff, Nat.reduceLT, Int.reduceToNat, Int.reduceLT, Int.reduceLE, reduceCtorEq, Nat.reduceBEq, fillAll, fillIn, shiftR, shiftV, List.take_succ_cons, List.take_zero, List.drop_succ_cons, List.drop_zero, List.append_nil, Nat.zero_add, subA5, subP4, arrG, plG, runes, noA, if_true, if_false, beq_self_eq_true, bne_self_eq_false, hq1, hq2]
        refine goP h17 ?_
        simp only [optP, go_sem, ↓reduceIte, Nat.reduceEqDiff, Nat.reduceAdd, Nat.reduceMul, Nat.reduceLeDiff, Nat.reduceLT, Int.reduceToNat, Int.reduceLT, Int.reduceLE, reduceCtorEq, Nat.reduceBEq, fillAll, fillIn, shiftR, shiftV, List.take_succ_cons, List.take_zero, List.drop_succ_cons, List.drop_zero, List.append_nil, Nat.zero_add, subA5, subP4, arrG, plG, runes, noA, if_true, if_false, beq_self_eq_true, bne_self_eq_false, hq1, hq2]
        refine goP h48 ?_
        simp only [go_sem, ↓reduceIte, Nat.reduceEqDiff, Nat.reduceAdd, Nat.reduceMul, Nat.reduceLeDiff, Nat.reduceLT, Int.reduceToNat, Int.reduceLT, Int.reduceLE, reduceCtorEq, Nat.reduceBEq, fillAll, fillIn, shiftR, shiftV, List.take_succ_cons, List.take_zero, List.drop_succ_cons, List.drop_zero, List.append_nil, Nat.zero_add, subA5, subP4, arrG, plG, runes, noA, if_true, if_false, beq_self_eq_true, bne_self_eq_false, hq1, hq2]
        refine goP h49 ?_
        simp only [go_sem, ↓reduceIte, Nat.reduceEqDiff, Nat.reduceAdd, Nat.reduceMul, Nat.reduceLeDiff, Nat.reduceLT, Int.reduceToNat, Int.reduceLT, Int.reduceLE, reduceCtorEq, Nat.reduceBEq, fillAll, fillIn, shiftR, shiftV, List.take_succ_cons, List.take_zero, List.drop_succ_cons, List.drop_zero, List.append_nil, Nat.zero_add, subA5, subP4, arrG, plG, runes, noA, if_true, if_false, beq_self_eq_true, bne_self_eq_false, hq1, hq2]
        refine goP h51 ?_
        simp only [go_sem, ↓reduceIte, Nat.reduceEqDiff, Nat.reduceAdd, Nat.reduceMul, Nat.reduceLeDiff, Nat.reduceLT, Int.reduceToNat, Int.reduceLT, Int.reduceLE, reduceCtorEq, Nat.reduceBEq, fillAll, fillIn, shiftR, shiftV, List.take_succ_cons, List.take_zero, List.drop_succ_cons, List.drop_zero, List.append_nil, Nat.zero_add, subA5, subP4, arrG, plG, runes, noA, if_true, if_false, beq_self_eq_true, bne_self_eq_false, hq1, hq2]
        refine goP h52l ?_
        simp only [go_sem, ↓reduceIte, Nat.reduceEqDiff, Nat.reduceAdd, Nat.reduceMul, Nat.reduceLeDiff, Nat.reduceLT, Int.reduceToNat, Int.reduceLT, Int.reduceLE, reduceCtorEq, Nat.reduceBEq, fillAll, fillIn, shiftR, shiftV, List.take_succ_cons, List.take_zero, List.drop_succ_cons, List.drop_zero, List.append_nil, Nat.zero_add, subA5, subP4, arrG, plG, runes, noA, if_true, if_false, beq_self_eq_true, bne_self_eq_false, hq1, hq2]
        refine goR h50l rfl ?_
        simp only [go_sem, ↓reduceIte, Nat.reduceEqDiff, Nat.reduceAdd, Nat.reduceMul, Nat.reduceLeDiff, Nat.reduceLT, Int.reduceToNat, Int.reduceLT, Int.reduceLE, reduceCtorEq, Nat.reduceBEq, fillAll, fillIn, shiftR, shiftV, List.take_succ_cons, List.take_zero, List.drop_succ_cons, List.drop_zero, List.append_nil, Nat.zero_add, subA5, subP4, arrG, plG, runes, noA, if_true, if_false, beq_self_eq_true, bne_self_eq_false, hq1, hq2]
        refine goP h53 ?_
        simp only [go_sem, ↓reduceIte, Nat.reduceEqDiff, Nat.reduceAdd, Nat.reduceMul, Nat.reduceLeDiff, Nat.reduceLT, Int.reduceToNat, Int.reduceLT, Int.reduceLE, reduceCtorEq, Nat.reduceBEq, fillAll, fillIn, shiftR, shiftV, List.take_succ_cons, List.take_zero, List.drop_succ_cons, List.drop_zero, List.append_nil, Nat.zero_add, subA5, subP4, arrG, plG, runes, noA, if_true, if_false, beq_self_eq_true, bne_self_eq_false, hq1, hq2]
        refine goP h52t ?_
        simp only [go_sem, ↓reduceIte, Nat.reduceEqDiff, Nat.reduceAdd, Nat.reduceMul, Nat.reduceLeDiff, Nat.reduceLT, Int.reduceToNat, Int.reduceLT, Int.reduceLE, reduceCtorEq, Nat.reduceBEq, fillAll, fillIn, shiftR, shiftV, List.take_succ_cons, List.take_zero, List.drop_succ_cons, List.drop_zero, List.append_nil, Nat.zero_add, subA5, subP4, arrG, plG, runes, noA, if_true, if_false, beq_self_eq_true, bne_self_eq_false, hq1, hq2]
        refine goR h50t rfl ?_
        simp only [go_sem, ↓reduceIte, Nat.reduceEqDiff, Nat.reduceAdd, Nat.reduceMul, Nat.reduceLeDiff, Nat.reduceLT, Int.reduceToNat, Int.reduceLT, Int.reduceLE, reduceCtorEq, Nat.reduceBEq, fillAll, fillIn, shiftR, shiftV, List.take_succ_cons, List.take_zero, List.drop_succ_cons, List.drop_zero, List.append_nil, Nat.zero_add, subA5, subP4, arrG, plG, runes, noA, if_true, if_false, beq_self_eq_true, bne_self_eq_false, hq1, hq2]
        refine goF h52a ?_
        simp only [go_sem, ↓reduceIte, Nat.reduceEqDiff, Nat.reduceAdd, Nat.reduceMul, Nat.reduceLeDiff, Nat.reduceLT, Int.reduceToNat, Int.reduceLT, Int.reduceLE, reduceCtorEq, Nat.reduceBEq, fillAll, fillIn, shiftR, shiftV, List.take_succ_cons, List.take_zero, List.drop_succ_cons, List.drop_zero, List.append_nil, Nat.zero_add, subA5, subP4, arrG, plG, runes, noA, if_true, if_false, beq_self_eq_true, bne_self_eq_false, hq1, hq2]
        refine goR h50a rfl ?_
        simp only [go_sem, ↓reduceIte, Nat.reduceEqDiff, Nat.reduceAdd, Nat.reduceMul, Nat.reduceLeDiff, Nat.reduceLT, Int.reduceToNat, Int.reduceLT, Int.reduceLE, reduceCtorEq, Nat.reduceBEq, fillAll, fillIn, shiftR, shiftV, List.take_succ_cons, List.take_zero, List.drop_succ_cons, List.drop_zero, List.append_nil, Nat.zero_add, subA5, subP4, arrG, plG, runes, noA, if_true, if_false, beq_self_eq_true, bne_self_eq_false, hq1, hq2]
        refine goR c54_no rfl ?_
        simp only [go_sem, ↓reduceIte, Nat.reduceEqDiff, Nat.reduceAdd, Nat.reduceMul, Nat.reduceLeDiff, Nat.reduceLT, Int.reduceToNat, Int.reduceLT, Int.reduceLE, reduceCtorEq, Nat.reduceBEq, fillAll, fillIn, shiftR, shiftV, List.take_succ_cons, List.take_zero, List.drop_succ_cons, List.drop_zero, List.append_nil, Nat.zero_add, subA5, subP4, arrG, plG, runes, noA, if_true, if_false, beq_self_eq_true, bne_self_eq_false, hq1, hq2]
        refine goP h38 ?_
        simp only [go_sem, ↓reduceIte, Nat.reduceEqDiff, Nat.reduceAdd, Nat.reduceMul, Nat.reduceLeDiff, Nat.reduceLT, Int.reduceToNat, Int.reduceLT, Int.reduceLE, reduceCtorEq, Nat.reduceBEq, fillAll, fillIn, shiftR, shiftV, List.take_succ_cons, List.take_zero, List.drop_succ_cons, List.drop_zero, List.append_nil, Nat.zero_add, subA5, subP4, arrG, plG, runes, noA, if_true, if_false, beq_self_eq_true, bne_self_eq_false, hq1, hq2]
        refine goP h52n ?_
        simp only [go_sem, ↓reduceIte, Nat.reduceEqDiff, Nat.reduceAdd, Nat.reduceMul, Nat.reduceLeDiff, Nat.reduceLT, Int.reduceToNat, Int.reduceLT, Int.reduceLE, reduceCtorEq, Nat.reduceBEq, fillAll, fillIn, shiftR, shiftV, List.take_succ_cons, List.take_zero, List.drop_succ_cons, List.drop_zero, List.append_nil, Nat.zero_add, subA5, subP4, arrG, plG, runes, noA, if_true, if_false, beq_self_eq_true, bne_self_eq_false, hq1, hq2]
        refine goP h55 ?_
        simp only [go_sem, ↓reduceIte, Nat.reduceEqDiff, Nat.reduceAdd, Nat.reduceMul, Nat.reduceLeDiff, Nat.reduceLT, Int.reduceToNat, Int.reduceLT, Int.reduceLE, reduceCtorEq, Nat.reduceBEq, fillAll, fillIn, shiftR, shiftV, List.take_succ_cons, List.take_zero, List.drop_succ_cons, List.drop_zero, List.append_nil, Nat.zero_add, subA5, subP4, arrG, plG, runes, noA, if_true, if_false, beq_self_eq_true, bne_self_eq_false, hq1, hq2]
        refine goP h50n ?_
        simp only [go_sem, ↓reduceIte, Nat.reduceEqDiff, Nat.reduceAdd, Nat.reduceMul, Nat.reduceLeDiff, Nat.reduceLT, Int.reduceToNat, Int.reduceLT, Int.reduceLE, reduceCtorEq, Nat.reduceBEq, fillAll, fillIn, shiftR, shiftV, List.take_succ_cons, List.take_zero, List.drop_succ_cons, List.drop_zero, List.append_nil, Nat.zero_add, subA5, subP4, arrG, plG, runes, noA, if_true, if_false, beq_self_eq_true, bne_self_eq_false, hq1, hq2]
        refine goP h45 ?_
        simp only [go_sem, ↓reduceIte, Nat.reduceEqDiff, Nat.reduceAdd, Nat.reduceMul, Nat.reduceLeDiff, Nat.reduceLT, Int.reduceToNat, Int.reduceLT, Int.reduceLE, reduceCtorEq, Nat.reduceBEq, fillAll, fillIn, shiftR, shiftV, List.take_succ_cons, List.take_zero, List.drop_succ_cons, List.drop_zero, List.append_nil, Nat.zero_add, subA5, subP4, arrG, plG, runes, noA, if_true, if_false, beq_self_eq_true, bne_self_eq_false, hq1, hq2]
        refine goP h56 ?_
        simp only [go_sem, ↓reduceIte, Nat.reduceEqDiff, Nat.reduceAdd, Nat.reduceMul, Nat.reduceLeDiff, Nat.reduceLT, Int.reduceToNat, Int.reduceLT, Int.reduceLE, reduceCtorEq, Nat.reduceBEq, fillAll, fillIn, shiftR, shiftV, List.take_succ_cons, List.take_zero, List.drop_succ_cons, List.drop_zero, List.append_nil, Nat.zero_add, subA5, subP4, arrG, plG, runes, noA, if_true, if_false, beq_self_eq_true, bne_self_eq_false, hq1, hq2]
        refine goP h52n ?_
        simp only [go_sem, ↓reduceIte, Nat.reduceEqDiff, Nat.reduceAdd, Nat.reduceMul, Nat.reduceLeDiff, Nat.reduceLT, Int.reduceToNat, Int.reduceLT, Int.reduceLE, reduceCtorEq, Nat.reduceBEq, fillAll, fillIn, shiftR, shiftV, List.take_succ_cons, List.take_zero, List.drop_succ_cons, List.drop_zero, List.append_nil, Nat.zero_add, subA5, subP4, arrG, plG, runes, noA, if_true, if_false, beq_self_eq_true, bne_self_eq_false, hq1, hq2]
        refine goP h55 ?_
        simp only [go_sem, ↓reduceIte, Nat.reduceEqDiff, Nat.reduceAdd, Nat.reduceMul, Nat.reduceLeDiff, Nat.reduceLT, Int.reduceToNat, Int.reduceLT, Int.reduceLE, reduceCtorEq, Nat.reduceBEq, fillAll, fillIn, shiftR, shiftV, List.take_succ_cons, List.take_zero, List.drop_succ_cons, List.drop_zero, List.append_nil, Nat.zero_add, subA5, subP4, arrG, plG, runes, noA, if_true, if_false, beq_self_eq_true, bne_self_eq_false, hq1, hq2]
        refine goP h50n ?_
        simp only [go_sem, ↓reduceIte, Nat.reduceEqDiff, Nat.reduceAdd, Nat.reduceMul, Nat.reduceLeDiff, Nat.reduceLT, Int.reduceToNat, Int.reduceLT, Int.reduceLE, reduceCtorEq, Nat.reduceBEq, fillAll, fillIn, shiftR, shiftV, List.take_succ_cons, List.take_zero, List.drop_succ_cons, List.drop_zero, List.append_nil, Nat.zero_add, subA5, subP4, arrG, plG, runes, noA, if_true, if_false, beq_self_eq_true, bne_self_eq_false, hq1, hq2]
        refine goP h57 ?_
        simp only [go_sem, ↓reduceIte, Nat.reduceEqDiff, Nat.reduceAdd, Nat.reduceMul, Nat.reduceLeDiff, Nat.reduceLT, Int.reduceToNat, Int.reduceLT, Int.reduceLE, reduceCtorEq, Nat.reduceBEq, fillAll, fillIn, shiftR, shiftV, List.take_succ_cons, List.take_zero, List.drop_succ_cons, List.drop_zero, List.append_nil, Nat.zero_add, subA5, subP4, arrG, plG, runes, noA, if_true, if_false, beq_self_eq_true, bne_self_eq_false, hq1, hq2]
        refine goP h52c ?_
        simp only [go_sem, ↓reduceIte, Nat.reduceEqDiff, Nat.reduceAdd, Nat.reduceMul, Nat.reduceLeDiff, Nat.reduceLT, Int.reduceToNat, Int.reduceLT, Int.reduceLE, reduceCtorEq, Nat.reduceBEq, fillAll, fillIn, shiftR, shiftV, List.take_succ_cons, List.take_zero, List.drop_succ_cons, List.drop_zero, List.append_nil, Nat.zero_add, subA5, subP4, arrG, plG, runes, noA, if_true, if_false, beq_self_eq_true, bne_self_eq_false, hq1, hq2]
        refine goR h50c rfl ?_
        simp only [go_sem, ↓reduceIte, Nat.reduceEqDiff, Nat.reduceAdd, Nat.reduceMul, Nat.reduceLeDiff, Nat.reduceLT, Int.reduceToNat, Int.reduceLT, Int.reduceLE, reduceCtorEq, Nat.reduceBEq, fillAll, fillIn, shiftR, shiftV, List.take_succ_cons, List.take_zero, List.drop_succ_cons, List.drop_zero, List.append_nil, Nat.zero_add, subA5, subP4, arrG, plG, runes, noA, if_true, if_false, beq_self_eq_true, bne_self_eq_false, hq1, hq2]
        refine goP h58t ?_
        simp only [go_sem, ↓reduceIte, Nat.reduceEqDiff, Nat.reduceAdd, Nat.reduceMul, Nat.reduceLeDiff, Nat.reduceLT, Int.reduceToNat, Int.reduceLT, Int.reduceLE, reduceCtorEq, Nat.reduceBEq, fillAll, fillIn, shiftR, shiftV, List.take_succ_cons, List.take_zero, List.drop_succ_cons, List.drop_zero, List.append_nil, Nat.zero_add, subA5, subP4, arrG, plG, runes, noA, if_true, if_false, beq_self_eq_true, bne_self_eq_false, hq1, hq2]
        refine goP h52u ?_
        simp only [go_sem, ↓reduceIte, Nat.reduceEqDiff, Nat.reduceAdd, Nat.reduceMul, Nat.reduceLeDiff, Nat.reduceLT, Int.reduceToNat, Int.reduceLT, Int.reduceLE, reduceCtorEq, Nat.reduceBEq, fillAll, fillIn, shiftR, shiftV, List.take_succ_cons, List.take_zero, List.drop_succ_cons, List.drop_zero, List.append_nil, Nat.zero_add, subA5, subP4, arrG, plG, runes, noA, if_true, if_false, beq_self_eq_true, bne_self_eq_false, hq1, hq2]
        refine goF h49e ?_
        simp only [go_sem, ↓reduceIte, Nat.reduceEqDiff, Nat.reduceAdd, Nat.reduceMul, Nat.reduceLeDiff, Nat.reduceLT, Int.reduceToNat, Int.reduceLT, Int.reduceLE, reduceCtorEq, Nat.reduceBEq, fillAll, fillIn, shiftR, shiftV, List.take_succ_cons, List.take_zero, List.drop_succ_cons, List.drop_zero, List.append_nil, Nat.zero_add, subA5, subP4, arrG, plG, runes, noA, if_true, if_false, beq_self_eq_true, bne_self_eq_false, hq1, hq2]
        refine goP h50u ?_
        simp only [go_sem, ↓reduceIte, Nat.reduceEqDiff, Nat.reduceAdd, Nat.reduceMul, Nat.reduceLeDiff, Nat.reduceLT, Int.reduceToNat, Int.reduceLT, Int.reduceLE, reduceCtorEq, Nat.reduceBEq, fillAll, fillIn, shiftR, shiftV, List.take_succ_cons, List.take_zero, List.drop_succ_cons, List.drop_zero, List.append_nil, Nat.zero_add, subA5, subP4, arrG, plG, runes, noA, if_true, if_false, beq_self_eq_true, bne_self_eq_false, hq1, hq2]
        refine goP h58f ?_
        simp only [go_sem, ↓reduceIte, Nat.reduceEqDiff, Nat.reduceAdd, Nat.reduceMul, Nat.reduceLeDiff, Nat.reduceLT, Int.reduceToNat, Int.reduceLT, Int.reduceLE, reduceCtorEq, Nat.reduceBEq, fillAll, fillIn, shiftR, shiftV, List.take_succ_cons, List.take_zero, List.drop_succ_cons, List.drop_zero, List.append_nil, Nat.zero_add, subA5, subP4, arrG, plG, runes, noA, if_true, if_false, beq_self_eq_true, bne_self_eq_false, hq1, hq2]
        refine goP h52v ?_
        simp only [go_sem, ↓reduceIte, Nat.reduceEqDiff, Nat.reduceAdd, Nat.reduceMul, Nat.reduceLeDiff, Nat.reduceLT, Int.reduceToNat, Int.reduceLT, Int.reduceLE, reduceCtorEq, Nat.reduceBEq, fillAll, fillIn, shiftR, shiftV, List.take_succ_cons, List.take_zero, List.drop_succ_cons, List.drop_zero, List.append_nil, Nat.zero_add, subA5, subP4, arrG, plG, runes, noA, if_true, if_false, beq_self_eq_true, bne_self_eq_false, hq1, hq2]
        refine goF h48e ?_
        simp only [go_sem, ↓reduceIte, Nat.reduceEqDiff, Nat.reduceAdd, Nat.reduceMul, Nat.reduceLeDiff, Nat.reduceLT, Int.reduceToNat, Int.reduceLT, Int.reduceLE, reduceCtorEq, Nat.reduceBEq, fillAll, fillIn, shiftR, shiftV, List.take_succ_cons, List.take_zero, List.drop_succ_cons, List.drop_zero, List.append_nil, Nat.zero_add, subA5, subP4, arrG, plG, runes, noA, if_true, if_false, beq_self_eq_true, bne_self_eq_false, hq1, hq2]
        refine goP h50v ?_
        simp only [go_sem, ↓reduceIte, Nat.reduceEqDiff, Nat.reduceAdd, Nat.reduceMul, Nat.reduceLeDiff, Nat.reduceLT, Int.reduceToNat, Int.reduceLT, Int.reduceLE, reduceCtorEq, Nat.reduceBEq, fillAll, fillIn, shiftR, shiftV, List.take_succ_cons, List.take_zero, List.drop_succ_cons, List.drop_zero, List.append_nil, Nat.zero_add, subA5, subP4, arrG, plG, runes, noA, if_true, if_false, beq_self_eq_true, bne_self_eq_false, hq1, hq2]
        refine goP c34_ok ?_
        simp only [go_sem, ↓reduceIte, Nat.reduceEqDiff, Nat.reduceAdd, Nat.reduceMul, Nat.reduceLeDiff, Nat.reduceLT, Int.reduceToNat, Int.reduceLT, Int.reduceLE, reduceCtorEq, Nat.reduceBEq]
        simp only [i9, Out, resAll, geto, ints, List.getElem?_cons_zero, List.getElem?_cons_succ, resOf, outOf, snap, snapL, ev, getE, List.mapM_cons, List.mapM_nil, Option.bind_some, Option.pure_def, Option.bind_eq_bind, Option.map_some, reduceIte, Nat.reduceEqDiff, true_and, and_true]
    · have hq1 : (m == (l.length : Int)) = false := by simpa using hm1
      by_cases hm2 : m = (t.length : Int)
      · have hq2 : (m == (t.length : Int)) = true := by simpa using hm2
        have hf1 : fits s l.length = false := by simp [fits, hc, hm1]
        have hf2 : fits s t.length = true := by simp [fits, hc, hm2]
        rw [hf1] at h46
        rw [hf2] at h47
        rw [hc] at h17
        simp only [b9_0, k9_0, hlt', List.take_length, go_sem, ↓reduceIte, Nat.reduceEqDiff, Nat.reduceAdd, Nat.reduceMul, Nat.reduceLeDiff, Nat.reduceLT, Int.reduceToNat, Int.reduceLT, Int.reduceLE, reduceCtorEq, Nat.reduceBEq, fillAll, fillIn, shiftR, shiftV, List.take_succ_cons, List.take_zero, List.drop_succ_cons, List.drop_zero, List.append_nil, Nat.zero_add, subA5, subP4, arrG, plG, runes, noA, if_true, if_false, beq_self_eq_true, bne_self_eq_false, hq1, hq2]
        refine goF h46 ?_
        simp only [go_sem, ↓reduceIte, Nat.reduceEqDiff, Nat.reduceAdd, Nat.reduceMul, Nat.reduceLeDiff, Nat.reduceLT, Int.reduceToNat, Int.reduceLT, Int.reduceLE, reduceCtorEq, Nat.reduceBEq, fillAll, fillIn, shiftR, shiftV, List.take_succ_cons, List.take_zero, List.drop_succ_cons, List.drop_zero, List.append_nil, Nat.zero_add, subA5, subP4, arrG, plG, runes, noA, if_true, if_false, beq_self_eq_true, bne_self_eq_false, hq1, hq2]
        refine goP h47 ?_
        simp only [go_sem, ↓reduceIte, Nat.reduceEqDiff, Nat.reduceAdd, Nat.reduceMul, Nat.reduceLeDiff, Nat.reduceLT, Int.reduceToNat, Int.reduceLT, Int.reduceLE, reduceCtorEq, Nat.reduceBEq, fillAll, fillIn, shiftR, shiftV, List.take_succ_cons, List.take_zero, List.drop_succ_cons, List.drop_zero, List.append_nil, Nat.zero_add, subA5, subP4, arrG, plG, runes, noA, if_true, if_false, beq_self_eq_true, bne_self_eq_false, hq1, hq2]
        refine goP h17 ?_
        simp only [optP, go_sem, ↓reduceIte, Nat.reduceEqDiff, Nat.reduceAdd, Nat.reduceMul, Nat.reduceLeDiff, Nat.reduceLT, Int.reduceToNat, Int.reduceLT, Int.reduceLE, reduceCtorEq, Nat.reduceBEq, fillAll, fillIn, shiftR, shiftV, List.take_succ_cons, List.take_zero, List.drop_succ_cons, List.drop_zero, List.append_nil, Nat.zero_add, subA5, subP4, arrG, plG, runes, noA, if_true, if_false, beq_self_eq_true, bne_self_eq_false, hq1, hq2]
        refine goP h48 ?_
        simp only [go_sem, ↓reduceIte, Nat.reduceEqDiff, Nat.reduceAdd, Nat.reduceMul, Nat.reduceLeDiff, Nat.reduceLT, Int.reduceToNat, Int.reduceLT, Int.reduceLE, reduceCtorEq, Nat.reduceBEq, fillAll, fillIn, shiftR, shiftV, List.take_succ_cons, List.take_zero, List.drop_succ_cons, List.drop_zero, List.append_nil, Nat.zero_add, subA5, subP4, arrG, plG, runes, noA, if_true, if_false, beq_self_eq_true, bne_self_eq_false, hq1, hq2]
        refine goP h49 ?_
        simp only [go_sem, ↓reduceIte, Nat.reduceEqDiff, Nat.reduceAdd, Nat.reduceMul, Nat.reduceLeDiff, Nat.reduceLT, Int.reduceToNat, Int.reduceLT, Int.reduceLE, reduceCtorEq, Nat.reduceBEq, fillAll, fillIn, shiftR, shiftV, List.take_succ_cons, List.take_zero, List.drop_succ_cons, List.drop_zero, List.append_nil, Nat.zero_add, subA5, subP4, arrG, plG, runes, noA, if_true, if_false, beq_self_eq_true, bne_self_eq_false, hq1, hq2]
        refine goP h51 ?_
        simp only [go_sem, ↓reduceIte, Nat.reduceEqDiff, Nat.reduceAdd, Nat.reduceMul, Nat.reduceLeDiff, Nat.reduceLT, Int.reduceToNat, Int.reduceLT, Int.reduceLE, reduceCtorEq, Nat.reduceBEq, fillAll, fillIn, shiftR, shiftV, List.take_succ_cons, List.take_zero, List.drop_succ_cons, List.drop_zero, List.append_nil, Nat.zero_add, subA5, subP4, arrG, plG, runes, noA, if_true, if_false, beq_self_eq_true, bne_self_eq_false, hq1, hq2]
        refine goP h52l ?_
        simp only [go_sem, ↓reduceIte, Nat.reduceEqDiff, Nat.reduceAdd, Nat.reduceMul, Nat.reduceLeDiff, Nat.reduceLT, Int.reduceToNat, Int.reduceLT, Int.reduceLE, reduceCtorEq, Nat.reduceBEq, fillAll, fillIn, shiftR, shiftV, List.take_succ_cons, List.take_zero, List.drop_succ_cons, List.drop_zero, List.append_nil, Nat.zero_add, subA5, subP4, arrG, plG, runes, noA, if_true, if_false, beq_self_eq_true, bne_self_eq_false, hq1, hq2]
        refine goR h50l rfl ?_
        simp only [go_sem, ↓reduceIte, Nat.reduceEqDiff, Nat.reduceAdd, Nat.reduceMul, Nat.reduceLeDiff, Nat.reduceLT, Int.reduceToNat, Int.reduceLT, Int.reduceLE, reduceCtorEq, Nat.reduceBEq, fillAll, fillIn, shiftR, shiftV, List.take_succ_cons, List.take_zero, List.drop_succ_cons, List.drop_zero, List.append_nil, Nat.zero_add, subA5, subP4, arrG, plG, runes, noA, if_true, if_false, beq_self_eq_true, bne_self_eq_false, hq1, hq2]
        refine goP h53 ?_
        simp only [go_sem, ↓reduceIte, Nat.reduceEqDiff, Nat.reduceAdd, Nat.reduceMul, Nat.reduceLeDiff, Nat.reduceLT, Int.reduceToNat, Int.reduceLT, Int.reduceLE, reduceCtorEq, Nat.reduceBEq, fillAll, fillIn, shiftR, shiftV, List.take_succ_cons, List.take_zero, List.drop_succ_cons, List.drop_zero, List.append_nil, Nat.zero_add, subA5, subP4, arrG, plG, runes, noA, if_true, if_false, beq_self_eq_true, bne_self_eq_false, hq1, hq2]
        refine goP h52t ?_
        simp only [go_sem, ↓reduceIte, Nat.reduceEqDiff, Nat.reduceAdd, Nat.reduceMul, Nat.reduceLeDiff, Nat.reduceLT, Int.reduceToNat, Int.reduceLT, Int.reduceLE, reduceCtorEq, Nat.reduceBEq, fillAll, fillIn, shiftR, shiftV, List.take_succ_cons, List.take_zero, List.drop_succ_cons, List.drop_zero, List.append_nil, Nat.zero_add, subA5, subP4, arrG, plG, runes, noA, if_true, if_false, beq_self_eq_true, bne_self_eq_false, hq1, hq2]
        refine goR h50t rfl ?_
        simp only [go_sem, ↓reduceIte, Nat.reduceEqDiff, Nat.reduceAdd, Nat.reduceMul, Nat.reduceLeDiff, Nat.reduceLT, Int.reduceToNat, Int.reduceLT, Int.reduceLE, reduceCtorEq, Nat.reduceBEq, fillAll, fillIn, shiftR, shiftV, List.take_succ_cons, List.take_zero, List.drop_succ_cons, List.drop_zero, List.append_nil, Nat.zero_add, subA5, subP4, arrG, plG, runes, noA, if_true, if_false, beq_self_eq_true, bne_self_eq_false, hq1, hq2]
        refine goF h52b ?_
        simp only [go_sem, ↓reduceIte, Nat.reduceEqDiff, Nat.reduceAdd, Nat.reduceMul, Nat.reduceLeDiff, Nat.reduceLT, Int.reduceToNat, Int.reduceLT, Int.reduceLE, reduceCtorEq, Nat.reduceBEq, fillAll, fillIn, shiftR, shiftV, List.take_succ_cons, List.take_zero, List.drop_succ_cons, List.drop_zero, List.append_nil, Nat.zero_add, subA5, subP4, arrG, plG, runes, noA, if_true, if_false, beq_self_eq_true, bne_self_eq_false, hq1, hq2]
        refine goR h50b rfl ?_
        simp only [go_sem, ↓reduceIte, Nat.reduceEqDiff, Nat.reduceAdd, Nat.reduceMul, Nat.reduceLeDiff, Nat.reduceLT, Int.reduceToNat, Int.reduceLT, Int.reduceLE, reduceCtorEq, Nat.reduceBEq, fillAll, fillIn, shiftR, shiftV, List.take_succ_cons, List.take_zero, List.drop_succ_cons, List.drop_zero, List.append_nil, Nat.zero_add, subA5, subP4, arrG, plG, runes, noA, if_true, if_false, beq_self_eq_true, bne_self_eq_false, hq1, hq2]
        refine goR c54_no rfl ?_
        simp only [go_sem, ↓reduceIte, Nat.reduceEqDiff, Nat.reduceAdd, Nat.reduceMul, Nat.reduceLeDiff, Nat.reduceLT, Int.reduceToNat, Int.reduceLT, Int.reduceLE, reduceCtorEq, Nat.reduceBEq, fillAll, fillIn, shiftR, shiftV, List.take_succ_cons, List.take_zero, List.drop_succ_cons, List.drop_zero, List.append_nil, Nat.zero_add, subA5, subP4, arrG, plG, runes, noA, if_true, if_false, beq_self_eq_true, bne_self_eq_false, hq1, hq2]
        refine goP h38 ?_
        simp only [go_sem, ↓reduceIte, Nat.reduceEqDiff, Nat.reduceAdd, Nat.reduceMul, Nat.reduceLeDiff, Nat.reduceLT, Int.reduceToNat, Int.reduceLT, Int.reduceLE, reduceCtorEq, Nat.reduceBEq, fillAll, fillIn, shiftR, shiftV, List.take_succ_cons, List.take_zero, List.drop_succ_cons, List.drop_zero, List.append_nil, Nat.zero_add, subA5, subP4, arrG, plG, runes, noA, if_true, if_false, beq_self_eq_true, bne_self_eq_false, hq1, hq2]
        refine goP h52n ?_
        simp only [go_sem, ↓reduceIte, Nat.reduceEqDiff, Nat.reduceAdd, Nat.reduceMul, Nat.reduceLeDiff, Nat.reduceLT, Int.reduceToNat, Int.reduceLT, Int.reduceLE, reduceCtorEq, Nat.reduceBEq, fillAll, fillIn, shiftR, shiftV, List.take_succ_cons, List.take_zero, List.drop_succ_cons, List.drop_zero, List.append_nil, Nat.zero_add, subA5, subP4, arrG, plG, runes, noA, if_true, if_false, beq_self_eq_true, bne_self_eq_false, hq1, hq2]
        refine goP h55 ?_
        simp only [go_sem, ↓reduceIte, Nat.reduceEqDiff, Nat.reduceAdd, Nat.reduceMul, Nat.reduceLeDiff, Nat.reduceLT, Int.reduceToNat, Int.reduceLT, Int.reduceLE, reduceCtorEq, Nat.reduceBEq, fillAll, fillIn, shiftR, shiftV, List.take_succ_cons, List.take_zero, List.drop_succ_cons, List.drop_zero, List.append_nil, Nat.zero_add, subA5, subP4, arrG, plG, runes, noA, if_true, if_false, beq_self_eq_true, bne_self_eq_false, hq1, hq2]
        refine goP h50n ?_
        simp only [go_sem, ↓reduceIte, Nat.reduceEqDiff, Nat.reduceAdd, Nat.reduceMul, Nat.reduceLeDiff, Nat.reduceLT, Int.reduceToNat, Int.reduceLT, Int.reduceLE, reduceCtorEq, Nat.reduceBEq, fillAll, fillIn, shiftR, shiftV, List.take_succ_cons, List.take_zero, List.drop_succ_cons, List.drop_zero, List.append_nil, Nat.zero_add, subA5, subP4, arrG, plG, runes, noA, if_true, if_false, beq_self_eq_true, bne_self_eq_false, hq1, hq2]
        refine goP h45 ?_
        simp only [go_sem, ↓reduceIte, Nat.reduceEqDiff, Nat.reduceAdd, Nat.reduceMul, Nat.reduceLeDiff, Nat.reduceLT, Int.reduceToNat, Int.reduceLT, Int.reduceLE, reduceCtorEq, Nat.reduceBEq, fillAll, fillIn, shiftR, shiftV, List.take_succ_cons, List.take_zero, List.drop_succ_cons, List.drop_zero, List.append_nil, Nat.zero_add, subA5, subP4, arrG, plG, runes, noA, if_true, if_false, beq_self_eq_true, bne_self_eq_false, hq1, hq2]
        refine goP h56 ?_
        simp only [go_sem, ↓reduceIte, Nat.reduceEqDiff, Nat.reduceAdd, Nat.reduceMul, Nat.reduceLeDiff, Nat.reduceLT, Int.reduceToNat, Int.reduceLT, Int.reduceLE, reduceCtorEq, Nat.reduceBEq, fillAll, fillIn, shiftR, shiftV, List.take_succ_cons, List.take_zero, List.drop_succ_cons, List.drop_zero, List.append_nil, Nat.zero_add, subA5, subP4, arrG, plG, runes, noA, if_true, if_false, beq_self_eq_true, bne_self_eq_false, hq1, hq2]
        refine goP h52n ?_
        simp only [go_sem, ↓reduceIte, Nat.reduceEqDiff, Nat.reduceAdd, Nat.reduceMul, Nat.reduceLeDiff, Nat.reduceLT, Int.reduceToNat, Int.reduceLT, Int.reduceLE, reduceCtorEq, Nat.reduceBEq, fillAll, fillIn, shiftR, shiftV, List.take_succ_cons, List.take_zero, List.drop_succ_cons, List.drop_zero, List.append_nil, Nat.zero_add, subA5, subP4, arrG, plG, runes, noA, if_true, if_false, beq_self_eq_true, bne_self_eq_false, hq1, hq2]
        refine goP h55 ?_
        simp only [go_sem, ↓reduceIte, Nat.reduceEqDiff, Nat.reduceAdd, Nat.reduceMul, Nat.reduceLeDiff, Nat.reduceLT, Int.reduceToNat, Int.reduceLT, Int.reduceLE, reduceCtorEq, Nat.reduceBEq, fillAll, fillIn, shiftR, shiftV, List.take_succ_cons, List.take_zero, List.drop_succ_cons, List.drop_zero, List.append_nil, Nat.zero_add, subA5, subP4, arrG, plG, runes, noA, if_true, if_false, beq_self_eq_true, bne_self_eq_false, hq1, hq2]
        refine goP h50n ?_
        simp only [go_sem, ↓reduceIte, Nat.reduceEqDiff, Nat.reduceAdd, Nat.reduceMul, Nat.reduceLeDiff, Nat.reduceLT, Int.reduceToNat, Int.reduceLT, Int.reduceLE, reduceCtorEq, Nat.reduceBEq, fillAll, fillIn, shiftR, shiftV, List.take_succ_cons, List.take_zero, List.drop_succ_cons, List.drop_zero, List.append_nil, Nat.zero_add, subA5, subP4, arrG, plG, runes, noA, if_true, if_false, beq_self_eq_true, bne_self_eq_false, hq1, hq2]
        refine goP h57 ?_
        simp only [go_sem, ↓reduceIte, Nat.reduceEqDiff, Nat.reduceAdd, Nat.reduceMul, Nat.reduceLeDiff, Nat.reduceLT, Int.reduceToNat, Int.reduceLT, Int.reduceLE, reduceCtorEq, Nat.reduceBEq, fillAll, fillIn, shiftR, shiftV, List.take_succ_cons, List.take_zero, List.drop_succ_cons, List.drop_zero, List.append_nil, Nat.zero_add, subA5, subP4, arrG, plG, runes, noA, if_true, if_false, beq_self_eq_true, bne_self_eq_false, hq1, hq2]
        refine goP h52c ?_
        simp only [go_sem, ↓reduceIte, Nat.reduceEqDiff, Nat.reduceAdd, Nat.reduceMul, Nat.reduceLeDiff, Nat.reduceLT, Int.reduceToNat, Int.reduceLT, Int.reduceLE, reduceCtorEq, Nat.reduceBEq, fillAll, fillIn, shiftR, shiftV, List.take_succ_cons, List.take_zero, List.drop_succ_cons, List.drop_zero, List.append_nil, Nat.zero_add, subA5, subP4, arrG, plG, runes, noA, if_true, if_false, beq_self_eq_true, bne_self_eq_false, hq1, hq2]
        refine goR h50c rfl ?_
        simp only [go_sem, ↓reduceIte, Nat.reduceEqDiff, Nat.reduceAdd, Nat.reduceMul, Nat.reduceLeDiff, Nat.reduceLT, Int.reduceToNat, Int.reduceLT, Int.reduceLE, reduceCtorEq, Nat.reduceBEq, fillAll, fillIn, shiftR, shiftV, List.take_succ_cons, List.take_zero, List.drop_succ_cons, List.drop_zero, List.append_nil, Nat.zero_add, subA5, subP4, arrG, plG, runes, noA, if_true, if_false, beq_self_eq_true, bne_self_eq_false, hq1, hq2]
        refine goP h58t ?_
        simp only [go_sem, ↓reduceIte, Nat.reduceEqDiff, Nat.reduceAdd, Nat.reduceMul, Nat.reduceLeDiff, Nat.reduceLT, Int.reduceToNat, Int.reduceLT, Int.reduceLE, reduceCtorEq, Nat.reduceBEq, fillAll, fillIn, shiftR, shiftV, List.take_succ_cons, List.take_zero, List.drop_succ_cons, List.drop_zero, List.append_nil, Nat.zero_add, subA5, subP4, arrG, plG, runes, noA, if_true, if_false, beq_self_eq_true, bne_self_eq_false, hq1, hq2]
        refine goP h52u ?_
        simp only [go_sem, ↓reduceIte, Nat.reduceEqDiff, Nat.reduceAdd, Nat.reduceMul, Nat.reduceLeDiff, Nat.reduceLT, Int.reduceToNat, Int.reduceLT, Int.reduceLE, reduceCtorEq, Nat.reduceBEq, fillAll, fillIn, shiftR, shiftV, List.take_succ_cons, List.take_zero, List.drop_succ_cons, List.drop_zero, List.append_nil, Nat.zero_add, subA5, subP4, arrG, plG, runes, noA, if_true, if_false, beq_self_eq_true, bne_self_eq_false, hq1, hq2]
        refine goF h49e ?_
        simp only [go_sem, ↓reduceIte, Nat.reduceEqDiff, Nat.reduceAdd, Nat.reduceMul, Nat.reduceLeDiff, Nat.reduceLT, Int.reduceToNat, Int.reduceLT, Int.reduceLE, reduceCtorEq, Nat.reduceBEq, fillAll, fillIn, shiftR, shiftV, List.take_succ_cons, List.take_zero, List.drop_succ_cons, List.drop_zero, List.append_nil, Nat.zero_add, subA5, subP4, arrG, plG, runes, noA, if_true, if_false, beq_self_eq_true, bne_self_eq_false, hq1, hq2]
        refine goP h50u ?_
        simp only [go_sem, ↓reduceIte, Nat.reduceEqDiff, Nat.reduceAdd, Nat.reduceMul, Nat.reduceLeDiff, Nat.reduceLT, Int.reduceToNat, Int.reduceLT, Int.reduceLE, reduceCtorEq, Nat.reduceBEq, fillAll, fillIn, shiftR, shiftV, List.take_succ_cons, List.take_zero, List.drop_succ_cons, List.drop_zero, List.append_nil, Nat.zero_add, subA5, subP4, arrG, plG, runes, noA, if_true, if_false, beq_self_eq_true, bne_self_eq_false, hq1, hq2]
        refine goP h58f ?_
        simp only [go_sem, ↓reduceIte, Nat.reduceEqDiff, Nat.reduceAdd, Nat.reduceMul, Nat.reduceLeDiff, Nat.reduceLT, Int.reduceToNat, Int.reduceLT, Int.reduceLE, reduceCtorEq, Nat.reduceBEq, fillAll, fillIn, shiftR, shiftV, List.take_succ_cons, List.take_zero, List.drop_succ_cons, List.drop_zero, List.append_nil, Nat.zero_add, subA5, subP4, arrG, plG, runes, noA, if_true, if_false, beq_self_eq_true, bne_self_eq_false, hq1, hq2]
        refine goP h52v ?_
        simp only [go_sem, ↓reduceIte, Nat.reduceEqDiff, Nat.reduceAdd, Nat.reduceMul, Nat.reduceLeDiff, Nat.reduceLT, Int.reduceToNat, Int.reduceLT, Int.reduceLE, reduceCtorEq, Nat.reduceBEq, fillAll, fillIn, shiftR, shiftV, List.take_succ_cons, List.take_zero, List.drop_succ_cons, List.drop_zero, List.append_nil, Nat.zero_add, subA5, subP4, arrG, plG, runes, noA, if_true, if_false, beq_self_eq_true, bne_self_eq_false, hq1, hq2]
        refine goF h48e ?_
        simp only [go_sem, ↓reduceIte, Nat.reduceEqDiff, Nat.reduceAdd, Nat.reduceMul, Nat.reduceLeDiff, Nat.reduceLT, Int.reduceToNat, Int.reduceLT, Int.reduceLE, reduceCtorEq, Nat.reduceBEq, fillAll, fillIn, shiftR, shiftV, List.take_succ_cons, List.take_zero, List.drop_succ_cons, List.drop_zero, List.append_nil, Nat.zero_add, subA5, subP4, arrG, plG, runes, noA, if_true, if_false, beq_self_eq_true, bne_self_eq_false, hq1, hq2]
        refine goP h50v ?_
        simp only [go_sem, ↓reduceIte, Nat.reduceEqDiff, Nat.reduceAdd, Nat.reduceMul, Nat.reduceLeDiff, Nat.reduceLT, Int.reduceToNat, Int.reduceLT, Int.reduceLE, reduceCtorEq, Nat.reduceBEq, fillAll, fillIn, shiftR, shiftV, List.take_succ_cons, List.take_zero, List.drop_succ_cons, List.drop_zero, List.append_nil, Nat.zero_add, subA5, subP4, arrG, plG, runes, noA, if_true, if_false, beq_self_eq_true, bne_self_eq_false, hq1, hq2]
        refine goP c34_ok ?_
        simp only [go_sem, ↓reduceIte, Nat.reduceEqDiff, Nat.reduceAdd, Nat.reduceMul, Nat.reduceLeDiff, Nat.reduceLT, Int.reduceToNat, Int.reduceLT, Int.reduceLE, reduceCtorEq, Nat.reduceBEq]
        simp only [i9, Out, resAll, geto, ints, List.getElem?_cons_zero, List.getElem?_cons_succ, resOf, outOf, snap, snapL, ev, getE, List.mapM_cons, List.mapM_nil, Option.bind_some, Option.pure_def, Option.bind_eq_bind, Option.map_some, reduceIte, Nat.reduceEqDiff, true_and, and_true]
      · have hq2 : (m == (t.length : Int)) = false := by simpa using hm2
        have hf1 : fits s l.length = false := by simp [fits, hc, hm1]
        have hf2 : fits s t.length = false := by simp [fits, hc, hm2]
        rw [hf1] at h46
        rw [hf2] at h47
        rw [hc] at h17
        simp only [b9_0, k9_0, hlt', List.take_length, go_sem, ↓reduceIte, Nat.reduceEqDiff, Nat.reduceAdd, Nat.reduceMul, Nat.reduceLeDiff, Nat.reduceLT, Int.reduceToNat, Int.reduceLT, Int.reduceLE, reduceCtorEq, Nat.reduceBEq, fillAll, fillIn, shiftR, shiftV, List.take_succ_cons, List.take_zero, List.drop_succ_cons, List.drop_zero, List.append_nil, Nat.zero_add, subA5, subP4, arrG, plG, runes, noA, if_true, if_false, beq_self_eq_true, bne_self_eq_false, hq1, hq2]
        refine goF h46 ?_
        simp only [go_sem, ↓reduceIte, Nat.reduceEqDiff, Nat.reduceAdd, Nat.reduceMul, Nat.reduceLeDiff, Nat.reduceLT, Int.reduceToNat, Int.reduceLT, Int.reduceLE, reduceCtorEq, Nat.reduceBEq, fillAll, fillIn, shiftR, shiftV, List.take_succ_cons, List.take_zero, List.drop_succ_cons, List.drop_zero, List.append_nil, Nat.zero_add, subA5, subP4, arrG, plG, runes, noA, if_true, if_false, beq_self_eq_true, bne_self_eq_false, hq1, hq2]
        refine goP h47 ?_
        simp only [go_sem, ↓reduceIte, Nat.reduceEqDiff, Nat.reduceAdd, Nat.reduceMul, Nat.reduceLeDiff, Nat.reduceLT, Int.reduceToNat, Int.reduceLT, Int.reduceLE, reduceCtorEq, Nat.reduceBEq, fillAll, fillIn, shiftR, shiftV, List.take_succ_cons, List.take_zero, List.drop_succ_cons, List.drop_zero, List.append_nil, Nat.zero_add, subA5, subP4, arrG, plG, runes, noA, if_true, if_false, beq_self_eq_true, bne_self_eq_false, hq1, hq2]
        refine goP h17 ?_
        simp only [optP, go_sem, ↓reduceIte, Nat.reduceEqDiff, Nat.reduceAdd, Nat.reduceMul, Nat.reduceLeDiff, Nat.reduceLT, Int.reduceToNat, Int.reduceLT, Int.reduceLE, reduceCtorEq, Nat.reduceBEq, fillAll, fillIn, shiftR, shiftV, List.take_succ_cons, List.take_zero, List.drop_succ_cons, List.drop_zero, List.append_nil, Nat.zero_add, subA5, subP4, arrG, plG, runes, noA, if_true, if_false, beq_self_eq_true, bne_self_eq_false, hq1, hq2]
        refine goP h48 ?_
        simp only [go_sem, ↓reduceIte, Nat.reduceEqDiff, Nat.reduceAdd, Nat.reduceMul, Nat.reduceLeDiff, Nat.reduceLT, Int.reduceToNat, Int.reduceLT, Int.reduceLE, reduceCtorEq, Nat.reduceBEq, fillAll, fillIn, shiftR, shiftV, List.take_succ_cons, List.take_zero, List.drop_succ_cons, List.drop_zero, List.append_nil, Nat.zero_add, subA5, subP4, arrG, plG, runes, noA, if_true, if_false, beq_self_eq_true, bne_self_eq_false, hq1, hq2]
        refine goP h49 ?_
        simp only [go_sem, ↓reduceIte, Nat.reduceEqDiff, Nat.reduceAdd, Nat.reduceMul, Nat.reduceLeDiff, Nat.reduceLT, Int.reduceToNat, Int.reduceLT, Int.reduceLE, reduceCtorEq, Nat.reduceBEq, fillAll, fillIn, shiftR, shiftV, List.take_succ_cons, List.take_zero, List.drop_succ_cons, List.drop_zero, List.append_nil, Nat.zero_add, subA5, subP4, arrG, plG, runes, noA, if_true, if_false, beq_self_eq_true, bne_self_eq_false, hq1, hq2]
        refine goP h51 ?_
        simp only [go_sem, ↓reduceIte, Nat.reduceEqDiff, Nat.reduceAdd, Nat.reduceMul, Nat.reduceLeDiff, Nat.reduceLT, Int.reduceToNat, Int.reduceLT, Int.reduceLE, reduceCtorEq, Nat.reduceBEq, fillAll, fillIn, shiftR, shiftV, List.take_succ_cons, List.take_zero, List.drop_succ_cons, List.drop_zero, List.append_nil, Nat.zero_add, subA5, subP4, arrG, plG, runes, noA, if_true, if_false, beq_self_eq_true, bne_self_eq_false, hq1, hq2]
        refine goP h52l ?_
        simp only [go_sem, ↓reduceIte, Nat.reduceEqDiff, Nat.reduceAdd, Nat.reduceMul, Nat.reduceLeDiff, Nat.reduceLT, Int.reduceToNat, Int.reduceLT, Int.reduceLE, reduceCtorEq, Nat.reduceBEq, fillAll, fillIn, shiftR, shiftV, List.take_succ_cons, List.take_zero, List.drop_succ_cons, List.drop_zero, List.append_nil, Nat.zero_add, subA5, subP4, arrG, plG, runes, noA, if_true, if_false, beq_self_eq_true, bne_self_eq_false, hq1, hq2]
        refine goR h50l rfl ?_
        simp only [go_sem, ↓reduceIte, Nat.reduceEqDiff, Nat.reduceAdd, Nat.reduceMul, Nat.reduceLeDiff, Nat.reduceLT, Int.reduceToNat, Int.reduceLT, Int.reduceLE, reduceCtorEq, Nat.reduceBEq, fillAll, fillIn, shiftR, shiftV, List.take_succ_cons, List.take_zero, List.drop_succ_cons, List.drop_zero, List.append_nil, Nat.zero_add, subA5, subP4, arrG, plG, runes, noA, if_true, if_false, beq_self_eq_true, bne_self_eq_false, hq1, hq2]
        refine goP h53 ?_
        simp only [go_sem, ↓reduceIte, Nat.reduceEqDiff, Nat.reduceAdd, Nat.reduceMul, Nat.reduceLeDiff, Nat.reduceLT, Int.reduceToNat, Int.reduceLT, Int.reduceLE, reduceCtorEq, Nat.reduceBEq, fillAll, fillIn, shiftR, shiftV, List.take_succ_cons, List.take_zero, List.drop_succ_cons, List.drop_zero, List.append_nil, Nat.zero_add, subA5, subP4, arrG, plG, runes, noA, if_true, if_false, beq_self_eq_true, bne_self_eq_false, hq1, hq2]
        refine goP h52t ?_
        simp only [go_sem, ↓reduceIte, Nat.reduceEqDiff, Nat.reduceAdd, Nat.reduceMul, Nat.reduceLeDiff, Nat.reduceLT, Int.reduceToNat, Int.reduceLT, Int.reduceLE, reduceCtorEq, Nat.reduceBEq, fillAll, fillIn, shiftR, shiftV, List.take_succ_cons, List.take_zero, List.drop_succ_cons, List.drop_zero, List.append_nil, Nat.zero_add, subA5, subP4, arrG, plG, runes, noA, if_true, if_false, beq_self_eq_true, bne_self_eq_false, hq1, hq2]
        refine goR h50t rfl ?_
        simp only [go_sem, ↓reduceIte, Nat.reduceEqDiff, Nat.reduceAdd, Nat.reduceMul, Nat.reduceLeDiff, Nat.reduceLT, Int.reduceToNat, Int.reduceLT, Int.reduceLE, reduceCtorEq, Nat.reduceBEq, fillAll, fillIn, shiftR, shiftV, List.take_succ_cons, List.take_zero, List.drop_succ_cons, List.drop_zero, List.append_nil, Nat.zero_add, subA5, subP4, arrG, plG, runes, noA, if_true, if_false, beq_self_eq_true, bne_self_eq_false, hq1, hq2]
        refine goR c54_no rfl ?_
        simp only [go_sem, ↓reduceIte, Nat.reduceEqDiff, Nat.reduceAdd, Nat.reduceMul, Nat.reduceLeDiff, Nat.reduceLT, Int.reduceToNat, Int.reduceLT, Int.reduceLE, reduceCtorEq, Nat.reduceBEq, fillAll, fillIn, shiftR, shiftV, List.take_succ_cons, List.take_zero, List.drop_succ_cons, List.drop_zero, List.append_nil, Nat.zero_add, subA5, subP4, arrG, plG, runes, noA, if_true, if_false, beq_self_eq_true, bne_self_eq_false, hq1, hq2]
        refine goR c54_no rfl ?_
        simp only [go_sem, ↓reduceIte, Nat.reduceEqDiff, Nat.reduceAdd, Nat.reduceMul, Nat.reduceLeDiff, Nat.reduceLT, Int.reduceToNat, Int.reduceLT, Int.reduceLE, reduceCtorEq, Nat.reduceBEq, fillAll, fillIn, shiftR, shiftV, List.take_succ_cons, List.take_zero, List.drop_succ_cons, List.drop_zero, List.append_nil, Nat.zero_add, subA5, subP4, arrG, plG, runes, noA, if_true, if_false, beq_self_eq_true, bne_self_eq_false, hq1, hq2]
        refine goP h38 ?_
        simp only [go_sem, ↓reduceIte, Nat.reduceEqDiff, Nat.reduceAdd, Nat.reduceMul, Nat.reduceLeDiff, Nat.reduceLT, Int.reduceToNat, Int.reduceLT, Int.reduceLE, reduceCtorEq, Nat.reduceBEq, fillAll, fillIn, shiftR, shiftV, List.take_succ_cons, List.take_zero, List.drop_succ_cons, List.drop_zero, List.append_nil, Nat.zero_add, subA5, subP4, arrG, plG, runes, noA, if_true, if_false, beq_self_eq_true, bne_self_eq_false, hq1, hq2]
        refine goP h52n ?_
        simp only [go_sem, ↓reduceIte, Nat.reduceEqDiff, Nat.reduceAdd, Nat.reduceMul, Nat.reduceLeDiff, Nat.reduceLT, Int.reduceToNat, Int.reduceLT, Int.reduceLE, reduceCtorEq, Nat.reduceBEq, fillAll, fillIn, shiftR, shiftV, List.take_succ_cons, List.take_zero, List.drop_succ_cons, List.drop_zero, List.append_nil, Nat.zero_add, subA5, subP4, arrG, plG, runes, noA, if_true, if_false, beq_self_eq_true, bne_self_eq_false, hq1, hq2]
        refine goP h55 ?_
        simp only [go_sem, ↓reduceIte, Nat.reduceEqDiff, Nat.reduceAdd, Nat.reduceMul, Nat.reduceLeDiff, Nat.reduceLT, Int.reduceToNat, Int.reduceLT, Int.reduceLE, reduceCtorEq, Nat.reduceBEq, fillAll, fillIn, shiftR, shiftV, List.take_succ_cons, List.take_zero, List.drop_succ_cons, List.drop_zero, List.append_nil, Nat.zero_add, subA5, subP4, arrG, plG, runes, noA, if_true, if_false, beq_self_eq_true, bne_self_eq_false, hq1, hq2]
        refine goP h50n ?_
        simp only [go_sem, ↓reduceIte, Nat.reduceEqDiff, Nat.reduceAdd, Nat.reduceMul, Nat.reduceLeDiff, Nat.reduceLT, Int.reduceToNat, Int.reduceLT, Int.reduceLE, reduceCtorEq, Nat.reduceBEq, fillAll, fillIn, shiftR, shiftV, List.take_succ_cons, List.take_zero, List.drop_succ_cons, List.drop_zero, List.append_nil, Nat.zero_add, subA5, subP4, arrG, plG, runes, noA, if_true, if_false, beq_self_eq_true, bne_self_eq_false, hq1, hq2]
        refine goP h45 ?_
        simp only [go_sem, ↓reduceIte, Nat.reduceEqDiff, Nat.reduceAdd, Nat.reduceMul, Nat.reduceLeDiff, Nat.reduceLT, Int.reduceToNat, Int.reduceLT, Int.reduceLE, reduceCtorEq, Nat.reduceBEq, fillAll, fillIn, shiftR, shiftV, List.take_succ_cons, List.take_zero, List.drop_succ_cons, List.drop_zero, List.append_nil, Nat.zero_add, subA5, subP4, arrG, plG, runes, noA, if_true, if_false, beq_self_eq_true, bne_self_eq_false, hq1, hq2]
        refine goP h56 ?_
        simp only [go_sem, ↓reduceIte, Nat.reduceEqDiff, Nat.reduceAdd, Nat.reduceMul, Nat.reduceLeDiff, Nat.reduceLT, Int.reduceToNat, Int.reduceLT, Int.reduceLE, reduceCtorEq, Nat.reduceBEq, fillAll, fillIn, shiftR, shiftV, List.take_succ_cons, List.take_zero, List.drop_succ_cons, List.drop_zero, List.append_nil, Nat.zero_add, subA5, subP4, arrG, plG, runes, noA, if_true, if_false, beq_self_eq_true, bne_self_eq_false, hq1, hq2]
        refine goP h52n ?_
        simp only [go_sem, ↓reduceIte, Nat.reduceEqDiff, Nat.reduceAdd, Nat.reduceMul, Nat.reduceLeDiff, Nat.reduceLT, Int.reduceToNat, Int.reduceLT, Int.reduceLE, reduceCtorEq, Nat.reduceBEq, fillAll, fillIn, shiftR, shiftV, List.take_succ_cons, List.take_zero, List.drop_succ_cons, List.drop_zero, List.append_nil, Nat.zero_add, subA5, subP4, arrG, plG, runes, noA, if_true, if_false, beq_self_eq_true, bne_self_eq_false, hq1, hq2]
        refine goP h55 ?_
        simp only [go_sem, ↓reduceIte, Nat.reduceEqDiff, Nat.reduceAdd, Nat.reduceMul, Nat.reduceLeDiff, Nat.reduceLT, Int.reduceToNat, Int.reduceLT, Int.reduceLE, reduceCtorEq, Nat.reduceBEq, fillAll, fillIn, shiftR, shiftV, List.take_succ_cons, List.take_zero, List.drop_succ_cons, List.drop_zero, List.append_nil, Nat.zero_add, subA5, subP4, arrG, plG, runes, noA, if_true, if_false, beq_self_eq_true, bne_self_eq_false, hq1, hq2]
        refine goP h50n ?_
        simp only [go_sem, ↓reduceIte, Nat.reduceEqDiff, Nat.reduceAdd, Nat.reduceMul, Nat.reduceLeDiff, Nat.reduceLT, Int.reduceToNat, Int.reduceLT, Int.reduceLE, reduceCtorEq, Nat.reduceBEq, fillAll, fillIn, shiftR, shiftV, List.take_succ_cons, List.take_zero, List.drop_succ_cons, List.drop_zero, List.append_nil, Nat.zero_add, subA5, subP4, arrG, plG, runes, noA, if_true, if_false, beq_self_eq_true, bne_self_eq_false, hq1, hq2]
        refine goP h57 ?_
        simp only [go_sem, ↓reduceIte, Nat.reduceEqDiff, Nat.reduceAdd, Nat.reduceMul, Nat.reduceLeDiff, Nat.reduceLT, Int.reduceToNat, Int.reduceLT, Int.reduceLE, reduceCtorEq, Nat.reduceBEq, fillAll, fillIn, shiftR, shiftV, List.take_succ_cons, List.take_zero, List.drop_succ_cons, List.drop_zero, List.append_nil, Nat.zero_add, subA5, subP4, arrG, plG, runes, noA, if_true, if_false, beq_self_eq_true, bne_self_eq_false, hq1, hq2]
        refine goP h52c ?_
        simp only [go_sem, ↓reduceIte, Nat.reduceEqDiff, Nat.reduceAdd, Nat.reduceMul, Nat.reduceLeDiff, Nat.reduceLT, Int.reduceToNat, Int.reduceLT, Int.reduceLE, reduceCtorEq, Nat.reduceBEq, fillAll, fillIn, shiftR, shiftV, List.take_succ_cons, List.take_zero, List.drop_succ_cons, List.drop_zero, List.append_nil, Nat.zero_add, subA5, subP4, arrG, plG, runes, noA, if_true, if_false, beq_self_eq_true, bne_self_eq_false, hq1, hq2]
        refine goR h50c rfl ?_
        simp only [go_sem, ↓reduceIte, Nat.reduceEqDiff, Nat.reduceAdd, Nat.reduceMul, Nat.reduceLeDiff, Nat.reduceLT, Int.reduceToNat, Int.reduceLT, Int.reduceLE, reduceCtorEq, Nat.reduceBEq, fillAll, fillIn, shiftR, shiftV, List.take_succ_cons, List.take_zero, List.drop_succ_cons, List.drop_zero, List.append_nil, Nat.zero_add, subA5, subP4, arrG, plG, runes, noA, if_true, if_false, beq_self_eq_true, bne_self_eq_false, hq1, hq2]
        refine goP h58t ?_
        simp only [go_sem, ↓reduceIte, Nat.reduceEqDiff, Nat.reduceAdd, Nat.reduceMul, Nat.reduceLeDiff, Nat.reduceLT, Int.reduceToNat, Int.reduceLT, Int.reduceLE, reduceCtorEq, Nat.reduceBEq, fillAll, fillIn, shiftR, shiftV, List.take_succ_cons, List.take_zero, List.drop_succ_cons, List.drop_zero, List.append_nil, Nat.zero_add, subA5, subP4, arrG, plG, runes, noA, if_true, if_false, beq_self_eq_true, bne_self_eq_false, hq1, hq2]
        refine goP h52u ?_
        simp only [go_sem, ↓reduceIte, Nat.reduceEqDiff, Nat.reduceAdd, Nat.reduceMul, Nat.reduceLeDiff, Nat.reduceLT, Int.reduceToNat, Int.reduceLT, Int.reduceLE, reduceCtorEq, Nat.reduceBEq, fillAll, fillIn, shiftR, shiftV, List.take_succ_cons, List.take_zero, List.drop_succ_cons, List.drop_zero, List.append_nil, Nat.zero_add, subA5, subP4, arrG, plG, runes, noA, if_true, if_false, beq_self_eq_true, bne_self_eq_false, hq1, hq2]
        refine goF h49e ?_
        simp only [go_sem, ↓reduceIte, Nat.reduceEqDiff, Nat.reduceAdd, Nat.reduceMul, Nat.reduceLeDiff, Nat.reduceLT, Int.reduceToNat, Int.reduceLT, Int.reduceLE, reduceCtorEq, Nat.reduceBEq, fillAll, fillIn, shiftR, shiftV, List.take_succ_cons, List.take_zero, List.drop_succ_cons, List.drop_zero, List.append_nil, Nat.zero_add, subA5, subP4, arrG, plG, runes, noA, if_true, if_false, beq_self_eq_true, bne_self_eq_false, hq1, hq2]
        refine goP h50u ?_
        simp only [go_sem, ↓reduceIte, Nat.reduceEqDiff, Nat.reduceAdd, Nat.reduceMul, Nat.reduceLeDiff, Nat.reduceLT, Int.reduceToNat, Int.reduceLT, Int.reduceLE, reduceCtorEq, Nat.reduceBEq, fillAll, fillIn, shiftR, shiftV, List.take_succ_cons, List.take_zero, List.drop_succ_cons, List.drop_zero, List.append_nil, Nat.zero_add, subA5, subP4, arrG, plG, runes, noA, if_true, if_false, beq_self_eq_true, bne_self_eq_false, hq1, hq2]
        refine goP h58f ?_
        simp only [go_sem, ↓reduceIte, Nat.reduceEqDiff, Nat.reduceAdd, Nat.reduceMul, Nat.reduceLeDiff, Nat.reduceLT, Int.reduceToNat, Int.reduceLT, Int.reduceLE, reduceCtorEq, Nat.reduceBEq, fillAll, fillIn, shiftR, shiftV, List.take_succ_cons, List.take_zero, List.drop_succ_cons, List.drop_zero, List.append_nil, Nat.zero_add, subA5, subP4, arrG, plG, runes, noA, if_true, if_false, beq_self_eq_true, bne_self_eq_false, hq1, hq2]
        refine goP h52v ?_
        simp only [go_sem, ↓reduceIte, Nat.reduceEqDiff, Nat.reduceAdd, Nat.reduceMul, Nat.reduceLeDiff, Nat.reduceLT, Int.reduceToNat, Int.reduceLT, Int.reduceLE, reduceCtorEq, Nat.reduceBEq, fillAll, fillIn, shiftR, shiftV, List.take_succ_cons, List.take_zero, List.drop_succ_cons, List.drop_zero, List.append_nil, Nat.zero_add, subA5, subP4, arrG, plG, runes, noA, if_true, if_false, beq_self_eq_true, bne_self_eq_false, hq1, hq2]
        refine goF h48e ?_
        simp only [go_sem, ↓reduceIte, Nat.reduceEqDiff, Nat.reduceAdd, Nat.reduceMul, Nat.reduceLeDiff, Nat.reduceLT, Int.reduceToNat, Int.reduceLT, Int.reduceLE, reduceCtorEq, Nat.reduceBEq, fillAll, fillIn, shiftR, shiftV, List.take_succ_cons, List.take_zero, List.drop_succ_cons, List.drop_zero, List.append_nil, Nat.zero_add, subA5, subP4, arrG, plG, runes, noA, if_true, if_false, beq_self_eq_true, bne_self_eq_false, hq1, hq2]
        refine goP h50v ?_
        simp only [go_sem, ↓reduceIte, Nat.reduceEqDiff, Nat.reduceAdd, Nat.reduceMul, Nat.reduceLeDiff, Nat.reduceLT, Int.reduceToNat, Int.reduceLT, Int.reduceLE, reduceCtorEq, Nat.reduceBEq, fillAll, fillIn, shiftR, shiftV, List.take_succ_cons, List.take_zero, List.drop_succ_cons, List.drop_zero, List.append_nil, Nat.zero_add, subA5, subP4, arrG, plG, runes, noA, if_true, if_false, beq_self_eq_true, bne_self_eq_false, hq1, hq2]
        refine goP c34_ok ?_
        simp only [go_sem, ↓reduceIte, Nat.reduceEqDiff, Nat.reduceAdd, Nat.reduceMul, Nat.reduceLeDiff, Nat.reduceLT, Int.reduceToNat, Int.reduceLT, Int.reduceLE, reduceCtorEq, Nat.reduceBEq]
        simp only [i9, Out, resAll, geto, ints, List.getElem?_cons_zero, List.getElem?_cons_succ, resOf, outOf, snap, snapL, ev, getE, List.mapM_cons, List.mapM_nil, Option.bind_some, Option.pure_def, Option.bind_eq_bind, Option.map_some, reduceIte, Nat.reduceEqDiff, true_and, and_true]
end Go.Proofs.Ytcmbaabkfihdmaa.I
