/- Layer 6: arrays of whole numbers. -/
import Derived.Test.YtcmbaabkfihdmaaL06b
import Derived.Test.YtcmbaabkfihdmaaVExt
set_option linter.unusedVariables false
set_option linter.unusedSimpArgs false
namespace Go.Proofs.Ytcmbaabkfihdmaa.I
open Go Go.V
attribute [local go_sem] mNil nat0 beq_self_eq_true mSkip mRet mExit mReg mSeq mCond mTrue mFalse mBlock mLv mCodeE mCodeR mEndN mEndR mEndE mOps mSome mGuard mGtt mGff mGtf mGft mGu mCallP mCallR mCallF mCallO mCallZ mCallG mCallM mCallV loopQ_exit loopQ_ret mO_mov mO_newnil mO_pick mO_alloc mO_box mO_build mO_bsl mO_ldf mO_ld mO_st mO_sta mO_nilchk mO_bin mO_binb mO_binp mO_bins mO_neg mO_not mO_conv mO_mk mO_mk0 mO_s2b mO_b2s mO_cpy mO_cut mO_faddr mO_fld mO_iaddr mO_iaddrf mO_sidx mO_len mO_lenf mO_slen mO_scut mO_app mO_ext mO_mx mO_mn mO_mkfn evalOp cutOp argsE ev getE putE cellsOf adopt rowOf binV boolV nilV arith geto bound finRet finNrm ints List.length_cons List.length_nil List.length_append List.getElem?_cons_zero List.getElem?_cons_succ List.nil_append List.cons_append List.map_cons List.map_nil List.mapM_cons List.mapM_nil Option.map_some Option.map_none Option.bind_some Option.pure_def Option.bind_eq_bind List.drop_zero or_self or_false false_or or_true true_or true_and and_true and_self decide_true decide_false Bool.false_eq_true Bool.true_eq_false Bool.not_true Bool.not_false Nat.le_refl eq_self gt_iff_lt ge_iff_le ne_eq not_true_eq_false not_false_eq_true storeOp apartOf freeze_nil refsL refs List.flatMap_cons List.flatMap_nil List.append_nil List.contains_nil List.set_cons_zero List.set_cons_succ snap snapL fill_nums flat_nums nums_length Go.V.freeze List.mapIdx_cons List.mapIdx_nil List.contains_cons Bool.or_false Bool.false_or Bool.or_true Bool.true_or

def ratsC (l : List Int) : List AV := l.flatMap ratC
theorem ratsC_len {l : List Int} : (ratsC l).length = l.length * 3 := by
  induction l with
  | nil => rfl
  | cons z l ih =>
    have : ratsC (z :: l) = ratC z ++ ratsC l := rfl
    rw [this, List.length_append, ih]
    simp [ratC]
    omega
theorem ratsC_get : ∀ {l : List Int} {i : Nat}, i < l.length → ((ratsC l).drop (i * 3)).take 3 = ratC (l.getD i 0)
  | [], i, h => by simp at h
  | z :: l, 0, _ => by
    have : ratsC (z :: l) = ratC z ++ ratsC l := rfl
    rw [this, Nat.zero_mul, List.drop_zero]
    simp [ratC]
  | z :: l, i + 1, h => by
    have : ratsC (z :: l) = ratC z ++ ratsC l := rfl
    rw [this, Nat.succ_mul, List.drop_append]
    have e : (ratC z).length = 3 := rfl
    rw [List.drop_eq_nil_of_le (by rw [e]; omega), e, Nat.add_sub_cancel, List.nil_append, ratsC_get (by simpa using h)]
    simp
theorem sub_rats {l : List Int} {i : Nat} (h : i < l.length) : sub true 3 (ratsC l) (i * 3) = some (.agg (ratC (l.getD i 0))) := by
  simp only [sub, ratsC_len, if_true]
  rw [if_pos (by omega), ratsC_get h]

theorem subT3 {a b c : AV} : sub true 3 [a, b, c] 0 = some (.agg [a, b, c]) := rfl
/-- An array of whole numbers. -/
def arrV (s : List Int) (l : List Int) : List AV := [ints s, .bool false, .sl 0 1 [], .sl l.length 3 (ratsC l), .bool true]
section
variable {E : CallRel}
theorem c56_ok {z : Int} : Go.V.Call tab E 56 [.agg (ratC z)] [] (.agg (arrV [] [z])) [] := by
  refine Go.V.Call.mach i56 c56 rfl rfl rfl rfl ?_
  simp only [c56, ratC, go_sem, ↓reduceIte, Nat.reduceEqDiff, Nat.reduceAdd, Nat.reduceMul, Nat.reduceLeDiff, Nat.reduceLT, Int.reduceToNat, Int.reduceLT, Int.reduceLE, reduceCtorEq, Nat.reduceBEq, us32, sub, fillAll, fillIn, shiftR, shiftV, List.take_succ_cons, List.take_zero, List.drop_succ_cons, List.drop_zero, List.append_nil, Nat.zero_add, List.flatten_cons, List.flatten_nil, Option.getD_some]
  simp only [i56, Out, resAll, geto, ints, List.getElem?_cons_zero, List.getElem?_cons_succ, resOf, outOf, snap, snapL, ev, getE, List.mapM_cons, List.mapM_nil, Option.bind_some, Option.pure_def, Option.bind_eq_bind, Option.map_some, reduceIte, Nat.reduceEqDiff, true_and, and_true, sub, fillAll, fillIn, shiftR, shiftV, List.take_succ_cons, List.take_zero, List.drop_succ_cons, List.drop_zero, List.append_nil, Nat.zero_add, List.length_cons, List.length_nil, Nat.le_refl, arrV, ratsC, List.flatMap_cons, List.flatMap_nil, ratC, us32, nums]
  rfl
theorem c38_ok {z : Int} (hz : In64 z) : Go.V.Call tab E 38 [.int .i64 z] [] (.agg (arrV [] [z])) [] := by
  refine Go.V.Call.mach i38 c38 rfl rfl rfl rfl ?_
  simp only [c38, go_sem, ↓reduceIte, Nat.reduceEqDiff, Nat.reduceAdd, Nat.reduceMul, Nat.reduceLeDiff, Nat.reduceLT, Int.reduceToNat, Int.reduceLT, Int.reduceLE, reduceCtorEq, Nat.reduceBEq]
  refine goP (c45_ok hz) ?_
  simp only [go_sem, ↓reduceIte, Nat.reduceEqDiff, Nat.reduceAdd, Nat.reduceMul, Nat.reduceLeDiff, Nat.reduceLT, Int.reduceToNat, Int.reduceLT, Int.reduceLE, reduceCtorEq, Nat.reduceBEq, ratC, us32]
  refine goP (c56_ok (z := z)) ?_
  simp only [go_sem, ↓reduceIte, Nat.reduceEqDiff, Nat.reduceAdd, Nat.reduceMul, Nat.reduceLeDiff, Nat.reduceLT, Int.reduceToNat, Int.reduceLT, Int.reduceLE, reduceCtorEq, Nat.reduceBEq, arrV, fillAll, fillIn, shiftR, shiftV, List.take_succ_cons, List.take_zero, List.drop_succ_cons, List.drop_zero, List.append_nil, Nat.zero_add]
  simp only [i38, Out, resAll, geto, ints, List.getElem?_cons_zero, List.getElem?_cons_succ, resOf, outOf, snap, snapL, ev, getE, List.mapM_cons, List.mapM_nil, Option.bind_some, Option.pure_def, Option.bind_eq_bind, Option.map_some, reduceIte, Nat.reduceEqDiff, true_and, and_true, sub, fillAll, fillIn, shiftR, shiftV, List.take_succ_cons, List.take_zero, List.drop_succ_cons, List.drop_zero, List.append_nil, Nat.zero_add, List.length_cons, List.length_nil, Nat.le_refl, arrV]
theorem c54_ok {s l : List Int} (hl : (l.length : Int) ≤ 1000000000000) : Go.V.Call tab E 54 [.agg (arrV s l)] [] (.int .i64 l.length) [] := by
  refine Go.V.Call.mach i54 c54 rfl rfl rfl rfl ?_
  have hw : IntKind.i64.wrap (0 + (l.length : Int)) = (l.length : Int) := by rw [Int.zero_add, wrap_i64 (by omega) (by omega)]
  simp only [c54, arrV, go_sem, ↓reduceIte, Nat.reduceEqDiff, Nat.reduceAdd, Nat.reduceMul, Nat.reduceLeDiff, Nat.reduceLT, Int.reduceToNat, Int.reduceLT, Int.reduceLE, reduceCtorEq, Nat.reduceBEq, sub, fillAll, fillIn, shiftR, shiftV, List.take_succ_cons, List.take_zero, List.drop_succ_cons, List.drop_zero, List.append_nil, Nat.zero_add, hw]
  simp only [i54, Out, resAll, geto, ints, List.getElem?_cons_zero, List.getElem?_cons_succ, resOf, outOf, snap, snapL, ev, getE, List.mapM_cons, List.mapM_nil, Option.bind_some, Option.pure_def, Option.bind_eq_bind, Option.map_some, reduceIte, Nat.reduceEqDiff, true_and, and_true]
end
section
theorem c85_ok {s : List Int} (hs : (s.length : Int) ≤ 1000000000000) : Go.V.Call tab E 85 [ints s] [] (.arr 0 0) [⟨false, 3, 1, 0, s.length, nums .i64 s, false⟩] := by
  refine ⟨0, ?_⟩
  have h1 : s.length * 8 ≤ 140737488355328 := by omega
  have h2 : s.length ≤ 140737488355328 := by omega
  simp only [CallN, E, ext, cloneOf, ints, h1, h2, and_self, if_true]
theorem c69_ok {s l : List Int} (hs : (s.length : Int) ≤ 1000000000000) : Go.V.Call tab E 69 [.agg (arrV s l)] [] (ints s) [] := by
  refine Go.V.Call.mach i69 c69 rfl rfl rfl rfl ?_
  simp only [c69, arrV, go_sem, ↓reduceIte, Nat.reduceEqDiff, Nat.reduceAdd, Nat.reduceMul, Nat.reduceLeDiff, Nat.reduceLT, Int.reduceToNat, Int.reduceLT, Int.reduceLE, reduceCtorEq, Nat.reduceBEq, sub, fillAll, fillIn, shiftR, shiftV, List.take_succ_cons, List.take_zero, List.drop_succ_cons, List.drop_zero, List.append_nil, Nat.zero_add]
  refine goO (c85_ok hs) rfl rfl ?_
  simp only [go_sem, ↓reduceIte, Nat.reduceEqDiff, Nat.reduceAdd, Nat.reduceMul, Nat.reduceLeDiff, Nat.reduceLT, Int.reduceToNat, Int.reduceLT, Int.reduceLE, reduceCtorEq, Nat.reduceBEq, fillAll, fillIn, shiftR, shiftV, List.take_succ_cons, List.take_zero, List.drop_succ_cons, List.drop_zero, List.append_nil, Nat.zero_add]
  simp only [i69, Out, resAll, geto, ints, List.getElem?_cons_zero, List.getElem?_cons_succ, resOf, outOf, snap, snapL, ev, getE, List.mapM_cons, List.mapM_nil, Option.bind_some, Option.pure_def, Option.bind_eq_bind, Option.map_some, reduceIte, Nat.reduceEqDiff, true_and, and_true]
theorem c70_ok {s l : List Int} (hs : (s.length : Int) ≤ 1000000000000) : Go.V.Call tab E 70 [.agg (arrV s l)] [] (.int .i64 s.length) [] := by
  refine Go.V.Call.mach i70 c70 rfl rfl rfl rfl ?_
  simp only [c70, arrV, go_sem, ↓reduceIte, Nat.reduceEqDiff, Nat.reduceAdd, Nat.reduceMul, Nat.reduceLeDiff, Nat.reduceLT, Int.reduceToNat, Int.reduceLT, Int.reduceLE, reduceCtorEq, Nat.reduceBEq, sub, fillAll, fillIn, shiftR, shiftV, List.take_succ_cons, List.take_zero, List.drop_succ_cons, List.drop_zero, List.append_nil, Nat.zero_add]
  refine goP (c69_ok (s := s) (l := l) hs) ?_
  simp only [go_sem, ↓reduceIte, Nat.reduceEqDiff, Nat.reduceAdd, Nat.reduceMul, Nat.reduceLeDiff, Nat.reduceLT, Int.reduceToNat, Int.reduceLT, Int.reduceLE, reduceCtorEq, Nat.reduceBEq, fillAll, fillIn, shiftR, shiftV, List.take_succ_cons, List.take_zero, List.drop_succ_cons, List.drop_zero, List.append_nil, Nat.zero_add]
  simp only [i70, Out, resAll, geto, ints, List.getElem?_cons_zero, List.getElem?_cons_succ, resOf, outOf, snap, snapL, ev, getE, List.mapM_cons, List.mapM_nil, Option.bind_some, Option.pure_def, Option.bind_eq_bind, Option.map_some, reduceIte, Nat.reduceEqDiff, true_and, and_true]
end
section
variable {E : CallRel}
/-- A row that is made number by number. -/
def rowI (l : List Int) : AObj := ⟨false, 3, 1, 0, l.length, nums .i64 l, false⟩
theorem c41_ok {s l : List Int} (hl : (l.length : Int) ≤ 1000000000000) (hz : ∀ z ∈ l, In64 z) : Go.V.Call tab E 41 [.agg (arrV s l)] [] (.tup [.arr 0 0, .bool true]) [rowI l] := by
  refine Go.V.Call.mach i41 c41 rfl rfl rfl rfl ?_
  simp only [c41, arrV, go_sem, ↓reduceIte, Nat.reduceEqDiff, Nat.reduceAdd, Nat.reduceMul, Nat.reduceLeDiff, Nat.reduceLT, Int.reduceToNat, Int.reduceLT, Int.reduceLE, reduceCtorEq, Nat.reduceBEq, sub, fillAll, fillIn, shiftR, shiftV, List.take_succ_cons, List.take_zero, List.drop_succ_cons, List.drop_zero, List.append_nil, Nat.zero_add]
  refine mLoop (fun N st => ∃ (i : Nat), i ≤ l.length ∧ N = l.length - i ∧
    st = ⟨[(4, .arr 2 i), (17, .sl l.length 3 (ratsC l)), (18, .int .i64 l.length), (19, .int .i64 i)],
      [⟨true, 48, 5, 0, 1, [ints s, .bool false, .sl 0 1 [], .sl l.length 3 (ratsC l), .bool true], false⟩, ⟨false, 3, 1, 0, 0, [], false⟩, ⟨false, 3, 1, i, i, nums .i64 (l.take i), false⟩]⟩) l.length
    ⟨_, rfl, 0, by omega, by omega, by simp [nums, getE, ints]⟩ ?_
  rintro N s0 ⟨i, hi, rfl, rfl⟩
  by_cases hlt : i < l.length
  · have hlt' : (i : Int) < (l.length : Int) := by omega
    have hi0 : (0 : Int) ≤ (i : Int) := by omega
    have hi1 : IntKind.i64.wrap ((i : Int) + 1) = ((i + 1 : Nat) : Int) := by rw [wrap_i64 (by omega) (by omega)]; omega
    have hsub := sub_rats hlt
    have hzi : In64 (l.getD i 0) := hz _ (by simp [List.getD, hlt])
    have htk := take_snoc hlt
    have e1 : (i + 1) * 8 ≤ 140737488355328 := by omega
    have e2 : i + 1 ≤ 140737488355328 := by omega
    simp only [b41_0, ints, go_sem, ↓reduceIte, Nat.reduceEqDiff, Nat.reduceAdd, Nat.reduceMul, Nat.reduceLeDiff, Nat.reduceLT, Int.reduceToNat, Int.reduceLT, Int.reduceLE, reduceCtorEq, Nat.reduceBEq, hlt', hi0, Int.toNat_natCast, hsub, ratC, us32, subT3, fillAll, fillIn, shiftR, shiftV, List.take_succ_cons, List.take_zero, List.drop_succ_cons, List.drop_zero, List.append_nil, Nat.zero_add]
    refine goR (c88_ok hzi) rfl ?_
    simp only [go_sem, ↓reduceIte, Nat.reduceEqDiff, Nat.reduceAdd, Nat.reduceMul, Nat.reduceLeDiff, Nat.reduceLT, Int.reduceToNat, Int.reduceLT, Int.reduceLE, reduceCtorEq, Nat.reduceBEq, fillAll, fillIn, shiftR, shiftV, List.take_succ_cons, List.take_zero, List.drop_succ_cons, List.drop_zero, List.append_nil, Nat.zero_add, hi1, e1, e2, List.flatten_cons, List.flatten_nil, Option.getD_some]
    refine loopQ_go rfl (l.length - (i + 1)) (by omega) ⟨i + 1, by omega, rfl, ?_⟩
    rw [htk]
    simp only [nums, List.map_append, List.map_cons, List.map_nil]
    rfl
  · have hlt' : ¬ (i : Int) < (l.length : Int) := by omega
    obtain rfl : i = l.length := by omega
    simp only [b41_0, k41_0, ints, go_sem, ↓reduceIte, Nat.reduceEqDiff, Nat.reduceAdd, Nat.reduceMul, Nat.reduceLeDiff, Nat.reduceLT, Int.reduceToNat, Int.reduceLT, Int.reduceLE, reduceCtorEq, Nat.reduceBEq, hlt', List.take_length]
    simp only [i41, Out, resAll, geto, ints, List.getElem?_cons_zero, List.getElem?_cons_succ, resOf, outOf, snap, snapL, ev, getE, List.mapM_cons, List.mapM_nil, Option.bind_some, Option.pure_def, Option.bind_eq_bind, Option.map_some, reduceIte, Nat.reduceEqDiff, true_and, and_true, ownOut, ownL, ownV, scalar, List.contains_nil, List.length_nil, List.length_cons, List.nil_append, List.cons_append, storeOp, apartOf, freeze_nil, refsL, refs, List.flatMap_cons, List.flatMap_nil, List.append_nil, List.contains_nil, List.set_cons_zero, List.set_cons_succ, snap, snapL, fill_nums, flat_nums, nums_length, reduceCtorEq, Bool.false_eq_true, and_self, not_false_eq_true, beq_self_eq_true, Nat.zero_add]
    rfl
end
end Go.Proofs.Ytcmbaabkfihdmaa.I
