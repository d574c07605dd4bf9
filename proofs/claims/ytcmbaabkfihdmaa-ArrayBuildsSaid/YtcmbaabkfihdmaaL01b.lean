/- Layer 1: division by a limb. -/
import Derived.Test.YtcmbaabkfihdmaaL01a
set_option linter.unusedVariables false
set_option linter.unusedSimpArgs false
namespace Go.Proofs.Ytcmbaabkfihdmaa.I
open Go Go.V
theorem shl_or {a b : Nat} (ha : a < 4294967296) (hb : b < 4294967296) : IntKind.u64.wrap (((BitVec.ofInt 64 ((b : Int) * 4294967296) ||| BitVec.ofInt 64 (a : Int)).toNat : Nat) : Int) = (b : Int) * 4294967296 + a := by
  rw [BitVec.or_comm]
  exact or_shl ha hb
theorem shl32 {b : Nat} (hb : b < 4294967296) : shiftOp .shl .u64 (b : Int) 32 = some (.int .u64 ((b : Int) * 4294967296)) := by
  have : IntKind.u64.wrap ((b : Int) * 4294967296) = (b : Int) * 4294967296 := wrap_u64 (by omega) (by omega)
  simp only [shiftOp, IntKind.bits]
  simp
  exact this
theorem small_step {d x v : Nat} (hd : 0 < d) : (x + 4294967296 * v) / d = 4294967296 * (v / d) + (v % d * 4294967296 + x) / d ∧ (x + 4294967296 * v) % d = (v % d * 4294967296 + x) % d := by
  have e : x + 4294967296 * v = (v % d * 4294967296 + x) + d * (4294967296 * (v / d)) := by
    have h := Nat.div_add_mod v d
    have h2 : 4294967296 * v = 4294967296 * (d * (v / d)) + 4294967296 * (v % d) := by rw [← Nat.mul_add, h]
    have h3 : d * (4294967296 * (v / d)) = 4294967296 * (d * (v / d)) := by rw [← Nat.mul_assoc, ← Nat.mul_assoc, Nat.mul_comm d]
    omega
  rw [e, Nat.add_mul_div_left _ _ hd, Nat.add_mul_mod_self_left]
  exact ⟨by omega, rfl⟩
theorem subB1 {a : AV} : sub false 1 [a] 0 = some a := rfl
section
variable {E : CallRel}
theorem c125_ok {l : List Int} {d : Nat} (hl : R32 l) (hll : (l.length : Int) ≤ 1000000000000) (hd : 0 < d ∧ d < 4294967296) : Go.V.Call tab E 125 [.agg [us32 l], .int .u32 d] [] (.tup [.agg [us32 (limG (nval l / d))], .int .u32 ((nval l % d : Nat) : Int)]) [] := by
  refine Go.V.Call.mach i125 c125 rfl rfl rfl rfl ?_
  have b1 : (0 : Int) ≤ (l.length : Int) := by omega
  have b2 : 4 * l.length ≤ 140737488355328 := by omega
  have b3 : (l.length : Int) ≤ 140737488355328 := by omega
  have w0 : IntKind.i64.wrap ((l.length : Int) - 1) = (l.length : Int) - 1 := wrap_i64 (by omega) (by omega)
  simp only [c125, us32, mNil, nat0, beq_self_eq_true, mSkip, mRet, mExit, mReg, mSeq, mCond, mTrue, mFalse, mBlock, mLv, mCodeE, mCodeR, mEndN, mEndR, mEndE, mOps, mSome, mGuard, mGtt, mGff, mGtf, mGft, mGu, mCallP, mCallR, mCallF, mCallO, mCallZ, mCallG, mCallM, mCallV, loopQ_exit, loopQ_ret, mO_mov, mO_newnil, mO_pick, mO_alloc, mO_box, mO_build, mO_bsl, mO_ldf, mO_ld, mO_st, mO_sta, mO_nilchk, mO_bin, mO_binb, mO_binp, mO_bins, mO_neg, mO_not, mO_conv, mO_mk, mO_mk0, mO_s2b, mO_b2s, mO_cpy, mO_cut, mO_faddr, mO_fld, mO_iaddr, mO_iaddrf, mO_sidx, mO_len, mO_lenf, mO_slen, mO_scut, mO_app, mO_ext, mO_mx, mO_mn, mO_mkfn, evalOp, cutOp, argsE, ev, getE, putE, cellsOf, adopt, rowOf, binV, boolV, nilV, arith, geto, bound, finRet, finNrm, ints, List.length_cons, List.length_nil, List.length_append, List.getElem?_cons_zero, List.getElem?_cons_succ, List.nil_append, List.cons_append, List.map_cons, List.map_nil, List.mapM_cons, List.mapM_nil, Option.map_some, Option.map_none, Option.bind_some, Option.pure_def, Option.bind_eq_bind, List.drop_zero, ↓reduceIte, Nat.reduceEqDiff, Nat.reduceAdd, Nat.reduceMul, Nat.reduceLeDiff, Nat.reduceLT, Int.reduceToNat, Int.reduceLT, Int.reduceLE, reduceCtorEq, or_self, or_false, false_or, or_true, true_or, true_and, and_true, and_self, decide_true, decide_false, Bool.false_eq_true, Bool.true_eq_false, Bool.not_true, Bool.not_false, Nat.le_refl, eq_self, gt_iff_lt, ge_iff_le, ne_eq, not_true_eq_false, not_false_eq_true, storeOp, apartOf, freeze_nil, refsL, refs, List.flatMap_cons, List.flatMap_nil, List.append_nil, List.contains_nil, List.set_cons_zero, List.set_cons_succ, snap, snapL, fill_nums, flat_nums, nums_length, sub, fillAll, fillIn, shiftR, shiftV, List.take_succ_cons, List.take_zero, List.drop_succ_cons, List.drop_zero, List.append_nil, Nat.zero_add, Go.V.freeze, List.mapIdx_cons, List.mapIdx_nil, List.contains_cons, Nat.reduceBEq, Bool.or_false, Bool.false_or, Bool.or_true, Bool.true_or, b1, b2, b3, w0, Int.toNat_natCast, flat_nums]
  refine mLoop (fun N st => ∃ (j : Nat) (jj : Int) (q : List Int), j ≤ l.length ∧ N = j ∧ jj = (j : Int) - 1 ∧ R32 q ∧ q.length = l.length - j ∧ nval q = nval (l.drop j) / d ∧
    st = ⟨[(1, .int .u32 d), (2, .loc 0 0 0), (4, .loc 2 0 0), (6, .arr 3 0), (7, .int .u64 ((nval (l.drop j) % d : Nat) : Int)), (8, .int .i64 jj)],
      [⟨true, 66, 1, 0, 1, [us32 l], false⟩, ⟨false, 133, 1, 0, 0, [], false⟩, ⟨true, 66, 1, 0, 1, [.arr 1 0], false⟩, ⟨false, 133, 1, 0, l.length, nums .u32 (List.replicate j 0 ++ q), false⟩]⟩) l.length
    ⟨_, rfl, l.length, _, [], by omega, rfl, rfl, fun x hx => by simp at hx, by simp, by rw [List.drop_length]; simp [nval], by rw [List.drop_length, List.append_nil]; simp [nval, getE, us32]⟩ ?_
  rintro N s0 ⟨j, jj, q, hj, rfl, hjj, hq, hql, hqv, rfl⟩
  cases N with
  | zero =>
    have hjn : ¬ 0 ≤ jj := by omega
    rw [List.drop_zero] at hqv
    have h114 := c114_ok (E := E) (l := q) (by omega)
    rw [trimL_limG hq, hqv] at h114
    have w1 : IntKind.u32.wrap ((nval l % d : Nat) : Int) = ((nval l % d : Nat) : Int) := by
      have := Nat.mod_lt (nval l) hd.1
      rw [wrap_u32]; omega
    have hlen : l.length = q.length := by omega
    simp only [b125_0, k125_0, us32, mNil, nat0, beq_self_eq_true, mSkip, mRet, mExit, mReg, mSeq, mCond, mTrue, mFalse, mBlock, mLv, mCodeE, mCodeR, mEndN, mEndR, mEndE, mOps, mSome, mGuard, mGtt, mGff, mGtf, mGft, mGu, mCallP, mCallR, mCallF, mCallO, mCallZ, mCallG, mCallM, mCallV, loopQ_exit, loopQ_ret, mO_mov, mO_newnil, mO_pick, mO_alloc, mO_box, mO_build, mO_bsl, mO_ldf, mO_ld, mO_st, mO_sta, mO_nilchk, mO_bin, mO_binb, mO_binp, mO_bins, mO_neg, mO_not, mO_conv, mO_mk, mO_mk0, mO_s2b, mO_b2s, mO_cpy, mO_cut, mO_faddr, mO_fld, mO_iaddr, mO_iaddrf, mO_sidx, mO_len, mO_lenf, mO_slen, mO_scut, mO_app, mO_ext, mO_mx, mO_mn, mO_mkfn, evalOp, cutOp, argsE, ev, getE, putE, cellsOf, adopt, rowOf, binV, boolV, nilV, arith, geto, bound, finRet, finNrm, ints, List.length_cons, List.length_nil, List.length_append, List.getElem?_cons_zero, List.getElem?_cons_succ, List.nil_append, List.cons_append, List.map_cons, List.map_nil, List.mapM_cons, List.mapM_nil, Option.map_some, Option.map_none, Option.bind_some, Option.pure_def, Option.bind_eq_bind, List.drop_zero, ↓reduceIte, Nat.reduceEqDiff, Nat.reduceAdd, Nat.reduceMul, Nat.reduceLeDiff, Nat.reduceLT, Int.reduceToNat, Int.reduceLT, Int.reduceLE, reduceCtorEq, or_self, or_false, false_or, or_true, true_or, true_and, and_true, and_self, decide_true, decide_false, Bool.false_eq_true, Bool.true_eq_false, Bool.not_true, Bool.not_false, Nat.le_refl, eq_self, gt_iff_lt, ge_iff_le, ne_eq, not_true_eq_false, not_false_eq_true, storeOp, apartOf, freeze_nil, refsL, refs, List.flatMap_cons, List.flatMap_nil, List.append_nil, List.contains_nil, List.set_cons_zero, List.set_cons_succ, snap, snapL, fill_nums, flat_nums, nums_length, fillAll, fillIn, shiftR, shiftV, List.take_succ_cons, List.take_zero, List.drop_succ_cons, List.drop_zero, List.append_nil, Nat.zero_add, Go.V.freeze, List.mapIdx_cons, List.mapIdx_nil, List.contains_cons, Nat.reduceBEq, Bool.or_false, Bool.false_or, Bool.or_true, Bool.true_or, hjn, List.replicate_zero, List.drop_zero, hlen]
    refine goF h114 ?_
    simp only [us32, mNil, nat0, beq_self_eq_true, mSkip, mRet, mExit, mReg, mSeq, mCond, mTrue, mFalse, mBlock, mLv, mCodeE, mCodeR, mEndN, mEndR, mEndE, mOps, mSome, mGuard, mGtt, mGff, mGtf, mGft, mGu, mCallP, mCallR, mCallF, mCallO, mCallZ, mCallG, mCallM, mCallV, loopQ_exit, loopQ_ret, mO_mov, mO_newnil, mO_pick, mO_alloc, mO_box, mO_build, mO_bsl, mO_ldf, mO_ld, mO_st, mO_sta, mO_nilchk, mO_bin, mO_binb, mO_binp, mO_bins, mO_neg, mO_not, mO_conv, mO_mk, mO_mk0, mO_s2b, mO_b2s, mO_cpy, mO_cut, mO_faddr, mO_fld, mO_iaddr, mO_iaddrf, mO_sidx, mO_len, mO_lenf, mO_slen, mO_scut, mO_app, mO_ext, mO_mx, mO_mn, mO_mkfn, evalOp, cutOp, argsE, ev, getE, putE, cellsOf, adopt, rowOf, binV, boolV, nilV, arith, geto, bound, finRet, finNrm, ints, List.length_cons, List.length_nil, List.length_append, List.getElem?_cons_zero, List.getElem?_cons_succ, List.nil_append, List.cons_append, List.map_cons, List.map_nil, List.mapM_cons, List.mapM_nil, Option.map_some, Option.map_none, Option.bind_some, Option.pure_def, Option.bind_eq_bind, List.drop_zero, ↓reduceIte, Nat.reduceEqDiff, Nat.reduceAdd, Nat.reduceMul, Nat.reduceLeDiff, Nat.reduceLT, Int.reduceToNat, Int.reduceLT, Int.reduceLE, reduceCtorEq, or_self, or_false, false_or, or_true, true_or, true_and, and_true, and_self, decide_true, decide_false, Bool.false_eq_true, Bool.true_eq_false, Bool.not_true, Bool.not_false, Nat.le_refl, eq_self, gt_iff_lt, ge_iff_le, ne_eq, not_true_eq_false, not_false_eq_true, storeOp, apartOf, freeze_nil, refsL, refs, List.flatMap_cons, List.flatMap_nil, List.append_nil, List.contains_nil, List.set_cons_zero, List.set_cons_succ, snap, snapL, fill_nums, flat_nums, nums_length, fillAll, fillIn, shiftR, shiftV, List.take_succ_cons, List.take_zero, List.drop_succ_cons, List.drop_zero, List.append_nil, Nat.zero_add, Go.V.freeze, List.mapIdx_cons, List.mapIdx_nil, List.contains_cons, Nat.reduceBEq, Bool.or_false, Bool.false_or, Bool.or_true, Bool.true_or, w1]
    simp only [i125, Out, resAll, geto, ints, List.getElem?_cons_zero, List.getElem?_cons_succ, resOf, outOf, snap, snapL, ev, getE, List.mapM_cons, List.mapM_nil, Option.bind_some, Option.pure_def, Option.bind_eq_bind, Option.map_some, reduceIte, Nat.reduceEqDiff, true_and, and_true, sub, fillAll, fillIn, shiftR, shiftV, List.take_succ_cons, List.take_zero, List.drop_succ_cons, List.drop_zero, List.append_nil, Nat.zero_add, List.length_cons, List.length_nil, Nat.le_refl, us32]
  | succ k =>
    obtain rfl : jj = (k : Int) := by omega
    have hlt : k < l.length := by omega
    have hlt' : (k : Int) < (l.length : Int) := by omega
    have hk0 : (0 : Int) ≤ (k : Int) := by omega
    have hk1 : IntKind.i64.wrap ((k : Int) - 1) = (k : Int) - 1 := wrap_i64 (by omega) (by omega)
    have hsub := sub_nums (k := .u32) hlt
    have hx := hl (l.getD k 0) (by simp [List.getD, hlt])
    have hdr := getD_drop hlt
    obtain ⟨x, hxx⟩ := Int.eq_ofNat_of_zero_le hx.1
    rw [hxx] at hsub hdr
    have hxl : x < 4294967296 := by omega
    have hr := Nat.mod_lt (nval (l.drop (k + 1))) hd.1
    have hnv : nval (l.drop k) = x + 4294967296 * nval (l.drop (k + 1)) := by rw [hdr, nval, Int.toNat_natCast]
    obtain ⟨s1, s2⟩ := small_step (d := d) (x := x) (v := nval (l.drop (k + 1))) hd.1
    rw [← hnv] at s1 s2
    generalize nval (l.drop (k + 1)) = V at *
    have hrl : V % d < 4294967296 := by omega
    have wx : IntKind.u64.wrap (x : Int) = (x : Int) := wrap_u64 (by omega) (by omega)
    have wd : IntKind.u64.wrap (d : Int) = (d : Int) := wrap_u64 (by omega) (by omega)
    have hs := shl32 hrl
    have ho := shl_or hxl hrl
    have et : ((V % d : Nat) : Int) * 4294967296 + (x : Int) = ((V % d * 4294967296 + x : Nat) : Int) := by omega
    rw [et] at ho
    generalize hT : V % d * 4294967296 + x = T at *
    have hTd : T < d * 4294967296 := by
      have : V % d * 4294967296 + 4294967296 ≤ d * 4294967296 := by
        rw [← Nat.succ_mul]
        exact Nat.mul_le_mul_right _ hr
      omega
    have hTq : T / d < 4294967296 := (Nat.div_lt_iff_lt_mul hd.1).2 (by rw [Nat.mul_comm]; exact hTd)
    have ho' : IntKind.u64.wrap (((BitVec.ofInt IntKind.u64.bits (((V % d : Nat) : Int) * 4294967296) ||| BitVec.ofInt IntKind.u64.bits (x : Int)).toNat : Nat) : Int) = (T : Int) := ho
    have hd0 : ¬ (d : Int) = 0 := by omega
    have hquo : Int.tdiv (T : Int) (d : Int) = ((T / d : Nat) : Int) := by
      rw [Int.tdiv_eq_ediv_of_nonneg (by omega), ← Int.natCast_ediv]
    have hrem : Int.tmod (T : Int) (d : Int) = ((T % d : Nat) : Int) := by
      rw [Int.tmod_eq_emod_of_nonneg (by omega), ← Int.natCast_emod]
    have hnew : (List.take k (List.replicate (k + 1) (0 : Int) ++ q) ++ ((T / d : Nat) : Int) :: List.drop (k + 1) (List.replicate (k + 1) (0 : Int) ++ q)) = List.replicate k 0 ++ ((T / d : Nat) : Int) :: q := by
      rw [List.take_append_of_le_length (by simp), List.take_replicate, List.drop_append_of_le_length (by simp)]
      simp
    have hfin : nval (((T / d : Nat) : Int) :: q) = nval (l.drop k) / d := by rw [nval, Int.toNat_natCast, hqv, s1]; omega
    rw [← s2] at hrem
    generalize T / d = Q at *
    have hquo' : IntKind.u64.wrap (Q : Int) = (Q : Int) := wrap_u64 (by omega) (by omega)
    have hc : IntKind.u32.wrap (Q : Int) = (Q : Int) := by rw [wrap_u32]; omega
    have hst : k * 1 + 1 ≤ (List.replicate (k + 1) (0 : Int)).length + q.length := by simp
    simp only [b125_0, us32, mNil, nat0, beq_self_eq_true, mSkip, mRet, mExit, mReg, mSeq, mCond, mTrue, mFalse, mBlock, mLv, mCodeE, mCodeR, mEndN, mEndR, mEndE, mOps, mSome, mGuard, mGtt, mGff, mGtf, mGft, mGu, mCallP, mCallR, mCallF, mCallO, mCallZ, mCallG, mCallM, mCallV, loopQ_exit, loopQ_ret, mO_mov, mO_newnil, mO_pick, mO_alloc, mO_box, mO_build, mO_bsl, mO_ldf, mO_ld, mO_st, mO_sta, mO_nilchk, mO_bin, mO_binb, mO_binp, mO_bins, mO_neg, mO_not, mO_conv, mO_mk, mO_mk0, mO_s2b, mO_b2s, mO_cpy, mO_cut, mO_faddr, mO_fld, mO_iaddr, mO_iaddrf, mO_sidx, mO_len, mO_lenf, mO_slen, mO_scut, mO_app, mO_ext, mO_mx, mO_mn, mO_mkfn, evalOp, cutOp, argsE, ev, getE, putE, cellsOf, adopt, rowOf, binV, boolV, nilV, arith, geto, bound, finRet, finNrm, ints, List.length_cons, List.length_nil, List.length_append, List.getElem?_cons_zero, List.getElem?_cons_succ, List.nil_append, List.cons_append, List.map_cons, List.map_nil, List.mapM_cons, List.mapM_nil, Option.map_some, Option.map_none, Option.bind_some, Option.pure_def, Option.bind_eq_bind, List.drop_zero, ↓reduceIte, Nat.reduceEqDiff, Nat.reduceAdd, Nat.reduceMul, Nat.reduceLeDiff, Nat.reduceLT, Int.reduceToNat, Int.reduceLT, Int.reduceLE, reduceCtorEq, or_self, or_false, false_or, or_true, true_or, true_and, and_true, and_self, decide_true, decide_false, Bool.false_eq_true, Bool.true_eq_false, Bool.not_true, Bool.not_false, Nat.le_refl, eq_self, gt_iff_lt, ge_iff_le, ne_eq, not_true_eq_false, not_false_eq_true, storeOp, apartOf, freeze_nil, refsL, refs, List.flatMap_cons, List.flatMap_nil, List.append_nil, List.contains_nil, List.set_cons_zero, List.set_cons_succ, snap, snapL, fill_nums, flat_nums, nums_length, subB1, Go.V.freeze, List.mapIdx_cons, List.mapIdx_nil, List.contains_cons, Nat.reduceBEq, Bool.or_false, Bool.false_or, Bool.or_true, Bool.true_or, hk0, hlt', Int.toNat_natCast, wx, wd, hs, hsub, ho', hd0, hquo, hquo', hrem, hc, hst, hnew, hk1]
    refine loopQ_go rfl k (by omega) ⟨k, _, ((Q : Nat) : Int) :: q, by omega, rfl, rfl, fun y hy => ?_, by simp; omega, hfin, rfl⟩
    rcases List.mem_cons.1 hy with rfl | hy
    · omega
    · exact hq y hy
end
end Go.Proofs.Ytcmbaabkfihdmaa.I
