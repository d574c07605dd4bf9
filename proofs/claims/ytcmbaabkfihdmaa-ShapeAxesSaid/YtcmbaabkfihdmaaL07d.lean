/- Layer 7: the index of a place. -/
import Derived.Test.YtcmbaabkfihdmaaL07c
set_option linter.unusedVariables false
set_option linter.unusedSimpArgs false
namespace Go.Proofs.Ytcmbaabkfihdmaa.I
open Go Go.V

def ix : List Int → Int → List Int × Int
  | [], a => ([], a)
  | d :: ds, a => ((ix ds a).2 % d :: (ix ds a).1, (ix ds a).2 / d)
theorem ix_len : ∀ {s : List Int} {a : Int}, (ix s a).1.length = s.length
  | [], a => rfl
  | d :: ds, a => by simp [ix, ix_len]
def index (s : List Int) (a : Int) : Option (List Int) :=
  match count s with
  | none => none
  | some n => if a < 0 ∨ n ≤ a then none else some (ix s a).1
def optL : Option (List Int) → AV
  | some l => .tup [ints l, .bool true]
  | none => .tup [.sl 0 1 [], .bool false]

theorem cnt_zero : ∀ {s : List Int} {most n : Int}, cnt most 0 s = some n → n = 0
  | [], most, n, h => by simpa [cnt] using h.symm
  | d :: ds, most, n, h => by
    rw [cnt] at h
    split at h
    · cases h
    · rw [Int.zero_mul] at h; exact cnt_zero h
/-- Where the number of elements is not none, no axis is empty. -/
theorem cnt_pos : ∀ {s : List Int} {most m n : Int}, cnt most m s = some n → n ≠ 0 → ∀ d ∈ s, 1 ≤ d
  | [], most, m, n, h, hn, d, hd => by cases hd
  | x :: ds, most, m, n, h, hn, d, hd => by
    rw [cnt] at h
    split at h
    · cases h
    · rename_i hno
      rcases List.mem_cons.1 hd with rfl | hd
      · by_cases h0 : d = 0
        · subst h0
          rw [Int.mul_zero] at h
          exact absurd (cnt_zero h) hn
        · omega
      · exact cnt_pos h hn d hd
theorem count_pos {s : List Int} {n : Int} (h : count s = some n) (hn : n ≠ 0) : ∀ d ∈ s, 1 ≤ d := by
  unfold count at h
  split at h
  · cases h
  · exact cnt_pos h hn

theorem ix_nonneg : ∀ {s : List Int} {a : Int}, 0 ≤ a → (∀ d ∈ s, 1 ≤ d) → 0 ≤ (ix s a).2 ∧ (ix s a).2 ≤ a
  | [], a, ha, _ => ⟨ha, Int.le_refl _⟩
  | d :: ds, a, ha, hd => by
    obtain ⟨h1, h2⟩ := ix_nonneg (s := ds) ha (fun x hx => hd x (by simp [hx]))
    have h3 := hd d (by simp)
    simp only [ix]
    exact ⟨Int.ediv_nonneg h1 (by omega), Int.le_trans (Int.ediv_le_self _ h1) h2⟩

section
variable {E : CallRel}
theorem c16_ok {s : List Int} {a : Int} (hs : ∀ d ∈ s, In64 d) (hl : (s.length : Int) ≤ 1000000000000) (ha : In64 a) : Go.V.Call tab E 16 [ints s, .int .i64 a] [] (optL (index s a)) [] := by
  refine Go.V.Call.mach i16 c16 rfl rfl rfl rfl ?_
  simp only [c16, mNil, nat0, beq_self_eq_true, mSkip, mRet, mExit, mReg, mSeq, mCond, mTrue, mFalse, mBlock, mLv, mCodeE, mCodeR, mEndN, mEndR, mEndE, mOps, mSome, mGuard, mGtt, mGff, mGtf, mGft, mGu, mCallP, mCallR, mCallF, mCallO, mCallZ, mCallG, mCallM, mCallV, loopQ_exit, loopQ_ret, mO_mov, mO_newnil, mO_pick, mO_alloc, mO_box, mO_build, mO_bsl, mO_ldf, mO_ld, mO_st, mO_sta, mO_nilchk, mO_bin, mO_binb, mO_binp, mO_bins, mO_neg, mO_not, mO_conv, mO_mk, mO_mk0, mO_s2b, mO_b2s, mO_cpy, mO_cut, mO_faddr, mO_fld, mO_iaddr, mO_iaddrf, mO_sidx, mO_len, mO_lenf, mO_slen, mO_scut, mO_app, mO_ext, mO_mx, mO_mn, mO_mkfn, evalOp, cutOp, argsE, ev, getE, putE, cellsOf, adopt, rowOf, binV, boolV, nilV, arith, geto, bound, finRet, finNrm, ints, List.length_cons, List.length_nil, List.length_append, List.getElem?_cons_zero, List.getElem?_cons_succ, List.nil_append, List.cons_append, List.map_cons, List.map_nil, List.mapM_cons, List.mapM_nil, Option.map_some, Option.map_none, Option.bind_some, Option.pure_def, Option.bind_eq_bind, List.drop_zero, ↓reduceIte, Nat.reduceEqDiff, Nat.reduceAdd, Nat.reduceMul, Nat.reduceLeDiff, Nat.reduceLT, Int.reduceToNat, Int.reduceLT, Int.reduceLE, reduceCtorEq, or_self, or_false, false_or, or_true, true_or, true_and, and_true, and_self, decide_true, decide_false, Bool.false_eq_true, Bool.true_eq_false, Bool.not_true, Bool.not_false, Nat.le_refl, eq_self, gt_iff_lt, ge_iff_le, ne_eq, not_true_eq_false, not_false_eq_true, snap]
  refine goP (c35_ok hs (by omega)) ?_
  cases hc : count s with
  | none =>
    simp only [optP, mNil, nat0, beq_self_eq_true, mSkip, mRet, mExit, mReg, mSeq, mCond, mTrue, mFalse, mBlock, mLv, mCodeE, mCodeR, mEndN, mEndR, mEndE, mOps, mSome, mGuard, mGtt, mGff, mGtf, mGft, mGu, mCallP, mCallR, mCallF, mCallO, mCallZ, mCallG, mCallM, mCallV, loopQ_exit, loopQ_ret, mO_mov, mO_newnil, mO_pick, mO_alloc, mO_box, mO_build, mO_bsl, mO_ldf, mO_ld, mO_st, mO_sta, mO_nilchk, mO_bin, mO_binb, mO_binp, mO_bins, mO_neg, mO_not, mO_conv, mO_mk, mO_mk0, mO_s2b, mO_b2s, mO_cpy, mO_cut, mO_faddr, mO_fld, mO_iaddr, mO_iaddrf, mO_sidx, mO_len, mO_lenf, mO_slen, mO_scut, mO_app, mO_ext, mO_mx, mO_mn, mO_mkfn, evalOp, cutOp, argsE, ev, getE, putE, cellsOf, adopt, rowOf, binV, boolV, nilV, arith, geto, bound, finRet, finNrm, ints, List.length_cons, List.length_nil, List.length_append, List.getElem?_cons_zero, List.getElem?_cons_succ, List.nil_append, List.cons_append, List.map_cons, List.map_nil, List.mapM_cons, List.mapM_nil, Option.map_some, Option.map_none, Option.bind_some, Option.pure_def, Option.bind_eq_bind, List.drop_zero, ↓reduceIte, Nat.reduceEqDiff, Nat.reduceAdd, Nat.reduceMul, Nat.reduceLeDiff, Nat.reduceLT, Int.reduceToNat, Int.reduceLT, Int.reduceLE, reduceCtorEq, or_self, or_false, false_or, or_true, true_or, true_and, and_true, and_self, decide_true, decide_false, Bool.false_eq_true, Bool.true_eq_false, Bool.not_true, Bool.not_false, Nat.le_refl, eq_self, gt_iff_lt, ge_iff_le, ne_eq, not_true_eq_false, not_false_eq_true]
    simp only [i16, Out, resAll, geto, ints, List.getElem?_cons_zero, List.getElem?_cons_succ, resOf, outOf, snap, snapL, ev, getE, List.mapM_cons, List.mapM_nil, Option.bind_some, Option.pure_def, Option.bind_eq_bind, Option.map_some, reduceIte, Nat.reduceEqDiff, true_and, and_true, index, hc, optL, Option.map_some]
  | some n =>
    by_cases hneg : a < 0
    · simp only [optP, mNil, nat0, beq_self_eq_true, mSkip, mRet, mExit, mReg, mSeq, mCond, mTrue, mFalse, mBlock, mLv, mCodeE, mCodeR, mEndN, mEndR, mEndE, mOps, mSome, mGuard, mGtt, mGff, mGtf, mGft, mGu, mCallP, mCallR, mCallF, mCallO, mCallZ, mCallG, mCallM, mCallV, loopQ_exit, loopQ_ret, mO_mov, mO_newnil, mO_pick, mO_alloc, mO_box, mO_build, mO_bsl, mO_ldf, mO_ld, mO_st, mO_sta, mO_nilchk, mO_bin, mO_binb, mO_binp, mO_bins, mO_neg, mO_not, mO_conv, mO_mk, mO_mk0, mO_s2b, mO_b2s, mO_cpy, mO_cut, mO_faddr, mO_fld, mO_iaddr, mO_iaddrf, mO_sidx, mO_len, mO_lenf, mO_slen, mO_scut, mO_app, mO_ext, mO_mx, mO_mn, mO_mkfn, evalOp, cutOp, argsE, ev, getE, putE, cellsOf, adopt, rowOf, binV, boolV, nilV, arith, geto, bound, finRet, finNrm, ints, List.length_cons, List.length_nil, List.length_append, List.getElem?_cons_zero, List.getElem?_cons_succ, List.nil_append, List.cons_append, List.map_cons, List.map_nil, List.mapM_cons, List.mapM_nil, Option.map_some, Option.map_none, Option.bind_some, Option.pure_def, Option.bind_eq_bind, List.drop_zero, ↓reduceIte, Nat.reduceEqDiff, Nat.reduceAdd, Nat.reduceMul, Nat.reduceLeDiff, Nat.reduceLT, Int.reduceToNat, Int.reduceLT, Int.reduceLE, reduceCtorEq, or_self, or_false, false_or, or_true, true_or, true_and, and_true, and_self, decide_true, decide_false, Bool.false_eq_true, Bool.true_eq_false, Bool.not_true, Bool.not_false, Nat.le_refl, eq_self, gt_iff_lt, ge_iff_le, ne_eq, not_true_eq_false, not_false_eq_true, hneg]
      simp only [i16, Out, resAll, geto, ints, List.getElem?_cons_zero, List.getElem?_cons_succ, resOf, outOf, snap, snapL, ev, getE, List.mapM_cons, List.mapM_nil, Option.bind_some, Option.pure_def, Option.bind_eq_bind, Option.map_some, reduceIte, Nat.reduceEqDiff, true_and, and_true, index, hc, hneg, true_or, optL]
    · by_cases hbig : n ≤ a
      · simp only [optP, mNil, nat0, beq_self_eq_true, mSkip, mRet, mExit, mReg, mSeq, mCond, mTrue, mFalse, mBlock, mLv, mCodeE, mCodeR, mEndN, mEndR, mEndE, mOps, mSome, mGuard, mGtt, mGff, mGtf, mGft, mGu, mCallP, mCallR, mCallF, mCallO, mCallZ, mCallG, mCallM, mCallV, loopQ_exit, loopQ_ret, mO_mov, mO_newnil, mO_pick, mO_alloc, mO_box, mO_build, mO_bsl, mO_ldf, mO_ld, mO_st, mO_sta, mO_nilchk, mO_bin, mO_binb, mO_binp, mO_bins, mO_neg, mO_not, mO_conv, mO_mk, mO_mk0, mO_s2b, mO_b2s, mO_cpy, mO_cut, mO_faddr, mO_fld, mO_iaddr, mO_iaddrf, mO_sidx, mO_len, mO_lenf, mO_slen, mO_scut, mO_app, mO_ext, mO_mx, mO_mn, mO_mkfn, evalOp, cutOp, argsE, ev, getE, putE, cellsOf, adopt, rowOf, binV, boolV, nilV, arith, geto, bound, finRet, finNrm, ints, List.length_cons, List.length_nil, List.length_append, List.getElem?_cons_zero, List.getElem?_cons_succ, List.nil_append, List.cons_append, List.map_cons, List.map_nil, List.mapM_cons, List.mapM_nil, Option.map_some, Option.map_none, Option.bind_some, Option.pure_def, Option.bind_eq_bind, List.drop_zero, ↓reduceIte, Nat.reduceEqDiff, Nat.reduceAdd, Nat.reduceMul, Nat.reduceLeDiff, Nat.reduceLT, Int.reduceToNat, Int.reduceLT, Int.reduceLE, reduceCtorEq, or_self, or_false, false_or, or_true, true_or, true_and, and_true, and_self, decide_true, decide_false, Bool.false_eq_true, Bool.true_eq_false, Bool.not_true, Bool.not_false, Nat.le_refl, eq_self, gt_iff_lt, ge_iff_le, ne_eq, not_true_eq_false, not_false_eq_true, hneg, hbig]
        simp only [i16, Out, resAll, geto, ints, List.getElem?_cons_zero, List.getElem?_cons_succ, resOf, outOf, snap, snapL, ev, getE, List.mapM_cons, List.mapM_nil, Option.bind_some, Option.pure_def, Option.bind_eq_bind, Option.map_some, reduceIte, Nat.reduceEqDiff, true_and, and_true, index, hc, hbig, or_true, optL]
      · have hix : index s a = some (ix s a).1 := by rw [index, hc]; exact if_neg (by omega)
        have hpos := count_pos hc (by omega)
        have hmk : 8 * s.length ≤ 140737488355328 := by omega
        have hmk2 : (s.length : Int) ≤ 140737488355328 := by omega
        have hn0 : (0 : Int) ≤ (s.length : Int) := by omega
        have hw : IntKind.i64.wrap ((s.length : Int) - 1) = (s.length : Int) - 1 := wrap_i64 (by omega) (by omega)
        simp only [optP, mNil, nat0, beq_self_eq_true, mSkip, mRet, mExit, mReg, mSeq, mCond, mTrue, mFalse, mBlock, mLv, mCodeE, mCodeR, mEndN, mEndR, mEndE, mOps, mSome, mGuard, mGtt, mGff, mGtf, mGft, mGu, mCallP, mCallR, mCallF, mCallO, mCallZ, mCallG, mCallM, mCallV, loopQ_exit, loopQ_ret, mO_mov, mO_newnil, mO_pick, mO_alloc, mO_box, mO_build, mO_bsl, mO_ldf, mO_ld, mO_st, mO_sta, mO_nilchk, mO_bin, mO_binb, mO_binp, mO_bins, mO_neg, mO_not, mO_conv, mO_mk, mO_mk0, mO_s2b, mO_b2s, mO_cpy, mO_cut, mO_faddr, mO_fld, mO_iaddr, mO_iaddrf, mO_sidx, mO_len, mO_lenf, mO_slen, mO_scut, mO_app, mO_ext, mO_mx, mO_mn, mO_mkfn, evalOp, cutOp, argsE, ev, getE, putE, cellsOf, adopt, rowOf, binV, boolV, nilV, arith, geto, bound, finRet, finNrm, ints, List.length_cons, List.length_nil, List.length_append, List.getElem?_cons_zero, List.getElem?_cons_succ, List.nil_append, List.cons_append, List.map_cons, List.map_nil, List.mapM_cons, List.mapM_nil, Option.map_some, Option.map_none, Option.bind_some, Option.pure_def, Option.bind_eq_bind, List.drop_zero, ↓reduceIte, Nat.reduceEqDiff, Nat.reduceAdd, Nat.reduceMul, Nat.reduceLeDiff, Nat.reduceLT, Int.reduceToNat, Int.reduceLT, Int.reduceLE, reduceCtorEq, or_self, or_false, false_or, or_true, true_or, true_and, and_true, and_self, decide_true, decide_false, Bool.false_eq_true, Bool.true_eq_false, Bool.not_true, Bool.not_false, Nat.le_refl, eq_self, gt_iff_lt, ge_iff_le, ne_eq, not_true_eq_false, not_false_eq_true, hneg, hbig, Int.toNat_natCast, hmk, hmk2, hn0, flat_nums, hw]
        refine mLoop (fun N st => ∃ (j : Nat) (i cur : Int) (ds : List Int), j ≤ s.length ∧ N = j ∧ i = (j : Int) - 1 ∧ ix (s.drop j) a = (ds, cur) ∧
          st = ⟨[(0, ints s), (1, .int .i64 cur), (8, .arr 1 0), (9, .int .i64 i)], [⟨false, 3, 1, 0, 0, [], false⟩, ⟨false, 3, 1, 0, s.length, nums .i64 (List.replicate j 0 ++ ds), false⟩]⟩) s.length
          ⟨_, rfl, s.length, _, a, [], by omega, rfl, rfl, by rw [List.drop_length]; rfl, by simp only [List.append_nil]; rfl⟩ ?_
        rintro N s0 ⟨j, i, cur, ds, hj, rfl, hi, hix2, rfl⟩
        cases N with
        | zero =>
          have hi' : ¬ 0 ≤ i := by omega
          simp only [b16_0, k16_0, mNil, nat0, beq_self_eq_true, mSkip, mRet, mExit, mReg, mSeq, mCond, mTrue, mFalse, mBlock, mLv, mCodeE, mCodeR, mEndN, mEndR, mEndE, mOps, mSome, mGuard, mGtt, mGff, mGtf, mGft, mGu, mCallP, mCallR, mCallF, mCallO, mCallZ, mCallG, mCallM, mCallV, loopQ_exit, loopQ_ret, mO_mov, mO_newnil, mO_pick, mO_alloc, mO_box, mO_build, mO_bsl, mO_ldf, mO_ld, mO_st, mO_sta, mO_nilchk, mO_bin, mO_binb, mO_binp, mO_bins, mO_neg, mO_not, mO_conv, mO_mk, mO_mk0, mO_s2b, mO_b2s, mO_cpy, mO_cut, mO_faddr, mO_fld, mO_iaddr, mO_iaddrf, mO_sidx, mO_len, mO_lenf, mO_slen, mO_scut, mO_app, mO_ext, mO_mx, mO_mn, mO_mkfn, evalOp, cutOp, argsE, ev, getE, putE, cellsOf, adopt, rowOf, binV, boolV, nilV, arith, geto, bound, finRet, finNrm, ints, List.length_cons, List.length_nil, List.length_append, List.getElem?_cons_zero, List.getElem?_cons_succ, List.nil_append, List.cons_append, List.map_cons, List.map_nil, List.mapM_cons, List.mapM_nil, Option.map_some, Option.map_none, Option.bind_some, Option.pure_def, Option.bind_eq_bind, List.drop_zero, ↓reduceIte, Nat.reduceEqDiff, Nat.reduceAdd, Nat.reduceMul, Nat.reduceLeDiff, Nat.reduceLT, Int.reduceToNat, Int.reduceLT, Int.reduceLE, reduceCtorEq, or_self, or_false, false_or, or_true, true_or, true_and, and_true, and_self, decide_true, decide_false, Bool.false_eq_true, Bool.true_eq_false, Bool.not_true, Bool.not_false, Nat.le_refl, eq_self, gt_iff_lt, ge_iff_le, ne_eq, not_true_eq_false, not_false_eq_true, hi']
          rw [List.drop_zero] at hix2
          have : ds.length = s.length := by rw [← ix_len (s := s) (a := a), hix2]
          simp only [i16, Out, resAll, geto, ints, List.getElem?_cons_zero, List.getElem?_cons_succ, resOf, outOf, snap, snapL, ev, getE, List.mapM_cons, List.mapM_nil, Option.bind_some, Option.pure_def, Option.bind_eq_bind, Option.map_some, reduceIte, Nat.reduceEqDiff, true_and, and_true, hix, hix2, optL, List.replicate_zero, List.nil_append, this]
        | succ k =>
          obtain rfl : i = (k : Int) := by omega
          have hlt : k < s.length := by omega
          have hlt' : (k : Int) < (s.length : Int) := by omega
          have hk0 : (0 : Int) ≤ (k : Int) := by omega
          have hk1 : IntKind.i64.wrap ((k : Int) - 1) = (k : Int) - 1 := wrap_i64 (by omega) (by omega)
          have hsub := sub_nums (k := .i64) hlt
          have hdl : ds.length = s.length - (k + 1) := by
            have := ix_len (s := s.drop (k + 1)) (a := a)
            rw [hix2] at this
            simpa using this
          have hd1 : 1 ≤ s.getD k 0 := hpos _ (by simp [List.getD, hlt])
          have hcur : 0 ≤ cur ∧ cur ≤ a := by
            have := ix_nonneg (s := s.drop (k + 1)) (a := a) (by omega) (fun d hd => hpos d (List.mem_of_mem_drop hd))
            rw [hix2] at this
            exact this
          have hix3 : ix (s.drop k) a = (cur % s.getD k 0 :: ds, cur / s.getD k 0) := by
            rw [getD_drop hlt, ix, hix2]
          generalize s.getD k 0 = d at *
          have hd0 : d ≠ 0 := by omega
          have hrem : Int.tmod cur d = cur % d := Int.tmod_eq_emod_of_nonneg hcur.1
          have hquo : IntKind.i64.wrap (Int.tdiv cur d) = cur / d := by
            rw [Int.tdiv_eq_ediv_of_nonneg hcur.1]
            have := Int.ediv_le_self d hcur.1
            have := Int.ediv_nonneg hcur.1 (show 0 ≤ d by omega)
            have := ha.2
            exact wrap_i64 (by omega) (by omega)
          have hst : k * 1 + 1 ≤ (List.replicate (k + 1) (0 : Int)).length + ds.length := by simp
          simp only [b16_0, mNil, nat0, beq_self_eq_true, mSkip, mRet, mExit, mReg, mSeq, mCond, mTrue, mFalse, mBlock, mLv, mCodeE, mCodeR, mEndN, mEndR, mEndE, mOps, mSome, mGuard, mGtt, mGff, mGtf, mGft, mGu, mCallP, mCallR, mCallF, mCallO, mCallZ, mCallG, mCallM, mCallV, loopQ_exit, loopQ_ret, mO_mov, mO_newnil, mO_pick, mO_alloc, mO_box, mO_build, mO_bsl, mO_ldf, mO_ld, mO_st, mO_sta, mO_nilchk, mO_bin, mO_binb, mO_binp, mO_bins, mO_neg, mO_not, mO_conv, mO_mk, mO_mk0, mO_s2b, mO_b2s, mO_cpy, mO_cut, mO_faddr, mO_fld, mO_iaddr, mO_iaddrf, mO_sidx, mO_len, mO_lenf, mO_slen, mO_scut, mO_app, mO_ext, mO_mx, mO_mn, mO_mkfn, evalOp, cutOp, argsE, ev, getE, putE, cellsOf, adopt, rowOf, binV, boolV, nilV, arith, geto, bound, finRet, finNrm, ints, List.length_cons, List.length_nil, List.length_append, List.getElem?_cons_zero, List.getElem?_cons_succ, List.nil_append, List.cons_append, List.map_cons, List.map_nil, List.mapM_cons, List.mapM_nil, Option.map_some, Option.map_none, Option.bind_some, Option.pure_def, Option.bind_eq_bind, List.drop_zero, ↓reduceIte, Nat.reduceEqDiff, Nat.reduceAdd, Nat.reduceMul, Nat.reduceLeDiff, Nat.reduceLT, Int.reduceToNat, Int.reduceLT, Int.reduceLE, reduceCtorEq, or_self, or_false, false_or, or_true, true_or, true_and, and_true, and_self, decide_true, decide_false, Bool.false_eq_true, Bool.true_eq_false, Bool.not_true, Bool.not_false, Nat.le_refl, eq_self, gt_iff_lt, ge_iff_le, ne_eq, not_true_eq_false, not_false_eq_true, storeOp, apartOf, freeze_nil, refsL, refs, List.flatMap_cons, List.flatMap_nil, List.append_nil, List.contains_nil, List.set_cons_zero, List.set_cons_succ, snap, snapL, fill_nums, flat_nums, nums_length, hlt', hk0, Int.toNat_natCast, hsub, hd0, hrem, hquo, hst, hk1]
          refine loopQ_go rfl k (by omega) ⟨k, (k : Int) - 1, cur / d, cur % d :: ds, by omega, rfl, rfl, hix3, ?_⟩
          have : List.take k (List.replicate (k + 1) (0 : Int) ++ ds) ++ cur % d :: List.drop (k + 1) (List.replicate (k + 1) (0 : Int) ++ ds) = List.replicate k 0 ++ cur % d :: ds := by
            rw [List.take_append_of_le_length (by simp), List.take_replicate, List.drop_append_of_le_length (by simp)]
            simp
          rw [this]
          rfl
end
end Go.Proofs.Ytcmbaabkfihdmaa.I
