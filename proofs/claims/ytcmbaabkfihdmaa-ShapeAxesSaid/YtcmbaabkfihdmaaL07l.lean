/- Layer 7: what a function makes of all indexes. -/
import Derived.Test.YtcmbaabkfihdmaaL07k
set_option linter.unusedVariables false
set_option linter.unusedSimpArgs false
namespace Go.Proofs.Ytcmbaabkfihdmaa.I
open Go Go.V

theorem set_get {y : List Int} {m : Nat} {v : Int} (h : m < y.length) : (y.take m ++ v :: y.drop (m + 1)).getD m 0 = v := by
  simp [List.getD, List.getElem?_append, Nat.min_eq_left (Nat.le_of_lt h)]
theorem set_set {y : List Int} {m : Nat} {v u : Int} (h : m < y.length) : (y.take m ++ v :: y.drop (m + 1)).take m ++ u :: (y.take m ++ v :: y.drop (m + 1)).drop (m + 1) = y.take m ++ u :: y.drop (m + 1) := by
  have e1 : (y.take m).length = m := by simp; omega
  rw [List.take_append_of_le_length (by omega), List.take_take, Nat.min_self, List.drop_append, e1, List.drop_eq_nil_of_le (by omega)]
  simp [show m + 1 - m = 1 by omega]
theorem set_len {y : List Int} {m : Nat} {v : Int} (h : m < y.length) : (y.take m ++ v :: y.drop (m + 1)).length = y.length := by
  simp; omega

theorem ix_zero2 : ∀ {s : List Int}, (ix s 0).2 = 0
  | [] => rfl
  | d :: ds => by rw [ix, ix_zero2, Int.zero_ediv]
theorem ix_zero : ∀ {s : List Int}, List.replicate s.length 0 = (ix s ((0 : Nat) : Int)).1
  | [] => rfl
  | d :: ds => by
    have := ix_zero (s := ds)
    simp only [Int.ofNat_eq_natCast, Int.natCast_zero] at this ⊢
    rw [ix, ix_zero2, List.length_cons, List.replicate_succ, this, Int.zero_emod]
theorem ix_range : ∀ {s : List Int} {a : Int} {m : Nat}, 0 ≤ a → (∀ d ∈ s, 1 ≤ d) → m < s.length → 0 ≤ (ix s a).1.getD m 0 ∧ (ix s a).1.getD m 0 < s.getD m 0
  | [], a, m, _, _, hm => by simp at hm
  | d :: ds, a, 0, ha, h, _ => by
    have hd := h d (by simp)
    simp only [ix, List.getD_cons_zero]
    exact ⟨Int.emod_nonneg _ (by omega), Int.emod_lt_of_pos _ (by omega)⟩
  | d :: ds, a, m + 1, ha, h, hm => by
    simp only [ix, List.getD_cons_succ]
    exact ix_range ha (fun x hx => h x (by simp [hx])) (by simpa using hm)
theorem goFn {C : CallRel} {Q : X → St → Prop} {f : Nat} {caps as bs : List AV} {d : Option Nat} {os : List IOp} {k : List Go.V.Item} {s : St} {r : AV} (hcaps : caps.mapM (fun c => snap s.mem 10 c) = some bs) (h : C f (as ++ bs) [] r []) (hs : scalars r = true)
    (hk : Mach C Q (.ops os :: k) .nrm ⟨putE s.env d r, s.mem⟩) : MachF C Q (.fn f caps) (some as) d os k s := by
  simp only [MachF, hcaps, Option.map_some]
  exact goV h hs hk
section
variable {E : CallRel}
theorem c18_none {s : List Int} {f : Nat} {caps : List AV} (hs : ∀ d ∈ s, In64 d) (hl : (s.length : Int) ≤ 1000000000000) (hc : count s = none) : Go.V.Call tab E 18 [ints s, .fn f caps] [] (.sl 0 1 []) [] := by
  refine Go.V.Call.mach i18 c18 rfl rfl rfl rfl ?_
  simp only [c18, mNil, nat0, beq_self_eq_true, mSkip, mRet, mExit, mReg, mSeq, mCond, mTrue, mFalse, mBlock, mLv, mCodeE, mCodeR, mEndN, mEndR, mEndE, mOps, mSome, mGuard, mGtt, mGff, mGtf, mGft, mGu, mCallP, mCallR, mCallF, mCallO, mCallZ, mCallG, mCallM, mCallV, loopQ_exit, loopQ_ret, mO_mov, mO_newnil, mO_pick, mO_alloc, mO_box, mO_build, mO_bsl, mO_ldf, mO_ld, mO_st, mO_sta, mO_nilchk, mO_bin, mO_binb, mO_binp, mO_bins, mO_neg, mO_not, mO_conv, mO_mk, mO_mk0, mO_s2b, mO_b2s, mO_cpy, mO_cut, mO_faddr, mO_fld, mO_iaddr, mO_iaddrf, mO_sidx, mO_len, mO_lenf, mO_slen, mO_scut, mO_app, mO_ext, mO_mx, mO_mn, mO_mkfn, evalOp, cutOp, argsE, ev, getE, putE, cellsOf, adopt, rowOf, binV, boolV, nilV, arith, geto, bound, finRet, finNrm, ints, List.length_cons, List.length_nil, List.length_append, List.getElem?_cons_zero, List.getElem?_cons_succ, List.nil_append, List.cons_append, List.map_cons, List.map_nil, List.mapM_cons, List.mapM_nil, Option.map_some, Option.map_none, Option.bind_some, Option.pure_def, Option.bind_eq_bind, List.drop_zero, ↓reduceIte, Nat.reduceEqDiff, Nat.reduceAdd, Nat.reduceMul, Nat.reduceLeDiff, Nat.reduceLT, Int.reduceToNat, Int.reduceLT, Int.reduceLE, reduceCtorEq, or_self, or_false, false_or, or_true, true_or, true_and, and_true, and_self, decide_true, decide_false, Bool.false_eq_true, Bool.true_eq_false, Bool.not_true, Bool.not_false, Nat.le_refl, eq_self, gt_iff_lt, ge_iff_le, ne_eq, not_true_eq_false, not_false_eq_true, snap]
  refine goP (c35_ok hs (by omega)) ?_
  rw [hc]
  simp only [optP, mNil, nat0, beq_self_eq_true, mSkip, mRet, mExit, mReg, mSeq, mCond, mTrue, mFalse, mBlock, mLv, mCodeE, mCodeR, mEndN, mEndR, mEndE, mOps, mSome, mGuard, mGtt, mGff, mGtf, mGft, mGu, mCallP, mCallR, mCallF, mCallO, mCallZ, mCallG, mCallM, mCallV, loopQ_exit, loopQ_ret, mO_mov, mO_newnil, mO_pick, mO_alloc, mO_box, mO_build, mO_bsl, mO_ldf, mO_ld, mO_st, mO_sta, mO_nilchk, mO_bin, mO_binb, mO_binp, mO_bins, mO_neg, mO_not, mO_conv, mO_mk, mO_mk0, mO_s2b, mO_b2s, mO_cpy, mO_cut, mO_faddr, mO_fld, mO_iaddr, mO_iaddrf, mO_sidx, mO_len, mO_lenf, mO_slen, mO_scut, mO_app, mO_ext, mO_mx, mO_mn, mO_mkfn, evalOp, cutOp, argsE, ev, getE, putE, cellsOf, adopt, rowOf, binV, boolV, nilV, arith, geto, bound, finRet, finNrm, ints, List.length_cons, List.length_nil, List.length_append, List.getElem?_cons_zero, List.getElem?_cons_succ, List.nil_append, List.cons_append, List.map_cons, List.map_nil, List.mapM_cons, List.mapM_nil, Option.map_some, Option.map_none, Option.bind_some, Option.pure_def, Option.bind_eq_bind, List.drop_zero, ↓reduceIte, Nat.reduceEqDiff, Nat.reduceAdd, Nat.reduceMul, Nat.reduceLeDiff, Nat.reduceLT, Int.reduceToNat, Int.reduceLT, Int.reduceLE, reduceCtorEq, or_self, or_false, false_or, or_true, true_or, true_and, and_true, and_self, decide_true, decide_false, Bool.false_eq_true, Bool.true_eq_false, Bool.not_true, Bool.not_false, Nat.le_refl, eq_self, gt_iff_lt, ge_iff_le, ne_eq, not_true_eq_false, not_false_eq_true]
  simp only [i18, Out, resAll, geto, ints, List.getElem?_cons_zero, List.getElem?_cons_succ, resOf, outOf, snap, snapL, ev, getE, List.mapM_cons, List.mapM_nil, Option.bind_some, Option.pure_def, Option.bind_eq_bind, Option.map_some, reduceIte, Nat.reduceEqDiff, true_and, and_true]

theorem c18_ok {s : List Int} {f : Nat} {caps : List AV} {n : Nat} {v : Nat → Int} (hc : count s = some (n : Int)) (hcaps : ∀ mem, caps.mapM (fun c => snap mem 10 c) = some caps) (hu : underL 3 caps = true)
    (hf : ∀ i : Nat, i < n → Go.V.Call tab E f (ints (ix s i).1 :: caps) [] (.int .i64 (v i)) []) : Go.V.Call tab E 18 [ints s, .fn f caps] [] (ints ((List.range n).map v)) [] := by
  obtain ⟨hl8, hd4, hpr⟩ := count_bound hc
  have hn := count_prd hc
  have hn4 : (n : Int) ≤ 4096 := by rw [hn]; have := (hpr s.length).2; rwa [List.take_length] at this
  refine Go.V.Call.mach i18 c18 rfl rfl rfl rfl ?_
  simp only [c18, mNil, nat0, beq_self_eq_true, mSkip, mRet, mExit, mReg, mSeq, mCond, mTrue, mFalse, mBlock, mLv, mCodeE, mCodeR, mEndN, mEndR, mEndE, mOps, mSome, mGuard, mGtt, mGff, mGtf, mGft, mGu, mCallP, mCallR, mCallF, mCallO, mCallZ, mCallG, mCallM, mCallV, loopQ_exit, loopQ_ret, mO_mov, mO_newnil, mO_pick, mO_alloc, mO_box, mO_build, mO_bsl, mO_ldf, mO_ld, mO_st, mO_sta, mO_nilchk, mO_bin, mO_binb, mO_binp, mO_bins, mO_neg, mO_not, mO_conv, mO_mk, mO_mk0, mO_s2b, mO_b2s, mO_cpy, mO_cut, mO_faddr, mO_fld, mO_iaddr, mO_iaddrf, mO_sidx, mO_len, mO_lenf, mO_slen, mO_scut, mO_app, mO_ext, mO_mx, mO_mn, mO_mkfn, evalOp, cutOp, argsE, ev, getE, putE, cellsOf, adopt, rowOf, binV, boolV, nilV, arith, geto, bound, finRet, finNrm, ints, List.length_cons, List.length_nil, List.length_append, List.getElem?_cons_zero, List.getElem?_cons_succ, List.nil_append, List.cons_append, List.map_cons, List.map_nil, List.mapM_cons, List.mapM_nil, Option.map_some, Option.map_none, Option.bind_some, Option.pure_def, Option.bind_eq_bind, List.drop_zero, ↓reduceIte, Nat.reduceEqDiff, Nat.reduceAdd, Nat.reduceMul, Nat.reduceLeDiff, Nat.reduceLT, Int.reduceToNat, Int.reduceLT, Int.reduceLE, reduceCtorEq, or_self, or_false, false_or, or_true, true_or, true_and, and_true, and_self, decide_true, decide_false, Bool.false_eq_true, Bool.true_eq_false, Bool.not_true, Bool.not_false, Nat.le_refl, eq_self, gt_iff_lt, ge_iff_le, ne_eq, not_true_eq_false, not_false_eq_true, snap]
  refine goP (c35_ok (fun d hd => ⟨by have := hd4 d hd; omega, by have := hd4 d hd; omega⟩) (by omega)) ?_
  have h1 : (0 : Int) ≤ (n : Int) := by omega
  have h2 : 8 * n ≤ 140737488355328 := by omega
  have h3 : (n : Int) ≤ 140737488355328 := by omega
  have h4 : (0 : Int) ≤ (s.length : Int) := by omega
  have h5 : 8 * s.length ≤ 140737488355328 := by omega
  have h6 : (s.length : Int) ≤ 140737488355328 := by omega
  have hw : IntKind.i64.wrap ((s.length : Int) - 1) = (s.length : Int) - 1 := wrap_i64 (by omega) (by omega)
  simp only [hc, optP, mNil, nat0, beq_self_eq_true, mSkip, mRet, mExit, mReg, mSeq, mCond, mTrue, mFalse, mBlock, mLv, mCodeE, mCodeR, mEndN, mEndR, mEndE, mOps, mSome, mGuard, mGtt, mGff, mGtf, mGft, mGu, mCallP, mCallR, mCallF, mCallO, mCallZ, mCallG, mCallM, mCallV, loopQ_exit, loopQ_ret, mO_mov, mO_newnil, mO_pick, mO_alloc, mO_box, mO_build, mO_bsl, mO_ldf, mO_ld, mO_st, mO_sta, mO_nilchk, mO_bin, mO_binb, mO_binp, mO_bins, mO_neg, mO_not, mO_conv, mO_mk, mO_mk0, mO_s2b, mO_b2s, mO_cpy, mO_cut, mO_faddr, mO_fld, mO_iaddr, mO_iaddrf, mO_sidx, mO_len, mO_lenf, mO_slen, mO_scut, mO_app, mO_ext, mO_mx, mO_mn, mO_mkfn, evalOp, cutOp, argsE, ev, getE, putE, cellsOf, adopt, rowOf, binV, boolV, nilV, arith, geto, bound, finRet, finNrm, ints, List.length_cons, List.length_nil, List.length_append, List.getElem?_cons_zero, List.getElem?_cons_succ, List.nil_append, List.cons_append, List.map_cons, List.map_nil, List.mapM_cons, List.mapM_nil, Option.map_some, Option.map_none, Option.bind_some, Option.pure_def, Option.bind_eq_bind, List.drop_zero, ↓reduceIte, Nat.reduceEqDiff, Nat.reduceAdd, Nat.reduceMul, Nat.reduceLeDiff, Nat.reduceLT, Int.reduceToNat, Int.reduceLT, Int.reduceLE, reduceCtorEq, or_self, or_false, false_or, or_true, true_or, true_and, and_true, and_self, decide_true, decide_false, Bool.false_eq_true, Bool.true_eq_false, Bool.not_true, Bool.not_false, Nat.le_refl, eq_self, gt_iff_lt, ge_iff_le, ne_eq, not_true_eq_false, not_false_eq_true, Int.toNat_natCast, h1, h2, h3, h4, h5, h6, flat_nums]
  have hpos : n ≠ 0 → ∀ d ∈ s, 1 ≤ d := fun h => count_pos hc (by omega)
  refine mLoop (fun N st => ∃ (i : Nat) (x : List Int), i ≤ n ∧ N = n - i ∧ x.length = s.length ∧ (i < n → x = (ix s i).1) ∧
    st = ⟨[(0, ints s), (1, .fn f caps), (7, .arr 1 0), (8, .arr 2 0), (24, .int .i64 n), (25, .int .i64 i)],
      [⟨false, 3, 1, 0, 0, [], false⟩, ⟨false, 3, 1, 0, n, nums .i64 ((List.range i).map v ++ List.replicate (n - i) 0), false⟩, ⟨false, 3, 1, 0, s.length, nums .i64 x, false⟩]⟩) n
    ⟨_, by simp only [headOf]; exact (if_pos (by simp [under, underL, hu, getE])).trans rfl, 0, List.replicate s.length 0, by omega, by omega, by simp, fun hi => ix_zero, by simp [ints, getE]⟩ ?_
  rintro N s0 ⟨i, x, hi, rfl, hxl, hx, rfl⟩
  by_cases hlt : i < n
  · have hlt' : (i : Int) < (n : Int) := by omega
    have hi0 : (0 : Int) ≤ (i : Int) := by omega
    have hi1 : IntKind.i64.wrap ((i : Int) + 1) = ((i + 1 : Nat) : Int) := by rw [wrap_i64 (by omega) (by omega)]; omega
    have hx := hx hlt
    have hcall := hf i hlt
    rw [← hx, ints, hxl] at hcall
    simp only [b18_0, mNil, nat0, beq_self_eq_true, mSkip, mRet, mExit, mReg, mSeq, mCond, mTrue, mFalse, mBlock, mLv, mCodeE, mCodeR, mEndN, mEndR, mEndE, mOps, mSome, mGuard, mGtt, mGff, mGtf, mGft, mGu, mCallP, mCallR, mCallF, mCallO, mCallZ, mCallG, mCallM, mCallV, loopQ_exit, loopQ_ret, mO_mov, mO_newnil, mO_pick, mO_alloc, mO_box, mO_build, mO_bsl, mO_ldf, mO_ld, mO_st, mO_sta, mO_nilchk, mO_bin, mO_binb, mO_binp, mO_bins, mO_neg, mO_not, mO_conv, mO_mk, mO_mk0, mO_s2b, mO_b2s, mO_cpy, mO_cut, mO_faddr, mO_fld, mO_iaddr, mO_iaddrf, mO_sidx, mO_len, mO_lenf, mO_slen, mO_scut, mO_app, mO_ext, mO_mx, mO_mn, mO_mkfn, evalOp, cutOp, argsE, ev, getE, putE, cellsOf, adopt, rowOf, binV, boolV, nilV, arith, geto, bound, finRet, finNrm, ints, List.length_cons, List.length_nil, List.length_append, List.getElem?_cons_zero, List.getElem?_cons_succ, List.nil_append, List.cons_append, List.map_cons, List.map_nil, List.mapM_cons, List.mapM_nil, Option.map_some, Option.map_none, Option.bind_some, Option.pure_def, Option.bind_eq_bind, List.drop_zero, ↓reduceIte, Nat.reduceEqDiff, Nat.reduceAdd, Nat.reduceMul, Nat.reduceLeDiff, Nat.reduceLT, Int.reduceToNat, Int.reduceLT, Int.reduceLE, reduceCtorEq, or_self, or_false, false_or, or_true, true_or, true_and, and_true, and_self, decide_true, decide_false, Bool.false_eq_true, Bool.true_eq_false, Bool.not_true, Bool.not_false, Nat.le_refl, eq_self, gt_iff_lt, ge_iff_le, ne_eq, not_true_eq_false, not_false_eq_true, storeOp, apartOf, freeze_nil, refsL, refs, List.flatMap_cons, List.flatMap_nil, List.append_nil, List.contains_nil, List.set_cons_zero, List.set_cons_succ, snap, snapL, fill_nums, flat_nums, nums_length, hlt']
    refine goFn (hcaps _) hcall rfl ?_
    have hst : i * 1 + 1 ≤ ((List.range i).map v).length + (List.replicate (n - i) (0 : Int)).length := by simp; omega
    simp only [mNil, nat0, beq_self_eq_true, mSkip, mRet, mExit, mReg, mSeq, mCond, mTrue, mFalse, mBlock, mLv, mCodeE, mCodeR, mEndN, mEndR, mEndE, mOps, mSome, mGuard, mGtt, mGff, mGtf, mGft, mGu, mCallP, mCallR, mCallF, mCallO, mCallZ, mCallG, mCallM, mCallV, loopQ_exit, loopQ_ret, mO_mov, mO_newnil, mO_pick, mO_alloc, mO_box, mO_build, mO_bsl, mO_ldf, mO_ld, mO_st, mO_sta, mO_nilchk, mO_bin, mO_binb, mO_binp, mO_bins, mO_neg, mO_not, mO_conv, mO_mk, mO_mk0, mO_s2b, mO_b2s, mO_cpy, mO_cut, mO_faddr, mO_fld, mO_iaddr, mO_iaddrf, mO_sidx, mO_len, mO_lenf, mO_slen, mO_scut, mO_app, mO_ext, mO_mx, mO_mn, mO_mkfn, evalOp, cutOp, argsE, ev, getE, putE, cellsOf, adopt, rowOf, binV, boolV, nilV, arith, geto, bound, finRet, finNrm, ints, List.length_cons, List.length_nil, List.length_append, List.getElem?_cons_zero, List.getElem?_cons_succ, List.nil_append, List.cons_append, List.map_cons, List.map_nil, List.mapM_cons, List.mapM_nil, Option.map_some, Option.map_none, Option.bind_some, Option.pure_def, Option.bind_eq_bind, List.drop_zero, ↓reduceIte, Nat.reduceEqDiff, Nat.reduceAdd, Nat.reduceMul, Nat.reduceLeDiff, Nat.reduceLT, Int.reduceToNat, Int.reduceLT, Int.reduceLE, reduceCtorEq, or_self, or_false, false_or, or_true, true_or, true_and, and_true, and_self, decide_true, decide_false, Bool.false_eq_true, Bool.true_eq_false, Bool.not_true, Bool.not_false, Nat.le_refl, eq_self, gt_iff_lt, ge_iff_le, ne_eq, not_true_eq_false, not_false_eq_true, storeOp, apartOf, freeze_nil, refsL, refs, List.flatMap_cons, List.flatMap_nil, List.append_nil, List.contains_nil, List.set_cons_zero, List.set_cons_succ, snap, snapL, fill_nums, flat_nums, nums_length, hlt', hi0, Int.toNat_natCast, hst, hw]
    have hout : (List.take i ((List.range i).map v ++ List.replicate (n - i) 0) ++ v i :: List.drop (i + 1) ((List.range i).map v ++ List.replicate (n - i) 0)) = (List.range (i + 1)).map v ++ List.replicate (n - (i + 1)) 0 := by
      rw [List.take_left' (by simp), List.drop_append, List.drop_eq_nil_of_le (by simp), List.range_succ]
      simp
      omega
    rw [hout]
    have hlens : s.length = x.length := hxl.symm
    have hback : ∀ x' : List Int, (inc s x).1 = x' → x'.length = s.length ∧ (i + 1 < n → x' = (ix s ((i + 1 : Nat) : Int)).1) := fun x' hx' => by
      refine ⟨by rw [← hx', inc_len hlens, hxl], fun h => ?_⟩
      rw [← hx', hx]
      have := (inc_ix (s := s) (a := (i : Int)) (by omega) (hpos (by omega))).1
      rw [this]
      rfl
    have hhead : ∀ x' : List Int, (inc s x).1 = x' → headOf [0, 1, 7, 8, 24, 25] (some (3, [])) ⟨[(25, .int .i64 ((i + 1 : Nat) : Int)), (59, .int .i64 ((i + 1 : Nat) : Int)), (0, .sl s.length 1 (nums .i64 s)), (1, .fn f caps), (7, .arr 1 0), (8, .arr 2 0), (24, .int .i64 n), (25, .int .i64 i)], [⟨false, 3, 1, 0, 0, [], false⟩, ⟨false, 3, 1, 0, n, nums .i64 ((List.range (i + 1)).map v ++ List.replicate (n - (i + 1)) 0), false⟩, ⟨false, 3, 1, 0, s.length, nums .i64 x', false⟩]⟩ = some ⟨[(0, .sl s.length 1 (nums .i64 s)), (1, .fn f caps), (7, .arr 1 0), (8, .arr 2 0), (24, .int .i64 n), (25, .int .i64 ((i + 1 : Nat) : Int))],
        [⟨false, 3, 1, 0, 0, [], false⟩, ⟨false, 3, 1, 0, n, nums .i64 ((List.range (i + 1)).map v ++ List.replicate (n - (i + 1)) 0), false⟩, ⟨false, 3, 1, 0, s.length, nums .i64 x', false⟩]⟩ := fun x' _ => by
      simp only [headOf]
      exact (if_pos (by simp [under, underL, hu, getE])).trans rfl
    refine mLoop (fun N st => ∃ (j : Nat) (t : List Int) (jj : Int), j ≤ s.length ∧ N = j ∧ jj = (j : Int) - 1 ∧ inc (s.drop j) (x.drop j) = (t, true) ∧
      st = ⟨[(0, ints s), (1, .fn f caps), (7, .arr 1 0), (8, .arr 2 0), (10, .int .i64 jj), (24, .int .i64 n), (25, .int .i64 i)],
        [⟨false, 3, 1, 0, 0, [], false⟩, ⟨false, 3, 1, 0, n, nums .i64 ((List.range (i + 1)).map v ++ List.replicate (n - (i + 1)) 0), false⟩, ⟨false, 3, 1, 0, s.length, nums .i64 (x.take j ++ t), false⟩]⟩) s.length
      ⟨_, by simp only [headOf]; exact (if_pos (by simp [under, underL, hu, getE])).trans rfl, s.length, [], _, by omega, rfl, rfl, by rw [List.drop_length, List.drop_eq_nil_of_le (by omega), inc]; simp, by
        have : x.take s.length ++ [] = x := by rw [List.append_nil, List.take_of_length_le (by omega)]
        rw [this]
        rfl⟩ ?_
    rintro N s0 ⟨j, t, jj, hj, rfl, hjj, hinc, rfl⟩
    cases N with
    | zero =>
      have hj' : ¬ 0 ≤ jj := by omega
      rw [List.drop_zero, List.drop_zero] at hinc
      have hh : (inc s x).1 = t := by rw [hinc]
      simp only [b18_1, k18_0, mNil, nat0, beq_self_eq_true, mSkip, mRet, mExit, mReg, mSeq, mCond, mTrue, mFalse, mBlock, mLv, mCodeE, mCodeR, mEndN, mEndR, mEndE, mOps, mSome, mGuard, mGtt, mGff, mGtf, mGft, mGu, mCallP, mCallR, mCallF, mCallO, mCallZ, mCallG, mCallM, mCallV, loopQ_exit, loopQ_ret, mO_mov, mO_newnil, mO_pick, mO_alloc, mO_box, mO_build, mO_bsl, mO_ldf, mO_ld, mO_st, mO_sta, mO_nilchk, mO_bin, mO_binb, mO_binp, mO_bins, mO_neg, mO_not, mO_conv, mO_mk, mO_mk0, mO_s2b, mO_b2s, mO_cpy, mO_cut, mO_faddr, mO_fld, mO_iaddr, mO_iaddrf, mO_sidx, mO_len, mO_lenf, mO_slen, mO_scut, mO_app, mO_ext, mO_mx, mO_mn, mO_mkfn, evalOp, cutOp, argsE, ev, getE, putE, cellsOf, adopt, rowOf, binV, boolV, nilV, arith, geto, bound, finRet, finNrm, ints, List.length_cons, List.length_nil, List.length_append, List.getElem?_cons_zero, List.getElem?_cons_succ, List.nil_append, List.cons_append, List.map_cons, List.map_nil, List.mapM_cons, List.mapM_nil, Option.map_some, Option.map_none, Option.bind_some, Option.pure_def, Option.bind_eq_bind, List.drop_zero, ↓reduceIte, Nat.reduceEqDiff, Nat.reduceAdd, Nat.reduceMul, Nat.reduceLeDiff, Nat.reduceLT, Int.reduceToNat, Int.reduceLT, Int.reduceLE, reduceCtorEq, or_self, or_false, false_or, or_true, true_or, true_and, and_true, and_self, decide_true, decide_false, Bool.false_eq_true, Bool.true_eq_false, Bool.not_true, Bool.not_false, Nat.le_refl, eq_self, gt_iff_lt, ge_iff_le, ne_eq, not_true_eq_false, not_false_eq_true, hj', hi1, List.take_zero]
      exact loopQ_go (hhead t hh) (n - (i + 1)) (by omega) ⟨i + 1, t, by omega, rfl, (hback t hh).1, (hback t hh).2, rfl⟩
    | succ m =>
      obtain rfl : jj = (m : Int) := by omega
      have hm : m < s.length := by omega
      have hm' : (m : Int) < (s.length : Int) := by omega
      have hm0 : (0 : Int) ≤ (m : Int) := by omega
      have hm1 : IntKind.i64.wrap ((m : Int) - 1) = (m : Int) - 1 := wrap_i64 (by omega) (by omega)
      have hsub := sub_nums (k := .i64) hm
      have hmx : m < x.length := by omega
      have htl : t.length = s.length - (m + 1) := by
        have := inc_len (s := s.drop (m + 1)) (x := x.drop (m + 1)) (by simp [hxl])
        rw [hinc] at this
        simpa [hxl] using this
      generalize hy : x.take (m + 1) ++ t = y at *
      have hyl : y.length = s.length := by rw [← hy]; simp; omega
      have hmy : m < y.length := by omega
      have hsuby := sub_nums (k := .i64) hmy
      have hyd : y.getD m 0 = x.getD m 0 := by
        rw [← hy]
        simp only [List.getD]
        rw [List.getElem?_append_left (by simp; omega), List.getElem?_take, if_pos (by omega)]
      have hy1 : y.take m = x.take m := by
        rw [← hy, List.take_append_of_le_length (by simp; omega), List.take_take, Nat.min_eq_left (by omega)]
      have hy2 : y.drop (m + 1) = t := by
        have e1 : (x.take (m + 1)).length = m + 1 := by simp; omega
        rw [← hy, List.drop_append, List.drop_eq_nil_of_le (by omega), e1]
        simp
      have hincm : inc (s.drop m) (x.drop m) = if x.getD m 0 + 1 < s.getD m 0 then ((x.getD m 0 + 1) :: t, false) else (0 :: t, true) := by
        rw [getD_drop hm, getD_drop hmx, inc, hinc, if_pos rfl]
      have hd := hd4 (s.getD m 0) (by simp [List.getD, hm])
      have hxm : 0 ≤ x.getD m 0 ∧ x.getD m 0 < s.getD m 0 := by
        rw [hx]
        exact ix_range (by omega) (hpos (by omega)) hm
      have hst := (show m * 1 + 1 ≤ y.length by omega)
      have hwx : IntKind.i64.wrap (x.getD m 0 + 1) = x.getD m 0 + 1 := wrap_i64 (by omega) (by omega)
      have hsub2 := sub_nums (k := .i64) (l := y.take m ++ (x.getD m 0 + 1) :: y.drop (m + 1)) (i := m) (by rw [set_len hmy]; exact hmy)
      rw [set_get hmy] at hsub2
      have hst2 : m * 1 + 1 ≤ (y.take m).length + ((y.drop (m + 1)).length + 1) := by simp; omega
      rw [hyd] at hsuby
      generalize hX : x.getD m 0 = X at *
      generalize hD : s.getD m 0 = D at *
      by_cases hlt2 : X + 1 < D
      · rw [if_pos hlt2] at hincm
        have hh : (inc s x).1 = y.take m ++ (X + 1) :: y.drop (m + 1) := by rw [inc_drop hlens (by omega) hincm, hy1, hy2]
        simp only [b18_1, k18_0, mNil, nat0, beq_self_eq_true, mSkip, mRet, mExit, mReg, mSeq, mCond, mTrue, mFalse, mBlock, mLv, mCodeE, mCodeR, mEndN, mEndR, mEndE, mOps, mSome, mGuard, mGtt, mGff, mGtf, mGft, mGu, mCallP, mCallR, mCallF, mCallO, mCallZ, mCallG, mCallM, mCallV, loopQ_exit, loopQ_ret, mO_mov, mO_newnil, mO_pick, mO_alloc, mO_box, mO_build, mO_bsl, mO_ldf, mO_ld, mO_st, mO_sta, mO_nilchk, mO_bin, mO_binb, mO_binp, mO_bins, mO_neg, mO_not, mO_conv, mO_mk, mO_mk0, mO_s2b, mO_b2s, mO_cpy, mO_cut, mO_faddr, mO_fld, mO_iaddr, mO_iaddrf, mO_sidx, mO_len, mO_lenf, mO_slen, mO_scut, mO_app, mO_ext, mO_mx, mO_mn, mO_mkfn, evalOp, cutOp, argsE, ev, getE, putE, cellsOf, adopt, rowOf, binV, boolV, nilV, arith, geto, bound, finRet, finNrm, ints, List.length_cons, List.length_nil, List.length_append, List.getElem?_cons_zero, List.getElem?_cons_succ, List.nil_append, List.cons_append, List.map_cons, List.map_nil, List.mapM_cons, List.mapM_nil, Option.map_some, Option.map_none, Option.bind_some, Option.pure_def, Option.bind_eq_bind, List.drop_zero, ↓reduceIte, Nat.reduceEqDiff, Nat.reduceAdd, Nat.reduceMul, Nat.reduceLeDiff, Nat.reduceLT, Int.reduceToNat, Int.reduceLT, Int.reduceLE, reduceCtorEq, or_self, or_false, false_or, or_true, true_or, true_and, and_true, and_self, decide_true, decide_false, Bool.false_eq_true, Bool.true_eq_false, Bool.not_true, Bool.not_false, Nat.le_refl, eq_self, gt_iff_lt, ge_iff_le, ne_eq, not_true_eq_false, not_false_eq_true, storeOp, apartOf, freeze_nil, refsL, refs, List.flatMap_cons, List.flatMap_nil, List.append_nil, List.contains_nil, List.set_cons_zero, List.set_cons_succ, snap, snapL, fill_nums, flat_nums, nums_length, hm0, hm', Int.toNat_natCast, hsub, hsuby, hst, hwx, hsub2, hlt2, hi1]
        exact loopQ_go (hhead _ hh) (n - (i + 1)) (by omega) ⟨i + 1, _, by omega, rfl, (hback _ hh).1, (hback _ hh).2, rfl⟩
      · rw [if_neg hlt2] at hincm
        simp only [b18_1, k18_0, mNil, nat0, beq_self_eq_true, mSkip, mRet, mExit, mReg, mSeq, mCond, mTrue, mFalse, mBlock, mLv, mCodeE, mCodeR, mEndN, mEndR, mEndE, mOps, mSome, mGuard, mGtt, mGff, mGtf, mGft, mGu, mCallP, mCallR, mCallF, mCallO, mCallZ, mCallG, mCallM, mCallV, loopQ_exit, loopQ_ret, mO_mov, mO_newnil, mO_pick, mO_alloc, mO_box, mO_build, mO_bsl, mO_ldf, mO_ld, mO_st, mO_sta, mO_nilchk, mO_bin, mO_binb, mO_binp, mO_bins, mO_neg, mO_not, mO_conv, mO_mk, mO_mk0, mO_s2b, mO_b2s, mO_cpy, mO_cut, mO_faddr, mO_fld, mO_iaddr, mO_iaddrf, mO_sidx, mO_len, mO_lenf, mO_slen, mO_scut, mO_app, mO_ext, mO_mx, mO_mn, mO_mkfn, evalOp, cutOp, argsE, ev, getE, putE, cellsOf, adopt, rowOf, binV, boolV, nilV, arith, geto, bound, finRet, finNrm, ints, List.length_cons, List.length_nil, List.length_append, List.getElem?_cons_zero, List.getElem?_cons_succ, List.nil_append, List.cons_append, List.map_cons, List.map_nil, List.mapM_cons, List.mapM_nil, Option.map_some, Option.map_none, Option.bind_some, Option.pure_def, Option.bind_eq_bind, List.drop_zero, ↓reduceIte, Nat.reduceEqDiff, Nat.reduceAdd, Nat.reduceMul, Nat.reduceLeDiff, Nat.reduceLT, Int.reduceToNat, Int.reduceLT, Int.reduceLE, reduceCtorEq, or_self, or_false, false_or, or_true, true_or, true_and, and_true, and_self, decide_true, decide_false, Bool.false_eq_true, Bool.true_eq_false, Bool.not_true, Bool.not_false, Nat.le_refl, eq_self, gt_iff_lt, ge_iff_le, ne_eq, not_true_eq_false, not_false_eq_true, storeOp, apartOf, freeze_nil, refsL, refs, List.flatMap_cons, List.flatMap_nil, List.append_nil, List.contains_nil, List.set_cons_zero, List.set_cons_succ, snap, snapL, fill_nums, flat_nums, nums_length, hm0, hm', Int.toNat_natCast, hsub, hsuby, hst, hst2, hwx, hsub2, hlt2, hm1, set_set hmy]
        refine loopQ_go (s2 := ⟨[(0, ints s), (1, .fn f caps), (7, .arr 1 0), (8, .arr 2 0), (10, .int .i64 ((m : Int) - 1)), (24, .int .i64 n), (25, .int .i64 i)],
          [⟨false, 3, 1, 0, 0, [], false⟩, ⟨false, 3, 1, 0, n, nums .i64 ((List.range (i + 1)).map v ++ List.replicate (n - (i + 1)) 0), false⟩, ⟨false, 3, 1, 0, s.length, nums .i64 (y.take m ++ 0 :: y.drop (m + 1)), false⟩]⟩) ?_ m (by omega) ⟨m, 0 :: t, _, by omega, rfl, rfl, hincm, ?_⟩
        · simp only [headOf]
          exact (if_pos (by simp [under, underL, hu, getE])).trans rfl
        · rw [← hy1, ← hy2]
          rfl
  · have hlt' : ¬ (i : Int) < (n : Int) := by omega
    obtain rfl : i = n := by omega
    simp only [b18_0, k18_1, mNil, nat0, beq_self_eq_true, mSkip, mRet, mExit, mReg, mSeq, mCond, mTrue, mFalse, mBlock, mLv, mCodeE, mCodeR, mEndN, mEndR, mEndE, mOps, mSome, mGuard, mGtt, mGff, mGtf, mGft, mGu, mCallP, mCallR, mCallF, mCallO, mCallZ, mCallG, mCallM, mCallV, loopQ_exit, loopQ_ret, mO_mov, mO_newnil, mO_pick, mO_alloc, mO_box, mO_build, mO_bsl, mO_ldf, mO_ld, mO_st, mO_sta, mO_nilchk, mO_bin, mO_binb, mO_binp, mO_bins, mO_neg, mO_not, mO_conv, mO_mk, mO_mk0, mO_s2b, mO_b2s, mO_cpy, mO_cut, mO_faddr, mO_fld, mO_iaddr, mO_iaddrf, mO_sidx, mO_len, mO_lenf, mO_slen, mO_scut, mO_app, mO_ext, mO_mx, mO_mn, mO_mkfn, evalOp, cutOp, argsE, ev, getE, putE, cellsOf, adopt, rowOf, binV, boolV, nilV, arith, geto, bound, finRet, finNrm, ints, List.length_cons, List.length_nil, List.length_append, List.getElem?_cons_zero, List.getElem?_cons_succ, List.nil_append, List.cons_append, List.map_cons, List.map_nil, List.mapM_cons, List.mapM_nil, Option.map_some, Option.map_none, Option.bind_some, Option.pure_def, Option.bind_eq_bind, List.drop_zero, ↓reduceIte, Nat.reduceEqDiff, Nat.reduceAdd, Nat.reduceMul, Nat.reduceLeDiff, Nat.reduceLT, Int.reduceToNat, Int.reduceLT, Int.reduceLE, reduceCtorEq, or_self, or_false, false_or, or_true, true_or, true_and, and_true, and_self, decide_true, decide_false, Bool.false_eq_true, Bool.true_eq_false, Bool.not_true, Bool.not_false, Nat.le_refl, eq_self, gt_iff_lt, ge_iff_le, ne_eq, not_true_eq_false, not_false_eq_true, hlt']
    simp only [i18, Out, resAll, geto, ints, List.getElem?_cons_zero, List.getElem?_cons_succ, resOf, outOf, snap, snapL, ev, getE, List.mapM_cons, List.mapM_nil, Option.bind_some, Option.pure_def, Option.bind_eq_bind, Option.map_some, reduceIte, Nat.reduceEqDiff, true_and, and_true, Nat.sub_self, List.replicate_zero, List.append_nil, List.length_map, List.length_range]
end
end Go.Proofs.Ytcmbaabkfihdmaa.I
