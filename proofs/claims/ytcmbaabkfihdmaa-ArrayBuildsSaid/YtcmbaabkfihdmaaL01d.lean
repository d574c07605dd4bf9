/- Layer 1: the document's digits of a number. -/
import Derived.Test.YtcmbaabkfihdmaaL01c
set_option linter.unusedVariables false
set_option linter.unusedSimpArgs false
namespace Go.Proofs.Ytcmbaabkfihdmaa.I
open Go Go.V
attribute [local go_sem] mNil nat0 beq_self_eq_true mSkip mRet mExit mReg mSeq mCond mTrue mFalse mBlock mLv mCodeE mCodeR mEndN mEndR mEndE mOps mSome mGuard mGtt mGff mGtf mGft mGu mCallP mCallR mCallF mCallO mCallZ mCallG mCallM mCallV loopQ_exit loopQ_ret mO_mov mO_newnil mO_pick mO_alloc mO_box mO_build mO_bsl mO_ldf mO_ld mO_st mO_sta mO_nilchk mO_bin mO_binb mO_binp mO_bins mO_neg mO_not mO_conv mO_mk mO_mk0 mO_s2b mO_b2s mO_cpy mO_cut mO_faddr mO_fld mO_iaddr mO_iaddrf mO_sidx mO_len mO_lenf mO_slen mO_scut mO_app mO_ext mO_mx mO_mn mO_mkfn evalOp cutOp argsE ev getE putE cellsOf adopt rowOf binV boolV nilV arith geto bound finRet finNrm ints List.length_cons List.length_nil List.length_append List.getElem?_cons_zero List.getElem?_cons_succ List.nil_append List.cons_append List.map_cons List.map_nil List.mapM_cons List.mapM_nil Option.map_some Option.map_none Option.bind_some Option.pure_def Option.bind_eq_bind List.drop_zero or_self or_false false_or or_true true_or true_and and_true and_self decide_true decide_false Bool.false_eq_true Bool.true_eq_false Bool.not_true Bool.not_false Nat.le_refl eq_self gt_iff_lt ge_iff_le ne_eq not_true_eq_false not_false_eq_true storeOp apartOf freeze_nil refsL refs List.flatMap_cons List.flatMap_nil List.append_nil List.contains_nil List.set_cons_zero List.set_cons_succ snap snapL fill_nums flat_nums nums_length Go.V.freeze List.mapIdx_cons List.mapIdx_nil List.contains_cons Bool.or_false Bool.false_or Bool.or_true Bool.true_or
theorem bs_at {x : Int} {l : List Int} : (bs (x :: l))[0]? = some (UInt8.ofNat x.toNat) := rfl
section
variable {E : CallRel}
theorem c120_one {x : Int} : Go.V.Call tab E 120 [.str (bs [x])] [] (.str (bs [x])) [] := by
  refine Go.V.Call.mach i120 c120 rfl rfl rfl rfl ?_
  have h1 : ¬ (1 : Int) < (((bs [x]).size : Nat) : Int) := by rw [bs_size]; simp
  simp only [c120, go_sem, ↓reduceIte, Nat.reduceEqDiff, Nat.reduceAdd, Nat.reduceMul, Nat.reduceLeDiff, Nat.reduceLT, Int.reduceToNat, Int.reduceLT, Int.reduceLE, reduceCtorEq, Nat.reduceBEq]
  refine mLoop (fun N st => N = 0 ∧ st = ⟨[(0, .str (bs [x]))], []⟩) 0 ⟨_, rfl, rfl, rfl⟩ ?_
  rintro N s0 ⟨rfl, rfl⟩
  simp only [b120_0, k120_0, go_sem, ↓reduceIte, Nat.reduceEqDiff, Nat.reduceAdd, Nat.reduceMul, Nat.reduceLeDiff, Nat.reduceLT, Int.reduceToNat, Int.reduceLT, Int.reduceLE, reduceCtorEq, Nat.reduceBEq, h1]
  simp only [i120, Out, resAll, geto, ints, List.getElem?_cons_zero, List.getElem?_cons_succ, resOf, outOf, snap, snapL, ev, getE, List.mapM_cons, List.mapM_nil, Option.bind_some, Option.pure_def, Option.bind_eq_bind, Option.map_some, reduceIte, Nat.reduceEqDiff, true_and, and_true]
theorem c120_ok {x : Int} {l : List Int} (hx : 49 ≤ x ∧ x ≤ 57) : Go.V.Call tab E 120 [.str (bs (x :: l))] [] (.str (bs (x :: l))) [] := by
  cases l with
  | nil => exact c120_one
  | cons y l =>
    refine Go.V.Call.mach i120 c120 rfl rfl rfl rfl ?_
    have h1 : (1 : Int) < (((bs (x :: y :: l)).size : Nat) : Int) := by rw [bs_size]; simp; omega
    have h2 : (((UInt8.ofNat x.toNat).toNat : Nat) : Int) = x := by simp; omega
    have h3 : (x == 48) = false := by rw [beq_eq_false_iff_ne]; omega
    have h4 : (bs (x :: y :: l))[0]? = some (UInt8.ofNat x.toNat) := rfl
    simp only [c120, go_sem, ↓reduceIte, Nat.reduceEqDiff, Nat.reduceAdd, Nat.reduceMul, Nat.reduceLeDiff, Nat.reduceLT, Int.reduceToNat, Int.reduceLT, Int.reduceLE, reduceCtorEq, Nat.reduceBEq]
    refine mLoop (fun N st => N = 0 ∧ st = ⟨[(0, .str (bs (x :: y :: l)))], []⟩) 0 ⟨_, rfl, rfl, rfl⟩ ?_
    rintro N s0 ⟨rfl, rfl⟩
    simp only [b120_0, k120_0, go_sem, ↓reduceIte, Nat.reduceEqDiff, Nat.reduceAdd, Nat.reduceMul, Nat.reduceLeDiff, Nat.reduceLT, Int.reduceToNat, Int.reduceLT, Int.reduceLE, reduceCtorEq, Nat.reduceBEq, h1, h4, h2, h3]
    simp only [i120, Out, resAll, geto, ints, List.getElem?_cons_zero, List.getElem?_cons_succ, resOf, outOf, snap, snapL, ev, getE, List.mapM_cons, List.mapM_nil, Option.bind_some, Option.pure_def, Option.bind_eq_bind, Option.map_some, reduceIte, Nat.reduceEqDiff, true_and, and_true]
theorem c143_ok {l : List Int} {d : Int} (hl : (l.length : Int) ≤ 1000000000) (hr : ∀ x ∈ l, 0 ≤ x ∧ x ≤ 9) (hd : 1 ≤ d ∧ d ≤ 9) : Go.V.Call tab E 143 [ints (l ++ [d])] [] (.str (bs (asc (l ++ [d])).reverse)) [] := by
  refine Go.V.Call.mach i143 c143 rfl rfl rfl rfl ?_
  have hrr : ∀ x ∈ l ++ [d], 0 ≤ x ∧ x ≤ 9 := fun x hx => by
    rcases List.mem_append.1 hx with hx | hx
    · exact hr x hx
    · simp at hx; omega
  have hL : (l ++ [d]).length = l.length + 1 := by simp
  have htrim : Go.V.Call tab E 120 [.str (bs (asc (l ++ [d])).reverse)] [] (.str (bs (asc (l ++ [d])).reverse)) [] := by
    have : (asc (l ++ [d])).reverse = (48 + d) :: (asc l).reverse := by simp [asc]
    rw [this]
    exact c120_ok (by omega)
  generalize hLL : l ++ [d] = L at *
  have w1 : IntKind.i64.wrap ((L.length : Int) + 1) = ((L.length + 1 : Nat) : Int) := by rw [wrap_i64 (by omega) (by omega)]; omega
  have w2 : IntKind.i64.wrap ((L.length : Int) - 1) = (L.length : Int) - 1 := wrap_i64 (by omega) (by omega)
  have b1 : (0 : Int) ≤ ((L.length + 1 : Nat) : Int) := by omega
  have b2 : 1 * (L.length + 1) ≤ 140737488355328 := by omega
  have b3 : ((L.length + 1 : Nat) : Int) ≤ 140737488355328 := by omega
  simp only [c143, go_sem, ↓reduceIte, Nat.reduceEqDiff, Nat.reduceAdd, Nat.reduceMul, Nat.reduceLeDiff, Nat.reduceLT, Int.reduceToNat, Int.reduceLT, Int.reduceLE, reduceCtorEq, Nat.reduceBEq, w1, w2, b1, b2, b3, Int.toNat_natCast]
  refine mLoop (fun N st => ∃ (j : Nat) (jj : Int), j ≤ L.length ∧ N = j ∧ jj = (j : Int) - 1 ∧
    st = ⟨[(0, ints L), (3, .arr 0 (L.length - j)), (4, .int .i64 jj)], [⟨false, 5, 1, L.length - j, L.length - j, nums .u8 (asc (L.drop j)).reverse, false⟩]⟩) L.length
    ⟨_, rfl, L.length, _, by omega, rfl, rfl, by rw [List.drop_length, Nat.sub_self]; rfl⟩ ?_
  rintro N s0 ⟨j, jj, hj, rfl, hjj, rfl⟩
  cases N with
  | zero =>
    have hn : ¬ 0 ≤ jj := by omega
    have hz : ((L.length : Int) == 0) = false := by rw [beq_eq_false_iff_ne]; omega
    simp only [b143_0, k143_0, go_sem, ↓reduceIte, Nat.reduceEqDiff, Nat.reduceAdd, Nat.reduceMul, Nat.reduceLeDiff, Nat.reduceLT, Int.reduceToNat, Int.reduceLT, Int.reduceLE, reduceCtorEq, Nat.reduceBEq, hn, Nat.sub_zero, List.drop_zero, hz, bytesOf_nums]
    refine goP htrim ?_
    simp only [go_sem, ↓reduceIte, Nat.reduceEqDiff, Nat.reduceAdd, Nat.reduceMul, Nat.reduceLeDiff, Nat.reduceLT, Int.reduceToNat, Int.reduceLT, Int.reduceLE, reduceCtorEq, Nat.reduceBEq]
    simp only [i143, Out, resAll, geto, ints, List.getElem?_cons_zero, List.getElem?_cons_succ, resOf, outOf, snap, snapL, ev, getE, List.mapM_cons, List.mapM_nil, Option.bind_some, Option.pure_def, Option.bind_eq_bind, Option.map_some, reduceIte, Nat.reduceEqDiff, true_and, and_true]
  | succ k =>
    obtain rfl : jj = (k : Int) := by omega
    have hlt : k < L.length := by omega
    have hlt' : (k : Int) < (L.length : Int) := by omega
    have hk0 : (0 : Int) ≤ (k : Int) := by omega
    have hk1 : IntKind.i64.wrap ((k : Int) - 1) = (k : Int) - 1 := wrap_i64 (by omega) (by omega)
    have hsub := sub_nums (k := .i64) hlt
    have hx := hrr (L.getD k 0) (by simp [List.getD, hlt])
    have hdr := getD_drop hlt
    generalize L.getD k 0 = x at *
    have t3 : IntKind.i64.wrap (48 + x) = 48 + x := wrap_i64 (by omega) (by omega)
    have t4 : IntKind.u8.wrap (48 + x) = 48 + x := by
      simp only [IntKind.wrap, IntKind.bits, IntKind.signed]
      simp
      omega
    have e0 : L.length - k = L.length - (k + 1) + 1 := by omega
    have e3 : (L.length - (k + 1) + 1) * 1 ≤ 140737488355328 := by omega
    have e4 : L.length - (k + 1) + 1 ≤ 140737488355328 := by omega
    have hasc : nums .u8 (asc (L.drop k)).reverse = nums .u8 (asc (L.drop (k + 1))).reverse ++ [.int .u8 (48 + x)] := by rw [hdr]; simp [nums, asc]
    simp only [b143_0, go_sem, ↓reduceIte, Nat.reduceEqDiff, Nat.reduceAdd, Nat.reduceMul, Nat.reduceLeDiff, Nat.reduceLT, Int.reduceToNat, Int.reduceLT, Int.reduceLE, reduceCtorEq, Nat.reduceBEq, hk0, hlt', Int.toNat_natCast, hsub, t3, t4, e3, e4, hk1, List.flatten_cons, List.flatten_nil, Option.getD_some]
    refine loopQ_go rfl k (by omega) ⟨k, _, by omega, rfl, rfl, ?_⟩
    rw [hasc, e0]
    rfl
theorem c132_ok {n : Nat} (hn : n < 18446744073709551616) : Go.V.Call tab E 132 [.int .u64 n] [] (.str (dec n)) [] := by
  refine Go.V.Call.mach i132 c132 rfl rfl rfl rfl ?_
  by_cases h0 : n = 0
  · subst h0
    simp only [c132, go_sem, ↓reduceIte, Nat.reduceEqDiff, Nat.reduceAdd, Nat.reduceMul, Nat.reduceLeDiff, Nat.reduceLT, Int.reduceToNat, Int.reduceLT, Int.reduceLE, reduceCtorEq, Nat.reduceBEq, show ((((0 : Nat) : Int)) == 0) = true from rfl]
    simp only [i132, Out, resAll, geto, ints, List.getElem?_cons_zero, List.getElem?_cons_succ, resOf, outOf, snap, snapL, ev, getE, List.mapM_cons, List.mapM_nil, Option.bind_some, Option.pure_def, Option.bind_eq_bind, Option.map_some, reduceIte, Nat.reduceEqDiff, true_and, and_true, dec]
  · have h0' : ((n : Int) == 0) = false := by rw [beq_eq_false_iff_ne]; omega
    simp only [c132, go_sem, ↓reduceIte, Nat.reduceEqDiff, Nat.reduceAdd, Nat.reduceMul, Nat.reduceLeDiff, Nat.reduceLT, Int.reduceToNat, Int.reduceLT, Int.reduceLE, reduceCtorEq, Nat.reduceBEq, h0']
    refine mLoop (fun N st => ∃ (i m : Nat) (o : List Int), i ≤ 20 ∧ N = 20 - i ∧ o.length = i ∧ m < 10 ^ (20 - i) ∧ m < 18446744073709551616 ∧ dgs n = o ++ dgs m ∧
      st = ⟨[(0, .int .u64 m), (3, .arr 0 i), (4, .int .i64 i)], [⟨false, 3, 1, i, i, nums .i64 o, false⟩]⟩) 20 ⟨_, rfl, 0, n, [], by omega, by omega, rfl, by omega, by omega, by simp, by simp [getE, nums]⟩ ?_
    rintro N s0 ⟨i, m, o, hi, rfl, hol, hm, hm64, hd, rfl⟩
    by_cases hm0 : m = 0
    · subst hm0
      rw [dgs_zero, List.append_nil] at hd
      obtain ⟨l, d, e1, e2, e3⟩ := dgs_last h0
      have hr := dgs_range (n := n)
      rw [hd] at e1 hr
      have hw := c143_ok (E := E) (l := l) (d := d) (by
        have : o.length = l.length + 1 := by rw [e1]; simp
        omega) (fun x hx => hr x (by rw [e1]; simp [hx])) ⟨e2, e3⟩
      rw [← e1, ints, hol] at hw
      have hdec : dec n = bs (asc o).reverse := by rw [dec, if_neg h0, hd]
      rw [← hdec] at hw
      have z : ¬ (0 : Int) < ((0 : Nat) : Int) := by omega
      by_cases hi20 : i < 20
      · have hi' : (i : Int) < 20 := by omega
        simp only [b132_0, k132_0, go_sem, ↓reduceIte, Nat.reduceEqDiff, Nat.reduceAdd, Nat.reduceMul, Nat.reduceLeDiff, Nat.reduceLT, Int.reduceToNat, Int.reduceLT, Int.reduceLE, reduceCtorEq, Nat.reduceBEq, hi', z]
        refine goR hw rfl ?_
        simp only [go_sem, ↓reduceIte, Nat.reduceEqDiff, Nat.reduceAdd, Nat.reduceMul, Nat.reduceLeDiff, Nat.reduceLT, Int.reduceToNat, Int.reduceLT, Int.reduceLE, reduceCtorEq, Nat.reduceBEq]
        simp only [i132, Out, resAll, geto, ints, List.getElem?_cons_zero, List.getElem?_cons_succ, resOf, outOf, snap, snapL, ev, getE, List.mapM_cons, List.mapM_nil, Option.bind_some, Option.pure_def, Option.bind_eq_bind, Option.map_some, reduceIte, Nat.reduceEqDiff, true_and, and_true]
      · have hi' : ¬ (i : Int) < 20 := by omega
        simp only [b132_0, k132_0, go_sem, ↓reduceIte, Nat.reduceEqDiff, Nat.reduceAdd, Nat.reduceMul, Nat.reduceLeDiff, Nat.reduceLT, Int.reduceToNat, Int.reduceLT, Int.reduceLE, reduceCtorEq, Nat.reduceBEq, hi', z]
        refine goR hw rfl ?_
        simp only [go_sem, ↓reduceIte, Nat.reduceEqDiff, Nat.reduceAdd, Nat.reduceMul, Nat.reduceLeDiff, Nat.reduceLT, Int.reduceToNat, Int.reduceLT, Int.reduceLE, reduceCtorEq, Nat.reduceBEq]
        simp only [i132, Out, resAll, geto, ints, List.getElem?_cons_zero, List.getElem?_cons_succ, resOf, outOf, snap, snapL, ev, getE, List.mapM_cons, List.mapM_nil, Option.bind_some, Option.pure_def, Option.bind_eq_bind, Option.map_some, reduceIte, Nat.reduceEqDiff, true_and, and_true]
    · have hi20 : i < 20 := by
        rcases Nat.lt_or_ge i 20 with h | h
        · exact h
        · have : i = 20 := by omega
          subst this
          simp at hm
          omega
      have hi' : (i : Int) < 20 := by omega
      have hp : 10 ^ (20 - i) = 10 * 10 ^ (20 - (i + 1)) := by rw [show 20 - i = (20 - (i + 1)) + 1 by omega, Nat.pow_succ, Nat.mul_comm]
      rw [hp] at hm
      have z : (0 : Int) < (m : Int) := by omega
      have t0 : ¬ (10 : Int) = 0 := by omega
      have t1 : Int.tmod (m : Int) 10 = ((m % 10 : Nat) : Int) := by rw [Int.tmod_eq_emod_of_nonneg (by omega)]; omega
      have t2 : IntKind.u64.wrap (Int.tdiv (m : Int) 10) = ((m / 10 : Nat) : Int) := by rw [Int.tdiv_eq_ediv_of_nonneg (by omega), wrap_u64 (by omega) (by omega)]; omega
      have t3 : IntKind.i64.wrap ((m % 10 : Nat) : Int) = ((m % 10 : Nat) : Int) := wrap_i64 (by omega) (by omega)
      have hi1 : IntKind.i64.wrap ((i : Int) + 1) = ((i + 1 : Nat) : Int) := by rw [wrap_i64 (by omega) (by omega)]; omega
      have e3 : (i + 1) * 8 ≤ 140737488355328 := by omega
      have e4 : i + 1 ≤ 140737488355328 := by omega
      simp only [b132_0, go_sem, ↓reduceIte, Nat.reduceEqDiff, Nat.reduceAdd, Nat.reduceMul, Nat.reduceLeDiff, Nat.reduceLT, Int.reduceToNat, Int.reduceLT, Int.reduceLE, reduceCtorEq, Nat.reduceBEq, hi', z, t0, t1, t2, t3, hi1, e3, e4, List.flatten_cons, List.flatten_nil, Option.getD_some]
      refine loopQ_go rfl (20 - (i + 1)) (by omega) ⟨i + 1, m / 10, o ++ [((m % 10 : Nat) : Int)], by omega, rfl, by simp [hol], by omega, by omega, ?_, ?_⟩
      · rw [hd, dgs_pos hm0]; simp
      · rw [nums_app]; rfl
theorem c115_ok {z : Int} (hz : In64 z) : Go.V.Call tab E 115 [.int .i64 z] [] (.agg [.bool (decide (z < 0)), .str (dec z.natAbs)]) [] := by
  obtain ⟨hz1, hz2⟩ := hz
  refine Go.V.Call.mach i115 c115 rfl rfl rfl rfl ?_
  by_cases h0 : z < 0
  · have e1 : IntKind.i64.wrap (z + 1) = z + 1 := wrap_i64 (by omega) (by omega)
    have e2 : IntKind.i64.wrap (0 - (z + 1)) = -(z + 1) := by rw [wrap_i64 (by omega) (by omega)]; omega
    have e3 : IntKind.u64.wrap (-(z + 1)) = -(z + 1) := wrap_u64 (by omega) (by omega)
    have e4 : IntKind.u64.wrap (-(z + 1) + 1) = (z.natAbs : Int) := by rw [wrap_u64 (by omega) (by omega)]; omega
    simp only [c115, go_sem, ↓reduceIte, Nat.reduceEqDiff, Nat.reduceAdd, Nat.reduceMul, Nat.reduceLeDiff, Nat.reduceLT, Int.reduceToNat, Int.reduceLT, Int.reduceLE, reduceCtorEq, Nat.reduceBEq, h0, e1, e2, e3, e4]
    refine goP (c132_ok (by omega)) ?_
    simp only [go_sem, ↓reduceIte, Nat.reduceEqDiff, Nat.reduceAdd, Nat.reduceMul, Nat.reduceLeDiff, Nat.reduceLT, Int.reduceToNat, Int.reduceLT, Int.reduceLE, reduceCtorEq, Nat.reduceBEq, fillAll, fillIn, shiftR, shiftV, List.take_succ_cons, List.take_zero, List.drop_succ_cons, List.drop_zero, List.append_nil, Nat.zero_add]
    simp only [i115, Out, resAll, geto, ints, List.getElem?_cons_zero, List.getElem?_cons_succ, resOf, outOf, snap, snapL, ev, getE, List.mapM_cons, List.mapM_nil, Option.bind_some, Option.pure_def, Option.bind_eq_bind, Option.map_some, reduceIte, Nat.reduceEqDiff, true_and, and_true, sub, fillAll, fillIn, shiftR, shiftV, List.take_succ_cons, List.take_zero, List.drop_succ_cons, List.drop_zero, List.append_nil, Nat.zero_add, List.length_cons, List.length_nil, Nat.le_refl]
  · have e1 : IntKind.u64.wrap z = (z.natAbs : Int) := by rw [wrap_u64 (by omega) (by omega)]; omega
    simp only [c115, go_sem, ↓reduceIte, Nat.reduceEqDiff, Nat.reduceAdd, Nat.reduceMul, Nat.reduceLeDiff, Nat.reduceLT, Int.reduceToNat, Int.reduceLT, Int.reduceLE, reduceCtorEq, Nat.reduceBEq, h0, e1]
    refine goP (c132_ok (by omega)) ?_
    simp only [go_sem, ↓reduceIte, Nat.reduceEqDiff, Nat.reduceAdd, Nat.reduceMul, Nat.reduceLeDiff, Nat.reduceLT, Int.reduceToNat, Int.reduceLT, Int.reduceLE, reduceCtorEq, Nat.reduceBEq, fillAll, fillIn, shiftR, shiftV, List.take_succ_cons, List.take_zero, List.drop_succ_cons, List.drop_zero, List.append_nil, Nat.zero_add]
    simp only [i115, Out, resAll, geto, ints, List.getElem?_cons_zero, List.getElem?_cons_succ, resOf, outOf, snap, snapL, ev, getE, List.mapM_cons, List.mapM_nil, Option.bind_some, Option.pure_def, Option.bind_eq_bind, Option.map_some, reduceIte, Nat.reduceEqDiff, true_and, and_true, sub, fillAll, fillIn, shiftR, shiftV, List.take_succ_cons, List.take_zero, List.drop_succ_cons, List.drop_zero, List.append_nil, Nat.zero_add, List.length_cons, List.length_nil, Nat.le_refl]
/-- A whole number as the page speaks of it. -/
def numC (z : Int) : List AV := [.bool (decide (z < 0)), .str (dec z.natAbs), .str ⟨#[49]⟩]
theorem c93_ok {z : Int} (hz : In64 z) : Go.V.Call tab E 93 [.int .i64 z] [] (.agg (numC z)) [] := by
  refine Go.V.Call.mach i93 c93 rfl rfl rfl rfl ?_
  simp only [c93, go_sem, ↓reduceIte, Nat.reduceEqDiff, Nat.reduceAdd, Nat.reduceMul, Nat.reduceLeDiff, Nat.reduceLT, Int.reduceToNat, Int.reduceLT, Int.reduceLE, reduceCtorEq, Nat.reduceBEq]
  refine goP (c115_ok hz) ?_
  simp only [go_sem, ↓reduceIte, Nat.reduceEqDiff, Nat.reduceAdd, Nat.reduceMul, Nat.reduceLeDiff, Nat.reduceLT, Int.reduceToNat, Int.reduceLT, Int.reduceLE, reduceCtorEq, Nat.reduceBEq, sub, fillAll, fillIn, shiftR, shiftV, List.take_succ_cons, List.take_zero, List.drop_succ_cons, List.drop_zero, List.append_nil, Nat.zero_add]
  simp only [i93, Out, resAll, geto, ints, List.getElem?_cons_zero, List.getElem?_cons_succ, resOf, outOf, snap, snapL, ev, getE, List.mapM_cons, List.mapM_nil, Option.bind_some, Option.pure_def, Option.bind_eq_bind, Option.map_some, reduceIte, Nat.reduceEqDiff, true_and, and_true, sub, fillAll, fillIn, shiftR, shiftV, List.take_succ_cons, List.take_zero, List.drop_succ_cons, List.drop_zero, List.append_nil, Nat.zero_add, List.length_cons, List.length_nil, Nat.le_refl, numC]
end
end Go.Proofs.Ytcmbaabkfihdmaa.I
