/- The texts L07h L07g L07i L07j L07k L07n L06n L03c L06o L08a L08b L07l L07m L07o L07p L08e L08f L08g L08h L08i L08j L08k L08l L08m L08n L08d L08p, one behind the other. Conditions: each text's own. -/
import Derived.Test.YtlejgleocnemoaaGreatG06
import Derived.Test.YtlejgleocnemoaaGreatG04
import Derived.Test.YtlejgleocnemoaaGreatG05
import Derived.WalkKit
set_option linter.unusedSimpArgs false
set_option linter.unusedVariables false
namespace Go.Proofs.YtlejgleocnemoaaGreat.I
open Go Go.V
def prodR : List Int → Int
  | [] => 1
  | d :: ds => IntKind.i64.wrap (prodR ds * d)
def str : List Int → List Int
  | [] => []
  | _ :: ds => prodR ds :: str ds
theorem str_len : ∀ {s : List Int}, (str s).length = s.length
  | [] => rfl
  | d :: ds => by simp [str, str_len]
section
variable {E : CallRel}
theorem c111_ok {s : List Int} (hl : (s.length : Int) ≤ 1000000000000) : Go.V.Call tab E 111 [ints s] [] (ints (str s)) [] := by
  refine Go.V.Call.mach i111 c111 rfl rfl rfl rfl ?_
  have hmk : 8 * s.length ≤ 140737488355328 := by omega
  have hmk2 : (s.length : Int) ≤ 140737488355328 := by omega
  have hn0 : (0 : Int) ≤ (s.length : Int) := by omega
  have hw : IntKind.i64.wrap ((s.length : Int) - 1) = (s.length : Int) - 1 := wrap_i64 (by omega) (by omega)
  simp only [c111, mNil, nat0, beq_self_eq_true, mSkip, mRet, mExit, mReg, mSeq, mCond, mTrue, mFalse, mBlock, mLv, mCodeE, mCodeR, mEndN, mEndR, mEndE, mOps, mSome, mGuard, mGtt, mGff, mGtf, mGft, mGu, mCallP, mCallR, mCallF, mCallO, mCallZ, mCallG, mCallM, mCallV, loopQ_exit, loopQ_ret, mO_mov, mO_newnil, mO_pick, mO_alloc, mO_box, mO_build, mO_bsl, mO_bslF, mO_ldf, mO_ld, mO_st, mO_sta, mO_nilchk, mO_bin, mO_binb, mO_binp, mO_bins, mO_neg, mO_com, mO_not, mO_conv, mO_mk, mO_mk0, mO_s2b, mO_b2s, mO_cpy, mO_cut, mO_faddr, mO_fld, mO_iaddr, mO_iaddrf, mO_sidx, mO_len, mO_lenf, mO_slen, mO_scut, mO_app, mO_ext, mO_mx, mO_mn, mO_mkfn, evalOp, cutOp, argsE, ev, getE, putE, cellsOf, adopt, rowOf, binV, boolV, nilV, ar_add, ar_sub, ar_mul, ar_quo, ar_rem, ar_eq, ar_ne, ar_lt, ar_le, ar_gt, ar_ge, ar_and, ar_or, ar_xor, geto, bound, finRet, finNrm, ints, List.length_cons, List.length_nil, List.length_append, List.getElem?_cons_zero, List.getElem?_cons_succ, List.nil_append, List.cons_append, List.map_cons, List.map_nil, List.mapM_cons, List.mapM_nil, Option.map_some, Option.map_none, Option.bind_some, Option.pure_def, Option.bind_eq_bind, List.drop_zero, ↓reduceIte, Nat.reduceEqDiff, Nat.reduceAdd, Nat.reduceMul, Nat.reduceLeDiff, Nat.reduceLT, Int.reduceToNat, Int.reduceLT, Int.reduceLE, reduceCtorEq, or_self, or_false, false_or, or_true, true_or, true_and, and_true, and_self, decide_true, decide_false, Bool.false_eq_true, Bool.true_eq_false, Bool.not_true, Bool.not_false, Nat.le_refl, eq_self, gt_iff_lt, ge_iff_le, ne_eq, not_true_eq_false, not_false_eq_true, Int.toNat_natCast, hmk, hmk2, hn0, flat_nums, hw]
  refine mLoop (fun N st => ∃ (j : Nat) (i : Int), j ≤ s.length ∧ N = j ∧ i = (j : Int) - 1 ∧
    st = ⟨[(0, ints s), (3, .arr 1 0), (4, .int .i64 (prodR (s.drop j))), (5, .int .i64 i)], [⟨false, 3, 1, 0, 0, [], false⟩, ⟨false, 3, 1, 0, s.length, nums .i64 (List.replicate j 0 ++ str (s.drop j)), false⟩]⟩) s.length
    ⟨_, rfl, s.length, _, by omega, rfl, rfl, by rw [List.drop_length]; simp only [prodR, str, List.append_nil]; rfl⟩ ?_
  rintro N s0 ⟨j, i, hj, rfl, hi, rfl⟩
  cases N with
  | zero =>
    have hi' : ¬ 0 ≤ i := by omega
    simp only [b111_0, k111_0, mNil, nat0, beq_self_eq_true, mSkip, mRet, mExit, mReg, mSeq, mCond, mTrue, mFalse, mBlock, mLv, mCodeE, mCodeR, mEndN, mEndR, mEndE, mOps, mSome, mGuard, mGtt, mGff, mGtf, mGft, mGu, mCallP, mCallR, mCallF, mCallO, mCallZ, mCallG, mCallM, mCallV, loopQ_exit, loopQ_ret, mO_mov, mO_newnil, mO_pick, mO_alloc, mO_box, mO_build, mO_bsl, mO_bslF, mO_ldf, mO_ld, mO_st, mO_sta, mO_nilchk, mO_bin, mO_binb, mO_binp, mO_bins, mO_neg, mO_com, mO_not, mO_conv, mO_mk, mO_mk0, mO_s2b, mO_b2s, mO_cpy, mO_cut, mO_faddr, mO_fld, mO_iaddr, mO_iaddrf, mO_sidx, mO_len, mO_lenf, mO_slen, mO_scut, mO_app, mO_ext, mO_mx, mO_mn, mO_mkfn, evalOp, cutOp, argsE, ev, getE, putE, cellsOf, adopt, rowOf, binV, boolV, nilV, ar_add, ar_sub, ar_mul, ar_quo, ar_rem, ar_eq, ar_ne, ar_lt, ar_le, ar_gt, ar_ge, ar_and, ar_or, ar_xor, geto, bound, finRet, finNrm, ints, List.length_cons, List.length_nil, List.length_append, List.getElem?_cons_zero, List.getElem?_cons_succ, List.nil_append, List.cons_append, List.map_cons, List.map_nil, List.mapM_cons, List.mapM_nil, Option.map_some, Option.map_none, Option.bind_some, Option.pure_def, Option.bind_eq_bind, List.drop_zero, ↓reduceIte, Nat.reduceEqDiff, Nat.reduceAdd, Nat.reduceMul, Nat.reduceLeDiff, Nat.reduceLT, Int.reduceToNat, Int.reduceLT, Int.reduceLE, reduceCtorEq, or_self, or_false, false_or, or_true, true_or, true_and, and_true, and_self, decide_true, decide_false, Bool.false_eq_true, Bool.true_eq_false, Bool.not_true, Bool.not_false, Nat.le_refl, eq_self, gt_iff_lt, ge_iff_le, ne_eq, not_true_eq_false, not_false_eq_true, hi']
    simp only [i111, Out, resAll, geto, ints, List.getElem?_cons_zero, List.getElem?_cons_succ, resOf, outOf, snap, snapL, ev, getE, List.mapM_cons, List.mapM_nil, Option.bind_some, Option.pure_def, Option.bind_eq_bind, Option.map_some, reduceIte, Nat.reduceEqDiff, true_and, and_true, List.drop_zero, List.replicate_zero, List.nil_append, str_len]
  | succ k =>
    obtain rfl : i = (k : Int) := by omega
    have hlt : k < s.length := by omega
    have hlt' : (k : Int) < (s.length : Int) := by omega
    have hk0 : (0 : Int) ≤ (k : Int) := by omega
    have hk1 : IntKind.i64.wrap ((k : Int) - 1) = (k : Int) - 1 := wrap_i64 (by omega) (by omega)
    have hsub := sub_nums (k := .i64) hlt
    have hst : k * 1 + 1 ≤ (List.replicate (k + 1) (0 : Int)).length + (str (s.drop (k + 1))).length := by simp
    simp only [b111_0, mNil, nat0, beq_self_eq_true, mSkip, mRet, mExit, mReg, mSeq, mCond, mTrue, mFalse, mBlock, mLv, mCodeE, mCodeR, mEndN, mEndR, mEndE, mOps, mSome, mGuard, mGtt, mGff, mGtf, mGft, mGu, mCallP, mCallR, mCallF, mCallO, mCallZ, mCallG, mCallM, mCallV, loopQ_exit, loopQ_ret, mO_mov, mO_newnil, mO_pick, mO_alloc, mO_box, mO_build, mO_bsl, mO_bslF, mO_ldf, mO_ld, mO_st, mO_sta, mO_nilchk, mO_bin, mO_binb, mO_binp, mO_bins, mO_neg, mO_com, mO_not, mO_conv, mO_mk, mO_mk0, mO_s2b, mO_b2s, mO_cpy, mO_cut, mO_faddr, mO_fld, mO_iaddr, mO_iaddrf, mO_sidx, mO_len, mO_lenf, mO_slen, mO_scut, mO_app, mO_ext, mO_mx, mO_mn, mO_mkfn, evalOp, cutOp, argsE, ev, getE, putE, cellsOf, adopt, rowOf, binV, boolV, nilV, ar_add, ar_sub, ar_mul, ar_quo, ar_rem, ar_eq, ar_ne, ar_lt, ar_le, ar_gt, ar_ge, ar_and, ar_or, ar_xor, geto, bound, finRet, finNrm, ints, List.length_cons, List.length_nil, List.length_append, List.getElem?_cons_zero, List.getElem?_cons_succ, List.nil_append, List.cons_append, List.map_cons, List.map_nil, List.mapM_cons, List.mapM_nil, Option.map_some, Option.map_none, Option.bind_some, Option.pure_def, Option.bind_eq_bind, List.drop_zero, ↓reduceIte, Nat.reduceEqDiff, Nat.reduceAdd, Nat.reduceMul, Nat.reduceLeDiff, Nat.reduceLT, Int.reduceToNat, Int.reduceLT, Int.reduceLE, reduceCtorEq, or_self, or_false, false_or, or_true, true_or, true_and, and_true, and_self, decide_true, decide_false, Bool.false_eq_true, Bool.true_eq_false, Bool.not_true, Bool.not_false, Nat.le_refl, eq_self, gt_iff_lt, ge_iff_le, ne_eq, not_true_eq_false, not_false_eq_true, storeOp, apartOf, freeze_nil, refsL, refs, List.flatMap_cons, List.flatMap_nil, List.append_nil, List.contains_nil, List.set_cons_zero, List.set_cons_succ, snap, snapL, fill_nums, flat_nums, nums_length, hlt', hk0, Int.toNat_natCast, hsub, hst, hk1]
    refine loopQ_go rfl k (by omega) ⟨k, (k : Int) - 1, by omega, rfl, rfl, ?_⟩
    have : List.take k (List.replicate (k + 1) (0 : Int) ++ str (s.drop (k + 1))) ++ prodR (s.drop (k + 1)) :: List.drop (k + 1) (List.replicate (k + 1) (0 : Int) ++ str (s.drop (k + 1))) = List.replicate k 0 ++ str (s.drop k) := by
      rw [List.take_append_of_le_length (by simp), List.take_replicate, List.drop_append_of_le_length (by simp), getD_drop hlt, str]
      simp
    rw [this, getD_drop hlt, prodR]
    rfl
end
end Go.Proofs.YtlejgleocnemoaaGreat.I

namespace Go.Proofs.YtlejgleocnemoaaGreat.I
open Go Go.V
def prodW (s : List Int) : Int := s.foldl (fun n d => IntKind.i64.wrap (n * d)) 1
section
variable {E : CallRel}
end
end Go.Proofs.YtlejgleocnemoaaGreat.I

namespace Go.Proofs.YtlejgleocnemoaaGreat.I
open Go Go.V
def strW : List Int → List Int
  | [] => []
  | _ :: ds => prodW ds :: strW ds
section
variable {E : CallRel}
end
end Go.Proofs.YtlejgleocnemoaaGreat.I

namespace Go.Proofs.YtlejgleocnemoaaGreat.I
open Go Go.V
def prd : List Int → Int
  | [] => 1
  | d :: ds => d * prd ds
theorem wrap_def (n : Int) : IntKind.i64.wrap n = (n + 9223372036854775808) % 18446744073709551616 - 9223372036854775808 := by
  simp only [IntKind.wrap, IntKind.bits, IntKind.signed]
  simp
  omega
theorem wrap_eq (n : Int) : ∃ k, IntKind.i64.wrap n = n + 18446744073709551616 * k := by
  refine ⟨-((n + 9223372036854775808) / 18446744073709551616), ?_⟩
  rw [wrap_def]
  omega
theorem wrap_add_mul (n k : Int) : IntKind.i64.wrap (n + 18446744073709551616 * k) = IntKind.i64.wrap n := by
  rw [wrap_def, wrap_def]
  omega
theorem wrap_mul_l (a b : Int) : IntKind.i64.wrap (IntKind.i64.wrap a * b) = IntKind.i64.wrap (a * b) := by
  obtain ⟨k, hk⟩ := wrap_eq a
  rw [hk, Int.add_mul, Int.mul_assoc, wrap_add_mul]
theorem prodR_wrap : ∀ {s : List Int}, prodR s = IntKind.i64.wrap (prd s)
  | [] => by rw [prodR, prd, wrap_i64 (by omega) (by omega)]
  | d :: ds => by rw [prodR, prodR_wrap, wrap_mul_l, prd, Int.mul_comm]
theorem cnt_prd : ∀ {s : List Int} {most m n : Int}, cnt most m s = some n → n = m * prd s
  | [], most, m, n, h => by rw [cnt] at h; rw [prd, Int.mul_one]; exact (Option.some.inj h).symm
  | d :: ds, most, m, n, h => by
    rw [cnt] at h
    split at h
    · cases h
    · rw [cnt_prd h, prd, Int.mul_assoc]
theorem count_prd {s : List Int} {n : Int} (h : count s = some n) : n = prd s := by
  unfold count at h
  split at h
  · cases h
  · rw [cnt_prd h, Int.one_mul]
def inc : List Int → List Int → List Int × Bool
  | d :: ds, x :: xs => if (inc ds xs).2 then (if x + 1 < d then ((x + 1) :: (inc ds xs).1, false) else (0 :: (inc ds xs).1, true)) else (x :: (inc ds xs).1, false)
  | _, _ => ([], true)
theorem inc_ix : ∀ {s : List Int} {a : Int}, 0 ≤ a → (∀ d ∈ s, 1 ≤ d) → (inc s (ix s a).1).1 = (ix s (a + 1)).1 ∧ (ix s (a + 1)).2 = (ix s a).2 + if (inc s (ix s a).1).2 then 1 else 0
  | [], a, _, _ => by simp [ix, inc]
  | d :: ds, a, ha, h => by
    have h' : ∀ x ∈ ds, 1 ≤ x := fun x hx => h x (by simp [hx])
    have hd := h d (by simp)
    obtain ⟨h1, h2⟩ := inc_ix ha h'
    have h3 := (ix_nonneg ha h').1
    simp only [ix, inc]
    cases hc : (inc ds (ix ds a).1).2
    · rw [hc] at h2
      simp only [Bool.false_eq_true, if_false, Int.add_zero] at h2 ⊢
      rw [h2, h1]
      exact ⟨rfl, rfl⟩
    · rw [hc] at h2
      simp only [if_true] at h2 ⊢
      rw [h2]
      generalize (ix ds a).2 = q at *
      have e1 := Int.emod_nonneg q (show d ≠ 0 by omega)
      have e2 := Int.emod_lt_of_pos q (show 0 < d by omega)
      have e3 := Int.emod_def q d
      by_cases hl : q % d + 1 < d
      · have e4 : (q + 1) / d = q / d := by
          rw [show q + 1 = q % d + 1 + d * (q / d) by omega, Int.add_mul_ediv_left _ _ (by omega), Int.ediv_eq_zero_of_lt (by omega) hl, Int.zero_add]
        have e5 : (q + 1) % d = q % d + 1 := by rw [Int.emod_def, e4]; omega
        rw [if_pos hl]
        simp only [h1, e4, e5, Bool.false_eq_true, if_false, Int.add_zero, and_self]
      · have e4 : (q + 1) / d = q / d + 1 := by
          have : d * (q / d + 1) = d * (q / d) + d := by rw [Int.mul_add, Int.mul_one]
          rw [show q + 1 = d * (q / d + 1) by omega, Int.mul_ediv_cancel_left _ (by omega)]
        have e5 : (q + 1) % d = 0 := by
          have : d * (q / d + 1) = d * (q / d) + d := by rw [Int.mul_add, Int.mul_one]
          rw [Int.emod_def, e4]; omega
        rw [if_neg hl]
        simp only [h1, e4, e5, if_true, and_self]
theorem inc_len : ∀ {s x : List Int}, s.length = x.length → (inc s x).1.length = x.length
  | [], [], _ => rfl
  | d :: ds, x :: xs, h => by
    have := inc_len (s := ds) (x := xs) (by simpa using h)
    simp only [inc]
    split
    · split <;> simp [this]
    · simp [this]
theorem inc_drop : ∀ {k : Nat} {s x t : List Int}, s.length = x.length → k ≤ s.length → inc (s.drop k) (x.drop k) = (t, false) → inc s x = (x.take k ++ t, false)
  | 0, s, x, t, _, _, h => by simpa using h
  | k + 1, [], x, t, _, hk, h => by simp at hk
  | k + 1, d :: ds, [], t, hl, hk, h => by simp at hl
  | k + 1, d :: ds, y :: ys, t, hl, hk, h => by
    have := inc_drop (k := k) (s := ds) (x := ys) (by simpa using hl) (by simpa using hk) (by simpa using h)
    simp only [inc, this, Bool.false_eq_true, if_false, List.take_succ_cons, List.cons_append]
def allS (L : List (List Int)) (d : Nat) : List (List Int) := L.flatMap fun p => (List.range d).map fun n : Nat => p ++ [(n : Int)]
def allL (s : List Int) : List (List Int) := s.foldl (fun L d => allS L d.toNat) [[]]
theorem allS_len {L : List (List Int)} {d : Nat} : (allS L d).length = L.length * d := by
  induction L with
  | nil => simp [allS]
  | cons p L ih =>
    have : allS (p :: L) d = ((List.range d).map fun n : Nat => p ++ [(n : Int)]) ++ allS L d := rfl
    rw [this, List.length_append, ih, List.length_map, List.length_range, List.length_cons, Nat.succ_mul, Nat.add_comm]
theorem allS_get : ∀ {L : List (List Int)} {d j : Nat}, j < L.length * d → (allS L d)[j]? = (L[j / d]?).map fun p => p ++ [((j % d : Nat) : Int)]
  | [], d, j, h => by simp at h
  | p :: L, d, j, h => by
    have hd : 0 < d := by
      rcases Nat.eq_zero_or_pos d with rfl | h0
      · simp at h
      · exact h0
    have e : allS (p :: L) d = ((List.range d).map fun n : Nat => p ++ [(n : Int)]) ++ allS L d := rfl
    rw [e, List.getElem?_append]
    simp only [List.length_map, List.length_range]
    split
    · rename_i hj
      rw [Nat.div_eq_of_lt hj, Nat.mod_eq_of_lt hj]
      simp [hj]
    · rename_i hj
      rw [List.length_cons, Nat.succ_mul] at h
      rw [allS_get (L := L) (by omega)]
      have h1 : j / d = (j - d) / d + 1 := by rw [Nat.div_eq_sub_div hd (by omega)]
      have h2 : j % d = (j - d) % d := by rw [Nat.mod_eq_sub_mod (by omega)]
      rw [h1, h2, List.getElem?_cons_succ]
theorem ix_snoc : ∀ {s : List Int} {d a : Int}, ix (s ++ [d]) a = ((ix s (a / d)).1 ++ [a % d], (ix s (a / d)).2)
  | [], d, a => rfl
  | x :: s, d, a => by simp only [List.cons_append, ix, ix_snoc]
theorem prd_snoc : ∀ {s : List Int} {d : Int}, prd (s ++ [d]) = prd s * d
  | [], d => by simp [prd]
  | x :: s, d => by simp only [List.cons_append, prd, prd_snoc, Int.mul_assoc]
theorem allL_snoc {s : List Int} {d : Int} : allL (s ++ [d]) = allS (allL s) d.toNat := by simp [allL]
theorem allL_take {s : List Int} (h : ∀ d ∈ s, 0 ≤ d) : ∀ {k : Nat}, k ≤ s.length → ((allL (s.take k)).length : Int) = prd (s.take k) ∧ ∀ j : Nat, (j : Int) < prd (s.take k) → (allL (s.take k))[j]? = some (ix (s.take k) j).1
  | 0, _ => by
    refine ⟨by simp [allL, prd], fun j hj => ?_⟩
    simp only [List.take_zero, prd] at hj
    obtain rfl : j = 0 := by omega
    simp [allL, ix]
  | k + 1, hk => by
    obtain ⟨h1, h2⟩ := allL_take h (k := k) (by omega)
    have hs : s.take (k + 1) = s.take k ++ [s.getD k 0] := by
      rw [List.take_add_one]
      congr 1
      simp [List.getD, show k < s.length by omega]
    have hd : 0 ≤ s.getD k 0 := h _ (by simp [List.getD, show k < s.length by omega])
    rw [hs, allL_snoc, prd_snoc, allS_len]
    obtain ⟨d, hdd⟩ := Int.eq_ofNat_of_zero_le hd
    rw [hdd, Int.toNat_natCast]
    refine ⟨by rw [Int.natCast_mul, h1], fun j hj => ?_⟩
    have hj' : j < (allL (s.take k)).length * d := by
      rw [← h1, ← Int.natCast_mul] at hj
      omega
    have hd0 : 0 < d := by
      rcases Nat.eq_zero_or_pos d with rfl | h0
      · simp at hj'
      · exact h0
    rw [allS_get hj', h2 (j / d) (by
      rw [← h1]
      have := (Nat.div_lt_iff_lt_mul hd0).2 hj'
      omega), ix_snoc]
    simp
end Go.Proofs.YtlejgleocnemoaaGreat.I

namespace Go.Proofs.YtlejgleocnemoaaGreat.I
open Go Go.V
def rows (L : List (List Int)) : AV := .sl L.length 1 (L.map ints)
theorem cnt_bound : ∀ {s : List Int} {most m n : Int}, cnt most m s = some n → 1 ≤ most → most ≤ 4096 → (∀ d ∈ s, 0 ≤ d ∧ d ≤ 4096) ∧ ∀ k, 0 ≤ prd (s.take k) ∧ most * prd (s.take k) ≤ 4096
  | [], most, m, n, h, h1, h2 => ⟨fun d hd => by simp at hd, fun k => by simp [prd]; omega⟩
  | d :: ds, most, m, n, h, h1, h2 => by
    rw [cnt] at h
    split at h
    · cases h
    · rename_i hno
      have hmx : 1 ≤ max 1 d ∧ d ≤ max 1 d := by rw [max1]; split <;> omega
      have hmm : 1 ≤ most * max 1 d := by
        have := Int.mul_le_mul_of_nonneg_left (a := 1) (b := max 1 d) (c := most) hmx.1 (by omega)
        omega
      have hd : d ≤ most * max 1 d := by
        have := Int.mul_le_mul_of_nonneg_right (a := 1) (b := most) (c := max 1 d) h1 (by omega)
        omega
      obtain ⟨g1, g2⟩ := cnt_bound h hmm (by omega)
      refine ⟨fun x hx => ?_, fun k => ?_⟩
      · rcases List.mem_cons.1 hx with rfl | hx
        · omega
        · exact g1 x hx
      · cases k with
        | zero => simp [prd]; omega
        | succ k =>
          rw [List.take_succ_cons, prd]
          obtain ⟨e1, e2⟩ := g2 k
          have e3 : d * prd (ds.take k) ≤ max 1 d * prd (ds.take k) := Int.mul_le_mul_of_nonneg_right hmx.2 e1
          have e4 := Int.mul_le_mul_of_nonneg_left (c := most) e3 (by omega)
          rw [← Int.mul_assoc] at e4
          rw [← Int.mul_assoc] at e4
          refine ⟨Int.mul_nonneg (by omega) e1, ?_⟩
          rw [← Int.mul_assoc]
          omega
theorem count_bound {s : List Int} {n : Int} (h : count s = some n) : s.length ≤ 8 ∧ (∀ d ∈ s, 0 ≤ d ∧ d ≤ 4096) ∧ ∀ k, 0 ≤ prd (s.take k) ∧ prd (s.take k) ≤ 4096 := by
  unfold count at h
  split at h
  · cases h
  · obtain ⟨h1, h2⟩ := cnt_bound h (by omega) (by omega)
    exact ⟨by omega, h1, fun k => by have := h2 k; rwa [Int.one_mul] at this⟩
theorem allS_elem {L : List (List Int)} {d n : Nat} (h : ∀ p ∈ L, p.length = n) : ∀ p ∈ allS L d, p.length = n + 1 := by
  intro p hp
  simp only [allS, List.mem_flatMap, List.mem_map] at hp
  obtain ⟨q, hq, i, _, rfl⟩ := hp
  simp [h q hq]
theorem allL_elem {s : List Int} : ∀ {k : Nat}, k ≤ s.length → ∀ p ∈ allL (s.take k), p.length = k
  | 0, _ => by simp [allL]
  | k + 1, hk => by
    have hs : s.take (k + 1) = s.take k ++ [s.getD k 0] := by
      rw [List.take_add_one]
      congr 1
      simp [List.getD, show k < s.length by omega]
    rw [hs, allL_snoc]
    exact allS_elem (allL_elem (by omega))
theorem sub_rows {L : List (List Int)} {j : Nat} (h : j < L.length) : sub false 1 (L.map ints) (j * 1) = some (ints (L.getD j [])) := by
  simp only [sub, List.length_map, Nat.mul_one, Bool.false_eq_true, if_false, if_true]
  rw [if_pos (by omega), List.getElem?_map, List.getElem?_eq_getElem h]
  simp [List.getD, h]
theorem allS_take {L : List (List Int)} {d j : Nat} (h : j < L.length) : allS (L.take (j + 1)) d = allS (L.take j) d ++ (List.range d).map fun n : Nat => L.getD j [] ++ [(n : Int)] := by
  rw [List.take_add_one]
  have : L[j]?.toList = [L.getD j []] := by simp [List.getD, h]
  rw [this]
  simp [allS]
theorem freeze1 {a b c : AObj} : Go.V.freeze [1] [a, b, c] = [a, { b with fr := true }, c] := rfl
section
variable {E : CallRel}
theorem c80_ok {s : List Int} {n : Int} (hc : count s = some n) : Go.V.Call tab E 80 [ints s] [] (rows (allL s)) [] := by
  obtain ⟨hl8, hd4, hpr⟩ := count_bound hc
  refine Go.V.Call.mach i80 c80 rfl rfl rfl rfl ?_
  simp only [c80, mNil, nat0, beq_self_eq_true, mSkip, mRet, mExit, mReg, mSeq, mCond, mTrue, mFalse, mBlock, mLv, mCodeE, mCodeR, mEndN, mEndR, mEndE, mOps, mSome, mGuard, mGtt, mGff, mGtf, mGft, mGu, mCallP, mCallR, mCallF, mCallO, mCallZ, mCallG, mCallM, mCallV, loopQ_exit, loopQ_ret, mO_mov, mO_newnil, mO_pick, mO_alloc, mO_box, mO_build, mO_bsl, mO_bslF, mO_ldf, mO_ld, mO_st, mO_sta, mO_nilchk, mO_bin, mO_binb, mO_binp, mO_bins, mO_neg, mO_com, mO_not, mO_conv, mO_mk, mO_mk0, mO_s2b, mO_b2s, mO_cpy, mO_cut, mO_faddr, mO_fld, mO_iaddr, mO_iaddrf, mO_sidx, mO_len, mO_lenf, mO_slen, mO_scut, mO_app, mO_ext, mO_mx, mO_mn, mO_mkfn, evalOp, cutOp, argsE, ev, getE, putE, cellsOf, adopt, rowOf, binV, boolV, nilV, ar_add, ar_sub, ar_mul, ar_quo, ar_rem, ar_eq, ar_ne, ar_lt, ar_le, ar_gt, ar_ge, ar_and, ar_or, ar_xor, geto, bound, finRet, finNrm, ints, List.length_cons, List.length_nil, List.length_append, List.getElem?_cons_zero, List.getElem?_cons_succ, List.nil_append, List.cons_append, List.map_cons, List.map_nil, List.mapM_cons, List.mapM_nil, Option.map_some, Option.map_none, Option.bind_some, Option.pure_def, Option.bind_eq_bind, List.drop_zero, ↓reduceIte, Nat.reduceEqDiff, Nat.reduceAdd, Nat.reduceMul, Nat.reduceLeDiff, Nat.reduceLT, Int.reduceToNat, Int.reduceLT, Int.reduceLE, reduceCtorEq, or_self, or_false, false_or, or_true, true_or, true_and, and_true, and_self, decide_true, decide_false, Bool.false_eq_true, Bool.true_eq_false, Bool.not_true, Bool.not_false, Nat.le_refl, eq_self, gt_iff_lt, ge_iff_le, ne_eq, not_true_eq_false, not_false_eq_true, storeOp, apartOf, freeze_nil, refsL, refs, List.flatMap_cons, List.flatMap_nil, List.append_nil, List.contains_nil, List.set_cons_zero, List.set_cons_succ, snap, snapL, fill_nums, flat_nums, nums_length, List.flatten_cons, List.flatten_nil, Option.getD_some]
  refine mLoop (fun N st => ∃ (k : Nat), k ≤ s.length ∧ N = s.length - k ∧
    st = ⟨[(0, ints s), (3, rows (allL (s.take k))), (4, .int .i64 k)], []⟩) s.length ⟨_, rfl, 0, by omega, by omega, by simp [allL, rows, ints, nums, getE]⟩ ?_
  rintro N s0 ⟨k, hk, rfl, rfl⟩
  by_cases hlt : k < s.length
  · have hlt' : (k : Int) < (s.length : Int) := by omega
    have hk0 : (0 : Int) ≤ (k : Int) := by omega
    have hk1 : IntKind.i64.wrap ((k : Int) + 1) = ((k + 1 : Nat) : Int) := by rw [wrap_i64 (by omega) (by omega)]; omega
    have hsub := sub_nums (k := .i64) hlt
    have hdk := hd4 (s.getD k 0) (by simp [List.getD, hlt])
    have hall : allL (s.take (k + 1)) = allS (allL (s.take k)) (s.getD k 0).toNat := by
      rw [← allL_snoc, List.take_add_one]
      congr 2
      simp [List.getD, hlt]
    have hlen := (allL_take (s := s) (fun d hd => (hd4 d hd).1) (k := k) (by omega)).1
    have hlen4 := (hpr k).2
    have helem := allL_elem (s := s) (k := k) (by omega)
    generalize hL : allL (s.take k) = L at *
    obtain ⟨d, hdd⟩ := Int.eq_ofNat_of_zero_le hdk.1
    have hd4096 : d ≤ 4096 := by omega
    have hL4096 : L.length ≤ 4096 := by omega
    rw [hdd] at hsub hall
    rw [Int.toNat_natCast] at hall
    simp only [b80_0, mNil, nat0, beq_self_eq_true, mSkip, mRet, mExit, mReg, mSeq, mCond, mTrue, mFalse, mBlock, mLv, mCodeE, mCodeR, mEndN, mEndR, mEndE, mOps, mSome, mGuard, mGtt, mGff, mGtf, mGft, mGu, mCallP, mCallR, mCallF, mCallO, mCallZ, mCallG, mCallM, mCallV, loopQ_exit, loopQ_ret, mO_mov, mO_newnil, mO_pick, mO_alloc, mO_box, mO_build, mO_bsl, mO_bslF, mO_ldf, mO_ld, mO_st, mO_sta, mO_nilchk, mO_bin, mO_binb, mO_binp, mO_bins, mO_neg, mO_com, mO_not, mO_conv, mO_mk, mO_mk0, mO_s2b, mO_b2s, mO_cpy, mO_cut, mO_faddr, mO_fld, mO_iaddr, mO_iaddrf, mO_sidx, mO_len, mO_lenf, mO_slen, mO_scut, mO_app, mO_ext, mO_mx, mO_mn, mO_mkfn, evalOp, cutOp, argsE, ev, getE, putE, cellsOf, adopt, rowOf, binV, boolV, nilV, ar_add, ar_sub, ar_mul, ar_quo, ar_rem, ar_eq, ar_ne, ar_lt, ar_le, ar_gt, ar_ge, ar_and, ar_or, ar_xor, geto, bound, finRet, finNrm, ints, List.length_cons, List.length_nil, List.length_append, List.getElem?_cons_zero, List.getElem?_cons_succ, List.nil_append, List.cons_append, List.map_cons, List.map_nil, List.mapM_cons, List.mapM_nil, Option.map_some, Option.map_none, Option.bind_some, Option.pure_def, Option.bind_eq_bind, List.drop_zero, ↓reduceIte, Nat.reduceEqDiff, Nat.reduceAdd, Nat.reduceMul, Nat.reduceLeDiff, Nat.reduceLT, Int.reduceToNat, Int.reduceLT, Int.reduceLE, reduceCtorEq, or_self, or_false, false_or, or_true, true_or, true_and, and_true, and_self, decide_true, decide_false, Bool.false_eq_true, Bool.true_eq_false, Bool.not_true, Bool.not_false, Nat.le_refl, eq_self, gt_iff_lt, ge_iff_le, ne_eq, not_true_eq_false, not_false_eq_true, rows, hlt']
    refine mLoop (fun N st => ∃ (j : Nat), j ≤ L.length ∧ N = L.length - j ∧
      st = ⟨[(0, ints s), (3, rows L), (4, .int .i64 k), (5, .arr 0 (j * d)), (6, .int .i64 j)], [⟨false, 22, 1, j * d, j * d, (allS (L.take j) d).map ints, false⟩]⟩) L.length ⟨_, rfl, 0, by omega, by omega, by simp [allS, rows, getE, ints]⟩ ?_
    rintro N s0 ⟨j, hj, rfl, rfl⟩
    by_cases hjl : j < L.length
    · have hjl' : (j : Int) < (L.length : Int) := by omega
      have hj0 : (0 : Int) ≤ (j : Int) := by omega
      have hj1 : IntKind.i64.wrap ((j : Int) + 1) = ((j + 1 : Nat) : Int) := by rw [wrap_i64 (by omega) (by omega)]; omega
      have hsubL := sub_rows hjl
      have hpl : (L.getD j []).length = k := helem _ (by simp [List.getD, hjl])
      have htk := allS_take (d := d) hjl
      have hjd : j * d ≤ 4096 * 4096 := Nat.mul_le_mul (by omega) (by omega)
      generalize L.getD j [] = p at *
      simp only [b80_1, mNil, nat0, beq_self_eq_true, mSkip, mRet, mExit, mReg, mSeq, mCond, mTrue, mFalse, mBlock, mLv, mCodeE, mCodeR, mEndN, mEndR, mEndE, mOps, mSome, mGuard, mGtt, mGff, mGtf, mGft, mGu, mCallP, mCallR, mCallF, mCallO, mCallZ, mCallG, mCallM, mCallV, loopQ_exit, loopQ_ret, mO_mov, mO_newnil, mO_pick, mO_alloc, mO_box, mO_build, mO_bsl, mO_bslF, mO_ldf, mO_ld, mO_st, mO_sta, mO_nilchk, mO_bin, mO_binb, mO_binp, mO_bins, mO_neg, mO_com, mO_not, mO_conv, mO_mk, mO_mk0, mO_s2b, mO_b2s, mO_cpy, mO_cut, mO_faddr, mO_fld, mO_iaddr, mO_iaddrf, mO_sidx, mO_len, mO_lenf, mO_slen, mO_scut, mO_app, mO_ext, mO_mx, mO_mn, mO_mkfn, evalOp, cutOp, argsE, ev, getE, putE, cellsOf, adopt, rowOf, binV, boolV, nilV, ar_add, ar_sub, ar_mul, ar_quo, ar_rem, ar_eq, ar_ne, ar_lt, ar_le, ar_gt, ar_ge, ar_and, ar_or, ar_xor, geto, bound, finRet, finNrm, ints, List.length_cons, List.length_nil, List.length_append, List.getElem?_cons_zero, List.getElem?_cons_succ, List.nil_append, List.cons_append, List.map_cons, List.map_nil, List.mapM_cons, List.mapM_nil, Option.map_some, Option.map_none, Option.bind_some, Option.pure_def, Option.bind_eq_bind, List.drop_zero, ↓reduceIte, Nat.reduceEqDiff, Nat.reduceAdd, Nat.reduceMul, Nat.reduceLeDiff, Nat.reduceLT, Int.reduceToNat, Int.reduceLT, Int.reduceLE, reduceCtorEq, or_self, or_false, false_or, or_true, true_or, true_and, and_true, and_self, decide_true, decide_false, Bool.false_eq_true, Bool.true_eq_false, Bool.not_true, Bool.not_false, Nat.le_refl, eq_self, gt_iff_lt, ge_iff_le, ne_eq, not_true_eq_false, not_false_eq_true, rows, hjl']
      refine mLoop (fun N st => ∃ (i : Nat), i ≤ d ∧ N = d - i ∧
        st = ⟨[(0, ints s), (3, rows L), (4, .int .i64 k), (5, .arr 0 (j * d + i)), (6, .int .i64 j), (7, .int .i64 i)], [⟨false, 22, 1, j * d + i, j * d + i, (allS (L.take j) d ++ (List.range i).map fun n : Nat => p ++ [(n : Int)]).map ints, false⟩]⟩) d ⟨_, rfl, 0, by omega, by omega, by simp [rows, getE, ints]⟩ ?_
      rintro N s0 ⟨i, hi, rfl, rfl⟩
      by_cases hid : i < d
      · have hid' : (i : Int) < (d : Int) := by omega
        have hi4 : (i : Int) < 4096 := by omega
        have hi1 : IntKind.i64.wrap ((i : Int) + 1) = ((i + 1 : Nat) : Int) := by rw [wrap_i64 (by omega) (by omega)]; omega
        have e1 : p.length * 8 ≤ 140737488355328 := by omega
        have e2 : p.length ≤ 140737488355328 := by omega
        have e3 : (p.length + 1) * 8 ≤ 140737488355328 := by omega
        have e4 : p.length + 1 ≤ 140737488355328 := by omega
        have e5 : (j * d + i + 1) * 24 ≤ 140737488355328 := by omega
        have e6 : j * d + i + 1 ≤ 140737488355328 := by omega
        simp only [b80_2, mNil, nat0, beq_self_eq_true, mSkip, mRet, mExit, mReg, mSeq, mCond, mTrue, mFalse, mBlock, mLv, mCodeE, mCodeR, mEndN, mEndR, mEndE, mOps, mSome, mGuard, mGtt, mGff, mGtf, mGft, mGu, mCallP, mCallR, mCallF, mCallO, mCallZ, mCallG, mCallM, mCallV, loopQ_exit, loopQ_ret, mO_mov, mO_newnil, mO_pick, mO_alloc, mO_box, mO_build, mO_bsl, mO_bslF, mO_ldf, mO_ld, mO_st, mO_sta, mO_nilchk, mO_bin, mO_binb, mO_binp, mO_bins, mO_neg, mO_com, mO_not, mO_conv, mO_mk, mO_mk0, mO_s2b, mO_b2s, mO_cpy, mO_cut, mO_faddr, mO_fld, mO_iaddr, mO_iaddrf, mO_sidx, mO_len, mO_lenf, mO_slen, mO_scut, mO_app, mO_ext, mO_mx, mO_mn, mO_mkfn, evalOp, cutOp, argsE, ev, getE, putE, cellsOf, adopt, rowOf, binV, boolV, nilV, ar_add, ar_sub, ar_mul, ar_quo, ar_rem, ar_eq, ar_ne, ar_lt, ar_le, ar_gt, ar_ge, ar_and, ar_or, ar_xor, geto, bound, finRet, finNrm, ints, List.length_cons, List.length_nil, List.length_append, List.getElem?_cons_zero, List.getElem?_cons_succ, List.nil_append, List.cons_append, List.map_cons, List.map_nil, List.mapM_cons, List.mapM_nil, Option.map_some, Option.map_none, Option.bind_some, Option.pure_def, Option.bind_eq_bind, List.drop_zero, ↓reduceIte, Nat.reduceEqDiff, Nat.reduceAdd, Nat.reduceMul, Nat.reduceLeDiff, Nat.reduceLT, Int.reduceToNat, Int.reduceLT, Int.reduceLE, reduceCtorEq, or_self, or_false, false_or, or_true, true_or, true_and, and_true, and_self, decide_true, decide_false, Bool.false_eq_true, Bool.true_eq_false, Bool.not_true, Bool.not_false, Nat.le_refl, eq_self, gt_iff_lt, ge_iff_le, ne_eq, not_true_eq_false, not_false_eq_true, storeOp, apartOf, freeze_nil, refsL, refs, List.flatMap_cons, List.flatMap_nil, List.append_nil, List.contains_nil, List.set_cons_zero, List.set_cons_succ, snap, snapL, fill_nums, flat_nums, nums_length, rows, hlt', hk0, Int.toNat_natCast, hsub, hid', hi4, hi1, hsubL, hj0, hjl', e1, e2, e3, e4, e5, e6, List.flatten_cons, List.flatten_nil, Option.getD_some, Nat.zero_add, freeze1]
        refine loopQ_go rfl (d - (i + 1)) (by omega) ⟨i + 1, by omega, rfl, ?_⟩
        have q1 : ints (p ++ [(i : Int)]) = .sl (p.length + 1) 1 (nums .i64 p ++ [.int .i64 i]) := by simp [ints, nums]
        have q2 : (allS (L.take j) d ++ (List.range (i + 1)).map fun n : Nat => p ++ [(n : Int)]).map ints = (allS (L.take j) d ++ (List.range i).map fun n : Nat => p ++ [(n : Int)]).map ints ++ [.sl (p.length + 1) 1 (nums .i64 p ++ [.int .i64 i])] := by
          rw [List.range_succ]
          simp only [List.map_append, List.map_cons, List.map_nil, List.append_assoc, q1]
        rw [q2]
        rfl
      · have hid' : ¬ (i : Int) < (d : Int) := by omega
        obtain rfl : i = d := by omega
        simp only [b80_2, k80_0, mNil, nat0, beq_self_eq_true, mSkip, mRet, mExit, mReg, mSeq, mCond, mTrue, mFalse, mBlock, mLv, mCodeE, mCodeR, mEndN, mEndR, mEndE, mOps, mSome, mGuard, mGtt, mGff, mGtf, mGft, mGu, mCallP, mCallR, mCallF, mCallO, mCallZ, mCallG, mCallM, mCallV, loopQ_exit, loopQ_ret, mO_mov, mO_newnil, mO_pick, mO_alloc, mO_box, mO_build, mO_bsl, mO_bslF, mO_ldf, mO_ld, mO_st, mO_sta, mO_nilchk, mO_bin, mO_binb, mO_binp, mO_bins, mO_neg, mO_com, mO_not, mO_conv, mO_mk, mO_mk0, mO_s2b, mO_b2s, mO_cpy, mO_cut, mO_faddr, mO_fld, mO_iaddr, mO_iaddrf, mO_sidx, mO_len, mO_lenf, mO_slen, mO_scut, mO_app, mO_ext, mO_mx, mO_mn, mO_mkfn, evalOp, cutOp, argsE, ev, getE, putE, cellsOf, adopt, rowOf, binV, boolV, nilV, ar_add, ar_sub, ar_mul, ar_quo, ar_rem, ar_eq, ar_ne, ar_lt, ar_le, ar_gt, ar_ge, ar_and, ar_or, ar_xor, geto, bound, finRet, finNrm, ints, List.length_cons, List.length_nil, List.length_append, List.getElem?_cons_zero, List.getElem?_cons_succ, List.nil_append, List.cons_append, List.map_cons, List.map_nil, List.mapM_cons, List.mapM_nil, Option.map_some, Option.map_none, Option.bind_some, Option.pure_def, Option.bind_eq_bind, List.drop_zero, ↓reduceIte, Nat.reduceEqDiff, Nat.reduceAdd, Nat.reduceMul, Nat.reduceLeDiff, Nat.reduceLT, Int.reduceToNat, Int.reduceLT, Int.reduceLE, reduceCtorEq, or_self, or_false, false_or, or_true, true_or, true_and, and_true, and_self, decide_true, decide_false, Bool.false_eq_true, Bool.true_eq_false, Bool.not_true, Bool.not_false, Nat.le_refl, eq_self, gt_iff_lt, ge_iff_le, ne_eq, not_true_eq_false, not_false_eq_true, rows, hlt', hk0, Int.toNat_natCast, hsub, hid', hj1]
        refine loopQ_go rfl (L.length - (j + 1)) (by omega) ⟨j + 1, by omega, rfl, ?_⟩
        rw [htk, Nat.succ_mul]
        rfl
    · have hjl' : ¬ (j : Int) < (L.length : Int) := by omega
      obtain rfl : j = L.length := by omega
      simp only [b80_1, k80_1, k80_2, mNil, nat0, beq_self_eq_true, mSkip, mRet, mExit, mReg, mSeq, mCond, mTrue, mFalse, mBlock, mLv, mCodeE, mCodeR, mEndN, mEndR, mEndE, mOps, mSome, mGuard, mGtt, mGff, mGtf, mGft, mGu, mCallP, mCallR, mCallF, mCallO, mCallZ, mCallG, mCallM, mCallV, loopQ_exit, loopQ_ret, mO_mov, mO_newnil, mO_pick, mO_alloc, mO_box, mO_build, mO_bsl, mO_bslF, mO_ldf, mO_ld, mO_st, mO_sta, mO_nilchk, mO_bin, mO_binb, mO_binp, mO_bins, mO_neg, mO_com, mO_not, mO_conv, mO_mk, mO_mk0, mO_s2b, mO_b2s, mO_cpy, mO_cut, mO_faddr, mO_fld, mO_iaddr, mO_iaddrf, mO_sidx, mO_len, mO_lenf, mO_slen, mO_scut, mO_app, mO_ext, mO_mx, mO_mn, mO_mkfn, evalOp, cutOp, argsE, ev, getE, putE, cellsOf, adopt, rowOf, binV, boolV, nilV, ar_add, ar_sub, ar_mul, ar_quo, ar_rem, ar_eq, ar_ne, ar_lt, ar_le, ar_gt, ar_ge, ar_and, ar_or, ar_xor, geto, bound, finRet, finNrm, ints, List.length_cons, List.length_nil, List.length_append, List.getElem?_cons_zero, List.getElem?_cons_succ, List.nil_append, List.cons_append, List.map_cons, List.map_nil, List.mapM_cons, List.mapM_nil, Option.map_some, Option.map_none, Option.bind_some, Option.pure_def, Option.bind_eq_bind, List.drop_zero, ↓reduceIte, Nat.reduceEqDiff, Nat.reduceAdd, Nat.reduceMul, Nat.reduceLeDiff, Nat.reduceLT, Int.reduceToNat, Int.reduceLT, Int.reduceLE, reduceCtorEq, or_self, or_false, false_or, or_true, true_or, true_and, and_true, and_self, decide_true, decide_false, Bool.false_eq_true, Bool.true_eq_false, Bool.not_true, Bool.not_false, Nat.le_refl, eq_self, gt_iff_lt, ge_iff_le, ne_eq, not_true_eq_false, not_false_eq_true, rows, hjl', hk1]
      refine loopQ_go (s2 := ⟨[(0, ints s), (3, rows (allS L d)), (4, .int .i64 ((k + 1 : Nat) : Int))], []⟩) ?_ (s.length - (k + 1)) (by omega) ⟨k + 1, by omega, rfl, by rw [hall]; rfl⟩
      simp only [headOf, keepOne, mNil, nat0, beq_self_eq_true, mSkip, mRet, mExit, mReg, mSeq, mCond, mTrue, mFalse, mBlock, mLv, mCodeE, mCodeR, mEndN, mEndR, mEndE, mOps, mSome, mGuard, mGtt, mGff, mGtf, mGft, mGu, mCallP, mCallR, mCallF, mCallO, mCallZ, mCallG, mCallM, mCallV, loopQ_exit, loopQ_ret, mO_mov, mO_newnil, mO_pick, mO_alloc, mO_box, mO_build, mO_bsl, mO_bslF, mO_ldf, mO_ld, mO_st, mO_sta, mO_nilchk, mO_bin, mO_binb, mO_binp, mO_bins, mO_neg, mO_com, mO_not, mO_conv, mO_mk, mO_mk0, mO_s2b, mO_b2s, mO_cpy, mO_cut, mO_faddr, mO_fld, mO_iaddr, mO_iaddrf, mO_sidx, mO_len, mO_lenf, mO_slen, mO_scut, mO_app, mO_ext, mO_mx, mO_mn, mO_mkfn, evalOp, cutOp, argsE, ev, getE, putE, cellsOf, adopt, rowOf, binV, boolV, nilV, ar_add, ar_sub, ar_mul, ar_quo, ar_rem, ar_eq, ar_ne, ar_lt, ar_le, ar_gt, ar_ge, ar_and, ar_or, ar_xor, geto, bound, finRet, finNrm, ints, List.length_cons, List.length_nil, List.length_append, List.getElem?_cons_zero, List.getElem?_cons_succ, List.nil_append, List.cons_append, List.map_cons, List.map_nil, List.mapM_cons, List.mapM_nil, Option.map_some, Option.map_none, Option.bind_some, Option.pure_def, Option.bind_eq_bind, List.drop_zero, ↓reduceIte, Nat.reduceEqDiff, Nat.reduceAdd, Nat.reduceMul, Nat.reduceLeDiff, Nat.reduceLT, Int.reduceToNat, Int.reduceLT, Int.reduceLE, reduceCtorEq, or_self, or_false, false_or, or_true, true_or, true_and, and_true, and_self, decide_true, decide_false, Bool.false_eq_true, Bool.true_eq_false, Bool.not_true, Bool.not_false, Nat.le_refl, eq_self, gt_iff_lt, ge_iff_le, ne_eq, not_true_eq_false, not_false_eq_true, storeOp, apartOf, freeze_nil, refsL, refs, List.flatMap_cons, List.flatMap_nil, List.append_nil, List.contains_nil, List.set_cons_zero, List.set_cons_succ, snap, snapL, fill_nums, flat_nums, nums_length, List.contains_cons, Nat.reduceBEq, Bool.or_false, Bool.false_or]
      rw [List.take_length]
      refine (if_pos (by rfl)).trans ?_
      rw [rows, ← allS_len]
      rfl
  · have hlt' : ¬ (k : Int) < (s.length : Int) := by omega
    obtain rfl : k = s.length := by omega
    simp only [b80_0, k80_3, mNil, nat0, beq_self_eq_true, mSkip, mRet, mExit, mReg, mSeq, mCond, mTrue, mFalse, mBlock, mLv, mCodeE, mCodeR, mEndN, mEndR, mEndE, mOps, mSome, mGuard, mGtt, mGff, mGtf, mGft, mGu, mCallP, mCallR, mCallF, mCallO, mCallZ, mCallG, mCallM, mCallV, loopQ_exit, loopQ_ret, mO_mov, mO_newnil, mO_pick, mO_alloc, mO_box, mO_build, mO_bsl, mO_bslF, mO_ldf, mO_ld, mO_st, mO_sta, mO_nilchk, mO_bin, mO_binb, mO_binp, mO_bins, mO_neg, mO_com, mO_not, mO_conv, mO_mk, mO_mk0, mO_s2b, mO_b2s, mO_cpy, mO_cut, mO_faddr, mO_fld, mO_iaddr, mO_iaddrf, mO_sidx, mO_len, mO_lenf, mO_slen, mO_scut, mO_app, mO_ext, mO_mx, mO_mn, mO_mkfn, evalOp, cutOp, argsE, ev, getE, putE, cellsOf, adopt, rowOf, binV, boolV, nilV, ar_add, ar_sub, ar_mul, ar_quo, ar_rem, ar_eq, ar_ne, ar_lt, ar_le, ar_gt, ar_ge, ar_and, ar_or, ar_xor, geto, bound, finRet, finNrm, ints, List.length_cons, List.length_nil, List.length_append, List.getElem?_cons_zero, List.getElem?_cons_succ, List.nil_append, List.cons_append, List.map_cons, List.map_nil, List.mapM_cons, List.mapM_nil, Option.map_some, Option.map_none, Option.bind_some, Option.pure_def, Option.bind_eq_bind, List.drop_zero, ↓reduceIte, Nat.reduceEqDiff, Nat.reduceAdd, Nat.reduceMul, Nat.reduceLeDiff, Nat.reduceLT, Int.reduceToNat, Int.reduceLT, Int.reduceLE, reduceCtorEq, or_self, or_false, false_or, or_true, true_or, true_and, and_true, and_self, decide_true, decide_false, Bool.false_eq_true, Bool.true_eq_false, Bool.not_true, Bool.not_false, Nat.le_refl, eq_self, gt_iff_lt, ge_iff_le, ne_eq, not_true_eq_false, not_false_eq_true, rows, hlt']
    simp only [i80, Out, resAll, geto, ints, List.getElem?_cons_zero, List.getElem?_cons_succ, resOf, outOf, snap, snapL, ev, getE, List.mapM_cons, List.mapM_nil, Option.bind_some, Option.pure_def, Option.bind_eq_bind, Option.map_some, reduceIte, Nat.reduceEqDiff, true_and, and_true, List.take_length]
end
end Go.Proofs.YtlejgleocnemoaaGreat.I

namespace Go.Proofs.YtlejgleocnemoaaGreat.I
open Go Go.V
attribute [local go_sem] mNil nat0 beq_self_eq_true mSkip mRet mExit mReg mSeq mCond mTrue mFalse mBlock mLv mCodeE mCodeR mEndN mEndR mEndE mOps mSome mGuard mGtt mGff mGtf mGft mGu mCallP mCallR mCallF mCallO mCallZ mCallG mCallM mCallV loopQ_exit loopQ_ret mO_mov mO_newnil mO_pick mO_alloc mO_box mO_build mO_bsl mO_bslF mO_ldf mO_ld mO_st mO_sta mO_nilchk mO_bin mO_binb mO_binp mO_bins mO_neg mO_com mO_not mO_conv mO_mk mO_mk0 mO_s2b mO_b2s mO_cpy mO_cut mO_faddr mO_fld mO_iaddr mO_iaddrf mO_sidx mO_len mO_lenf mO_slen mO_scut mO_app mO_ext mO_mx mO_mn mO_mkfn evalOp cutOp argsE ev getE putE cellsOf adopt rowOf binV boolV nilV ar_add ar_sub ar_mul ar_quo ar_rem ar_eq ar_ne ar_lt ar_le ar_gt ar_ge ar_and ar_or ar_xor geto bound finRet finNrm ints List.length_cons List.length_nil List.length_append List.getElem?_cons_zero List.getElem?_cons_succ List.nil_append List.cons_append List.map_cons List.map_nil List.mapM_cons List.mapM_nil Option.map_some Option.map_none Option.bind_some Option.pure_def Option.bind_eq_bind List.drop_zero or_self or_false false_or or_true true_or true_and and_true and_self decide_true decide_false Bool.false_eq_true Bool.true_eq_false Bool.not_true Bool.not_false Nat.le_refl eq_self gt_iff_lt ge_iff_le ne_eq not_true_eq_false not_false_eq_true storeOp apartOf freeze_nil refsL refs List.flatMap_cons List.flatMap_nil List.append_nil List.contains_nil List.set_cons_zero List.set_cons_succ snap snapL fill_nums flat_nums nums_length Go.V.freeze List.mapIdx_cons List.mapIdx_nil List.contains_cons Bool.or_false Bool.false_or Bool.or_true Bool.true_or
section
variable {E : CallRel}
end
def lensum (L : List (List Int)) : Nat := L.flatten.length
def whC (n : Bool) (p : Nat) : List AV := [us32 (limG p), .bool n]
def wcmp (n : Bool) (p : Nat) (m : Bool) (q : Nat) : Int := if n = true ∧ m = false then -1 else if n = false ∧ m = true then 1 else if n = true then cmpZ q p else cmpZ p q
theorem subW0 {a b : AV} : sub true 1 [a, b] 0 = some (.agg [a]) := rfl
theorem subW1 {a b : AV} : sub false 1 [a, b] 1 = some b := rfl
section
variable {E : CallRel}
def rcmp (x y : Rt) : Int := wcmp ((x.1 != false) && decide (x.2.1 * dn y.2.2 ≠ 0)) (x.2.1 * dn y.2.2) ((y.1 != false) && decide (y.2.1 * dn x.2.2 ≠ 0)) (y.2.1 * dn x.2.2)
end
def RtRed (x : Rt) : Prop := RtOk x ∧ x.2.2 ≠ 0 ∧ Nat.gcd x.2.1 x.2.2 = 1 ∧ (x.1 = true → x.2.1 ≠ 0)
end Go.Proofs.YtlejgleocnemoaaGreat.I

namespace Go.Proofs.YtlejgleocnemoaaGreat.I
open Go Go.V
attribute [local go_sem_proc ↓] reduceIte
attribute [local go_sem_proc] Nat.reduceEqDiff Nat.reduceAdd Nat.reduceMul Nat.reduceLeDiff Nat.reduceLT Int.reduceToNat Int.reduceLT Int.reduceLE reduceCtorEq Nat.reduceBEq
attribute [local go_sem] mNil nat0 beq_self_eq_true mSkip mRet mExit mReg mSeq mCond mTrue mFalse mBlock mLv mCodeE mCodeR mEndN mEndR mEndE mOps mSome mGuard mGtt mGff mGtf mGft mGu mCallP mCallR mCallF mCallO mCallZ mCallG mCallM mCallV loopQ_exit loopQ_ret mO_mov mO_newnil mO_pick mO_alloc mO_box mO_build mO_bsl mO_bslF mO_ldf mO_ld mO_st mO_sta mO_nilchk mO_bin mO_binb mO_binp mO_bins mO_neg mO_com mO_not mO_conv mO_mk mO_mk0 mO_s2b mO_b2s mO_cpy mO_cut mO_faddr mO_fld mO_iaddr mO_iaddrf mO_sidx mO_len mO_lenf mO_slen mO_scut mO_app mO_ext mO_mx mO_mn mO_mkfn evalOp cutOp argsE ev getE putE cellsOf adopt rowOf binV boolV nilV ar_add ar_sub ar_mul ar_quo ar_rem ar_eq ar_ne ar_lt ar_le ar_gt ar_ge ar_and ar_or ar_xor geto bound finRet finNrm ints List.length_cons List.length_nil List.length_append List.getElem?_cons_zero List.getElem?_cons_succ List.nil_append List.cons_append List.map_cons List.map_nil List.mapM_cons List.mapM_nil Option.map_some Option.map_none Option.bind_some Option.pure_def Option.bind_eq_bind List.drop_zero or_self or_false false_or or_true true_or true_and and_true and_self decide_true decide_false Bool.false_eq_true Bool.true_eq_false Bool.not_true Bool.not_false Nat.le_refl eq_self gt_iff_lt ge_iff_le ne_eq not_true_eq_false not_false_eq_true storeOp apartOf freeze_nil refsL refs List.flatMap_cons List.flatMap_nil List.append_nil List.contains_nil List.set_cons_zero List.set_cons_succ snap snapL fill_nums flat_nums nums_length Go.V.freeze List.mapIdx_cons List.mapIdx_nil List.contains_cons Bool.or_false Bool.false_or Bool.or_true Bool.true_or
theorem subT2 {a b c : AV} : sub true 2 [a, b, c] 0 = some (.agg [a, b]) := rfl
def wint (n : Bool) (p : Nat) : Option Int := if n = true then (if p ≤ 9223372036854775808 then some (-(p : Int)) else none) else if p < 9223372036854775808 then some (p : Int) else none
def rint (x : Rt) : Option Int := if dn x.2.2 = 1 then wint x.1 x.2.1 else none
section
variable {E : CallRel}
theorem c189_ok {n : Nat} : Go.V.Call tab E 189 [natC n] [] (.bool (decide (n = 1))) [] := by
  refine Go.V.Call.mach i189 c189 rfl rfl rfl rfl ?_
  by_cases h0 : n = 0
  · subst h0
    simp only [c189, natC, us32, limG_zero, nums, go_sem, sub, fillAll, fillIn, shiftR, shiftV, List.take_succ_cons, List.take_zero, List.drop_succ_cons, List.drop_zero, List.append_nil, Nat.zero_add, show (((0 : Nat) : Int) == 1) = false from rfl, show ((0 : Int) == 1) = false from rfl]
    simp only [i189, Out, resAll, geto, ints, List.getElem?_cons_zero, List.getElem?_cons_succ, resOf, outOf, snap, snapL, ev, getE, List.mapM_cons, List.mapM_nil, Option.bind_some, Option.pure_def, Option.bind_eq_bind, Option.map_some, reduceIte, Nat.reduceEqDiff, true_and, and_true, show decide ((0 : Nat) = 1) = false from rfl]
  · by_cases h1 : n < 4294967296
    · have hl : limG n = [(n : Int)] := by rw [limG_pos h0, show n / 4294967296 = 0 by omega, limG_zero, Nat.mod_eq_of_lt h1]
      have hb : ((n : Int) == 1) = decide (n = 1) := by
        by_cases h : n = 1
        · subst h; rfl
        · rw [decide_eq_false h, beq_eq_false_iff_ne]; omega
      have e0 : ((1 : Int) == 1) = true := rfl
      simp only [c189, natC, us32, hl, nums, go_sem, sub, fillAll, fillIn, shiftR, shiftV, List.take_succ_cons, List.take_zero, List.drop_succ_cons, List.drop_zero, List.append_nil, Nat.zero_add, e0, hb, show (0 : Int) < ((1 : Nat) : Int) from by decide, show (((1 : Nat) : Int) == 1) = true from rfl, show ((0 : Nat) + 1) = 1 from rfl, List.length_singleton]
      simp only [i189, Out, resAll, geto, ints, List.getElem?_cons_zero, List.getElem?_cons_succ, resOf, outOf, snap, snapL, ev, getE, List.mapM_cons, List.mapM_nil, Option.bind_some, Option.pure_def, Option.bind_eq_bind, Option.map_some, reduceIte, Nat.reduceEqDiff, true_and, and_true]
    · have hne : limG n ≠ [] := fun h => h0 (limG_len0 (by rw [h]; rfl))
      have hl : (((limG n).length : Int) == 1) = false := by
        rw [limG_pos h0, List.length_cons, beq_eq_false_iff_ne]
        intro h
        have : limG (n / 4294967296) = [] := List.length_eq_zero_iff.1 (by omega)
        have := limG_len0 (n := n / 4294967296) (by rw [this]; rfl)
        omega
      simp only [c189, natC, us32, go_sem, sub, fillAll, fillIn, shiftR, shiftV, List.take_succ_cons, List.take_zero, List.drop_succ_cons, List.drop_zero, List.append_nil, Nat.zero_add, hl]
      simp only [i189, Out, resAll, geto, ints, List.getElem?_cons_zero, List.getElem?_cons_succ, resOf, outOf, snap, snapL, ev, getE, List.mapM_cons, List.mapM_nil, Option.bind_some, Option.pure_def, Option.bind_eq_bind, Option.map_some, reduceIte, Nat.reduceEqDiff, true_and, and_true, show decide (n = 1) = false from decide_eq_false (by omega)]
theorem c171_gen {n : Bool} {p q : Nat} : Go.V.Call tab E 171 [.agg (ratG n p q)] [] (.bool (decide (dn q = 1))) [] := by
  refine Go.V.Call.mach i171 c171 rfl rfl rfl rfl ?_
  have h100 := c126_gen (E := E) (n := n) (p := p) (q := q)
  have h130 := c189_ok (E := E) (n := dn q)
  simp only [natC, ratG, us32] at h100 h130
  simp only [c171, ratG, us32, go_sem, subT3, fillAll, fillIn, shiftR, shiftV, List.take_succ_cons, List.take_zero, List.drop_succ_cons, List.drop_zero, List.append_nil, Nat.zero_add]
  refine goP h100 ?_
  simp only [go_sem]
  refine goP h130 ?_
  simp only [go_sem]
  simp only [i171, Out, resAll, geto, ints, List.getElem?_cons_zero, List.getElem?_cons_succ, resOf, outOf, snap, snapL, ev, getE, List.mapM_cons, List.mapM_nil, Option.bind_some, Option.pure_def, Option.bind_eq_bind, Option.map_some, reduceIte, Nat.reduceEqDiff, true_and, and_true]
theorem c172_gen {n : Bool} {p : Nat} : Go.V.Call tab E 172 [.agg (whC n p)] [] (optP (wint n p)) [] := by
  refine Go.V.Call.mach i172 c172 rfl rfl rfl rfl ?_
  by_cases hp : p < 18446744073709551616
  · have h131 := c178_nat (E := E) hp
    simp only [natC, us32] at h131
    simp only [c172, whC, us32, go_sem, subW0, fillAll, fillIn, shiftR, shiftV, List.take_succ_cons, List.take_zero, List.drop_succ_cons, List.drop_zero, List.append_nil, Nat.zero_add]
    refine goP h131 ?_
    by_cases h1 : 9223372036854775808 < p
    · have h1' : (9223372036854775808 : Int) < (p : Int) := by omega
      have hw : wint n p = none := by unfold wint; split <;> rw [if_neg (by omega)]
      simp only [go_sem, h1']
      simp only [i172, Out, resAll, geto, ints, List.getElem?_cons_zero, List.getElem?_cons_succ, resOf, outOf, snap, snapL, ev, getE, List.mapM_cons, List.mapM_nil, Option.bind_some, Option.pure_def, Option.bind_eq_bind, Option.map_some, reduceIte, Nat.reduceEqDiff, true_and, and_true, hw, optP]
    · have h1' : ¬ (9223372036854775808 : Int) < (p : Int) := by omega
      cases n with
      | true =>
        have hw : wint true p = some (-(p : Int)) := by unfold wint; rw [if_pos rfl, if_pos (by omega)]
        have e : ((p : Int) == 9223372036854775808) = true ∨ ((p : Int) == 9223372036854775808) = false := by cases h : ((p : Int) == 9223372036854775808) <;> simp
        by_cases h0 : p = 0
        · subst h0
          have e1 : IntKind.u64.wrap (0 - 1) = 18446744073709551615 := by decide
          have e2 : IntKind.i64.wrap 18446744073709551615 = -1 := by decide
          have e3 : IntKind.i64.wrap (0 - (-1)) = 1 := by decide
          have e4 : IntKind.i64.wrap (1 - 1) = 0 := by decide
          have e5 : ((0 : Int) == 9223372036854775808) = false := rfl
          have e6 : ((0 : Nat) : Int) = 0 := rfl
          simp only [go_sem, subW1, h1', e1, e2, e3, e4, e5, e6]
          simp only [i172, Out, resAll, geto, ints, List.getElem?_cons_zero, List.getElem?_cons_succ, resOf, outOf, snap, snapL, ev, getE, List.mapM_cons, List.mapM_nil, Option.bind_some, Option.pure_def, Option.bind_eq_bind, Option.map_some, reduceIte, Nat.reduceEqDiff, true_and, and_true, hw, optP]
          rfl
        · have e1 : IntKind.u64.wrap ((p : Int) - 1) = (p : Int) - 1 := wrap_u64 (by omega) (by omega)
          have e2 : IntKind.i64.wrap ((p : Int) - 1) = (p : Int) - 1 := wrap_i64 (by omega) (by omega)
          have e3 : IntKind.i64.wrap (0 - ((p : Int) - 1)) = 1 - (p : Int) := by rw [wrap_i64 (by omega) (by omega)]; omega
          have e4 : IntKind.i64.wrap (1 - (p : Int) - 1) = -(p : Int) := by rw [wrap_i64 (by omega) (by omega)]; omega
          rcases e with e | e
          · simp only [go_sem, subW1, h1', e, e1, e2, e3, e4]
            simp only [i172, Out, resAll, geto, ints, List.getElem?_cons_zero, List.getElem?_cons_succ, resOf, outOf, snap, snapL, ev, getE, List.mapM_cons, List.mapM_nil, Option.bind_some, Option.pure_def, Option.bind_eq_bind, Option.map_some, reduceIte, Nat.reduceEqDiff, true_and, and_true, hw, optP]
          · simp only [go_sem, subW1, h1', e, e1, e2, e3, e4]
            simp only [i172, Out, resAll, geto, ints, List.getElem?_cons_zero, List.getElem?_cons_succ, resOf, outOf, snap, snapL, ev, getE, List.mapM_cons, List.mapM_nil, Option.bind_some, Option.pure_def, Option.bind_eq_bind, Option.map_some, reduceIte, Nat.reduceEqDiff, true_and, and_true, hw, optP]
      | false =>
        by_cases h2 : p = 9223372036854775808
        · subst h2
          have e : (((9223372036854775808 : Nat) : Int) == 9223372036854775808) = true := rfl
          have hw : wint false 9223372036854775808 = none := rfl
          simp only [go_sem, subW1, h1', e]
          simp only [i172, Out, resAll, geto, ints, List.getElem?_cons_zero, List.getElem?_cons_succ, resOf, outOf, snap, snapL, ev, getE, List.mapM_cons, List.mapM_nil, Option.bind_some, Option.pure_def, Option.bind_eq_bind, Option.map_some, reduceIte, Nat.reduceEqDiff, true_and, and_true, hw, optP]
        · have e : ((p : Int) == 9223372036854775808) = false := by rw [beq_eq_false_iff_ne]; omega
          have hw : wint false p = some (p : Int) := by unfold wint; rw [if_neg (by simp), if_pos (by omega)]
          have e1 : IntKind.i64.wrap (p : Int) = (p : Int) := wrap_i64 (by omega) (by omega)
          simp only [go_sem, subW1, h1', e, e1]
          simp only [i172, Out, resAll, geto, ints, List.getElem?_cons_zero, List.getElem?_cons_succ, resOf, outOf, snap, snapL, ev, getE, List.mapM_cons, List.mapM_nil, Option.bind_some, Option.pure_def, Option.bind_eq_bind, Option.map_some, reduceIte, Nat.reduceEqDiff, true_and, and_true, hw, optP]
  · have h131 := c178_big (E := E) (n := p) (by omega)
    have hw : wint n p = none := by unfold wint; split <;> rw [if_neg (by omega)]
    simp only [natC, us32] at h131
    simp only [c172, whC, us32, go_sem, subW0, fillAll, fillIn, shiftR, shiftV, List.take_succ_cons, List.take_zero, List.drop_succ_cons, List.drop_zero, List.append_nil, Nat.zero_add]
    refine goP h131 ?_
    simp only [go_sem]
    simp only [i172, Out, resAll, geto, ints, List.getElem?_cons_zero, List.getElem?_cons_succ, resOf, outOf, snap, snapL, ev, getE, List.mapM_cons, List.mapM_nil, Option.bind_some, Option.pure_def, Option.bind_eq_bind, Option.map_some, reduceIte, Nat.reduceEqDiff, true_and, and_true, hw, optP]
theorem c143_gen {x : Rt} : Go.V.Call tab E 143 [.agg (rtC x)] [] (optP (rint x)) [] := by
  obtain ⟨n, p, q⟩ := x
  refine Go.V.Call.mach i143 c143 rfl rfl rfl rfl ?_
  have h112 := c171_gen (E := E) (n := n) (p := p) (q := q)
  have h113 := c172_gen (E := E) (n := n) (p := p)
  simp only [ratG, whC, us32] at h112 h113
  by_cases h : dn q = 1
  · rw [decide_eq_true h] at h112
    simp only [c143, rtC, ratG, us32, go_sem, subT3, fillAll, fillIn, shiftR, shiftV, List.take_succ_cons, List.take_zero, List.drop_succ_cons, List.drop_zero, List.append_nil, Nat.zero_add]
    refine goP h112 ?_
    simp only [go_sem, subT2]
    refine goP h113 ?_
    cases hw : wint n p with
    | none =>
      simp only [optP, go_sem]
      simp only [i143, Out, resAll, geto, ints, List.getElem?_cons_zero, List.getElem?_cons_succ, resOf, outOf, snap, snapL, ev, getE, List.mapM_cons, List.mapM_nil, Option.bind_some, Option.pure_def, Option.bind_eq_bind, Option.map_some, reduceIte, Nat.reduceEqDiff, true_and, and_true, rint, h, hw, optP, if_true]
    | some z =>
      simp only [optP, go_sem]
      simp only [i143, Out, resAll, geto, ints, List.getElem?_cons_zero, List.getElem?_cons_succ, resOf, outOf, snap, snapL, ev, getE, List.mapM_cons, List.mapM_nil, Option.bind_some, Option.pure_def, Option.bind_eq_bind, Option.map_some, reduceIte, Nat.reduceEqDiff, true_and, and_true, rint, h, hw, optP, if_true]
  · rw [decide_eq_false h] at h112
    simp only [c143, rtC, ratG, us32, go_sem, subT3, fillAll, fillIn, shiftR, shiftV, List.take_succ_cons, List.take_zero, List.drop_succ_cons, List.drop_zero, List.append_nil, Nat.zero_add]
    refine goP h112 ?_
    simp only [go_sem]
    simp only [i143, Out, resAll, geto, ints, List.getElem?_cons_zero, List.getElem?_cons_succ, resOf, outOf, snap, snapL, ev, getE, List.mapM_cons, List.mapM_nil, Option.bind_some, Option.pure_def, Option.bind_eq_bind, Option.map_some, reduceIte, Nat.reduceEqDiff, true_and, and_true, rint, h, optP, if_false]
def rlimbs (x : Rt) : Nat := max (limG x.2.1).length (limG (dn x.2.2)).length
def wdC (n : Bool) (p : Nat) : List AV := [.bool n, .str (dec p)]
theorem subD2 {a b : AV} : sub true 2 [a, b] 0 = some (.agg [a, b]) := rfl
theorem subD0 {a b : AV} : sub false 1 [a, b] 0 = some a := rfl
theorem subD1 {a b : AV} : sub false 1 [a, b] 1 = some b := rfl
theorem subN0 {a b c : AV} : sub false 1 [a, b, c] 0 = some a := rfl
theorem subN1 {a b c : AV} : sub false 1 [a, b, c] 1 = some b := rfl
theorem subN2 {a b c : AV} : sub false 1 [a, b, c] 2 = some c := rfl
theorem dec_zero : dec 0 = ⟨#[48]⟩ := rfl
theorem dec_one : dec 1 = ⟨#[49]⟩ := by rw [dec_eq, decL_digit (by omega)]; rfl
theorem dec_ne {a b : Nat} : strOp .ne (dec a) (dec b) = some (.bool (!decide (a = b))) := by
  rw [dec_eq, dec_eq]
  simp only [strOp, str_eq (decL_dig a).u8 (decL_dig b).u8]
  congr 3
  by_cases h : a = b
  · subst h; simp
  · rw [decide_eq_false h, decide_eq_false]
    intro hh
    exact h (by rw [← sval_decL a, hh, sval_decL])
theorem c182_ok {n : Bool} {p : Nat} (hp : (decL p).length ≤ 1000000000) : Go.V.Call tab E 182 [.bool n, .str (dec p)] [] (.agg (wdC (n && decide (p ≠ 0)) p)) [] := by
  refine Go.V.Call.mach i182 c182 rfl rfl rfl rfl ?_
  have h120 := c146_dig (E := E) (decL_dig p) (decL_ne p) hp
  rw [sval_decL, ← dec_eq] at h120
  have hne := dec_ne (a := p) (b := 0)
  rw [dec_zero] at hne
  have hd : (!decide (p = 0)) = decide (p ≠ 0) := by simp
  simp only [c182, go_sem, fillAll, fillIn, shiftR, shiftV, List.take_succ_cons, List.take_zero, List.drop_succ_cons, List.drop_zero, List.append_nil, Nat.zero_add]
  refine goP h120 ?_
  cases n with
  | true =>
    simp only [go_sem, fillAll, fillIn, shiftR, shiftV, List.take_succ_cons, List.take_zero, List.drop_succ_cons, List.drop_zero, List.append_nil, Nat.zero_add, hne, hd]
    simp only [i182, Out, resAll, geto, ints, List.getElem?_cons_zero, List.getElem?_cons_succ, resOf, outOf, snap, snapL, ev, getE, List.mapM_cons, List.mapM_nil, Option.bind_some, Option.pure_def, Option.bind_eq_bind, Option.map_some, reduceIte, Nat.reduceEqDiff, true_and, and_true, subD2, wdC, Bool.true_and]
  | false =>
    simp only [go_sem, fillAll, fillIn, shiftR, shiftV, List.take_succ_cons, List.take_zero, List.drop_succ_cons, List.drop_zero, List.append_nil, Nat.zero_add]
    simp only [i182, Out, resAll, geto, ints, List.getElem?_cons_zero, List.getElem?_cons_succ, resOf, outOf, snap, snapL, ev, getE, List.mapM_cons, List.mapM_nil, Option.bind_some, Option.pure_def, Option.bind_eq_bind, Option.map_some, reduceIte, Nat.reduceEqDiff, true_and, and_true, subD2, wdC, Bool.false_and]
theorem c165_ok {x : Rt} (hp : (decL x.2.1).length ≤ 1000000000) : Go.V.Call tab E 165 [.agg (numG x.1 x.2.1 (dn x.2.2))] [] (.agg (wdC (x.1 && decide (x.2.1 ≠ 0)) x.2.1)) [] := by
  refine Go.V.Call.mach i165 c165 rfl rfl rfl rfl ?_
  have h := c182_ok (E := E) (n := x.1) hp
  simp only [c165, numG, go_sem, fillAll, fillIn, shiftR, shiftV, List.take_succ_cons, List.take_zero, List.drop_succ_cons, List.drop_zero, List.append_nil, Nat.zero_add, subN0, subN1]
  refine goP h ?_
  simp only [wdC, go_sem, fillAll, fillIn, shiftR, shiftV, List.take_succ_cons, List.take_zero, List.drop_succ_cons, List.drop_zero, List.append_nil, Nat.zero_add]
  simp only [i165, Out, resAll, geto, ints, List.getElem?_cons_zero, List.getElem?_cons_succ, resOf, outOf, snap, snapL, ev, getE, List.mapM_cons, List.mapM_nil, Option.bind_some, Option.pure_def, Option.bind_eq_bind, Option.map_some, reduceIte, Nat.reduceEqDiff, true_and, and_true, subD2, wdC]
theorem c173_ok {n : Bool} {p : Nat} (hp : (decL p).length ≤ 1000000000) (h0 : n = true → p ≠ 0) : Go.V.Call tab E 173 [.agg (wdC n p)] [] (optP (wint n p)) [] := by
  refine Go.V.Call.mach i173 c173 rfl rfl rfl rfl ?_
  have h139 := c190_ok (E := E) hp
  simp only [c173, wdC, go_sem, fillAll, fillIn, shiftR, shiftV, List.take_succ_cons, List.take_zero, List.drop_succ_cons, List.drop_zero, List.append_nil, Nat.zero_add, subD1, subD0]
  by_cases hb : p < 18446744073709551616
  · rw [if_pos hb] at h139
    refine goP h139 ?_
    cases n with
    | true =>
      have h0' := h0 rfl
      by_cases h1 : 9223372036854775808 < p
      · have h1' : (9223372036854775808 : Int) < (p : Int) := by omega
        have hw : wint true p = none := by unfold wint; rw [if_pos rfl, if_neg (by omega)]
        simp only [go_sem, subD1, subD0, h1']
        simp only [i173, Out, resAll, geto, ints, List.getElem?_cons_zero, List.getElem?_cons_succ, resOf, outOf, snap, snapL, ev, getE, List.mapM_cons, List.mapM_nil, Option.bind_some, Option.pure_def, Option.bind_eq_bind, Option.map_some, reduceIte, Nat.reduceEqDiff, true_and, and_true, hw, optP]
      · have h1' : ¬ (9223372036854775808 : Int) < (p : Int) := by omega
        have hw : wint true p = some (-(p : Int)) := by unfold wint; rw [if_pos rfl, if_pos (by omega)]
        have e1 : IntKind.u64.wrap ((p : Int) - 1) = (p : Int) - 1 := wrap_u64 (by omega) (by omega)
        have e2 : IntKind.i64.wrap ((p : Int) - 1) = (p : Int) - 1 := wrap_i64 (by omega) (by omega)
        have e3 : IntKind.i64.wrap (0 - ((p : Int) - 1)) = 1 - (p : Int) := by rw [wrap_i64 (by omega) (by omega)]; omega
        have e4 : IntKind.i64.wrap (1 - (p : Int) - 1) = -(p : Int) := by rw [wrap_i64 (by omega) (by omega)]; omega
        simp only [go_sem, subD1, subD0, h1', e1, e2, e3, e4]
        simp only [i173, Out, resAll, geto, ints, List.getElem?_cons_zero, List.getElem?_cons_succ, resOf, outOf, snap, snapL, ev, getE, List.mapM_cons, List.mapM_nil, Option.bind_some, Option.pure_def, Option.bind_eq_bind, Option.map_some, reduceIte, Nat.reduceEqDiff, true_and, and_true, hw, optP]
    | false =>
      by_cases h1 : 9223372036854775807 < p
      · have h1' : (9223372036854775807 : Int) < (p : Int) := by omega
        have hw : wint false p = none := by unfold wint; rw [if_neg (by simp), if_neg (by omega)]
        simp only [go_sem, subD1, subD0, h1']
        simp only [i173, Out, resAll, geto, ints, List.getElem?_cons_zero, List.getElem?_cons_succ, resOf, outOf, snap, snapL, ev, getE, List.mapM_cons, List.mapM_nil, Option.bind_some, Option.pure_def, Option.bind_eq_bind, Option.map_some, reduceIte, Nat.reduceEqDiff, true_and, and_true, hw, optP]
      · have h1' : ¬ (9223372036854775807 : Int) < (p : Int) := by omega
        have hw : wint false p = some (p : Int) := by unfold wint; rw [if_neg (by simp), if_pos (by omega)]
        have e1 : IntKind.i64.wrap (p : Int) = (p : Int) := wrap_i64 (by omega) (by omega)
        simp only [go_sem, subD1, subD0, h1', e1]
        simp only [i173, Out, resAll, geto, ints, List.getElem?_cons_zero, List.getElem?_cons_succ, resOf, outOf, snap, snapL, ev, getE, List.mapM_cons, List.mapM_nil, Option.bind_some, Option.pure_def, Option.bind_eq_bind, Option.map_some, reduceIte, Nat.reduceEqDiff, true_and, and_true, hw, optP]
  · rw [if_neg hb] at h139
    refine goP h139 ?_
    have hw : wint n p = none := by unfold wint; split <;> rw [if_neg (by omega)]
    simp only [go_sem, subD1, subD0]
    simp only [i173, Out, resAll, geto, ints, List.getElem?_cons_zero, List.getElem?_cons_succ, resOf, outOf, snap, snapL, ev, getE, List.mapM_cons, List.mapM_nil, Option.bind_some, Option.pure_def, Option.bind_eq_bind, Option.map_some, reduceIte, Nat.reduceEqDiff, true_and, and_true, hw, optP]
theorem rint_norm {n : Bool} {p : Nat} : wint (n && decide (p ≠ 0)) p = wint n p := by
  by_cases h : p = 0
  · subst h; cases n <;> rfl
  · simp [h]
theorem c144_ok {x : Rt} (hp : (decL x.2.1).length ≤ 1000000000) : Go.V.Call tab E 144 [.agg (numG x.1 x.2.1 (dn x.2.2))] [] (optP (rint x)) [] := by
  refine Go.V.Call.mach i144 c144 rfl rfl rfl rfl ?_
  have hne := dec_ne (a := dn x.2.2) (b := 1)
  rw [dec_one] at hne
  have h123 := c165_ok (E := E) hp
  have h122 := c173_ok (E := E) (n := x.1 && decide (x.2.1 ≠ 0)) hp (by intro h; simp at h; exact h.2)
  rw [rint_norm] at h122
  simp only [numG, wdC] at h123 h122
  by_cases h : dn x.2.2 = 1
  · rw [decide_eq_true h] at hne
    simp only [c144, numG, go_sem, fillAll, fillIn, shiftR, shiftV, List.take_succ_cons, List.take_zero, List.drop_succ_cons, List.drop_zero, List.append_nil, Nat.zero_add, subN2, hne, subT3]
    refine goP h123 ?_
    simp only [go_sem]
    refine goP h122 ?_
    have hri : rint x = wint x.1 x.2.1 := by rw [rint, if_pos h]
    clear h hne
    cases hw : wint x.1 x.2.1 with
    | none =>
      simp only [optP, go_sem]
      simp only [i144, Out, resAll, geto, ints, List.getElem?_cons_zero, List.getElem?_cons_succ, resOf, outOf, snap, snapL, ev, getE, List.mapM_cons, List.mapM_nil, Option.bind_some, Option.pure_def, Option.bind_eq_bind, Option.map_some, reduceIte, Nat.reduceEqDiff, true_and, and_true, hri, hw, optP]
    | some z =>
      simp only [optP, go_sem]
      simp only [i144, Out, resAll, geto, ints, List.getElem?_cons_zero, List.getElem?_cons_succ, resOf, outOf, snap, snapL, ev, getE, List.mapM_cons, List.mapM_nil, Option.bind_some, Option.pure_def, Option.bind_eq_bind, Option.map_some, reduceIte, Nat.reduceEqDiff, true_and, and_true, hri, hw, optP]
  · rw [decide_eq_false h] at hne
    simp only [c144, numG, go_sem, fillAll, fillIn, shiftR, shiftV, List.take_succ_cons, List.take_zero, List.drop_succ_cons, List.drop_zero, List.append_nil, Nat.zero_add, subN2, hne, subT3]
    have hri : rint x = none := by rw [rint, if_neg h]
    simp only [i144, Out, resAll, geto, ints, List.getElem?_cons_zero, List.getElem?_cons_succ, resOf, outOf, snap, snapL, ev, getE, List.mapM_cons, List.mapM_nil, Option.bind_some, Option.pure_def, Option.bind_eq_bind, Option.map_some, reduceIte, Nat.reduceEqDiff, true_and, and_true, hri, optP]
end
def rv (x : Rt) : Int := (rint x).getD 0
def WhO (l : List Rt) : Prop := ∀ x ∈ l, (rint x).isSome = true
theorem WhO_take {l : List Rt} {i : Nat} (h : i < l.length) : WhO (l.take (i + 1)) ↔ WhO (l.take i) ∧ (rint (rtAt l i)).isSome = true := by
  have : l.take (i + 1) = l.take i ++ [rtAt l i] := takeAt h
  rw [this]
  unfold WhO
  simp only [List.mem_append, List.mem_singleton]
  exact ⟨fun h => ⟨fun x hx => h x (.inl hx), h _ (.inr rfl)⟩, fun h x hx => hx.elim (h.1 x) (fun e => e ▸ h.2)⟩
theorem rtAt_mem {l : List Rt} {i : Nat} (h : i < l.length) : rtAt l i ∈ l := by simp [rtAt, List.getD, h]
theorem nmAt_map {l : List Rt} {i : Nat} (h : i < l.length) : nmAt (l.map toNm) i = toNm (rtAt l i) := by simp [nmAt, rtAt, List.getD, h]
theorem rv_of {x : Rt} {z : Int} (h : rint x = some z) : rv x = z := by rw [rv, h]; rfl
theorem RtOk.len {x : Rt} (h : RtOk x) : (decL x.2.1).length ≤ 1000000000 ∧ (decL (dn x.2.2)).length ≤ 1000000000 := ⟨Nat.le_trans (lim2000_len h.1) (by omega), Nat.le_trans (lim2000_len h.2) (by omega)⟩
def lmax (l : List Rt) : Nat := l.foldl (fun a x => max a (rlimbs x)) 0
def rbytes (x : Rt) : Nat := 8 + 4 * ((limG x.2.1).length + (limG (dn x.2.2)).length)
def bsum (l : List Rt) : Nat := l.foldl (fun a x => a + rbytes x) 0
def runeAt (t : List Int) (k : Int) : Int := if 0 ≤ k ∧ k < t.length then t.getD k.toNat 0 else 0
theorem subX3 {a b c d e : AV} : sub false 1 [a, b, c, d, e] 3 = some d := rfl
theorem c100_X {s t : List Int} {l : List Rt} {ch ok : Bool} (ht : (t.length : Int) ≤ 1000000000000) (hl : (l.length : Int) ≤ 1000000000000) (hok : ok = true ↔ ¬ (ch = true ∧ 0 < t.length + l.length) ∧ WhO l) :
    Go.V.Call tab E 100 [.agg (arrX s ch t l)] [] (.tup [.arr 0 0, .bool ok]) [rowI (if ok then l.map rv else [])] := by
  refine Go.V.Call.mach i100 c100 rfl rfl rfl rfl ?_
  have hfalse : ¬ (¬ (ch = true ∧ 0 < t.length + l.length) ∧ WhO l) → ok = false := fun h => by rw [← Bool.not_eq_true, hok]; exact h
  have h54 := c55_X (s := s) (ch := ch) ht hl
  simp only [arrX, runes, ints] at h54
  have main : ¬ (ch = true ∧ 0 < t.length + l.length) → Mach (Go.V.Call tab E) (Fin i100 [] (.tup [.arr 0 0, .bool ok]) [rowI (if ok then l.map rv else [])]) [.code (.seq (.seq (.reg none [⟨some 16, .faddr 3 (.t 1), none⟩,
      ⟨some 17, .ld false 1 (.t 16), none⟩, ⟨some 18, .lenf (.t 17), none⟩, ⟨some 19, .mov (.k (.int .i64 0)), none⟩]) (.lv [4, 17, 18, 19] (.block 0 (.loop [4, 17, 18, 19] (some (3, [])) b100_0)))) k100_0)] .nrm
      ⟨[(1, .loc 0 0 0), (4, .arr 2 0)], [⟨true, 35, 5, 0, 1, arrX s ch t l, false⟩, ⟨false, 3, 1, 0, 0, [], false⟩, ⟨false, 3, 1, 0, 0, [], false⟩]⟩ := fun hch => by
    simp only [arrX, runes, ints, go_sem, subX3, fillAll, fillIn, shiftR, shiftV, List.take_succ_cons, List.take_zero, List.drop_succ_cons, List.drop_zero, List.append_nil, Nat.zero_add]
    refine mLoop (fun N st => ∃ (i : Nat), i ≤ l.length ∧ N = l.length - i ∧ WhO (l.take i) ∧
      st = ⟨[(4, .arr 2 i), (17, .sl l.length 3 (rtsC l)), (18, .int .i64 l.length), (19, .int .i64 i)],
        [⟨true, 35, 5, 0, 1, arrX s ch t l, false⟩, ⟨false, 3, 1, 0, 0, [], false⟩, ⟨false, 3, 1, i, i, nums .i64 ((l.take i).map rv), false⟩]⟩) l.length
      ⟨_, rfl, 0, by omega, by omega, fun x hx => by simp at hx, by simp [nums, getE, ints, arrX, runes]⟩ ?_
    rintro N s0 ⟨i, hi, rfl, hw, rfl⟩
    by_cases hlt : i < l.length
    · have hlt' : (i : Int) < (l.length : Int) := by omega
      have hi0 : (0 : Int) ≤ (i : Int) := by omega
      have hi1 : IntKind.i64.wrap ((i : Int) + 1) = ((i + 1 : Nat) : Int) := by rw [wrap_i64 (by omega) (by omega)]; omega
      have hsub := sub_rts hlt
      have htk : l.take (i + 1) = l.take i ++ [rtAt l i] := takeAt hlt
      have hwt := WhO_take hlt
      have e1 : (i + 1) * 8 ≤ 140737488355328 := by omega
      have e2 : i + 1 ≤ 140737488355328 := by omega
      have h88 := c143_gen (E := E) (x := rtAt l i)
      cases hr : rint (rtAt l i) with
      | none =>
        have := hfalse (fun h => by have := h.2 _ (rtAt_mem hlt); rw [hr] at this; cases this)
        subst this
        rw [hr] at h88
        simp only [optP, rtC, ratG, us32] at h88
        simp only [b100_0, arrX, runes, ints, go_sem, hlt', hi0, Int.toNat_natCast, hsub, rtC, ratG, us32, subT3, fillAll, fillIn, shiftR, shiftV, List.take_succ_cons, List.take_zero, List.drop_succ_cons, List.drop_zero, List.append_nil, Nat.zero_add]
        refine goR h88 rfl ?_
        simp only [go_sem, fillAll, fillIn, shiftR, shiftV, List.take_succ_cons, List.take_zero, List.drop_succ_cons, List.drop_zero, List.append_nil, Nat.zero_add]
        simp only [i100, Out, resAll, geto, ints, List.getElem?_cons_zero, List.getElem?_cons_succ, resOf, outOf, snap, snapL, ev, getE, List.mapM_cons, List.mapM_nil, Option.bind_some, Option.pure_def, Option.bind_eq_bind, Option.map_some, reduceIte, Nat.reduceEqDiff, true_and, and_true, ownOut, ownL, ownV, scalar, List.contains_nil, List.length_nil, List.length_cons, List.nil_append, List.cons_append, storeOp, apartOf, freeze_nil, refsL, refs, List.flatMap_cons, List.flatMap_nil, List.append_nil, List.contains_nil, List.set_cons_zero, List.set_cons_succ, snap, snapL, fill_nums, flat_nums, nums_length, reduceCtorEq, Bool.false_eq_true, and_self, not_false_eq_true, beq_self_eq_true, Nat.zero_add]
        rfl
      | some z =>
        have hz : rv (rtAt l i) = z := rv_of hr
        rw [hr] at h88 hwt
        simp only [optP, rtC, ratG, us32] at h88
        simp only [b100_0, arrX, runes, ints, go_sem, hlt', hi0, Int.toNat_natCast, hsub, rtC, ratG, us32, subT3, fillAll, fillIn, shiftR, shiftV, List.take_succ_cons, List.take_zero, List.drop_succ_cons, List.drop_zero, List.append_nil, Nat.zero_add]
        refine goR h88 rfl ?_
        simp only [go_sem, fillAll, fillIn, shiftR, shiftV, List.take_succ_cons, List.take_zero, List.drop_succ_cons, List.drop_zero, List.append_nil, Nat.zero_add, hi1, e1, e2, List.flatten_cons, List.flatten_nil, Option.getD_some]
        refine loopQ_go rfl (l.length - (i + 1)) (by omega) ⟨i + 1, by omega, rfl, hwt.2 ⟨hw, rfl⟩, ?_⟩
        rw [htk]
        simp only [nums, List.map_append, List.map_cons, List.map_nil, hz, arrX, runes, ints]
        rfl
    · have hlt' : ¬ (i : Int) < (l.length : Int) := by omega
      obtain rfl : i = l.length := by omega
      rw [List.take_length] at hw
      have := hok.2 ⟨hch, hw⟩
      subst this
      simp only [b100_0, k100_0, arrX, runes, ints, go_sem, hlt', List.take_length, Int.lt_irrefl]
      simp only [i100, Out, resAll, geto, ints, List.getElem?_cons_zero, List.getElem?_cons_succ, resOf, outOf, snap, snapL, ev, getE, List.mapM_cons, List.mapM_nil, Option.bind_some, Option.pure_def, Option.bind_eq_bind, Option.map_some, reduceIte, Nat.reduceEqDiff, true_and, and_true, ownOut, ownL, ownV, scalar, List.contains_nil, List.length_nil, List.length_cons, List.nil_append, List.cons_append, storeOp, apartOf, freeze_nil, refsL, refs, List.flatMap_cons, List.flatMap_nil, List.append_nil, List.contains_nil, List.set_cons_zero, List.set_cons_succ, snap, snapL, fill_nums, flat_nums, nums_length, reduceCtorEq, Bool.false_eq_true, and_self, not_false_eq_true, beq_self_eq_true, Nat.zero_add]
      simp [rowI]
  cases ch with
  | true =>
    simp only [c100, arrX, runes, ints, go_sem, subX1, subA5, fillAll, fillIn, shiftR, shiftV, List.take_succ_cons, List.take_zero, List.drop_succ_cons, List.drop_zero, List.append_nil, Nat.zero_add]
    refine goP h54 ?_
    by_cases h0 : 0 < t.length + l.length
    · have h0' : (0 : Int) < ((t.length + l.length : Nat) : Int) := by omega
      have := hfalse (fun h => h.1 ⟨rfl, h0⟩)
      subst this
      simp only [go_sem, h0']
      simp only [i100, Out, resAll, geto, ints, List.getElem?_cons_zero, List.getElem?_cons_succ, resOf, outOf, snap, snapL, ev, getE, List.mapM_cons, List.mapM_nil, Option.bind_some, Option.pure_def, Option.bind_eq_bind, Option.map_some, reduceIte, Nat.reduceEqDiff, true_and, and_true, ownOut, ownL, ownV, scalar, List.contains_nil, List.length_nil, List.length_cons, List.nil_append, List.cons_append, storeOp, apartOf, freeze_nil, refsL, refs, List.flatMap_cons, List.flatMap_nil, List.append_nil, List.contains_nil, List.set_cons_zero, List.set_cons_succ, snap, snapL, fill_nums, flat_nums, nums_length, reduceCtorEq, Bool.false_eq_true, and_self, not_false_eq_true, beq_self_eq_true, Nat.zero_add]
      rfl
    · have h0' : ¬ (0 : Int) < ((t.length + l.length : Nat) : Int) := by omega
      have hm := main (fun h => h0 h.2)
      simp only [arrX, runes, ints, go_sem, subX3, fillAll, fillIn, shiftR, shiftV, List.take_succ_cons, List.take_zero, List.drop_succ_cons, List.drop_zero, List.append_nil, Nat.zero_add] at hm
      simp only [go_sem, h0', subX3]
      exact hm
  | false =>
    have hm := main (fun h => by cases h.1)
    simp only [arrX, runes, ints, go_sem, subX3, fillAll, fillIn, shiftR, shiftV, List.take_succ_cons, List.take_zero, List.drop_succ_cons, List.drop_zero, List.append_nil, Nat.zero_add] at hm
    simp only [c100, arrX, runes, ints, go_sem, subX1, subX3, subA5, fillAll, fillIn, shiftR, shiftV, List.take_succ_cons, List.take_zero, List.drop_succ_cons, List.drop_zero, List.append_nil, Nat.zero_add]
    exact hm
theorem subP3n {a b c d : AV} : sub false 1 [a, b, c, d] 3 = some d := rfl
theorem c103_ok {s t : List Int} {l : List Rt} {ch ok : Bool} (ht : (t.length : Int) ≤ 1000000000000) (hl : (l.length : Int) ≤ 1000000000000) (hlk : ∀ x ∈ l, RtOk x) (hok : ok = true ↔ t.length = 0 ∧ WhO l) :
    Go.V.Call tab E 103 [.agg (plX s ch t (l.map toNm))] [] (.tup [.arr 0 0, .bool ok]) [rowI (if ok then l.map rv else [])] := by
  refine Go.V.Call.mach i103 c103 rfl rfl rfl rfl ?_
  have hfalse : ¬ (t.length = 0 ∧ WhO l) → ok = false := fun h => by rw [← Bool.not_eq_true, hok]; exact h
  by_cases h0 : 0 < t.length
  · have h0' : (0 : Int) < (t.length : Int) := by omega
    have := hfalse (fun h => by omega)
    subst this
    simp only [c103, plX, runes, ints, go_sem, subP4c, fillAll, fillIn, shiftR, shiftV, List.take_succ_cons, List.take_zero, List.drop_succ_cons, List.drop_zero, List.append_nil, Nat.zero_add, h0']
    simp only [i103, Out, resAll, geto, ints, List.getElem?_cons_zero, List.getElem?_cons_succ, resOf, outOf, snap, snapL, ev, getE, List.mapM_cons, List.mapM_nil, Option.bind_some, Option.pure_def, Option.bind_eq_bind, Option.map_some, reduceIte, Nat.reduceEqDiff, true_and, and_true, ownOut, ownL, ownV, scalar, List.contains_nil, List.length_nil, List.length_cons, List.nil_append, List.cons_append, storeOp, apartOf, freeze_nil, refsL, refs, List.flatMap_cons, List.flatMap_nil, List.append_nil, List.contains_nil, List.set_cons_zero, List.set_cons_succ, snap, snapL, fill_nums, flat_nums, nums_length, reduceCtorEq, Bool.false_eq_true, and_self, not_false_eq_true, beq_self_eq_true, Nat.zero_add]
    rfl
  · have h0' : ¬ (0 : Int) < (t.length : Int) := by omega
    have hlm : (l.map toNm).length = l.length := by simp
    simp only [c103, plX, runes, ints, go_sem, subP4c, fillAll, fillIn, shiftR, shiftV, List.take_succ_cons, List.take_zero, List.drop_succ_cons, List.drop_zero, List.append_nil, Nat.zero_add, h0', hlm]
    refine mLoop (fun N st => ∃ (i : Nat), i ≤ l.length ∧ N = l.length - i ∧ WhO (l.take i) ∧
      st = ⟨[(1, .loc 0 0 0), (4, .arr 2 i), (5, .int .i64 i)],
        [⟨true, 26, 4, 0, 1, plX s ch t (l.map toNm), false⟩, ⟨false, 3, 1, 0, 0, [], false⟩, ⟨false, 3, 1, i, i, nums .i64 ((l.take i).map rv), false⟩]⟩) l.length
      ⟨_, rfl, 0, by omega, by omega, fun x hx => by simp at hx, by simp [nums, getE, ints, plX, runes]⟩ ?_
    rintro N s0 ⟨i, hi, rfl, hw, rfl⟩
    by_cases hlt : i < l.length
    · have hlt' : (i : Int) < (l.length : Int) := by omega
      have hi0 : (0 : Int) ≤ (i : Int) := by omega
      have hi1 : IntKind.i64.wrap ((i : Int) + 1) = ((i + 1 : Nat) : Int) := by rw [wrap_i64 (by omega) (by omega)]; omega
      have hsub := sub_nms (l := l.map toNm) (i := i) (by rw [hlm]; exact hlt)
      rw [nmAt_map hlt, ← nmC_dec] at hsub
      have htk : l.take (i + 1) = l.take i ++ [rtAt l i] := takeAt hlt
      have hwt := WhO_take hlt
      have e1 : (i + 1) * 8 ≤ 140737488355328 := by omega
      have e2 : i + 1 ≤ 140737488355328 := by omega
      have h97 := c144_ok (E := E) (x := rtAt l i) (hlk _ (rtAt_mem hlt)).len.1
      cases hr : rint (rtAt l i) with
      | none =>
        have := hfalse (fun h => by have := h.2 _ (rtAt_mem hlt); rw [hr] at this; cases this)
        subst this
        rw [hr] at h97
        simp only [optP, numG] at h97
        simp only [b103_0, plX, runes, ints, go_sem, subP3n, subP3, hlt', hi0, hlm, Int.toNat_natCast, hsub, numG, fillAll, fillIn, shiftR, shiftV, List.take_succ_cons, List.take_zero, List.drop_succ_cons, List.drop_zero, List.append_nil, Nat.zero_add]
        refine goP h97 ?_
        simp only [go_sem, fillAll, fillIn, shiftR, shiftV, List.take_succ_cons, List.take_zero, List.drop_succ_cons, List.drop_zero, List.append_nil, Nat.zero_add]
        simp only [i103, Out, resAll, geto, ints, List.getElem?_cons_zero, List.getElem?_cons_succ, resOf, outOf, snap, snapL, ev, getE, List.mapM_cons, List.mapM_nil, Option.bind_some, Option.pure_def, Option.bind_eq_bind, Option.map_some, reduceIte, Nat.reduceEqDiff, true_and, and_true, ownOut, ownL, ownV, scalar, List.contains_nil, List.length_nil, List.length_cons, List.nil_append, List.cons_append, storeOp, apartOf, freeze_nil, refsL, refs, List.flatMap_cons, List.flatMap_nil, List.append_nil, List.contains_nil, List.set_cons_zero, List.set_cons_succ, snap, snapL, fill_nums, flat_nums, nums_length, reduceCtorEq, Bool.false_eq_true, and_self, not_false_eq_true, beq_self_eq_true, Nat.zero_add]
        rfl
      | some z =>
        have hz : rv (rtAt l i) = z := rv_of hr
        rw [hr] at h97 hwt
        simp only [optP, numG] at h97
        simp only [b103_0, plX, runes, ints, go_sem, subP3n, subP3, hlt', hi0, hlm, Int.toNat_natCast, hsub, numG, fillAll, fillIn, shiftR, shiftV, List.take_succ_cons, List.take_zero, List.drop_succ_cons, List.drop_zero, List.append_nil, Nat.zero_add]
        refine goP h97 ?_
        simp only [go_sem, fillAll, fillIn, shiftR, shiftV, List.take_succ_cons, List.take_zero, List.drop_succ_cons, List.drop_zero, List.append_nil, Nat.zero_add, hi1, e1, e2, List.flatten_cons, List.flatten_nil, Option.getD_some]
        refine loopQ_go rfl (l.length - (i + 1)) (by omega) ⟨i + 1, by omega, rfl, hwt.2 ⟨hw, rfl⟩, ?_⟩
        rw [htk]
        simp only [nums, List.map_append, List.map_cons, List.map_nil, hz, plX, runes, ints]
        rfl
    · have hlt' : ¬ (i : Int) < (l.length : Int) := by omega
      obtain rfl : i = l.length := by omega
      rw [List.take_length] at hw
      have := hok.2 ⟨by omega, hw⟩
      subst this
      simp only [b103_0, k103_0, plX, runes, ints, go_sem, subP3n, subP3, hlm, hlt', List.take_length, Int.lt_irrefl]
      simp only [i103, Out, resAll, geto, ints, List.getElem?_cons_zero, List.getElem?_cons_succ, resOf, outOf, snap, snapL, ev, getE, List.mapM_cons, List.mapM_nil, Option.bind_some, Option.pure_def, Option.bind_eq_bind, Option.map_some, reduceIte, Nat.reduceEqDiff, true_and, and_true, ownOut, ownL, ownV, scalar, List.contains_nil, List.length_nil, List.length_cons, List.nil_append, List.cons_append, storeOp, apartOf, freeze_nil, refsL, refs, List.flatMap_cons, List.flatMap_nil, List.append_nil, List.contains_nil, List.set_cons_zero, List.set_cons_succ, snap, snapL, fill_nums, flat_nums, nums_length, reduceCtorEq, Bool.false_eq_true, and_self, not_false_eq_true, beq_self_eq_true, Nat.zero_add]
      simp [rowI]
theorem c56_X {s t : List Int} {l : List Rt} {ch : Bool} (hs : (s.length : Int) ≤ 1000000000000) : Go.V.Call tab E 56 [.agg (arrX s ch t l)] [] (.int .i64 s.length) [] := by
  refine Go.V.Call.mach i56 c56 rfl rfl rfl rfl ?_
  have h69 := c48_X (s := s) (t := t) (l := l) (ch := ch) hs
  simp only [arrX, runes, ints] at h69
  simp only [c56, arrX, runes, ints, go_sem, subA5, fillAll, fillIn, shiftR, shiftV, List.take_succ_cons, List.take_zero, List.drop_succ_cons, List.drop_zero, List.append_nil, Nat.zero_add]
  refine goP h69 ?_
  simp only [go_sem, fillAll, fillIn, shiftR, shiftV, List.take_succ_cons, List.take_zero, List.drop_succ_cons, List.drop_zero, List.append_nil, Nat.zero_add]
  simp only [i56, Out, resAll, geto, ints, List.getElem?_cons_zero, List.getElem?_cons_succ, resOf, outOf, snap, snapL, ev, getE, List.mapM_cons, List.mapM_nil, Option.bind_some, Option.pure_def, Option.bind_eq_bind, Option.map_some, reduceIte, Nat.reduceEqDiff, true_and, and_true]
def roomX (s t : List Int) (l : List Rt) : Nat := 16 + 4 * s.length + t.length + bsum l
def zR (z : Int) : Rt := (decide (z < 0), z.natAbs, 1)
def wholeB (ch : Bool) (t : List Int) (L : List Rt) : Bool := !(ch && decide (0 < t.length + L.length)) && L.all fun x => (rint x).isSome
theorem wholeB_iff {ch : Bool} {t : List Int} {L : List Rt} : wholeB ch t L = true ↔ ¬ (ch = true ∧ 0 < t.length + L.length) ∧ WhO L := by
  unfold wholeB WhO
  simp only [Bool.and_eq_true, Bool.not_eq_true', List.all_eq_true]
  refine and_congr_left' ?_
  cases ch <;> simp
theorem wholeB_iff' {ch : Bool} {t : List Int} {L : List Rt} (hch : (ch = true → L = []) ∧ (ch = false → t = [])) : wholeB ch t L = true ↔ t.length = 0 ∧ WhO L := by
  rw [wholeB_iff]
  refine and_congr_left' ?_
  cases ch with
  | true => rw [hch.1 rfl]; simp
  | false => rw [hch.2 rfl]; simp
def lisV (s : List Int) (ch : Bool) (t : List Int) (L : List Rt) : List Int := if s.length ≤ 1 ∧ wholeB ch t L = true then L.map rv else []
def lisE (s : List Int) (ch : Bool) (t : List Int) (L : List Rt) : Int := if 1 < s.length then 23 else if wholeB ch t L = true then 0 else 22
def noP : List AV := plX [] false [] []
theorem noA_len : Go.V.Call tab E 55 [.agg noA] [] (.int .i64 0) [] := c55_no
theorem c35_yes {s t : List Int} {ch : Bool} {L : List Rt} (hs : (s.length : Int) ≤ 1000000000) (ht : (t.length : Int) ≤ 1000000000) (hl : (L.length : Int) ≤ 1000000000) (hlk : ∀ x ∈ L, RtOk x) :
    Go.V.Call tab E 35 [.agg (arrX s ch t L), .int .i64 0, .agg (plX s ch t (L.map toNm)), .int .i64 0] [] (.bool true) [] := by
  refine Go.V.Call.mach i35 c35 rfl rfl rfl rfl ?_
  have hlm : (L.map toNm).length = L.length := by simp
  have hu : ∀ x ∈ L.map toNm, NmU x := fun z hz => by
    obtain ⟨x, hx, rfl⟩ := List.mem_map.1 hz
    exact ⟨(decL_dig _).u8, (decL_dig _).u8, (hlk x hx).len.1, (hlk x hx).len.2⟩
  have h31 := c31_X (s := s) (t := t) (l := L) (ch := ch) (by omega) (by omega) (by omega) hlk
  have h29 := c29_gen (s := s) (s' := s) (t := t) (t' := t) (l := L.map toNm) (l' := L.map toNm) (ch := ch) (ch' := ch) (by omega) (by omega) (by omega) (by omega) (by omega) (by omega) hu hu
  rw [decide_eq_true ⟨rfl, rfl, rfl, rfl⟩] at h29
  simp only [plX, arrX, runes, ints] at h31 h29
  simp only [c35, plX, arrX, runes, ints, go_sem, fillAll, fillIn, shiftR, shiftV, List.take_succ_cons, List.take_zero, List.drop_succ_cons, List.drop_zero, List.append_nil, Nat.zero_add, subA5, subP4, bne_self_eq_false]
  refine goP h31 ?_
  simp only [go_sem, fillAll, fillIn, shiftR, shiftV, List.take_succ_cons, List.take_zero, List.drop_succ_cons, List.drop_zero, List.append_nil, Nat.zero_add, subA5, subP4]
  refine goP h29 ?_
  simp only [go_sem]
  simp only [i35, Out, resAll, geto, ints, List.getElem?_cons_zero, List.getElem?_cons_succ, resOf, outOf, snap, snapL, ev, getE, List.mapM_cons, List.mapM_nil, Option.bind_some, Option.pure_def, Option.bind_eq_bind, Option.map_some, reduceIte, Nat.reduceEqDiff, true_and, and_true]
theorem c35_err {e : Int} (he : e ≠ 0) : Go.V.Call tab E 35 [.agg noA, .int .i64 e, .agg noP, .int .i64 e] [] (.bool true) [] := by
  refine Go.V.Call.mach i35 c35 rfl rfl rfl rfl ?_
  have h55 := noA_len
  have hne : (e != 0) = true := by rw [bne_iff_ne]; exact he
  simp only [noA] at h55
  simp only [c35, noP, plX, noA, runes, ints, nums, nmsC, List.flatMap_nil, go_sem, fillAll, fillIn, shiftR, shiftV, List.take_succ_cons, List.take_zero, List.drop_succ_cons, List.drop_zero, List.append_nil, Nat.zero_add, subA5, subP4, bne_self_eq_false, hne]
  refine goP h55 ?_
  simp only [go_sem, beq_self_eq_true]
  simp only [i35, Out, resAll, geto, ints, List.getElem?_cons_zero, List.getElem?_cons_succ, resOf, outOf, snap, snapL, ev, getE, List.mapM_cons, List.mapM_nil, Option.bind_some, Option.pure_def, Option.bind_eq_bind, Option.map_some, reduceIte, Nat.reduceEqDiff, true_and, and_true]
theorem c25_ok {s t : List Int} {l : List Nm} {ch ok : Bool} (hs : ∀ d ∈ s, In64 d) (hu : ∀ x ∈ l, U8 x.2.1 ∧ U8 x.2.2) (hok : ok = true ↔ LightP s ch t l 250) : Go.V.Call tab E 25 [.agg (plX s ch t l)] [] (.bool ok) [] := by
  refine Go.V.Call.mach i25 c25 rfl rfl rfl rfl ?_
  have h := c10_ok (s := s) (t := t) (l := l) (ch := ch) (ok := ok) (most := 250) (by omega) hs hu hok
  simp only [plX, runes, ints] at h
  simp only [c25, plX, runes, ints, go_sem, fillAll, fillIn, shiftR, shiftV, List.take_succ_cons, List.take_zero, List.drop_succ_cons, List.drop_zero, List.append_nil, Nat.zero_add, subP4]
  refine goP h ?_
  simp only [go_sem]
  simp only [i25, Out, resAll, geto, ints, List.getElem?_cons_zero, List.getElem?_cons_succ, resOf, outOf, snap, snapL, ev, getE, List.mapM_cons, List.mapM_nil, Option.bind_some, Option.pure_def, Option.bind_eq_bind, Option.map_some, reduceIte, Nat.reduceEqDiff, true_and, and_true]
def axA (s : List Int) (a : Int) : Int := if a < 0 then (s.length : Int) - 1 else a
def axB (s : List Int) (a : Int) : Bool := decide (0 ≤ axA s a) && decide (axA s a < (s.length : Int))
theorem c91_ok {s t s' ks : List Int} {L : List Rt} {ch : Bool} (hs : ∀ d ∈ s', In64 d) (hsl : (s'.length : Int) ≤ 1000000000000) (ht : (t.length : Int) ≤ 1000000000000) (hl : (L.length : Int) ≤ 1000000000000) (hks : (ks.length : Int) ≤ 1000000000) :
    Go.V.Call tab E 91 [.agg (arrX s ch t L), ints s', ints ks] [] (.tup [.agg (if fits s' ks.length then arrX s' ch (picksT ch t ks) (picksR ch L ks) else noA), .int .i64 (if fits s' ks.length then 0 else 26)]) [] := by
  refine Go.V.Call.mach i91 c91 rfl rfl rfl rfl ?_
  have h49 := c49_ok (s := s) (t := t) (s' := s') (ks := ks) (l := L) (ch := ch) hs hsl ht hl hks
  simp only [arrX, runes, ints] at h49
  cases hf : fits s' ks.length with
  | true =>
    rw [hf] at h49
    simp only [if_true] at h49
    simp only [c91, arrX, runes, ints, go_sem, fillAll, fillIn, shiftR, shiftV, List.take_succ_cons, List.take_zero, List.drop_succ_cons, List.drop_zero, List.append_nil, Nat.zero_add, subA5]
    refine goP h49 ?_
    simp only [go_sem, fillAll, fillIn, shiftR, shiftV, List.take_succ_cons, List.take_zero, List.drop_succ_cons, List.drop_zero, List.append_nil, Nat.zero_add, subA5]
    simp only [i91, Out, resAll, geto, ints, List.getElem?_cons_zero, List.getElem?_cons_succ, resOf, outOf, snap, snapL, ev, getE, List.mapM_cons, List.mapM_nil, Option.bind_some, Option.pure_def, Option.bind_eq_bind, Option.map_some, reduceIte, Nat.reduceEqDiff, true_and, and_true, subA5, if_true, arrX, runes, ints]
  | false =>
    rw [hf] at h49
    simp only [Bool.false_eq_true, if_false, noA] at h49
    simp only [c91, arrX, runes, ints, go_sem, fillAll, fillIn, shiftR, shiftV, List.take_succ_cons, List.take_zero, List.drop_succ_cons, List.drop_zero, List.append_nil, Nat.zero_add, subA5]
    refine goP h49 ?_
    simp only [go_sem, fillAll, fillIn, shiftR, shiftV, List.take_succ_cons, List.take_zero, List.drop_succ_cons, List.drop_zero, List.append_nil, Nat.zero_add, subA5]
    simp only [i91, Out, resAll, geto, ints, List.getElem?_cons_zero, List.getElem?_cons_succ, resOf, outOf, snap, snapL, ev, getE, List.mapM_cons, List.mapM_nil, Option.bind_some, Option.pure_def, Option.bind_eq_bind, Option.map_some, reduceIte, Nat.reduceEqDiff, true_and, and_true, subA5, Bool.false_eq_true, if_false, noA]
theorem c89_ok {s t : List Int} {ch : Bool} {L : List Rt} (hs : (s.length : Int) ≤ 1000000000) (ht : (t.length : Int) ≤ 1000000000000) (hl : (L.length : Int) ≤ 1000000000000) :
    Go.V.Call tab E 89 [.agg (arrX s ch t L)] [] (.tup [.arr 0 0, .int .i64 (lisE s ch t L)]) [rowI (lisV s ch t L)] := by
  refine Go.V.Call.mach i89 c89 rfl rfl rfl rfl ?_
  have h56 := c56_X (s := s) (t := t) (l := L) (ch := ch) (by omega)
  have h100 := c100_X (s := s) (t := t) (l := L) (ch := ch) (ok := wholeB ch t L) ht hl wholeB_iff
  simp only [arrX, runes, ints] at h56 h100
  by_cases h1 : (1 : Int) < (s.length : Int)
  · have hE : lisE s ch t L = 23 := if_pos (by omega)
    have hV : lisV s ch t L = [] := if_neg (by omega)
    simp only [c89, arrX, runes, ints, go_sem, fillAll, fillIn, shiftR, shiftV, List.take_succ_cons, List.take_zero, List.drop_succ_cons, List.drop_zero, List.append_nil, Nat.zero_add, subA5]
    refine goP h56 ?_
    simp only [go_sem, fillAll, fillIn, shiftR, shiftV, List.take_succ_cons, List.take_zero, List.drop_succ_cons, List.drop_zero, List.append_nil, Nat.zero_add, subA5, h1]
    simp only [i89, Out, resAll, geto, ints, List.getElem?_cons_zero, List.getElem?_cons_succ, resOf, outOf, snap, snapL, ev, getE, List.mapM_cons, List.mapM_nil, Option.bind_some, Option.pure_def, Option.bind_eq_bind, Option.map_some, reduceIte, Nat.reduceEqDiff, true_and, and_true, ownOut, ownL, ownV, scalar, List.contains_nil, List.length_nil, List.length_cons, List.nil_append, List.cons_append, storeOp, apartOf, freeze_nil, refsL, refs, List.flatMap_cons, List.flatMap_nil, List.append_nil, List.contains_nil, List.set_cons_zero, List.set_cons_succ, snap, snapL, fill_nums, flat_nums, nums_length, reduceCtorEq, Bool.false_eq_true, and_self, not_false_eq_true, beq_self_eq_true, Nat.zero_add, hE, hV]
    rfl
  · cases hw : wholeB ch t L with
    | true =>
      have hE : lisE s ch t L = 0 := by rw [lisE, if_neg (by omega), if_pos hw]
      have hV : lisV s ch t L = L.map rv := if_pos ⟨by omega, hw⟩
      rw [hw] at h100
      simp only [if_true, rowI] at h100
      simp only [c89, arrX, runes, ints, go_sem, fillAll, fillIn, shiftR, shiftV, List.take_succ_cons, List.take_zero, List.drop_succ_cons, List.drop_zero, List.append_nil, Nat.zero_add, subA5]
      refine goP h56 ?_
      simp only [go_sem, fillAll, fillIn, shiftR, shiftV, List.take_succ_cons, List.take_zero, List.drop_succ_cons, List.drop_zero, List.append_nil, Nat.zero_add, subA5, h1]
      refine goO h100 rfl rfl ?_
      simp only [go_sem, fillAll, fillIn, shiftR, shiftV, List.take_succ_cons, List.take_zero, List.drop_succ_cons, List.drop_zero, List.append_nil, Nat.zero_add, subA5]
      simp only [i89, Out, resAll, geto, ints, List.getElem?_cons_zero, List.getElem?_cons_succ, resOf, outOf, snap, snapL, ev, getE, List.mapM_cons, List.mapM_nil, Option.bind_some, Option.pure_def, Option.bind_eq_bind, Option.map_some, reduceIte, Nat.reduceEqDiff, true_and, and_true, ownOut, ownL, ownV, scalar, List.contains_nil, List.length_nil, List.length_cons, List.nil_append, List.cons_append, storeOp, apartOf, freeze_nil, refsL, refs, List.flatMap_cons, List.flatMap_nil, List.append_nil, List.contains_nil, List.set_cons_zero, List.set_cons_succ, snap, snapL, fill_nums, flat_nums, nums_length, reduceCtorEq, Bool.false_eq_true, and_self, not_false_eq_true, beq_self_eq_true, Nat.zero_add, hE, hV]
      rfl
    | false =>
      have hE : lisE s ch t L = 22 := by rw [lisE, if_neg (by omega), if_neg (by rw [hw]; simp)]
      have hV : lisV s ch t L = [] := if_neg (by rw [hw]; simp)
      rw [hw] at h100
      simp only [Bool.false_eq_true, if_false, rowI] at h100
      simp only [c89, arrX, runes, ints, go_sem, fillAll, fillIn, shiftR, shiftV, List.take_succ_cons, List.take_zero, List.drop_succ_cons, List.drop_zero, List.append_nil, Nat.zero_add, subA5]
      refine goP h56 ?_
      simp only [go_sem, fillAll, fillIn, shiftR, shiftV, List.take_succ_cons, List.take_zero, List.drop_succ_cons, List.drop_zero, List.append_nil, Nat.zero_add, subA5, h1]
      refine goO h100 rfl rfl ?_
      simp only [go_sem, fillAll, fillIn, shiftR, shiftV, List.take_succ_cons, List.take_zero, List.drop_succ_cons, List.drop_zero, List.append_nil, Nat.zero_add, subA5]
      simp only [i89, Out, resAll, geto, ints, List.getElem?_cons_zero, List.getElem?_cons_succ, resOf, outOf, snap, snapL, ev, getE, List.mapM_cons, List.mapM_nil, Option.bind_some, Option.pure_def, Option.bind_eq_bind, Option.map_some, reduceIte, Nat.reduceEqDiff, true_and, and_true, ownOut, ownL, ownV, scalar, List.contains_nil, List.length_nil, List.length_cons, List.nil_append, List.cons_append, storeOp, apartOf, freeze_nil, refsL, refs, List.flatMap_cons, List.flatMap_nil, List.append_nil, List.contains_nil, List.set_cons_zero, List.set_cons_succ, snap, snapL, fill_nums, flat_nums, nums_length, reduceCtorEq, Bool.false_eq_true, and_self, not_false_eq_true, beq_self_eq_true, Nat.zero_add, hE, hV]
      rfl
theorem c92_ok {s t : List Int} {ch : Bool} {L : List Rt} (hs : (s.length : Int) ≤ 1000000000) (ht : (t.length : Int) ≤ 1000000000000) (hl : (L.length : Int) ≤ 1000000000000) (hlk : ∀ x ∈ L, RtOk x) (hch : (ch = true → L = []) ∧ (ch = false → t = [])) :
    Go.V.Call tab E 92 [.agg (plX s ch t (L.map toNm))] [] (.tup [ints (lisV s ch t L), .int .i64 (lisE s ch t L)]) [] := by
  refine Go.V.Call.mach i92 c92 rfl rfl rfl rfl ?_
  have h103 := c103_ok (s := s) (t := t) (l := L) (ch := ch) (ok := wholeB ch t L) ht hl hlk (wholeB_iff' hch)
  simp only [plX, runes, ints] at h103
  by_cases h1 : (1 : Int) < (s.length : Int)
  · have hE : lisE s ch t L = 23 := if_pos (by omega)
    have hV : lisV s ch t L = [] := if_neg (by omega)
    simp only [c92, plX, runes, ints, go_sem, fillAll, fillIn, shiftR, shiftV, List.take_succ_cons, List.take_zero, List.drop_succ_cons, List.drop_zero, List.append_nil, Nat.zero_add, subP4a, h1]
    simp only [i92, Out, resAll, geto, ints, List.getElem?_cons_zero, List.getElem?_cons_succ, resOf, outOf, snap, snapL, ev, getE, List.mapM_cons, List.mapM_nil, Option.bind_some, Option.pure_def, Option.bind_eq_bind, Option.map_some, reduceIte, Nat.reduceEqDiff, true_and, and_true, hE, hV]
    rfl
  · cases hw : wholeB ch t L with
    | true =>
      have hE : lisE s ch t L = 0 := by rw [lisE, if_neg (by omega), if_pos hw]
      have hV : lisV s ch t L = L.map rv := if_pos ⟨by omega, hw⟩
      rw [hw] at h103
      simp only [if_true, rowI] at h103
      simp only [c92, plX, runes, ints, go_sem, fillAll, fillIn, shiftR, shiftV, List.take_succ_cons, List.take_zero, List.drop_succ_cons, List.drop_zero, List.append_nil, Nat.zero_add, subP4a, subP4, h1]
      refine goO h103 rfl rfl ?_
      simp only [go_sem, fillAll, fillIn, shiftR, shiftV, List.take_succ_cons, List.take_zero, List.drop_succ_cons, List.drop_zero, List.append_nil, Nat.zero_add]
      simp only [i92, Out, resAll, geto, ints, List.getElem?_cons_zero, List.getElem?_cons_succ, resOf, outOf, snap, snapL, ev, getE, List.mapM_cons, List.mapM_nil, Option.bind_some, Option.pure_def, Option.bind_eq_bind, Option.map_some, reduceIte, Nat.reduceEqDiff, true_and, and_true, hE, hV]
    | false =>
      have hE : lisE s ch t L = 22 := by rw [lisE, if_neg (by omega), if_neg (by rw [hw]; simp)]
      have hV : lisV s ch t L = [] := if_neg (by rw [hw]; simp)
      rw [hw] at h103
      simp only [Bool.false_eq_true, if_false, rowI] at h103
      simp only [c92, plX, runes, ints, go_sem, fillAll, fillIn, shiftR, shiftV, List.take_succ_cons, List.take_zero, List.drop_succ_cons, List.drop_zero, List.append_nil, Nat.zero_add, subP4a, subP4, h1]
      refine goO h103 rfl rfl ?_
      simp only [go_sem, fillAll, fillIn, shiftR, shiftV, List.take_succ_cons, List.take_zero, List.drop_succ_cons, List.drop_zero, List.append_nil, Nat.zero_add]
      simp only [i92, Out, resAll, geto, ints, List.getElem?_cons_zero, List.getElem?_cons_succ, resOf, outOf, snap, snapL, ev, getE, List.mapM_cons, List.mapM_nil, Option.bind_some, Option.pure_def, Option.bind_eq_bind, Option.map_some, reduceIte, Nat.reduceEqDiff, true_and, and_true, hE, hV]
      rfl
end Go.Proofs.YtlejgleocnemoaaGreat.I

namespace Go.Proofs.YtlejgleocnemoaaGreat.I
open Go Go.V
attribute [local go_sem] mNil nat0 beq_self_eq_true mSkip mRet mExit mReg mSeq mCond mTrue mFalse mBlock mLv mCodeE mCodeR mEndN mEndR mEndE mOps mSome mGuard mGtt mGff mGtf mGft mGu mCallP mCallR mCallF mCallO mCallZ mCallG mCallM mCallV loopQ_exit loopQ_ret mO_mov mO_newnil mO_pick mO_alloc mO_box mO_build mO_bsl mO_bslF mO_ldf mO_ld mO_st mO_sta mO_nilchk mO_bin mO_binb mO_binp mO_bins mO_neg mO_com mO_not mO_conv mO_mk mO_mk0 mO_s2b mO_b2s mO_cpy mO_cut mO_faddr mO_fld mO_iaddr mO_iaddrf mO_sidx mO_len mO_lenf mO_slen mO_scut mO_app mO_ext mO_mx mO_mn mO_mkfn evalOp cutOp argsE ev getE putE cellsOf adopt rowOf binV boolV nilV ar_add ar_sub ar_mul ar_quo ar_rem ar_eq ar_ne ar_lt ar_le ar_gt ar_ge ar_and ar_or ar_xor geto bound finRet finNrm ints List.length_cons List.length_nil List.length_append List.getElem?_cons_zero List.getElem?_cons_succ List.nil_append List.cons_append List.map_cons List.map_nil List.mapM_cons List.mapM_nil Option.map_some Option.map_none Option.bind_some Option.pure_def Option.bind_eq_bind List.drop_zero or_self or_false false_or or_true true_or true_and and_true and_self decide_true decide_false Bool.false_eq_true Bool.true_eq_false Bool.not_true Bool.not_false Nat.le_refl eq_self gt_iff_lt ge_iff_le ne_eq not_true_eq_false not_false_eq_true storeOp apartOf freeze_nil refsL refs List.flatMap_cons List.flatMap_nil List.append_nil List.contains_nil List.set_cons_zero List.set_cons_succ snap snapL fill_nums flat_nums nums_length Go.V.freeze List.mapIdx_cons List.mapIdx_nil List.contains_cons Bool.or_false Bool.false_or Bool.or_true Bool.true_or
theorem fits_of {s : List Int} {n : Nat} (h : count s = some (n : Int)) : fits s n = true := by rw [fits, h]; simp
theorem fill_row {ks : List Int} {i n : Nat} (hn : ks.length = n) (hi : i < n) : (ks.take i ++ List.replicate (n - i) 0).take i ++ ks.getD i 0 :: (ks.take i ++ List.replicate (n - i) 0).drop (i + 1) = ks.take (i + 1) ++ List.replicate (n - (i + 1)) 0 := by
  have h1 : (ks.take i).length = i := by rw [List.length_take]; omega
  rw [List.take_left' h1, List.drop_append, h1, List.drop_eq_nil_of_le (by omega), List.nil_append, List.drop_replicate, take_snoc (by omega), List.append_assoc]
  rw [show n - i - (i + 1 - i) = n - (i + 1) by omega]
  rfl
theorem row_len {ks : List Int} {i n : Nat} (hn : ks.length = n) (hi : i ≤ n) : (ks.take i ++ List.replicate (n - i) 0).length = n := by
  rw [List.length_append, List.length_take, List.length_replicate]; omega
def outA (e : Int) (s ks : List Int) (ch : Bool) (t : List Int) (L : List Rt) : List AV := if e = 0 then arrX s ch (picksT ch t ks) (picksR ch L ks) else noA
def outP (e : Int) (s ks : List Int) (ch : Bool) (t : List Int) (l : List Nm) : List AV := if e = 0 then plX s ch (picksT ch t ks) (picksN ch l ks) else noP
def negB (w : List Int) : Bool := w.any fun d => decide (d < 0)
def resE (e0 : Int) (w : List Int) : Int := if e0 ≠ 0 then e0 else if negB w = true then 22 else match count w with | none => if 8 < w.length then 23 else 26 | some _ => 0
def cyc (w : List Int) (len : Nat) : List Int := (List.range (prd w).toNat).map fun i => if len = 0 then (-1 : Int) else ((i % len : Nat) : Int)
theorem shows_out {e : Int} {s' ks t : List Int} {ch : Bool} {l : List Nm} (hR : ∀ x ∈ l, RightN x.1 x.2.1 x.2.2) (hs : e = 0 → (s'.length : Int) ≤ 1000000000 ∧ (ks.length : Int) ≤ 1000000000) :
    Go.V.Call tab E 35 [.agg (outA e s' ks ch t (l.map toRt)), .int .i64 e, .agg (outP e s' ks ch t l), .int .i64 e] [] (.bool true) [] := by
  by_cases he : e = 0
  · subst he
    obtain ⟨hs, hk⟩ := hs rfl
    have h := c35_yes (s := s') (t := picksT ch t ks) (ch := ch) (L := picksR ch (l.map toRt) ks) hs (by have := (picks_len (ch := ch) (t := t) (ks := ks) (l := l)).1; omega)
      (by have := picksR_len (ch := ch) (ks := ks) (l := l.map toRt); omega) (pick_ok hR)
    rw [picks_nm hR] at h
    simp only [outA, outP, if_true]
    exact h
  · simp only [outA, outP, he, if_false]
    exact c35_err he
theorem c26_ok : Go.V.Call tab E 26 [] [] (.bool true) [] := Go.V.Call.run (ext := ext) (fun h => h) (fuel := 400) (n := 40) (by kernel_rfl)
end Go.Proofs.YtlejgleocnemoaaGreat.I

namespace Go.Proofs.YtlejgleocnemoaaGreat.I
open Go Go.V
theorem set_get {y : List Int} {m : Nat} {v : Int} (h : m < y.length) : (y.take m ++ v :: y.drop (m + 1)).getD m 0 = v := by
  simp [List.getD, List.getElem?_append, Nat.min_eq_left (Nat.le_of_lt h)]
theorem set_set {y : List Int} {m : Nat} {v u : Int} (h : m < y.length) : (y.take m ++ v :: y.drop (m + 1)).take m ++ u :: (y.take m ++ v :: y.drop (m + 1)).drop (m + 1) = y.take m ++ u :: y.drop (m + 1) := by
  have e1 : (y.take m).length = m := by simp; omega
  rw [List.take_append_of_le_length (by omega), List.take_take, Nat.min_self, List.drop_append, e1, List.drop_eq_nil_of_le (by omega)]
  simp [show m + 1 - m = 1 by omega]
theorem set_len {y : List Int} {m : Nat} {v : Int} (h : m < y.length) : (y.take m ++ v :: y.drop (m + 1)).length = y.length := by
  simp; omega
theorem ix_zero2 : ∀ {s : List Int}, (ix s 0).2 = 0
  | [] => rfl
  | d :: ds => by rw [ix, ix_zero2, Int.zero_ediv]
theorem ix_zero : ∀ {s : List Int}, List.replicate s.length 0 = (ix s ((0 : Nat) : Int)).1
  | [] => rfl
  | d :: ds => by
    have := ix_zero (s := ds)
    simp only [Int.ofNat_eq_natCast, Int.natCast_zero] at this ⊢
    rw [ix, ix_zero2, List.length_cons, List.replicate_succ, this, Int.zero_emod]
theorem ix_range : ∀ {s : List Int} {a : Int} {m : Nat}, 0 ≤ a → (∀ d ∈ s, 1 ≤ d) → m < s.length → 0 ≤ (ix s a).1.getD m 0 ∧ (ix s a).1.getD m 0 < s.getD m 0
  | [], a, m, _, _, hm => by simp at hm
  | d :: ds, a, 0, ha, h, _ => by
    have hd := h d (by simp)
    simp only [ix, List.getD_cons_zero]
    exact ⟨Int.emod_nonneg _ (by omega), Int.emod_lt_of_pos _ (by omega)⟩
  | d :: ds, a, m + 1, ha, h, hm => by
    simp only [ix, List.getD_cons_succ]
    exact ix_range ha (fun x hx => h x (by simp [hx])) (by simpa using hm)
theorem goFn {C : CallRel} {Q : X → St → Prop} {f : Nat} {caps as1 bs : List AV} {d : Option Nat} {os : List IOp} {k : List Go.V.Item} {s : St} {r : AV} (hcaps : caps.mapM (fun c => snap s.mem 10 c) = some bs) (h : C f (as1 ++ bs) [] r []) (hs : scalars r = true)
    (hk : Mach C Q (.ops os :: k) .nrm ⟨putE s.env d r, s.mem⟩) : MachF C Q (.fn f caps) (some as1) d os k s := by
  simp only [MachF, hcaps, Option.map_some]
  exact goV h hs hk
section
variable {E : CallRel}
theorem c141_ok {s : List Int} {f : Nat} {caps : List AV} {n : Nat} {v : Nat → Int} (hc : count s = some (n : Int)) (hcaps : ∀ mem, caps.mapM (fun c => snap mem 10 c) = some caps) (hu : underL 3 caps = true)
    (hf : ∀ i : Nat, i < n → Go.V.Call tab E f (ints (ix s i).1 :: caps) [] (.int .i64 (v i)) []) : Go.V.Call tab E 141 [ints s, .fn f caps] [] (ints ((List.range n).map v)) [] := by
  obtain ⟨hl8, hd4, hpr⟩ := count_bound hc
  have hn := count_prd hc
  have hn4 : (n : Int) ≤ 4096 := by rw [hn]; have := (hpr s.length).2; rwa [List.take_length] at this
  refine Go.V.Call.mach i141 c141 rfl rfl rfl rfl ?_
  simp only [c141, mNil, nat0, beq_self_eq_true, mSkip, mRet, mExit, mReg, mSeq, mCond, mTrue, mFalse, mBlock, mLv, mCodeE, mCodeR, mEndN, mEndR, mEndE, mOps, mSome, mGuard, mGtt, mGff, mGtf, mGft, mGu, mCallP, mCallR, mCallF, mCallO, mCallZ, mCallG, mCallM, mCallV, loopQ_exit, loopQ_ret, mO_mov, mO_newnil, mO_pick, mO_alloc, mO_box, mO_build, mO_bsl, mO_bslF, mO_ldf, mO_ld, mO_st, mO_sta, mO_nilchk, mO_bin, mO_binb, mO_binp, mO_bins, mO_neg, mO_com, mO_not, mO_conv, mO_mk, mO_mk0, mO_s2b, mO_b2s, mO_cpy, mO_cut, mO_faddr, mO_fld, mO_iaddr, mO_iaddrf, mO_sidx, mO_len, mO_lenf, mO_slen, mO_scut, mO_app, mO_ext, mO_mx, mO_mn, mO_mkfn, evalOp, cutOp, argsE, ev, getE, putE, cellsOf, adopt, rowOf, binV, boolV, nilV, ar_add, ar_sub, ar_mul, ar_quo, ar_rem, ar_eq, ar_ne, ar_lt, ar_le, ar_gt, ar_ge, ar_and, ar_or, ar_xor, geto, bound, finRet, finNrm, ints, List.length_cons, List.length_nil, List.length_append, List.getElem?_cons_zero, List.getElem?_cons_succ, List.nil_append, List.cons_append, List.map_cons, List.map_nil, List.mapM_cons, List.mapM_nil, Option.map_some, Option.map_none, Option.bind_some, Option.pure_def, Option.bind_eq_bind, List.drop_zero, ↓reduceIte, Nat.reduceEqDiff, Nat.reduceAdd, Nat.reduceMul, Nat.reduceLeDiff, Nat.reduceLT, Int.reduceToNat, Int.reduceLT, Int.reduceLE, reduceCtorEq, or_self, or_false, false_or, or_true, true_or, true_and, and_true, and_self, decide_true, decide_false, Bool.false_eq_true, Bool.true_eq_false, Bool.not_true, Bool.not_false, Nat.le_refl, eq_self, gt_iff_lt, ge_iff_le, ne_eq, not_true_eq_false, not_false_eq_true, snap]
  refine goP (c90_ok (fun d hd => ⟨by have := hd4 d hd; omega, by have := hd4 d hd; omega⟩) (by omega)) ?_
  have h1 : (0 : Int) ≤ (n : Int) := by omega
  have h2 : 8 * n ≤ 140737488355328 := by omega
  have h3 : (n : Int) ≤ 140737488355328 := by omega
  have h4 : (0 : Int) ≤ (s.length : Int) := by omega
  have h5 : 8 * s.length ≤ 140737488355328 := by omega
  have h6 : (s.length : Int) ≤ 140737488355328 := by omega
  have hw : IntKind.i64.wrap ((s.length : Int) - 1) = (s.length : Int) - 1 := wrap_i64 (by omega) (by omega)
  simp only [hc, optP, mNil, nat0, beq_self_eq_true, mSkip, mRet, mExit, mReg, mSeq, mCond, mTrue, mFalse, mBlock, mLv, mCodeE, mCodeR, mEndN, mEndR, mEndE, mOps, mSome, mGuard, mGtt, mGff, mGtf, mGft, mGu, mCallP, mCallR, mCallF, mCallO, mCallZ, mCallG, mCallM, mCallV, loopQ_exit, loopQ_ret, mO_mov, mO_newnil, mO_pick, mO_alloc, mO_box, mO_build, mO_bsl, mO_bslF, mO_ldf, mO_ld, mO_st, mO_sta, mO_nilchk, mO_bin, mO_binb, mO_binp, mO_bins, mO_neg, mO_com, mO_not, mO_conv, mO_mk, mO_mk0, mO_s2b, mO_b2s, mO_cpy, mO_cut, mO_faddr, mO_fld, mO_iaddr, mO_iaddrf, mO_sidx, mO_len, mO_lenf, mO_slen, mO_scut, mO_app, mO_ext, mO_mx, mO_mn, mO_mkfn, evalOp, cutOp, argsE, ev, getE, putE, cellsOf, adopt, rowOf, binV, boolV, nilV, ar_add, ar_sub, ar_mul, ar_quo, ar_rem, ar_eq, ar_ne, ar_lt, ar_le, ar_gt, ar_ge, ar_and, ar_or, ar_xor, geto, bound, finRet, finNrm, ints, List.length_cons, List.length_nil, List.length_append, List.getElem?_cons_zero, List.getElem?_cons_succ, List.nil_append, List.cons_append, List.map_cons, List.map_nil, List.mapM_cons, List.mapM_nil, Option.map_some, Option.map_none, Option.bind_some, Option.pure_def, Option.bind_eq_bind, List.drop_zero, ↓reduceIte, Nat.reduceEqDiff, Nat.reduceAdd, Nat.reduceMul, Nat.reduceLeDiff, Nat.reduceLT, Int.reduceToNat, Int.reduceLT, Int.reduceLE, reduceCtorEq, or_self, or_false, false_or, or_true, true_or, true_and, and_true, and_self, decide_true, decide_false, Bool.false_eq_true, Bool.true_eq_false, Bool.not_true, Bool.not_false, Nat.le_refl, eq_self, gt_iff_lt, ge_iff_le, ne_eq, not_true_eq_false, not_false_eq_true, Int.toNat_natCast, h1, h2, h3, h4, h5, h6, flat_nums]
  have hpos : n ≠ 0 → ∀ d ∈ s, 1 ≤ d := fun h => count_pos hc (by omega)
  refine mLoop (fun N st => ∃ (i : Nat) (x : List Int), i ≤ n ∧ N = n - i ∧ x.length = s.length ∧ (i < n → x = (ix s i).1) ∧
    st = ⟨[(0, ints s), (1, .fn f caps), (7, .arr 1 0), (8, .arr 2 0), (24, .int .i64 n), (25, .int .i64 i)],
      [⟨false, 3, 1, 0, 0, [], false⟩, ⟨false, 3, 1, 0, n, nums .i64 ((List.range i).map v ++ List.replicate (n - i) 0), false⟩, ⟨false, 3, 1, 0, s.length, nums .i64 x, false⟩]⟩) n
    ⟨_, by simp only [headOf]; exact (if_pos (by simp [under, underL, hu, getE])).trans rfl, 0, List.replicate s.length 0, by omega, by omega, by simp, fun hi => ix_zero, by simp [ints, getE]⟩ ?_
  rintro N s0 ⟨i, x, hi, rfl, hxl, hx, rfl⟩
  by_cases hlt : i < n
  · have hlt' : (i : Int) < (n : Int) := by omega
    have hi0 : (0 : Int) ≤ (i : Int) := by omega
    have hi1 : IntKind.i64.wrap ((i : Int) + 1) = ((i + 1 : Nat) : Int) := by rw [wrap_i64 (by omega) (by omega)]; omega
    have hx := hx hlt
    have hcall := hf i hlt
    rw [← hx, ints, hxl] at hcall
    simp only [b141_0, mNil, nat0, beq_self_eq_true, mSkip, mRet, mExit, mReg, mSeq, mCond, mTrue, mFalse, mBlock, mLv, mCodeE, mCodeR, mEndN, mEndR, mEndE, mOps, mSome, mGuard, mGtt, mGff, mGtf, mGft, mGu, mCallP, mCallR, mCallF, mCallO, mCallZ, mCallG, mCallM, mCallV, loopQ_exit, loopQ_ret, mO_mov, mO_newnil, mO_pick, mO_alloc, mO_box, mO_build, mO_bsl, mO_bslF, mO_ldf, mO_ld, mO_st, mO_sta, mO_nilchk, mO_bin, mO_binb, mO_binp, mO_bins, mO_neg, mO_com, mO_not, mO_conv, mO_mk, mO_mk0, mO_s2b, mO_b2s, mO_cpy, mO_cut, mO_faddr, mO_fld, mO_iaddr, mO_iaddrf, mO_sidx, mO_len, mO_lenf, mO_slen, mO_scut, mO_app, mO_ext, mO_mx, mO_mn, mO_mkfn, evalOp, cutOp, argsE, ev, getE, putE, cellsOf, adopt, rowOf, binV, boolV, nilV, ar_add, ar_sub, ar_mul, ar_quo, ar_rem, ar_eq, ar_ne, ar_lt, ar_le, ar_gt, ar_ge, ar_and, ar_or, ar_xor, geto, bound, finRet, finNrm, ints, List.length_cons, List.length_nil, List.length_append, List.getElem?_cons_zero, List.getElem?_cons_succ, List.nil_append, List.cons_append, List.map_cons, List.map_nil, List.mapM_cons, List.mapM_nil, Option.map_some, Option.map_none, Option.bind_some, Option.pure_def, Option.bind_eq_bind, List.drop_zero, ↓reduceIte, Nat.reduceEqDiff, Nat.reduceAdd, Nat.reduceMul, Nat.reduceLeDiff, Nat.reduceLT, Int.reduceToNat, Int.reduceLT, Int.reduceLE, reduceCtorEq, or_self, or_false, false_or, or_true, true_or, true_and, and_true, and_self, decide_true, decide_false, Bool.false_eq_true, Bool.true_eq_false, Bool.not_true, Bool.not_false, Nat.le_refl, eq_self, gt_iff_lt, ge_iff_le, ne_eq, not_true_eq_false, not_false_eq_true, storeOp, apartOf, freeze_nil, refsL, refs, List.flatMap_cons, List.flatMap_nil, List.append_nil, List.contains_nil, List.set_cons_zero, List.set_cons_succ, snap, snapL, fill_nums, flat_nums, nums_length, hlt']
    refine goFn (hcaps _) hcall rfl ?_
    have hst : i * 1 + 1 ≤ ((List.range i).map v).length + (List.replicate (n - i) (0 : Int)).length := by simp; omega
    simp only [mNil, nat0, beq_self_eq_true, mSkip, mRet, mExit, mReg, mSeq, mCond, mTrue, mFalse, mBlock, mLv, mCodeE, mCodeR, mEndN, mEndR, mEndE, mOps, mSome, mGuard, mGtt, mGff, mGtf, mGft, mGu, mCallP, mCallR, mCallF, mCallO, mCallZ, mCallG, mCallM, mCallV, loopQ_exit, loopQ_ret, mO_mov, mO_newnil, mO_pick, mO_alloc, mO_box, mO_build, mO_bsl, mO_bslF, mO_ldf, mO_ld, mO_st, mO_sta, mO_nilchk, mO_bin, mO_binb, mO_binp, mO_bins, mO_neg, mO_com, mO_not, mO_conv, mO_mk, mO_mk0, mO_s2b, mO_b2s, mO_cpy, mO_cut, mO_faddr, mO_fld, mO_iaddr, mO_iaddrf, mO_sidx, mO_len, mO_lenf, mO_slen, mO_scut, mO_app, mO_ext, mO_mx, mO_mn, mO_mkfn, evalOp, cutOp, argsE, ev, getE, putE, cellsOf, adopt, rowOf, binV, boolV, nilV, ar_add, ar_sub, ar_mul, ar_quo, ar_rem, ar_eq, ar_ne, ar_lt, ar_le, ar_gt, ar_ge, ar_and, ar_or, ar_xor, geto, bound, finRet, finNrm, ints, List.length_cons, List.length_nil, List.length_append, List.getElem?_cons_zero, List.getElem?_cons_succ, List.nil_append, List.cons_append, List.map_cons, List.map_nil, List.mapM_cons, List.mapM_nil, Option.map_some, Option.map_none, Option.bind_some, Option.pure_def, Option.bind_eq_bind, List.drop_zero, ↓reduceIte, Nat.reduceEqDiff, Nat.reduceAdd, Nat.reduceMul, Nat.reduceLeDiff, Nat.reduceLT, Int.reduceToNat, Int.reduceLT, Int.reduceLE, reduceCtorEq, or_self, or_false, false_or, or_true, true_or, true_and, and_true, and_self, decide_true, decide_false, Bool.false_eq_true, Bool.true_eq_false, Bool.not_true, Bool.not_false, Nat.le_refl, eq_self, gt_iff_lt, ge_iff_le, ne_eq, not_true_eq_false, not_false_eq_true, storeOp, apartOf, freeze_nil, refsL, refs, List.flatMap_cons, List.flatMap_nil, List.append_nil, List.contains_nil, List.set_cons_zero, List.set_cons_succ, snap, snapL, fill_nums, flat_nums, nums_length, hlt', hi0, Int.toNat_natCast, hst, hw]
    have hout : (List.take i ((List.range i).map v ++ List.replicate (n - i) 0) ++ v i :: List.drop (i + 1) ((List.range i).map v ++ List.replicate (n - i) 0)) = (List.range (i + 1)).map v ++ List.replicate (n - (i + 1)) 0 := by
      rw [List.take_left' (by simp), List.drop_append, List.drop_eq_nil_of_le (by simp), List.range_succ]
      simp
      omega
    rw [hout]
    have hlens : s.length = x.length := hxl.symm
    have hback : ∀ x' : List Int, (inc s x).1 = x' → x'.length = s.length ∧ (i + 1 < n → x' = (ix s ((i + 1 : Nat) : Int)).1) := fun x' hx' => by
      refine ⟨by rw [← hx', inc_len hlens, hxl], fun h => ?_⟩
      rw [← hx', hx]
      have := (inc_ix (s := s) (a := (i : Int)) (by omega) (hpos (by omega))).1
      rw [this]
      rfl
    have hhead : ∀ x' : List Int, (inc s x).1 = x' → headOf [0, 1, 7, 8, 24, 25] (some (3, [])) ⟨[(25, .int .i64 ((i + 1 : Nat) : Int)), (59, .int .i64 ((i + 1 : Nat) : Int)), (0, .sl s.length 1 (nums .i64 s)), (1, .fn f caps), (7, .arr 1 0), (8, .arr 2 0), (24, .int .i64 n), (25, .int .i64 i)], [⟨false, 3, 1, 0, 0, [], false⟩, ⟨false, 3, 1, 0, n, nums .i64 ((List.range (i + 1)).map v ++ List.replicate (n - (i + 1)) 0), false⟩, ⟨false, 3, 1, 0, s.length, nums .i64 x', false⟩]⟩ = some ⟨[(0, .sl s.length 1 (nums .i64 s)), (1, .fn f caps), (7, .arr 1 0), (8, .arr 2 0), (24, .int .i64 n), (25, .int .i64 ((i + 1 : Nat) : Int))],
        [⟨false, 3, 1, 0, 0, [], false⟩, ⟨false, 3, 1, 0, n, nums .i64 ((List.range (i + 1)).map v ++ List.replicate (n - (i + 1)) 0), false⟩, ⟨false, 3, 1, 0, s.length, nums .i64 x', false⟩]⟩ := fun x' _ => by
      simp only [headOf]
      exact (if_pos (by simp [under, underL, hu, getE])).trans rfl
    refine mLoop (fun N st => ∃ (j : Nat) (t : List Int) (jj : Int), j ≤ s.length ∧ N = j ∧ jj = (j : Int) - 1 ∧ inc (s.drop j) (x.drop j) = (t, true) ∧
      st = ⟨[(0, ints s), (1, .fn f caps), (7, .arr 1 0), (8, .arr 2 0), (10, .int .i64 jj), (24, .int .i64 n), (25, .int .i64 i)],
        [⟨false, 3, 1, 0, 0, [], false⟩, ⟨false, 3, 1, 0, n, nums .i64 ((List.range (i + 1)).map v ++ List.replicate (n - (i + 1)) 0), false⟩, ⟨false, 3, 1, 0, s.length, nums .i64 (x.take j ++ t), false⟩]⟩) s.length
      ⟨_, by simp only [headOf]; exact (if_pos (by simp [under, underL, hu, getE])).trans rfl, s.length, [], _, by omega, rfl, rfl, by rw [List.drop_length, List.drop_eq_nil_of_le (by omega), inc]; simp, by
        have : x.take s.length ++ [] = x := by rw [List.append_nil, List.take_of_length_le (by omega)]
        rw [this]
        rfl⟩ ?_
    rintro N s0 ⟨j, t, jj, hj, rfl, hjj, hinc, rfl⟩
    cases N with
    | zero =>
      have hj' : ¬ 0 ≤ jj := by omega
      rw [List.drop_zero, List.drop_zero] at hinc
      have hh : (inc s x).1 = t := by rw [hinc]
      simp only [b141_1, k141_0, mNil, nat0, beq_self_eq_true, mSkip, mRet, mExit, mReg, mSeq, mCond, mTrue, mFalse, mBlock, mLv, mCodeE, mCodeR, mEndN, mEndR, mEndE, mOps, mSome, mGuard, mGtt, mGff, mGtf, mGft, mGu, mCallP, mCallR, mCallF, mCallO, mCallZ, mCallG, mCallM, mCallV, loopQ_exit, loopQ_ret, mO_mov, mO_newnil, mO_pick, mO_alloc, mO_box, mO_build, mO_bsl, mO_bslF, mO_ldf, mO_ld, mO_st, mO_sta, mO_nilchk, mO_bin, mO_binb, mO_binp, mO_bins, mO_neg, mO_com, mO_not, mO_conv, mO_mk, mO_mk0, mO_s2b, mO_b2s, mO_cpy, mO_cut, mO_faddr, mO_fld, mO_iaddr, mO_iaddrf, mO_sidx, mO_len, mO_lenf, mO_slen, mO_scut, mO_app, mO_ext, mO_mx, mO_mn, mO_mkfn, evalOp, cutOp, argsE, ev, getE, putE, cellsOf, adopt, rowOf, binV, boolV, nilV, ar_add, ar_sub, ar_mul, ar_quo, ar_rem, ar_eq, ar_ne, ar_lt, ar_le, ar_gt, ar_ge, ar_and, ar_or, ar_xor, geto, bound, finRet, finNrm, ints, List.length_cons, List.length_nil, List.length_append, List.getElem?_cons_zero, List.getElem?_cons_succ, List.nil_append, List.cons_append, List.map_cons, List.map_nil, List.mapM_cons, List.mapM_nil, Option.map_some, Option.map_none, Option.bind_some, Option.pure_def, Option.bind_eq_bind, List.drop_zero, ↓reduceIte, Nat.reduceEqDiff, Nat.reduceAdd, Nat.reduceMul, Nat.reduceLeDiff, Nat.reduceLT, Int.reduceToNat, Int.reduceLT, Int.reduceLE, reduceCtorEq, or_self, or_false, false_or, or_true, true_or, true_and, and_true, and_self, decide_true, decide_false, Bool.false_eq_true, Bool.true_eq_false, Bool.not_true, Bool.not_false, Nat.le_refl, eq_self, gt_iff_lt, ge_iff_le, ne_eq, not_true_eq_false, not_false_eq_true, hj', hi1, List.take_zero]
      exact loopQ_go (hhead t hh) (n - (i + 1)) (by omega) ⟨i + 1, t, by omega, rfl, (hback t hh).1, (hback t hh).2, rfl⟩
    | succ m =>
      obtain rfl : jj = (m : Int) := by omega
      have hm : m < s.length := by omega
      have hm' : (m : Int) < (s.length : Int) := by omega
      have hm0 : (0 : Int) ≤ (m : Int) := by omega
      have hm1 : IntKind.i64.wrap ((m : Int) - 1) = (m : Int) - 1 := wrap_i64 (by omega) (by omega)
      have hsub := sub_nums (k := .i64) hm
      have hmx : m < x.length := by omega
      have htl : t.length = s.length - (m + 1) := by
        have := inc_len (s := s.drop (m + 1)) (x := x.drop (m + 1)) (by simp [hxl])
        rw [hinc] at this
        simpa [hxl] using this
      generalize hy : x.take (m + 1) ++ t = y at *
      have hyl : y.length = s.length := by rw [← hy]; simp; omega
      have hmy : m < y.length := by omega
      have hsuby := sub_nums (k := .i64) hmy
      have hyd : y.getD m 0 = x.getD m 0 := by
        rw [← hy]
        simp only [List.getD]
        rw [List.getElem?_append_left (by simp; omega), List.getElem?_take, if_pos (by omega)]
      have hy1 : y.take m = x.take m := by
        rw [← hy, List.take_append_of_le_length (by simp; omega), List.take_take, Nat.min_eq_left (by omega)]
      have hy2 : y.drop (m + 1) = t := by
        have e1 : (x.take (m + 1)).length = m + 1 := by simp; omega
        rw [← hy, List.drop_append, List.drop_eq_nil_of_le (by omega), e1]
        simp
      have hincm : inc (s.drop m) (x.drop m) = if x.getD m 0 + 1 < s.getD m 0 then ((x.getD m 0 + 1) :: t, false) else (0 :: t, true) := by
        rw [getD_drop hm, getD_drop hmx, inc, hinc, if_pos rfl]
      have hd := hd4 (s.getD m 0) (by simp [List.getD, hm])
      have hxm : 0 ≤ x.getD m 0 ∧ x.getD m 0 < s.getD m 0 := by
        rw [hx]
        exact ix_range (by omega) (hpos (by omega)) hm
      have hst := (show m * 1 + 1 ≤ y.length by omega)
      have hwx : IntKind.i64.wrap (x.getD m 0 + 1) = x.getD m 0 + 1 := wrap_i64 (by omega) (by omega)
      have hsub2 := sub_nums (k := .i64) (l := y.take m ++ (x.getD m 0 + 1) :: y.drop (m + 1)) (i := m) (by rw [set_len hmy]; exact hmy)
      rw [set_get hmy] at hsub2
      have hst2 : m * 1 + 1 ≤ (y.take m).length + ((y.drop (m + 1)).length + 1) := by simp; omega
      rw [hyd] at hsuby
      generalize hX : x.getD m 0 = X at *
      generalize hD : s.getD m 0 = D at *
      by_cases hlt2 : X + 1 < D
      · rw [if_pos hlt2] at hincm
        have hh : (inc s x).1 = y.take m ++ (X + 1) :: y.drop (m + 1) := by rw [inc_drop hlens (by omega) hincm, hy1, hy2]
        simp only [b141_1, k141_0, mNil, nat0, beq_self_eq_true, mSkip, mRet, mExit, mReg, mSeq, mCond, mTrue, mFalse, mBlock, mLv, mCodeE, mCodeR, mEndN, mEndR, mEndE, mOps, mSome, mGuard, mGtt, mGff, mGtf, mGft, mGu, mCallP, mCallR, mCallF, mCallO, mCallZ, mCallG, mCallM, mCallV, loopQ_exit, loopQ_ret, mO_mov, mO_newnil, mO_pick, mO_alloc, mO_box, mO_build, mO_bsl, mO_bslF, mO_ldf, mO_ld, mO_st, mO_sta, mO_nilchk, mO_bin, mO_binb, mO_binp, mO_bins, mO_neg, mO_com, mO_not, mO_conv, mO_mk, mO_mk0, mO_s2b, mO_b2s, mO_cpy, mO_cut, mO_faddr, mO_fld, mO_iaddr, mO_iaddrf, mO_sidx, mO_len, mO_lenf, mO_slen, mO_scut, mO_app, mO_ext, mO_mx, mO_mn, mO_mkfn, evalOp, cutOp, argsE, ev, getE, putE, cellsOf, adopt, rowOf, binV, boolV, nilV, ar_add, ar_sub, ar_mul, ar_quo, ar_rem, ar_eq, ar_ne, ar_lt, ar_le, ar_gt, ar_ge, ar_and, ar_or, ar_xor, geto, bound, finRet, finNrm, ints, List.length_cons, List.length_nil, List.length_append, List.getElem?_cons_zero, List.getElem?_cons_succ, List.nil_append, List.cons_append, List.map_cons, List.map_nil, List.mapM_cons, List.mapM_nil, Option.map_some, Option.map_none, Option.bind_some, Option.pure_def, Option.bind_eq_bind, List.drop_zero, ↓reduceIte, Nat.reduceEqDiff, Nat.reduceAdd, Nat.reduceMul, Nat.reduceLeDiff, Nat.reduceLT, Int.reduceToNat, Int.reduceLT, Int.reduceLE, reduceCtorEq, or_self, or_false, false_or, or_true, true_or, true_and, and_true, and_self, decide_true, decide_false, Bool.false_eq_true, Bool.true_eq_false, Bool.not_true, Bool.not_false, Nat.le_refl, eq_self, gt_iff_lt, ge_iff_le, ne_eq, not_true_eq_false, not_false_eq_true, storeOp, apartOf, freeze_nil, refsL, refs, List.flatMap_cons, List.flatMap_nil, List.append_nil, List.contains_nil, List.set_cons_zero, List.set_cons_succ, snap, snapL, fill_nums, flat_nums, nums_length, hm0, hm', Int.toNat_natCast, hsub, hsuby, hst, hwx, hsub2, hlt2, hi1]
        exact loopQ_go (hhead _ hh) (n - (i + 1)) (by omega) ⟨i + 1, _, by omega, rfl, (hback _ hh).1, (hback _ hh).2, rfl⟩
      · rw [if_neg hlt2] at hincm
        simp only [b141_1, k141_0, mNil, nat0, beq_self_eq_true, mSkip, mRet, mExit, mReg, mSeq, mCond, mTrue, mFalse, mBlock, mLv, mCodeE, mCodeR, mEndN, mEndR, mEndE, mOps, mSome, mGuard, mGtt, mGff, mGtf, mGft, mGu, mCallP, mCallR, mCallF, mCallO, mCallZ, mCallG, mCallM, mCallV, loopQ_exit, loopQ_ret, mO_mov, mO_newnil, mO_pick, mO_alloc, mO_box, mO_build, mO_bsl, mO_bslF, mO_ldf, mO_ld, mO_st, mO_sta, mO_nilchk, mO_bin, mO_binb, mO_binp, mO_bins, mO_neg, mO_com, mO_not, mO_conv, mO_mk, mO_mk0, mO_s2b, mO_b2s, mO_cpy, mO_cut, mO_faddr, mO_fld, mO_iaddr, mO_iaddrf, mO_sidx, mO_len, mO_lenf, mO_slen, mO_scut, mO_app, mO_ext, mO_mx, mO_mn, mO_mkfn, evalOp, cutOp, argsE, ev, getE, putE, cellsOf, adopt, rowOf, binV, boolV, nilV, ar_add, ar_sub, ar_mul, ar_quo, ar_rem, ar_eq, ar_ne, ar_lt, ar_le, ar_gt, ar_ge, ar_and, ar_or, ar_xor, geto, bound, finRet, finNrm, ints, List.length_cons, List.length_nil, List.length_append, List.getElem?_cons_zero, List.getElem?_cons_succ, List.nil_append, List.cons_append, List.map_cons, List.map_nil, List.mapM_cons, List.mapM_nil, Option.map_some, Option.map_none, Option.bind_some, Option.pure_def, Option.bind_eq_bind, List.drop_zero, ↓reduceIte, Nat.reduceEqDiff, Nat.reduceAdd, Nat.reduceMul, Nat.reduceLeDiff, Nat.reduceLT, Int.reduceToNat, Int.reduceLT, Int.reduceLE, reduceCtorEq, or_self, or_false, false_or, or_true, true_or, true_and, and_true, and_self, decide_true, decide_false, Bool.false_eq_true, Bool.true_eq_false, Bool.not_true, Bool.not_false, Nat.le_refl, eq_self, gt_iff_lt, ge_iff_le, ne_eq, not_true_eq_false, not_false_eq_true, storeOp, apartOf, freeze_nil, refsL, refs, List.flatMap_cons, List.flatMap_nil, List.append_nil, List.contains_nil, List.set_cons_zero, List.set_cons_succ, snap, snapL, fill_nums, flat_nums, nums_length, hm0, hm', Int.toNat_natCast, hsub, hsuby, hst, hst2, hwx, hsub2, hlt2, hm1, set_set hmy]
        refine loopQ_go (s2 := ⟨[(0, ints s), (1, .fn f caps), (7, .arr 1 0), (8, .arr 2 0), (10, .int .i64 ((m : Int) - 1)), (24, .int .i64 n), (25, .int .i64 i)],
          [⟨false, 3, 1, 0, 0, [], false⟩, ⟨false, 3, 1, 0, n, nums .i64 ((List.range (i + 1)).map v ++ List.replicate (n - (i + 1)) 0), false⟩, ⟨false, 3, 1, 0, s.length, nums .i64 (y.take m ++ 0 :: y.drop (m + 1)), false⟩]⟩) ?_ m (by omega) ⟨m, 0 :: t, _, by omega, rfl, rfl, hincm, ?_⟩
        · simp only [headOf]
          exact (if_pos (by simp [under, underL, hu, getE])).trans rfl
        · rw [← hy1, ← hy2]
          rfl
  · have hlt' : ¬ (i : Int) < (n : Int) := by omega
    obtain rfl : i = n := by omega
    simp only [b141_0, k141_1, mNil, nat0, beq_self_eq_true, mSkip, mRet, mExit, mReg, mSeq, mCond, mTrue, mFalse, mBlock, mLv, mCodeE, mCodeR, mEndN, mEndR, mEndE, mOps, mSome, mGuard, mGtt, mGff, mGtf, mGft, mGu, mCallP, mCallR, mCallF, mCallO, mCallZ, mCallG, mCallM, mCallV, loopQ_exit, loopQ_ret, mO_mov, mO_newnil, mO_pick, mO_alloc, mO_box, mO_build, mO_bsl, mO_bslF, mO_ldf, mO_ld, mO_st, mO_sta, mO_nilchk, mO_bin, mO_binb, mO_binp, mO_bins, mO_neg, mO_com, mO_not, mO_conv, mO_mk, mO_mk0, mO_s2b, mO_b2s, mO_cpy, mO_cut, mO_faddr, mO_fld, mO_iaddr, mO_iaddrf, mO_sidx, mO_len, mO_lenf, mO_slen, mO_scut, mO_app, mO_ext, mO_mx, mO_mn, mO_mkfn, evalOp, cutOp, argsE, ev, getE, putE, cellsOf, adopt, rowOf, binV, boolV, nilV, ar_add, ar_sub, ar_mul, ar_quo, ar_rem, ar_eq, ar_ne, ar_lt, ar_le, ar_gt, ar_ge, ar_and, ar_or, ar_xor, geto, bound, finRet, finNrm, ints, List.length_cons, List.length_nil, List.length_append, List.getElem?_cons_zero, List.getElem?_cons_succ, List.nil_append, List.cons_append, List.map_cons, List.map_nil, List.mapM_cons, List.mapM_nil, Option.map_some, Option.map_none, Option.bind_some, Option.pure_def, Option.bind_eq_bind, List.drop_zero, ↓reduceIte, Nat.reduceEqDiff, Nat.reduceAdd, Nat.reduceMul, Nat.reduceLeDiff, Nat.reduceLT, Int.reduceToNat, Int.reduceLT, Int.reduceLE, reduceCtorEq, or_self, or_false, false_or, or_true, true_or, true_and, and_true, and_self, decide_true, decide_false, Bool.false_eq_true, Bool.true_eq_false, Bool.not_true, Bool.not_false, Nat.le_refl, eq_self, gt_iff_lt, ge_iff_le, ne_eq, not_true_eq_false, not_false_eq_true, hlt']
    simp only [i141, Out, resAll, geto, ints, List.getElem?_cons_zero, List.getElem?_cons_succ, resOf, outOf, snap, snapL, ev, getE, List.mapM_cons, List.mapM_nil, Option.bind_some, Option.pure_def, Option.bind_eq_bind, Option.map_some, reduceIte, Nat.reduceEqDiff, true_and, and_true, Nat.sub_self, List.replicate_zero, List.append_nil, List.length_map, List.length_range]
end
end Go.Proofs.YtlejgleocnemoaaGreat.I

namespace Go.Proofs.YtlejgleocnemoaaGreat.I
open Go Go.V
attribute [local go_sem] mNil nat0 beq_self_eq_true mSkip mRet mExit mReg mSeq mCond mTrue mFalse mBlock mLv mCodeE mCodeR mEndN mEndR mEndE mOps mSome mGuard mGtt mGff mGtf mGft mGu mCallP mCallR mCallF mCallO mCallZ mCallG mCallM mCallV loopQ_exit loopQ_ret mO_mov mO_newnil mO_pick mO_alloc mO_box mO_build mO_bsl mO_bslF mO_ldf mO_ld mO_st mO_sta mO_nilchk mO_bin mO_binb mO_binp mO_bins mO_neg mO_com mO_not mO_conv mO_mk mO_mk0 mO_s2b mO_b2s mO_cpy mO_cut mO_faddr mO_fld mO_iaddr mO_iaddrf mO_sidx mO_len mO_lenf mO_slen mO_scut mO_app mO_ext mO_mx mO_mn mO_mkfn evalOp cutOp argsE ev getE putE cellsOf adopt rowOf binV boolV nilV ar_add ar_sub ar_mul ar_quo ar_rem ar_eq ar_ne ar_lt ar_le ar_gt ar_ge ar_and ar_or ar_xor geto bound finRet finNrm ints List.length_cons List.length_nil List.length_append List.getElem?_cons_zero List.getElem?_cons_succ List.nil_append List.cons_append List.map_cons List.map_nil List.mapM_cons List.mapM_nil Option.map_some Option.map_none Option.bind_some Option.pure_def Option.bind_eq_bind List.drop_zero or_self or_false false_or or_true true_or true_and and_true and_self decide_true decide_false Bool.false_eq_true Bool.true_eq_false Bool.not_true Bool.not_false Nat.le_refl eq_self gt_iff_lt ge_iff_le ne_eq not_true_eq_false not_false_eq_true storeOp apartOf freeze_nil refsL refs List.flatMap_cons List.flatMap_nil List.append_nil List.contains_nil List.set_cons_zero List.set_cons_succ snap snapL fill_nums flat_nums nums_length Go.V.freeze List.mapIdx_cons List.mapIdx_nil List.contains_cons Bool.or_false Bool.false_or Bool.or_true Bool.true_or
section
variable {E : CallRel}
end
def wi (s : List Int) (a n : Int) : List Int := if 0 ≤ a ∧ a < s.length then s.take a.toNat ++ n :: s.drop (a.toNat + 1) else s
def wo (s : List Int) (a : Int) : List Int := if 0 ≤ a ∧ a < s.length then s.take a.toNat ++ s.drop (a.toNat + 1) else s
section
variable {E : CallRel}
end
def mprd : List Int → Int
  | [] => 1
  | d :: ds => max 1 d * mprd ds
theorem mprd_pos : ∀ {s : List Int}, 1 ≤ mprd s
  | [] => Int.le_refl _
  | d :: ds => by
    have h1 := mprd_pos (s := ds)
    have h2 : 1 ≤ max 1 d := by rw [max1]; split <;> omega
    have := Int.mul_le_mul_of_nonneg_left (a := 1) (b := mprd ds) (c := max 1 d) h1 (by omega)
    rw [mprd]
    omega
theorem mprd_append : ∀ {s t : List Int}, mprd (s ++ t) = mprd s * mprd t
  | [], t => by rw [List.nil_append, mprd, Int.one_mul]
  | d :: ds, t => by rw [List.cons_append, mprd, mprd, mprd_append, Int.mul_assoc]
theorem cnt_iff : ∀ {s : List Int} {most n : Int}, 1 ≤ most → most ≤ 4096 → ((∀ d ∈ s, 0 ≤ d) ∧ most * mprd s ≤ 4096 → cnt most n s = some (n * prd s)) ∧ (cnt most n s ≠ none → (∀ d ∈ s, 0 ≤ d) ∧ most * mprd s ≤ 4096)
  | [], most, n, h1, h2 => ⟨fun _ => by rw [cnt, prd, Int.mul_one], fun _ => ⟨fun d hd => by simp at hd, by rw [mprd, Int.mul_one]; exact h2⟩⟩
  | d :: ds, most, n, h1, h2 => by
    have hmx : 1 ≤ max 1 d := by rw [max1]; split <;> omega
    have hmm : 1 ≤ most * max 1 d := by
      have := Int.mul_le_mul_of_nonneg_left (a := 1) (b := max 1 d) (c := most) hmx (by omega)
      omega
    have hp := mprd_pos (s := ds)
    rw [cnt, mprd, prd]
    refine ⟨fun ⟨h3, h4⟩ => ?_, fun h => ?_⟩
    · have hd := h3 d (by simp)
      have h5 : most * max 1 d ≤ 4096 := by
        have := Int.mul_le_mul_of_nonneg_left (a := 1) (b := mprd ds) (c := most * max 1 d) hp (by omega)
        rw [← Int.mul_assoc] at h4
        omega
      rw [if_neg (by omega), (cnt_iff hmm h5).1 ⟨fun x hx => h3 x (by simp [hx]), by rw [Int.mul_assoc]; exact h4⟩, Int.mul_assoc]
    · split at h
      · exact absurd rfl h
      · rename_i hno
        obtain ⟨h3, h4⟩ := (cnt_iff hmm (by omega)).2 h
        refine ⟨fun x hx => ?_, by rw [← Int.mul_assoc]; exact h4⟩
        rcases List.mem_cons.1 hx with rfl | hx
        · omega
        · exact h3 x hx
theorem count_iff {s : List Int} : (s.length ≤ 8 ∧ (∀ d ∈ s, 0 ≤ d) ∧ mprd s ≤ 4096 → count s = some (prd s)) ∧ (count s ≠ none → s.length ≤ 8 ∧ (∀ d ∈ s, 0 ≤ d) ∧ mprd s ≤ 4096) := by
  unfold count
  obtain ⟨h1, h2⟩ := cnt_iff (s := s) (most := 1) (n := 1) (by omega) (by omega)
  refine ⟨fun ⟨h3, h4, h5⟩ => ?_, fun h => ?_⟩
  · rw [if_neg (by omega), h1 ⟨h4, by rw [Int.one_mul]; exact h5⟩, Int.one_mul]
  · split at h
    · exact absurd rfl h
    · obtain ⟨h3, h4⟩ := h2 h
      exact ⟨by omega, h3, by rwa [Int.one_mul] at h4⟩
theorem count_parts {s : List Int} (h : count s ≠ none) (k : Nat) : count (s.take k) = some (prd (s.take k)) ∧ count (s.drop k) = some (prd (s.drop k)) ∧ 0 ≤ prd (s.take k) ∧ prd (s.take k) ≤ 4096 ∧ 0 ≤ prd (s.drop k) ∧ prd (s.drop k) ≤ 4096 := by
  obtain ⟨h1, h2, h3⟩ := count_iff.2 h
  have hs : s = s.take k ++ s.drop k := (List.take_append_drop k s).symm
  have hm := mprd_append (s := s.take k) (t := s.drop k)
  rw [← hs] at hm
  have p1 := mprd_pos (s := s.take k)
  have p2 := mprd_pos (s := s.drop k)
  have q1 : mprd (s.take k) ≤ mprd s := by
    have := Int.mul_le_mul_of_nonneg_left (a := 1) (b := mprd (s.drop k)) (c := mprd (s.take k)) p2 (by omega)
    omega
  have q2 : mprd (s.drop k) ≤ mprd s := by
    have := Int.mul_le_mul_of_nonneg_right (a := 1) (b := mprd (s.take k)) (c := mprd (s.drop k)) p1 (by omega)
    omega
  have c1 := count_iff.1 ⟨by simp; omega, fun d hd => h2 d (List.mem_of_mem_take hd), (by omega : mprd (s.take k) ≤ 4096)⟩
  have c2 := count_iff.1 ⟨by simp; omega, fun d hd => h2 d (List.mem_of_mem_drop hd), (by omega : mprd (s.drop k) ≤ 4096)⟩
  obtain ⟨_, _, b1⟩ := count_bound c1
  obtain ⟨_, _, b2⟩ := count_bound c2
  have b1 := b1 (s.take k).length
  have b2 := b2 (s.drop k).length
  rw [List.take_length] at b1 b2
  exact ⟨c1, c2, b1.1, b1.2, b2.1, b2.2⟩
def spl (s : List Int) (a : Int) : AV :=
  if count s = none ∨ a < 0 ∨ (s.length : Int) ≤ a then .tup [.int .i64 0, .int .i64 0, .int .i64 0, .bool false]
  else .tup [.int .i64 (prd (s.take a.toNat)), .int .i64 (s.getD a.toNat 0), .int .i64 (prd (s.drop (a.toNat + 1))), .bool true]
section
variable {E : CallRel}
end
def alo (m n : Nat) (v : Nat → Nat → Nat) (c : Nat) : Int := ((((c / n / m) * m + v ((c / n / m) * n + c % n) (c / n % m)) * n + c % n : Nat) : Int)
def alos (m n : Nat) (v : Nat → Nat → Nat) (c : Nat) : List Int := (List.range c).map (alo m n v)
def aloM (s t : List Int) (ch : Bool) (L : List Rt) (m n : Nat) (v : Nat → Nat → Nat) (c : Nat) : List AObj :=
  [⟨true, 35, 5, 0, 1, arrX s ch t L, false⟩, ⟨false, 3, 1, 0, 0, [], false⟩, ⟨false, 21, 1, 0, 0, [], false⟩, ⟨false, 98, 3, 0, 0, [], false⟩, ⟨true, 35, 5, 0, 1, [.arr 1 0, .bool false, .arr 2 0, .arr 3 0, .bool false], false⟩, ⟨false, 3, 1, c, c, nums .i64 (alos m n v c), false⟩]
def revV (m : Nat) (_ i : Nat) : Nat := m - 1 - i
section
variable {s t : List Int} {ch : Bool} {L : List Rt} {a : Int}
end
theorem allL_all {s : List Int} {n : Nat} (hc : count s = some (n : Int)) : (allL s).length = n ∧ ∀ j : Nat, j < n → (allL s).getD j [] = (ix s j).1 := by
  obtain ⟨_, hd, _⟩ := count_bound hc
  obtain ⟨h1, h2⟩ := allL_take (fun d hd' => (hd d hd').1) (k := s.length) (Nat.le_refl _)
  rw [List.take_length, ← count_prd hc] at h1 h2
  refine ⟨by omega, fun j hj => ?_⟩
  rw [List.getD, h2 j (by omega)]
  rfl
section
variable {s t : List Int} {ch : Bool} {l : List Nm} {a : Int}
end
theorem subOne {a : AV} : sub false 1 [a] 0 = some a := rfl
def rotV (w : List Int) (one : Bool) (m : Nat) (a i : Nat) : Nat := (((i : Int) + w.getD (if one then 0 else a) 0) % (m : Int)).toNat
section
variable {sb tb s t : List Int} {cb ch ok : Bool} {Lb L : List Rt} {a : Int}
end
section
variable {sb tb s t w : List Int} {cb ch : Bool} {Lb L : List Rt} {a : Int} {k : Nat}
def oneB (sb : List Int) (n : Nat) : Bool := decide (sb.length = 0) || (decide (n = 1) && decide (sb.length = 1))
end
section
variable {sb tb s t w : List Int} {cb ch : Bool} {Lb : List Rt} {l : List Nm} {a : Int} {k : Nat}
end
def oneD (sb : List Int) : Bool := decide (sb.length = 0) || (decide (sb.length = 1) && decide (sb.getD 0 0 = 1))
section
variable {sb tb s t w : List Int} {cb ch : Bool} {Lb : List Rt} {l : List Nm} {a : Int} {k : Nat}
end
def Both (e : Int) (A P : List AV) : Prop := (e = 0 ∧ ∃ (s t : List Int) (ch : Bool) (L : List Rt) (l : List Nm), A = arrX s ch t L ∧ P = plX s ch t l ∧ Go.V.Call tab E 35 [.agg (arrX s ch t L), .int .i64 0, .agg (plX s ch t l), .int .i64 0] [] (.bool true) []) ∨ (e ≠ 0 ∧ A = noA ∧ P = noP)
theorem Both.err {e : Int} (h : e ≠ 0) : Both e noA noP := .inr ⟨h, rfl, rfl⟩
theorem Both.same {s t : List Int} {ch : Bool} {l : List Nm} (hs : (s.length : Int) ≤ 1000000000) (ht : (t.length : Int) ≤ 1000000000) (hl : (l.length : Int) ≤ 1000000000) (hR : ∀ x ∈ l, RightN x.1 x.2.1 x.2.2) : Both 0 (arrX s ch t (l.map toRt)) (plX s ch t l) := by
  refine .inl ⟨rfl, s, t, ch, l.map toRt, l, rfl, rfl, ?_⟩
  have h := c35_yes (s := s) (t := t) (ch := ch) (L := l.map toRt) hs ht (by simp; omega) fun z hz => by
    obtain ⟨x, hx, rfl⟩ := List.mem_map.1 hz
    exact right_ok (hR x hx)
  rwa [back_nms hR] at h
theorem Both.picks {s t ks : List Int} {ch : Bool} {l : List Nm} (hs : (s.length : Int) ≤ 1000000000) (hk : (ks.length : Int) ≤ 1000000000) (hR : ∀ x ∈ l, RightN x.1 x.2.1 x.2.2) : Both 0 (arrX s ch (picksT ch t ks) (picksR ch (l.map toRt) ks)) (plX s ch (picksT ch t ks) (picksN ch l ks)) := by
  refine .inl ⟨rfl, s, _, ch, _, _, rfl, rfl, ?_⟩
  have h := shows_out (e := 0) (s' := s) (ks := ks) (t := t) (ch := ch) hR fun _ => ⟨hs, hk⟩
  simp only [outA, outP, if_true] at h
  exact h
theorem len_right {s t : List Int} {ch : Bool} {l : List Nm} (h : RightP s ch t l) : count s = some ((t.length + (l.map toRt).length : Nat) : Int) := by
  have h1 := h.1
  unfold Shapes at h1
  rw [List.length_map]
  cases ch with
  | true => simp only [if_true] at h1; rw [h1.1, h1.2, Nat.add_zero]
  | false => simp only [Bool.false_eq_true, if_false] at h1; rw [h1.1, h1.2]; simp
theorem Right_chm {s t : List Int} {ch : Bool} {l : List Nm} (h : RightP s ch t l) : (ch = true → l = []) ∧ (ch = false → t = []) := by
  have h1 := h.1
  unfold Shapes at h1
  refine ⟨fun h => ?_, fun h => ?_⟩
  · subst h; exact List.length_eq_zero_iff.1 h1.2
  · subst h; exact h1.2
def dmin (k : Int) : List Int → List Int → Int → Int
  | a :: l, b :: s, d => dmin k l s (if a = k then min d b else d)
  | _, _, d => d
def shpT (l s : List Int) (m : Nat) : List Int := (List.range m).map fun k : Nat => dmin k l s 4096
theorem shpT_len {l s : List Int} {m : Nat} : (shpT l s m).length = m := by simp [shpT]
theorem shpT_get {l s : List Int} {m k : Nat} (h : k < m) : (shpT l s m).getD k 0 = dmin k l s 4096 := by
  simp [shpT, List.getD, h]
theorem dmin_snoc {k a b : Int} : ∀ {l s : List Int} {d : Int}, l.length = s.length → dmin k (l ++ [a]) (s ++ [b]) d = if a = k then min (dmin k l s d) b else dmin k l s d
  | [], [], d, _ => rfl
  | x :: l, y :: s, d, h => by
    rw [List.cons_append, List.cons_append, dmin, dmin, dmin_snoc (by simpa using h)]
  | [], y :: s, d, h => by simp at h
  | x :: l, [], d, h => by simp at h
theorem dmin_le {k : Int} : ∀ {l s : List Int} {d : Int}, dmin k l s d ≤ d
  | [], _, d => by rw [dmin]; exact Int.le_refl _; simp
  | x :: l, [], d => by rw [dmin]; exact Int.le_refl _; simp
  | x :: l, y :: s, d => by
    rw [dmin]
    have := dmin_le (k := k) (l := l) (s := s) (d := if x = k then min d y else d)
    split at this <;> rename_i h
    · rw [if_pos h]; omega
    · rw [if_neg h]; omega
theorem dmin_at {k : Int} : ∀ {l s : List Int} {d : Int} {i : Nat}, i < l.length → i < s.length → l.getD i 0 = k → dmin k l s d ≤ s.getD i 0
  | x :: l, y :: s, d, 0, _, _, h => by
    rw [List.getD_cons_zero] at h ⊢
    rw [dmin, if_pos h]
    have := dmin_le (k := k) (l := l) (s := s) (d := min d y)
    omega
  | x :: l, y :: s, d, i + 1, h1, h2, h => by
    rw [List.getD_cons_succ] at h ⊢
    rw [dmin]
    exact dmin_at (by simpa using h1) (by simpa using h2) h
  | [], _, d, i, h1, _, _ => by simp at h1
  | _, [], d, i, _, h2, _ => by simp at h2
theorem dmin_low {k c : Int} : ∀ {l s : List Int} {d : Int}, c ≤ d → (∀ y ∈ s, c ≤ y) → c ≤ dmin k l s d
  | [], _, d, h, _ => by rw [dmin]; exact h; simp
  | x :: l, [], d, h, _ => by rw [dmin]; exact h; simp
  | x :: l, y :: s, d, h, hs => by
    rw [dmin]
    refine dmin_low ?_ fun z hz => hs z (by simp [hz])
    have := hs y (by simp)
    split <;> omega
theorem dmin_min {k : Int} : ∀ {l s : List Int} {d b : Int}, dmin k l s (min d b) = min b (dmin k l s d)
  | [], s, d, b => by simp only [dmin]; omega
  | x :: l, [], d, b => by simp only [dmin]; omega
  | x :: l, y :: s, d, b => by
    rw [dmin, dmin]
    split
    · rw [show min (min d b) y = min (min d y) b by omega, dmin_min]
    · rw [dmin_min]
def pN (g : Nat → Int) : Nat → Int
  | 0 => 1
  | m + 1 => pN g m * g m
theorem pN_pos {g : Nat → Int} (h : ∀ k, 1 ≤ g k) : ∀ {m : Nat}, 1 ≤ pN g m
  | 0 => Int.le_refl _
  | m + 1 => by
    have h1 := pN_pos h (m := m)
    have := Int.mul_le_mul_of_nonneg_left (a := 1) (b := g m) (c := pN g m) (h m) (by omega)
    rw [pN]
    omega
theorem pN_one {g : Nat → Int} (h : ∀ k, g k = 1) : ∀ {m : Nat}, pN g m = 1
  | 0 => rfl
  | m + 1 => by rw [pN, pN_one h, h, Int.one_mul]
theorem pN_eq {g g' : Nat → Int} {a : Int} (h : ∀ k : Nat, (k : Int) ≠ a → g' k = g k) : ∀ {m : Nat}, (m : Int) ≤ a → pN g' m = pN g m
  | 0, _ => rfl
  | m + 1, hm => by rw [pN, pN, pN_eq h (by omega), h m (by omega)]
theorem pN_step {g g' : Nat → Int} {a b : Int} (hg : ∀ k, 1 ≤ g k) (hb : 1 ≤ b) (h : ∀ k : Nat, (k : Int) ≠ a → g' k = g k) (ha : ∀ k : Nat, (k : Int) = a → g' k ≤ b * g k) : ∀ {m : Nat}, pN g' m ≤ b * pN g m
  | 0 => by rw [pN, pN]; omega
  | m + 1 => by
    have hp := pN_pos hg (m := m)
    by_cases hm : (m : Int) = a
    · rw [pN, pN, pN_eq h (by omega)]
      have := Int.mul_le_mul_of_nonneg_left (ha m hm) (show 0 ≤ pN g m by omega)
      rwa [← Int.mul_assoc, Int.mul_comm (pN g m) b, Int.mul_assoc] at this
    · rw [pN, pN, h m hm, ← Int.mul_assoc]
      exact Int.mul_le_mul_of_nonneg_right (pN_step hg hb h ha) (by have := hg m; omega)
def gT (l s : List Int) (k : Nat) : Int := if (k : Int) ∈ l then max 1 (dmin k l s 4096) else 1
theorem gT_pos {l s : List Int} {k : Nat} : 1 ≤ gT l s k := by
  rw [gT]
  split <;> omega
theorem gT_le {m : Nat} : ∀ {l s : List Int}, l.length = s.length → pN (gT l s) m ≤ mprd s
  | [], [], _ => by rw [pN_one fun k => by simp [gT], mprd]; exact Int.le_refl _
  | [], y :: s, h => by simp at h
  | x :: l, [], h => by simp at h
  | x :: l, y :: s, h => by
    have h1 := gT_le (m := m) (l := l) (s := s) (by simpa using h)
    have hb : (1 : Int) ≤ max 1 y := by omega
    have h2 := pN_step (m := m) (g := gT l s) (g' := gT (x :: l) (y :: s)) (a := x) (b := max 1 y) (fun _ => gT_pos) hb
      (fun k hk => by
        simp only [gT, List.mem_cons, dmin]
        have hk' : ¬ x = (k : Int) := fun e => hk e.symm
        by_cases hm : (k : Int) ∈ l
        · rw [if_pos (Or.inr hm), if_pos hm, if_neg hk']
        · rw [if_neg (show ¬ ((k : Int) = x ∨ (k : Int) ∈ l) from fun e => e.elim hk hm), if_neg hm])
      (fun k hk => by
        simp only [gT, List.mem_cons, dmin]
        rw [if_pos hk.symm, dmin_min, if_pos (.inl hk)]
        by_cases hm : (k : Int) ∈ l
        · rw [if_pos hm]
          have e1 : (1 : Int) ≤ max 1 (dmin k l s 4096) := by omega
          have := Int.mul_le_mul_of_nonneg_left (a := 1) (b := max 1 (dmin k l s 4096)) (c := max 1 y) e1 (by omega)
          generalize max 1 y * max 1 (dmin k l s 4096) = p at *
          omega
        · rw [if_neg hm, Int.mul_one]
          omega)
    rw [mprd]
    have := Int.mul_le_mul_of_nonneg_left h1 (show 0 ≤ max 1 y by omega)
    omega
theorem mprd_shpT {l s : List Int} : ∀ {m : Nat}, (∀ k : Nat, k < m → (k : Int) ∈ l) → mprd (shpT l s m) = pN (gT l s) m
  | 0, _ => rfl
  | m + 1, h => by
    have e : shpT l s (m + 1) = shpT l s m ++ [dmin m l s 4096] := by simp [shpT, List.range_succ]
    rw [e, mprd_append, mprd_shpT fun k hk => h k (by omega), pN, mprd, mprd, Int.mul_one, gT, if_pos (h m (by omega))]
theorem pig : ∀ {m : Nat} {l : List Int}, (∀ k : Nat, k < m → (k : Int) ∈ l) → m ≤ l.length
  | 0, _, _ => by omega
  | m + 1, l, h => by
    have h1 := pig (m := m) (l := l.erase (m : Int)) (fun k hk => (List.mem_erase_of_ne (by omega)).2 (h k (by omega)))
    have h2 := h m (by omega)
    rw [List.length_erase_of_mem h2] at h1
    have := List.length_pos_of_mem h2
    omega
theorem shpT_count {l s : List Int} {m : Nat} (hc : count s ≠ none) (hl : l.length = s.length) (hm : ∀ k : Nat, k < m → (k : Int) ∈ l) : ∃ n : Nat, count (shpT l s m) = some (n : Int) := by
  obtain ⟨h1, h2, h3⟩ := count_iff.2 hc
  have h4 := gT_le (m := m) hl
  have h5 := pig hm
  have h6 := (count_iff (s := shpT l s m)).1 ⟨by rw [shpT_len]; omega, fun d hd => by
    obtain ⟨k, _, rfl⟩ := List.mem_map.1 hd
    exact dmin_low (by omega) h2, by rw [mprd_shpT hm]; omega⟩
  obtain ⟨_, _, h7⟩ := count_bound h6
  have h7 := h7 (shpT l s m).length
  rw [List.take_length] at h7
  exact ⟨(prd (shpT l s m)).toNat, by rw [h6, Int.toNat_of_nonneg h7.1]⟩
def strP : List Int → List Int
  | [] => []
  | _ :: ds => prd ds :: strP ds
theorem strP_len : ∀ {s : List Int}, (strP s).length = s.length
  | [] => rfl
  | d :: ds => by simp [strP, strP_len]
theorem str_P : ∀ {s : List Int}, (∀ k : Nat, 0 ≤ prd (s.drop k) ∧ prd (s.drop k) ≤ 4096) → str s = strP s
  | [], _ => rfl
  | d :: ds, h => by
    have h1 := h 1
    rw [List.drop_succ_cons, List.drop_zero] at h1
    rw [str, strP, prodR_wrap, wrap_i64 (by omega) (by omega), str_P fun k => h (k + 1)]
theorem strP_get : ∀ {s : List Int} {i : Nat}, i < s.length → (strP s).getD i 0 = prd (s.drop (i + 1))
  | d :: ds, 0, _ => rfl
  | d :: ds, i + 1, h => by
    rw [strP, List.getD_cons_succ, List.drop_succ_cons]
    exact strP_get (by simpa using h)
  | [], i, h => by simp at h
def inR : List Int → List Int → Prop
  | [], [] => True
  | d :: ds, x :: xs => (0 ≤ x ∧ x < d) ∧ inR ds xs
  | _, _ => False
def dI : List Int → List Int → Int
  | d :: ds, x :: xs => x * prd ds + dI ds xs
  | _, _ => 0
theorem dI_bound : ∀ {s x : List Int}, inR s x → 0 ≤ dI s x ∧ dI s x < prd s
  | [], [], _ => ⟨Int.le_refl _, by decide⟩
  | d :: ds, x :: xs, h => by
    obtain ⟨⟨h1, h2⟩, h3⟩ := h
    obtain ⟨h4, h5⟩ := dI_bound h3
    have h6 := Int.mul_nonneg h1 (show 0 ≤ prd ds by omega)
    have h7 := Int.mul_le_mul_of_nonneg_right (show x + 1 ≤ d by omega) (show 0 ≤ prd ds by omega)
    rw [Int.add_mul, Int.one_mul] at h7
    rw [dI, prd]
    omega
theorem pl_dI : ∀ {s x : List Int} {n : Int}, inR s x → pl n s x = some (n * prd s + dI s x)
  | [], [], n, _ => by simp [pl, prd, dI]
  | d :: ds, x :: xs, n, h => by
    obtain ⟨h1, h3⟩ := h
    rw [pl, if_neg (by omega), pl_dI h3, dI, prd, Int.add_mul, Int.mul_assoc, Int.add_assoc]
def dotT : List Int → List Int → List Int → Int
  | a :: l, w :: st, x => w * x.getD a.toNat 0 + dotT l st x
  | _, _, _ => 0
theorem dotT_snoc {a w : Int} {x : List Int} : ∀ {l st : List Int}, l.length = st.length → dotT (l ++ [a]) (st ++ [w]) x = dotT l st x + w * x.getD a.toNat 0
  | [], [], _ => by simp [dotT]
  | b :: l, v :: st, h => by
    rw [List.cons_append, List.cons_append, dotT, dotT, dotT_snoc (by simpa using h), Int.add_assoc]
  | [], v :: st, h => by simp at h
  | b :: l, [], h => by simp at h
theorem dotT_dI {x : List Int} : ∀ {l s : List Int}, l.length = s.length → dotT l (strP s) x = dI s (l.map fun a => x.getD a.toNat 0)
  | [], [], _ => rfl
  | a :: l, d :: ds, h => by
    rw [strP, dotT, List.map_cons, dI, dotT_dI (by simpa using h), Int.mul_comm]
  | [], d :: ds, h => by simp at h
  | a :: l, [], h => by simp at h
theorem dotT_take {x : List Int} : ∀ {l s : List Int} {i : Nat}, inR s (l.map fun a => x.getD a.toNat 0) → 0 ≤ dotT (l.take i) ((strP s).take i) x ∧ dotT (l.take i) ((strP s).take i) x ≤ dI s (l.map fun a => x.getD a.toNat 0)
  | l, s, 0, h => by
    have := dI_bound h
    simp only [List.take_zero, dotT]
    omega
  | [], s, i + 1, h => by
    have := dI_bound h
    simp only [List.take_nil, dotT]
    omega
  | a :: l, d :: ds, i + 1, h => by
    obtain ⟨⟨h1, h2⟩, h3⟩ := h
    have h4 := dotT_take (i := i) h3
    have h5 := dI_bound h3
    have h6 : 0 ≤ prd ds * x.getD a.toNat 0 := Int.mul_nonneg (show 0 ≤ prd ds by omega) h1
    rw [strP, List.take_succ_cons, List.take_succ_cons, dotT, List.map_cons, dI, Int.mul_comm (x.getD a.toNat 0)]
    omega
  | a :: l, [], i + 1, h => by simp [inR] at h
theorem inR_of {x : List Int} : ∀ {l s : List Int}, l.length = s.length → (∀ i : Nat, i < l.length → 0 ≤ x.getD (l.getD i 0).toNat 0 ∧ x.getD (l.getD i 0).toNat 0 < s.getD i 0) → inR s (l.map fun a => x.getD a.toNat 0)
  | [], [], _, _ => trivial
  | a :: l, d :: ds, h, hi => ⟨by have := hi 0 (by simp); simpa using this, inR_of (by simpa using h) fun i hil => by have := hi (i + 1) (by simpa using hil); simpa using this⟩
  | [], d :: ds, h, _ => by simp at h
  | a :: l, [], h, _ => by simp at h
def turnK (l s : List Int) (m n : Nat) : List Int := (List.range n).map fun j : Nat => dotT l (strP s) (ix (shpT l s m) j).1
theorem turnK_len {l s : List Int} {m n : Nat} : (turnK l s m n).length = n := by simp [turnK]
theorem turn_in {l s : List Int} {m n j : Nat} (hl : l.length = s.length) (hr : ∀ a ∈ l, 0 ≤ a ∧ a < m) (hc : count (shpT l s m) = some (n : Int)) (hj : j < n) : inR s (l.map fun a => (ix (shpT l s m) j).1.getD a.toNat 0) := by
  refine inR_of hl fun i hi => ?_
  have hp := count_pos hc (by omega)
  have h1 := hr (l.getD i 0) (by simp [List.getD, hi])
  have h2 := ix_range (s := shpT l s m) (a := (j : Int)) (m := (l.getD i 0).toNat) (by omega) hp (by rw [shpT_len]; omega)
  rw [shpT_get (by omega)] at h2
  have h3 := dmin_at (k := ((l.getD i 0).toNat : Nat)) (l := l) (s := s) (d := 4096) (i := i) hi (by omega) (by omega)
  omega
def revl (m : Nat) : List Int := (List.range m).map fun i : Nat => (m : Int) - 1 - i
theorem revl_len {m : Nat} : (revl m).length = m := by simp [revl]
theorem revl_mem {m : Nat} {a : Int} : a ∈ revl m ↔ 0 ≤ a ∧ a < m := by
  rw [revl, List.mem_map]
  constructor
  · rintro ⟨i, hi, rfl⟩
    have := List.mem_range.1 hi
    omega
  · intro h
    exact ⟨m - 1 - a.toNat, List.mem_range.2 (by omega), by omega⟩
end Go.Proofs.YtlejgleocnemoaaGreat.I
