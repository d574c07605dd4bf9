/- The texts L07j L07k L07n L06n L03c L06o L08a L08b L07l L07m L07o L07p L08e L08f L08g L08h L08i L08j, one behind the other. Conditions: each text's own. -/
import Derived.Test.YtlejgleocnemoaaGreatG06
import Derived.Test.YtlejgleocnemoaaGreatG04
import Derived.Test.YtlejgleocnemoaaGreatG05
import Derived.WalkKit
set_option linter.unusedSimpArgs false
set_option linter.unusedVariables false
namespace Go.Proofs.YtlejgleocnemoaaGreat.I
open Go Go.V
def prd : List Int → Int
  | [] => 1
  | d :: ds => d * prd ds
theorem cnt_prd : ∀ {s : List Int} {most m n : Int}, cnt most m s = some n → n = m * prd s
  | [], most, m, n, h => by rw [cnt] at h; rw [prd, Int.mul_one]; exact (Option.some.inj h).symm
  | d :: ds, most, m, n, h => by
    rw [cnt] at h
    split at h
    · cases h
    · rw [cnt_prd h, prd, Int.mul_assoc]
theorem count_prd {s : List Int} {n : Int} (h : count s = some n) : n = prd s := by
  unfold count at h
  split at h
  · cases h
  · rw [cnt_prd h, Int.one_mul]
theorem prd_pos : ∀ {s : List Int}, (∀ d ∈ s, 1 ≤ d) → 1 ≤ prd s
  | [], _ => Int.le_refl _
  | d :: ds, h => by
    have h1 := prd_pos (s := ds) (fun x hx => h x (by simp [hx]))
    have h2 := h d (by simp)
    have := Int.mul_le_mul_of_nonneg_left (a := 1) (b := prd ds) (c := d) h1 (by omega)
    rw [prd]
    omega
theorem emod_mul (a p d : Int) (hp : 0 < p) : a % (d * p) = (a / p) % d * p + a % p := by
  rw [Int.emod_def a (d * p), Int.emod_def (a / p) d, Int.emod_def a p, Int.mul_comm d p, ← Int.ediv_ediv_of_nonneg (by omega), Int.sub_mul, Int.mul_assoc p d, Int.mul_comm (d * (a / p / d)) p, Int.mul_comm (a / p) p]
  omega
theorem ix_snd : ∀ {s : List Int} {a : Int}, 0 ≤ a → (∀ d ∈ s, 1 ≤ d) → (ix s a).2 = a / prd s
  | [], a, _, _ => by rw [ix, prd, Int.ediv_one]
  | d :: ds, a, ha, h => by
    have hp := prd_pos (s := ds) (fun x hx => h x (by simp [hx]))
    rw [ix, ix_snd ha (fun x hx => h x (by simp [hx])), prd, Int.mul_comm d, Int.ediv_ediv_of_nonneg (by omega)]
theorem pl_ix : ∀ {s : List Int} {a m : Int}, 0 ≤ a → (∀ d ∈ s, 1 ≤ d) → pl m s (ix s a).1 = some (m * prd s + a % prd s)
  | [], a, m, ha, _ => by simp [ix, pl, prd]
  | d :: ds, a, m, ha, h => by
    have h' : ∀ x ∈ ds, 1 ≤ x := fun x hx => h x (by simp [hx])
    have hp := prd_pos h'
    have hd := h d (by simp)
    have h1 := Int.emod_nonneg (a / prd ds) (show d ≠ 0 by omega)
    have h2 := Int.emod_lt_of_pos (a / prd ds) (show 0 < d by omega)
    rw [ix, ix_snd ha h', pl, if_neg (by omega), pl_ix ha h', prd, emod_mul _ _ _ (by omega), Int.add_mul, Int.mul_assoc]
    congr 1
    omega
def inc : List Int → List Int → List Int × Bool
  | d :: ds, x :: xs => if (inc ds xs).2 then (if x + 1 < d then ((x + 1) :: (inc ds xs).1, false) else (0 :: (inc ds xs).1, true)) else (x :: (inc ds xs).1, false)
  | _, _ => ([], true)
def allS (L : List (List Int)) (d : Nat) : List (List Int) := L.flatMap fun p => (List.range d).map fun n : Nat => p ++ [(n : Int)]
def allL (s : List Int) : List (List Int) := s.foldl (fun L d => allS L d.toNat) [[]]
theorem allS_len {L : List (List Int)} {d : Nat} : (allS L d).length = L.length * d := by
  induction L with
  | nil => simp [allS]
  | cons p L ih =>
    have : allS (p :: L) d = ((List.range d).map fun n : Nat => p ++ [(n : Int)]) ++ allS L d := rfl
    rw [this, List.length_append, ih, List.length_map, List.length_range, List.length_cons, Nat.succ_mul, Nat.add_comm]
theorem allS_get : ∀ {L : List (List Int)} {d j : Nat}, j < L.length * d → (allS L d)[j]? = (L[j / d]?).map fun p => p ++ [((j % d : Nat) : Int)]
  | [], d, j, h => by simp at h
  | p :: L, d, j, h => by
    have hd : 0 < d := by
      rcases Nat.eq_zero_or_pos d with rfl | h0
      · simp at h
      · exact h0
    have e : allS (p :: L) d = ((List.range d).map fun n : Nat => p ++ [(n : Int)]) ++ allS L d := rfl
    rw [e, List.getElem?_append]
    simp only [List.length_map, List.length_range]
    split
    · rename_i hj
      rw [Nat.div_eq_of_lt hj, Nat.mod_eq_of_lt hj]
      simp [hj]
    · rename_i hj
      rw [List.length_cons, Nat.succ_mul] at h
      rw [allS_get (L := L) (by omega)]
      have h1 : j / d = (j - d) / d + 1 := by rw [Nat.div_eq_sub_div hd (by omega)]
      have h2 : j % d = (j - d) % d := by rw [Nat.mod_eq_sub_mod (by omega)]
      rw [h1, h2, List.getElem?_cons_succ]
theorem ix_snoc : ∀ {s : List Int} {d a : Int}, ix (s ++ [d]) a = ((ix s (a / d)).1 ++ [a % d], (ix s (a / d)).2)
  | [], d, a => rfl
  | x :: s, d, a => by simp only [List.cons_append, ix, ix_snoc]
theorem prd_snoc : ∀ {s : List Int} {d : Int}, prd (s ++ [d]) = prd s * d
  | [], d => by simp [prd]
  | x :: s, d => by simp only [List.cons_append, prd, prd_snoc, Int.mul_assoc]
theorem allL_snoc {s : List Int} {d : Int} : allL (s ++ [d]) = allS (allL s) d.toNat := by simp [allL]
theorem allL_take {s : List Int} (h : ∀ d ∈ s, 0 ≤ d) : ∀ {k : Nat}, k ≤ s.length → ((allL (s.take k)).length : Int) = prd (s.take k) ∧ ∀ j : Nat, (j : Int) < prd (s.take k) → (allL (s.take k))[j]? = some (ix (s.take k) j).1
  | 0, _ => by
    refine ⟨by simp [allL, prd], fun j hj => ?_⟩
    simp only [List.take_zero, prd] at hj
    obtain rfl : j = 0 := by omega
    simp [allL, ix]
  | k + 1, hk => by
    obtain ⟨h1, h2⟩ := allL_take h (k := k) (by omega)
    have hs : s.take (k + 1) = s.take k ++ [s.getD k 0] := by
      rw [List.take_add_one]
      congr 1
      simp [List.getD, show k < s.length by omega]
    have hd : 0 ≤ s.getD k 0 := h _ (by simp [List.getD, show k < s.length by omega])
    rw [hs, allL_snoc, prd_snoc, allS_len]
    obtain ⟨d, hdd⟩ := Int.eq_ofNat_of_zero_le hd
    rw [hdd, Int.toNat_natCast]
    refine ⟨by rw [Int.natCast_mul, h1], fun j hj => ?_⟩
    have hj' : j < (allL (s.take k)).length * d := by
      rw [← h1, ← Int.natCast_mul] at hj
      omega
    have hd0 : 0 < d := by
      rcases Nat.eq_zero_or_pos d with rfl | h0
      · simp at hj'
      · exact h0
    rw [allS_get hj', h2 (j / d) (by
      rw [← h1]
      have := (Nat.div_lt_iff_lt_mul hd0).2 hj'
      omega), ix_snoc]
    simp
end Go.Proofs.YtlejgleocnemoaaGreat.I

namespace Go.Proofs.YtlejgleocnemoaaGreat.I
open Go Go.V
def rows (L : List (List Int)) : AV := .sl L.length 1 (L.map ints)
theorem cnt_bound : ∀ {s : List Int} {most m n : Int}, cnt most m s = some n → 1 ≤ most → most ≤ 4096 → (∀ d ∈ s, 0 ≤ d ∧ d ≤ 4096) ∧ ∀ k, 0 ≤ prd (s.take k) ∧ most * prd (s.take k) ≤ 4096
  | [], most, m, n, h, h1, h2 => ⟨fun d hd => by simp at hd, fun k => by simp [prd]; omega⟩
  | d :: ds, most, m, n, h, h1, h2 => by
    rw [cnt] at h
    split at h
    · cases h
    · rename_i hno
      have hmx : 1 ≤ max 1 d ∧ d ≤ max 1 d := by rw [max1]; split <;> omega
      have hmm : 1 ≤ most * max 1 d := by
        have := Int.mul_le_mul_of_nonneg_left (a := 1) (b := max 1 d) (c := most) hmx.1 (by omega)
        omega
      have hd : d ≤ most * max 1 d := by
        have := Int.mul_le_mul_of_nonneg_right (a := 1) (b := most) (c := max 1 d) h1 (by omega)
        omega
      obtain ⟨g1, g2⟩ := cnt_bound h hmm (by omega)
      refine ⟨fun x hx => ?_, fun k => ?_⟩
      · rcases List.mem_cons.1 hx with rfl | hx
        · omega
        · exact g1 x hx
      · cases k with
        | zero => simp [prd]; omega
        | succ k =>
          rw [List.take_succ_cons, prd]
          obtain ⟨e1, e2⟩ := g2 k
          have e3 : d * prd (ds.take k) ≤ max 1 d * prd (ds.take k) := Int.mul_le_mul_of_nonneg_right hmx.2 e1
          have e4 := Int.mul_le_mul_of_nonneg_left (c := most) e3 (by omega)
          rw [← Int.mul_assoc] at e4
          rw [← Int.mul_assoc] at e4
          refine ⟨Int.mul_nonneg (by omega) e1, ?_⟩
          rw [← Int.mul_assoc]
          omega
theorem count_bound {s : List Int} {n : Int} (h : count s = some n) : s.length ≤ 8 ∧ (∀ d ∈ s, 0 ≤ d ∧ d ≤ 4096) ∧ ∀ k, 0 ≤ prd (s.take k) ∧ prd (s.take k) ≤ 4096 := by
  unfold count at h
  split at h
  · cases h
  · obtain ⟨h1, h2⟩ := cnt_bound h (by omega) (by omega)
    exact ⟨by omega, h1, fun k => by have := h2 k; rwa [Int.one_mul] at this⟩
theorem allS_elem {L : List (List Int)} {d n : Nat} (h : ∀ p ∈ L, p.length = n) : ∀ p ∈ allS L d, p.length = n + 1 := by
  intro p hp
  simp only [allS, List.mem_flatMap, List.mem_map] at hp
  obtain ⟨q, hq, i, _, rfl⟩ := hp
  simp [h q hq]
theorem allL_elem {s : List Int} : ∀ {k : Nat}, k ≤ s.length → ∀ p ∈ allL (s.take k), p.length = k
  | 0, _ => by simp [allL]
  | k + 1, hk => by
    have hs : s.take (k + 1) = s.take k ++ [s.getD k 0] := by
      rw [List.take_add_one]
      congr 1
      simp [List.getD, show k < s.length by omega]
    rw [hs, allL_snoc]
    exact allS_elem (allL_elem (by omega))
theorem sub_rows {L : List (List Int)} {j : Nat} (h : j < L.length) : sub false 1 (L.map ints) (j * 1) = some (ints (L.getD j [])) := by
  simp only [sub, List.length_map, Nat.mul_one, Bool.false_eq_true, if_false, if_true]
  rw [if_pos (by omega), List.getElem?_map, List.getElem?_eq_getElem h]
  simp [List.getD, h]
theorem allS_take {L : List (List Int)} {d j : Nat} (h : j < L.length) : allS (L.take (j + 1)) d = allS (L.take j) d ++ (List.range d).map fun n : Nat => L.getD j [] ++ [(n : Int)] := by
  rw [List.take_add_one]
  have : L[j]?.toList = [L.getD j []] := by simp [List.getD, h]
  rw [this]
  simp [allS]
theorem freeze1 {a b c : AObj} : Go.V.freeze [1] [a, b, c] = [a, { b with fr := true }, c] := rfl
section
variable {E : CallRel}
theorem c80_ok {s : List Int} {n : Int} (hc : count s = some n) : Go.V.Call tab E 80 [ints s] [] (rows (allL s)) [] := by
  obtain ⟨hl8, hd4, hpr⟩ := count_bound hc
  refine Go.V.Call.mach i80 c80 rfl rfl rfl rfl ?_
  simp only [c80, mNil, nat0, beq_self_eq_true, mSkip, mRet, mExit, mReg, mSeq, mCond, mTrue, mFalse, mBlock, mLv, mCodeE, mCodeR, mEndN, mEndR, mEndE, mOps, mSome, mGuard, mGtt, mGff, mGtf, mGft, mGu, mCallP, mCallR, mCallF, mCallO, mCallZ, mCallG, mCallM, mCallV, loopQ_exit, loopQ_ret, mO_mov, mO_newnil, mO_pick, mO_alloc, mO_box, mO_build, mO_bsl, mO_bslF, mO_ldf, mO_ld, mO_st, mO_sta, mO_nilchk, mO_bin, mO_binb, mO_binp, mO_bins, mO_neg, mO_com, mO_not, mO_conv, mO_mk, mO_mk0, mO_s2b, mO_b2s, mO_cpy, mO_cut, mO_faddr, mO_fld, mO_iaddr, mO_iaddrf, mO_sidx, mO_len, mO_lenf, mO_slen, mO_scut, mO_app, mO_ext, mO_mx, mO_mn, mO_mkfn, evalOp, cutOp, argsE, ev, getE, putE, cellsOf, adopt, rowOf, binV, boolV, nilV, ar_add, ar_sub, ar_mul, ar_quo, ar_rem, ar_eq, ar_ne, ar_lt, ar_le, ar_gt, ar_ge, ar_and, ar_or, ar_xor, geto, bound, finRet, finNrm, ints, List.length_cons, List.length_nil, List.length_append, List.getElem?_cons_zero, List.getElem?_cons_succ, List.nil_append, List.cons_append, List.map_cons, List.map_nil, List.mapM_cons, List.mapM_nil, Option.map_some, Option.map_none, Option.bind_some, Option.pure_def, Option.bind_eq_bind, List.drop_zero, ↓reduceIte, Nat.reduceEqDiff, Nat.reduceAdd, Nat.reduceMul, Nat.reduceLeDiff, Nat.reduceLT, Int.reduceToNat, Int.reduceLT, Int.reduceLE, reduceCtorEq, or_self, or_false, false_or, or_true, true_or, true_and, and_true, and_self, decide_true, decide_false, Bool.false_eq_true, Bool.true_eq_false, Bool.not_true, Bool.not_false, Nat.le_refl, eq_self, gt_iff_lt, ge_iff_le, ne_eq, not_true_eq_false, not_false_eq_true, storeOp, apartOf, freeze_nil, refsL, refs, List.flatMap_cons, List.flatMap_nil, List.append_nil, List.contains_nil, List.set_cons_zero, List.set_cons_succ, snap, snapL, fill_nums, flat_nums, nums_length, List.flatten_cons, List.flatten_nil, Option.getD_some]
  refine mLoop (fun N st => ∃ (k : Nat), k ≤ s.length ∧ N = s.length - k ∧
    st = ⟨[(0, ints s), (3, rows (allL (s.take k))), (4, .int .i64 k)], []⟩) s.length ⟨_, rfl, 0, by omega, by omega, by simp [allL, rows, ints, nums, getE]⟩ ?_
  rintro N s0 ⟨k, hk, rfl, rfl⟩
  by_cases hlt : k < s.length
  · have hlt' : (k : Int) < (s.length : Int) := by omega
    have hk0 : (0 : Int) ≤ (k : Int) := by omega
    have hk1 : IntKind.i64.wrap ((k : Int) + 1) = ((k + 1 : Nat) : Int) := by rw [wrap_i64 (by omega) (by omega)]; omega
    have hsub := sub_nums (k := .i64) hlt
    have hdk := hd4 (s.getD k 0) (by simp [List.getD, hlt])
    have hall : allL (s.take (k + 1)) = allS (allL (s.take k)) (s.getD k 0).toNat := by
      rw [← allL_snoc, List.take_add_one]
      congr 2
      simp [List.getD, hlt]
    have hlen := (allL_take (s := s) (fun d hd => (hd4 d hd).1) (k := k) (by omega)).1
    have hlen4 := (hpr k).2
    have helem := allL_elem (s := s) (k := k) (by omega)
    generalize hL : allL (s.take k) = L at *
    obtain ⟨d, hdd⟩ := Int.eq_ofNat_of_zero_le hdk.1
    have hd4096 : d ≤ 4096 := by omega
    have hL4096 : L.length ≤ 4096 := by omega
    rw [hdd] at hsub hall
    rw [Int.toNat_natCast] at hall
    simp only [b80_0, mNil, nat0, beq_self_eq_true, mSkip, mRet, mExit, mReg, mSeq, mCond, mTrue, mFalse, mBlock, mLv, mCodeE, mCodeR, mEndN, mEndR, mEndE, mOps, mSome, mGuard, mGtt, mGff, mGtf, mGft, mGu, mCallP, mCallR, mCallF, mCallO, mCallZ, mCallG, mCallM, mCallV, loopQ_exit, loopQ_ret, mO_mov, mO_newnil, mO_pick, mO_alloc, mO_box, mO_build, mO_bsl, mO_bslF, mO_ldf, mO_ld, mO_st, mO_sta, mO_nilchk, mO_bin, mO_binb, mO_binp, mO_bins, mO_neg, mO_com, mO_not, mO_conv, mO_mk, mO_mk0, mO_s2b, mO_b2s, mO_cpy, mO_cut, mO_faddr, mO_fld, mO_iaddr, mO_iaddrf, mO_sidx, mO_len, mO_lenf, mO_slen, mO_scut, mO_app, mO_ext, mO_mx, mO_mn, mO_mkfn, evalOp, cutOp, argsE, ev, getE, putE, cellsOf, adopt, rowOf, binV, boolV, nilV, ar_add, ar_sub, ar_mul, ar_quo, ar_rem, ar_eq, ar_ne, ar_lt, ar_le, ar_gt, ar_ge, ar_and, ar_or, ar_xor, geto, bound, finRet, finNrm, ints, List.length_cons, List.length_nil, List.length_append, List.getElem?_cons_zero, List.getElem?_cons_succ, List.nil_append, List.cons_append, List.map_cons, List.map_nil, List.mapM_cons, List.mapM_nil, Option.map_some, Option.map_none, Option.bind_some, Option.pure_def, Option.bind_eq_bind, List.drop_zero, ↓reduceIte, Nat.reduceEqDiff, Nat.reduceAdd, Nat.reduceMul, Nat.reduceLeDiff, Nat.reduceLT, Int.reduceToNat, Int.reduceLT, Int.reduceLE, reduceCtorEq, or_self, or_false, false_or, or_true, true_or, true_and, and_true, and_self, decide_true, decide_false, Bool.false_eq_true, Bool.true_eq_false, Bool.not_true, Bool.not_false, Nat.le_refl, eq_self, gt_iff_lt, ge_iff_le, ne_eq, not_true_eq_false, not_false_eq_true, rows, hlt']
    refine mLoop (fun N st => ∃ (j : Nat), j ≤ L.length ∧ N = L.length - j ∧
      st = ⟨[(0, ints s), (3, rows L), (4, .int .i64 k), (5, .arr 0 (j * d)), (6, .int .i64 j)], [⟨false, 22, 1, j * d, j * d, (allS (L.take j) d).map ints, false⟩]⟩) L.length ⟨_, rfl, 0, by omega, by omega, by simp [allS, rows, getE, ints]⟩ ?_
    rintro N s0 ⟨j, hj, rfl, rfl⟩
    by_cases hjl : j < L.length
    · have hjl' : (j : Int) < (L.length : Int) := by omega
      have hj0 : (0 : Int) ≤ (j : Int) := by omega
      have hj1 : IntKind.i64.wrap ((j : Int) + 1) = ((j + 1 : Nat) : Int) := by rw [wrap_i64 (by omega) (by omega)]; omega
      have hsubL := sub_rows hjl
      have hpl : (L.getD j []).length = k := helem _ (by simp [List.getD, hjl])
      have htk := allS_take (d := d) hjl
      have hjd : j * d ≤ 4096 * 4096 := Nat.mul_le_mul (by omega) (by omega)
      generalize L.getD j [] = p at *
      simp only [b80_1, mNil, nat0, beq_self_eq_true, mSkip, mRet, mExit, mReg, mSeq, mCond, mTrue, mFalse, mBlock, mLv, mCodeE, mCodeR, mEndN, mEndR, mEndE, mOps, mSome, mGuard, mGtt, mGff, mGtf, mGft, mGu, mCallP, mCallR, mCallF, mCallO, mCallZ, mCallG, mCallM, mCallV, loopQ_exit, loopQ_ret, mO_mov, mO_newnil, mO_pick, mO_alloc, mO_box, mO_build, mO_bsl, mO_bslF, mO_ldf, mO_ld, mO_st, mO_sta, mO_nilchk, mO_bin, mO_binb, mO_binp, mO_bins, mO_neg, mO_com, mO_not, mO_conv, mO_mk, mO_mk0, mO_s2b, mO_b2s, mO_cpy, mO_cut, mO_faddr, mO_fld, mO_iaddr, mO_iaddrf, mO_sidx, mO_len, mO_lenf, mO_slen, mO_scut, mO_app, mO_ext, mO_mx, mO_mn, mO_mkfn, evalOp, cutOp, argsE, ev, getE, putE, cellsOf, adopt, rowOf, binV, boolV, nilV, ar_add, ar_sub, ar_mul, ar_quo, ar_rem, ar_eq, ar_ne, ar_lt, ar_le, ar_gt, ar_ge, ar_and, ar_or, ar_xor, geto, bound, finRet, finNrm, ints, List.length_cons, List.length_nil, List.length_append, List.getElem?_cons_zero, List.getElem?_cons_succ, List.nil_append, List.cons_append, List.map_cons, List.map_nil, List.mapM_cons, List.mapM_nil, Option.map_some, Option.map_none, Option.bind_some, Option.pure_def, Option.bind_eq_bind, List.drop_zero, ↓reduceIte, Nat.reduceEqDiff, Nat.reduceAdd, Nat.reduceMul, Nat.reduceLeDiff, Nat.reduceLT, Int.reduceToNat, Int.reduceLT, Int.reduceLE, reduceCtorEq, or_self, or_false, false_or, or_true, true_or, true_and, and_true, and_self, decide_true, decide_false, Bool.false_eq_true, Bool.true_eq_false, Bool.not_true, Bool.not_false, Nat.le_refl, eq_self, gt_iff_lt, ge_iff_le, ne_eq, not_true_eq_false, not_false_eq_true, rows, hjl']
      refine mLoop (fun N st => ∃ (i : Nat), i ≤ d ∧ N = d - i ∧
        st = ⟨[(0, ints s), (3, rows L), (4, .int .i64 k), (5, .arr 0 (j * d + i)), (6, .int .i64 j), (7, .int .i64 i)], [⟨false, 22, 1, j * d + i, j * d + i, (allS (L.take j) d ++ (List.range i).map fun n : Nat => p ++ [(n : Int)]).map ints, false⟩]⟩) d ⟨_, rfl, 0, by omega, by omega, by simp [rows, getE, ints]⟩ ?_
      rintro N s0 ⟨i, hi, rfl, rfl⟩
      by_cases hid : i < d
      · have hid' : (i : Int) < (d : Int) := by omega
        have hi4 : (i : Int) < 4096 := by omega
        have hi1 : IntKind.i64.wrap ((i : Int) + 1) = ((i + 1 : Nat) : Int) := by rw [wrap_i64 (by omega) (by omega)]; omega
        have e1 : p.length * 8 ≤ 140737488355328 := by omega
        have e2 : p.length ≤ 140737488355328 := by omega
        have e3 : (p.length + 1) * 8 ≤ 140737488355328 := by omega
        have e4 : p.length + 1 ≤ 140737488355328 := by omega
        have e5 : (j * d + i + 1) * 24 ≤ 140737488355328 := by omega
        have e6 : j * d + i + 1 ≤ 140737488355328 := by omega
        simp only [b80_2, mNil, nat0, beq_self_eq_true, mSkip, mRet, mExit, mReg, mSeq, mCond, mTrue, mFalse, mBlock, mLv, mCodeE, mCodeR, mEndN, mEndR, mEndE, mOps, mSome, mGuard, mGtt, mGff, mGtf, mGft, mGu, mCallP, mCallR, mCallF, mCallO, mCallZ, mCallG, mCallM, mCallV, loopQ_exit, loopQ_ret, mO_mov, mO_newnil, mO_pick, mO_alloc, mO_box, mO_build, mO_bsl, mO_bslF, mO_ldf, mO_ld, mO_st, mO_sta, mO_nilchk, mO_bin, mO_binb, mO_binp, mO_bins, mO_neg, mO_com, mO_not, mO_conv, mO_mk, mO_mk0, mO_s2b, mO_b2s, mO_cpy, mO_cut, mO_faddr, mO_fld, mO_iaddr, mO_iaddrf, mO_sidx, mO_len, mO_lenf, mO_slen, mO_scut, mO_app, mO_ext, mO_mx, mO_mn, mO_mkfn, evalOp, cutOp, argsE, ev, getE, putE, cellsOf, adopt, rowOf, binV, boolV, nilV, ar_add, ar_sub, ar_mul, ar_quo, ar_rem, ar_eq, ar_ne, ar_lt, ar_le, ar_gt, ar_ge, ar_and, ar_or, ar_xor, geto, bound, finRet, finNrm, ints, List.length_cons, List.length_nil, List.length_append, List.getElem?_cons_zero, List.getElem?_cons_succ, List.nil_append, List.cons_append, List.map_cons, List.map_nil, List.mapM_cons, List.mapM_nil, Option.map_some, Option.map_none, Option.bind_some, Option.pure_def, Option.bind_eq_bind, List.drop_zero, ↓reduceIte, Nat.reduceEqDiff, Nat.reduceAdd, Nat.reduceMul, Nat.reduceLeDiff, Nat.reduceLT, Int.reduceToNat, Int.reduceLT, Int.reduceLE, reduceCtorEq, or_self, or_false, false_or, or_true, true_or, true_and, and_true, and_self, decide_true, decide_false, Bool.false_eq_true, Bool.true_eq_false, Bool.not_true, Bool.not_false, Nat.le_refl, eq_self, gt_iff_lt, ge_iff_le, ne_eq, not_true_eq_false, not_false_eq_true, storeOp, apartOf, freeze_nil, refsL, refs, List.flatMap_cons, List.flatMap_nil, List.append_nil, List.contains_nil, List.set_cons_zero, List.set_cons_succ, snap, snapL, fill_nums, flat_nums, nums_length, rows, hlt', hk0, Int.toNat_natCast, hsub, hid', hi4, hi1, hsubL, hj0, hjl', e1, e2, e3, e4, e5, e6, List.flatten_cons, List.flatten_nil, Option.getD_some, Nat.zero_add, freeze1]
        refine loopQ_go rfl (d - (i + 1)) (by omega) ⟨i + 1, by omega, rfl, ?_⟩
        have q1 : ints (p ++ [(i : Int)]) = .sl (p.length + 1) 1 (nums .i64 p ++ [.int .i64 i]) := by simp [ints, nums]
        have q2 : (allS (L.take j) d ++ (List.range (i + 1)).map fun n : Nat => p ++ [(n : Int)]).map ints = (allS (L.take j) d ++ (List.range i).map fun n : Nat => p ++ [(n : Int)]).map ints ++ [.sl (p.length + 1) 1 (nums .i64 p ++ [.int .i64 i])] := by
          rw [List.range_succ]
          simp only [List.map_append, List.map_cons, List.map_nil, List.append_assoc, q1]
        rw [q2]
        rfl
      · have hid' : ¬ (i : Int) < (d : Int) := by omega
        obtain rfl : i = d := by omega
        simp only [b80_2, k80_0, mNil, nat0, beq_self_eq_true, mSkip, mRet, mExit, mReg, mSeq, mCond, mTrue, mFalse, mBlock, mLv, mCodeE, mCodeR, mEndN, mEndR, mEndE, mOps, mSome, mGuard, mGtt, mGff, mGtf, mGft, mGu, mCallP, mCallR, mCallF, mCallO, mCallZ, mCallG, mCallM, mCallV, loopQ_exit, loopQ_ret, mO_mov, mO_newnil, mO_pick, mO_alloc, mO_box, mO_build, mO_bsl, mO_bslF, mO_ldf, mO_ld, mO_st, mO_sta, mO_nilchk, mO_bin, mO_binb, mO_binp, mO_bins, mO_neg, mO_com, mO_not, mO_conv, mO_mk, mO_mk0, mO_s2b, mO_b2s, mO_cpy, mO_cut, mO_faddr, mO_fld, mO_iaddr, mO_iaddrf, mO_sidx, mO_len, mO_lenf, mO_slen, mO_scut, mO_app, mO_ext, mO_mx, mO_mn, mO_mkfn, evalOp, cutOp, argsE, ev, getE, putE, cellsOf, adopt, rowOf, binV, boolV, nilV, ar_add, ar_sub, ar_mul, ar_quo, ar_rem, ar_eq, ar_ne, ar_lt, ar_le, ar_gt, ar_ge, ar_and, ar_or, ar_xor, geto, bound, finRet, finNrm, ints, List.length_cons, List.length_nil, List.length_append, List.getElem?_cons_zero, List.getElem?_cons_succ, List.nil_append, List.cons_append, List.map_cons, List.map_nil, List.mapM_cons, List.mapM_nil, Option.map_some, Option.map_none, Option.bind_some, Option.pure_def, Option.bind_eq_bind, List.drop_zero, ↓reduceIte, Nat.reduceEqDiff, Nat.reduceAdd, Nat.reduceMul, Nat.reduceLeDiff, Nat.reduceLT, Int.reduceToNat, Int.reduceLT, Int.reduceLE, reduceCtorEq, or_self, or_false, false_or, or_true, true_or, true_and, and_true, and_self, decide_true, decide_false, Bool.false_eq_true, Bool.true_eq_false, Bool.not_true, Bool.not_false, Nat.le_refl, eq_self, gt_iff_lt, ge_iff_le, ne_eq, not_true_eq_false, not_false_eq_true, rows, hlt', hk0, Int.toNat_natCast, hsub, hid', hj1]
        refine loopQ_go rfl (L.length - (j + 1)) (by omega) ⟨j + 1, by omega, rfl, ?_⟩
        rw [htk, Nat.succ_mul]
        rfl
    · have hjl' : ¬ (j : Int) < (L.length : Int) := by omega
      obtain rfl : j = L.length := by omega
      simp only [b80_1, k80_1, k80_2, mNil, nat0, beq_self_eq_true, mSkip, mRet, mExit, mReg, mSeq, mCond, mTrue, mFalse, mBlock, mLv, mCodeE, mCodeR, mEndN, mEndR, mEndE, mOps, mSome, mGuard, mGtt, mGff, mGtf, mGft, mGu, mCallP, mCallR, mCallF, mCallO, mCallZ, mCallG, mCallM, mCallV, loopQ_exit, loopQ_ret, mO_mov, mO_newnil, mO_pick, mO_alloc, mO_box, mO_build, mO_bsl, mO_bslF, mO_ldf, mO_ld, mO_st, mO_sta, mO_nilchk, mO_bin, mO_binb, mO_binp, mO_bins, mO_neg, mO_com, mO_not, mO_conv, mO_mk, mO_mk0, mO_s2b, mO_b2s, mO_cpy, mO_cut, mO_faddr, mO_fld, mO_iaddr, mO_iaddrf, mO_sidx, mO_len, mO_lenf, mO_slen, mO_scut, mO_app, mO_ext, mO_mx, mO_mn, mO_mkfn, evalOp, cutOp, argsE, ev, getE, putE, cellsOf, adopt, rowOf, binV, boolV, nilV, ar_add, ar_sub, ar_mul, ar_quo, ar_rem, ar_eq, ar_ne, ar_lt, ar_le, ar_gt, ar_ge, ar_and, ar_or, ar_xor, geto, bound, finRet, finNrm, ints, List.length_cons, List.length_nil, List.length_append, List.getElem?_cons_zero, List.getElem?_cons_succ, List.nil_append, List.cons_append, List.map_cons, List.map_nil, List.mapM_cons, List.mapM_nil, Option.map_some, Option.map_none, Option.bind_some, Option.pure_def, Option.bind_eq_bind, List.drop_zero, ↓reduceIte, Nat.reduceEqDiff, Nat.reduceAdd, Nat.reduceMul, Nat.reduceLeDiff, Nat.reduceLT, Int.reduceToNat, Int.reduceLT, Int.reduceLE, reduceCtorEq, or_self, or_false, false_or, or_true, true_or, true_and, and_true, and_self, decide_true, decide_false, Bool.false_eq_true, Bool.true_eq_false, Bool.not_true, Bool.not_false, Nat.le_refl, eq_self, gt_iff_lt, ge_iff_le, ne_eq, not_true_eq_false, not_false_eq_true, rows, hjl', hk1]
      refine loopQ_go (s2 := ⟨[(0, ints s), (3, rows (allS L d)), (4, .int .i64 ((k + 1 : Nat) : Int))], []⟩) ?_ (s.length - (k + 1)) (by omega) ⟨k + 1, by omega, rfl, by rw [hall]; rfl⟩
      simp only [headOf, keepOne, mNil, nat0, beq_self_eq_true, mSkip, mRet, mExit, mReg, mSeq, mCond, mTrue, mFalse, mBlock, mLv, mCodeE, mCodeR, mEndN, mEndR, mEndE, mOps, mSome, mGuard, mGtt, mGff, mGtf, mGft, mGu, mCallP, mCallR, mCallF, mCallO, mCallZ, mCallG, mCallM, mCallV, loopQ_exit, loopQ_ret, mO_mov, mO_newnil, mO_pick, mO_alloc, mO_box, mO_build, mO_bsl, mO_bslF, mO_ldf, mO_ld, mO_st, mO_sta, mO_nilchk, mO_bin, mO_binb, mO_binp, mO_bins, mO_neg, mO_com, mO_not, mO_conv, mO_mk, mO_mk0, mO_s2b, mO_b2s, mO_cpy, mO_cut, mO_faddr, mO_fld, mO_iaddr, mO_iaddrf, mO_sidx, mO_len, mO_lenf, mO_slen, mO_scut, mO_app, mO_ext, mO_mx, mO_mn, mO_mkfn, evalOp, cutOp, argsE, ev, getE, putE, cellsOf, adopt, rowOf, binV, boolV, nilV, ar_add, ar_sub, ar_mul, ar_quo, ar_rem, ar_eq, ar_ne, ar_lt, ar_le, ar_gt, ar_ge, ar_and, ar_or, ar_xor, geto, bound, finRet, finNrm, ints, List.length_cons, List.length_nil, List.length_append, List.getElem?_cons_zero, List.getElem?_cons_succ, List.nil_append, List.cons_append, List.map_cons, List.map_nil, List.mapM_cons, List.mapM_nil, Option.map_some, Option.map_none, Option.bind_some, Option.pure_def, Option.bind_eq_bind, List.drop_zero, ↓reduceIte, Nat.reduceEqDiff, Nat.reduceAdd, Nat.reduceMul, Nat.reduceLeDiff, Nat.reduceLT, Int.reduceToNat, Int.reduceLT, Int.reduceLE, reduceCtorEq, or_self, or_false, false_or, or_true, true_or, true_and, and_true, and_self, decide_true, decide_false, Bool.false_eq_true, Bool.true_eq_false, Bool.not_true, Bool.not_false, Nat.le_refl, eq_self, gt_iff_lt, ge_iff_le, ne_eq, not_true_eq_false, not_false_eq_true, storeOp, apartOf, freeze_nil, refsL, refs, List.flatMap_cons, List.flatMap_nil, List.append_nil, List.contains_nil, List.set_cons_zero, List.set_cons_succ, snap, snapL, fill_nums, flat_nums, nums_length, List.contains_cons, Nat.reduceBEq, Bool.or_false, Bool.false_or]
      rw [List.take_length]
      refine (if_pos (by rfl)).trans ?_
      rw [rows, ← allS_len]
      rfl
  · have hlt' : ¬ (k : Int) < (s.length : Int) := by omega
    obtain rfl : k = s.length := by omega
    simp only [b80_0, k80_3, mNil, nat0, beq_self_eq_true, mSkip, mRet, mExit, mReg, mSeq, mCond, mTrue, mFalse, mBlock, mLv, mCodeE, mCodeR, mEndN, mEndR, mEndE, mOps, mSome, mGuard, mGtt, mGff, mGtf, mGft, mGu, mCallP, mCallR, mCallF, mCallO, mCallZ, mCallG, mCallM, mCallV, loopQ_exit, loopQ_ret, mO_mov, mO_newnil, mO_pick, mO_alloc, mO_box, mO_build, mO_bsl, mO_bslF, mO_ldf, mO_ld, mO_st, mO_sta, mO_nilchk, mO_bin, mO_binb, mO_binp, mO_bins, mO_neg, mO_com, mO_not, mO_conv, mO_mk, mO_mk0, mO_s2b, mO_b2s, mO_cpy, mO_cut, mO_faddr, mO_fld, mO_iaddr, mO_iaddrf, mO_sidx, mO_len, mO_lenf, mO_slen, mO_scut, mO_app, mO_ext, mO_mx, mO_mn, mO_mkfn, evalOp, cutOp, argsE, ev, getE, putE, cellsOf, adopt, rowOf, binV, boolV, nilV, ar_add, ar_sub, ar_mul, ar_quo, ar_rem, ar_eq, ar_ne, ar_lt, ar_le, ar_gt, ar_ge, ar_and, ar_or, ar_xor, geto, bound, finRet, finNrm, ints, List.length_cons, List.length_nil, List.length_append, List.getElem?_cons_zero, List.getElem?_cons_succ, List.nil_append, List.cons_append, List.map_cons, List.map_nil, List.mapM_cons, List.mapM_nil, Option.map_some, Option.map_none, Option.bind_some, Option.pure_def, Option.bind_eq_bind, List.drop_zero, ↓reduceIte, Nat.reduceEqDiff, Nat.reduceAdd, Nat.reduceMul, Nat.reduceLeDiff, Nat.reduceLT, Int.reduceToNat, Int.reduceLT, Int.reduceLE, reduceCtorEq, or_self, or_false, false_or, or_true, true_or, true_and, and_true, and_self, decide_true, decide_false, Bool.false_eq_true, Bool.true_eq_false, Bool.not_true, Bool.not_false, Nat.le_refl, eq_self, gt_iff_lt, ge_iff_le, ne_eq, not_true_eq_false, not_false_eq_true, rows, hlt']
    simp only [i80, Out, resAll, geto, ints, List.getElem?_cons_zero, List.getElem?_cons_succ, resOf, outOf, snap, snapL, ev, getE, List.mapM_cons, List.mapM_nil, Option.bind_some, Option.pure_def, Option.bind_eq_bind, Option.map_some, reduceIte, Nat.reduceEqDiff, true_and, and_true, List.take_length]
end
end Go.Proofs.YtlejgleocnemoaaGreat.I

namespace Go.Proofs.YtlejgleocnemoaaGreat.I
open Go Go.V
attribute [local go_sem_proc ↓] reduceIte
attribute [local go_sem_proc] Nat.reduceEqDiff Nat.reduceAdd Nat.reduceMul Nat.reduceLeDiff Nat.reduceLT Int.reduceToNat Int.reduceLT Int.reduceLE reduceCtorEq Nat.reduceBEq
attribute [local go_sem] mNil nat0 beq_self_eq_true mSkip mRet mExit mReg mSeq mCond mTrue mFalse mBlock mLv mCodeE mCodeR mEndN mEndR mEndE mOps mSome mGuard mGtt mGff mGtf mGft mGu mCallP mCallR mCallF mCallO mCallZ mCallG mCallM mCallV loopQ_exit loopQ_ret mO_mov mO_newnil mO_pick mO_alloc mO_box mO_build mO_bsl mO_bslF mO_ldf mO_ld mO_st mO_sta mO_nilchk mO_bin mO_binb mO_binp mO_bins mO_neg mO_com mO_not mO_conv mO_mk mO_mk0 mO_s2b mO_b2s mO_cpy mO_cut mO_faddr mO_fld mO_iaddr mO_iaddrf mO_sidx mO_len mO_lenf mO_slen mO_scut mO_app mO_ext mO_mx mO_mn mO_mkfn evalOp cutOp argsE ev getE putE cellsOf adopt rowOf binV boolV nilV ar_add ar_sub ar_mul ar_quo ar_rem ar_eq ar_ne ar_lt ar_le ar_gt ar_ge ar_and ar_or ar_xor geto bound finRet finNrm ints List.length_cons List.length_nil List.length_append List.getElem?_cons_zero List.getElem?_cons_succ List.nil_append List.cons_append List.map_cons List.map_nil List.mapM_cons List.mapM_nil Option.map_some Option.map_none Option.bind_some Option.pure_def Option.bind_eq_bind List.drop_zero or_self or_false false_or or_true true_or true_and and_true and_self decide_true decide_false Bool.false_eq_true Bool.true_eq_false Bool.not_true Bool.not_false Nat.le_refl eq_self gt_iff_lt ge_iff_le ne_eq not_true_eq_false not_false_eq_true storeOp apartOf freeze_nil refsL refs List.flatMap_cons List.flatMap_nil List.append_nil List.contains_nil List.set_cons_zero List.set_cons_succ snap snapL fill_nums flat_nums nums_length Go.V.freeze List.mapIdx_cons List.mapIdx_nil List.contains_cons Bool.or_false Bool.false_or Bool.or_true Bool.true_or
section
variable {E : CallRel}
theorem c116_ok {s t : List Int} (hs : (s.length : Int) ≤ 1000000000000000) (ht : (t.length : Int) ≤ 1000000000000000) : Go.V.Call tab E 116 [ints s, ints t] [] (.bool (decide (s = t))) [] := by
  refine Go.V.Call.mach i116 c116 rfl rfl rfl rfl ?_
  by_cases hl : s.length = t.length
  · have hl' : (s.length : Int) = (t.length : Int) := by omega
    simp only [c116, go_sem, hl', bne_self_eq_false]
    refine mLoop (fun N st => ∃ (k : Nat), k ≤ s.length ∧ N = s.length - k ∧ s.take k = t.take k ∧
      st = ⟨[(0, ints s), (1, ints t), (12, .int .i64 t.length), (13, .int .i64 k)], []⟩) s.length ⟨_, rfl, 0, by omega, by omega, by simp, rfl⟩ ?_
    rintro N s0 ⟨k, hk, rfl, hp, rfl⟩
    by_cases hlt : k < s.length
    · have hlt' : (k : Int) < (t.length : Int) := by omega
      have hlt2 : k < t.length := by omega
      have hk0 : (0 : Int) ≤ (k : Int) := by omega
      have hk1 : IntKind.i64.wrap ((k : Int) + 1) = ((k + 1 : Nat) : Int) := by rw [wrap_i64 (by omega) (by omega)]; omega
      have hsub := sub_nums (k := .i64) hlt
      have hsub2 := sub_nums (k := .i64) hlt2
      by_cases he : s.getD k 0 = t.getD k 0
      · simp only [b116_0, go_sem, hl', hlt', hk0, Int.toNat_natCast, hsub, hsub2, he, bne_self_eq_false, hk1]
        refine loopQ_go (rfl) (s.length - (k + 1)) (by omega) ⟨k + 1, by omega, rfl, ?_, rfl⟩
        rw [List.take_add_one, List.take_add_one, hp]
        congr 1
        have h1 : s[k]? = some (s.getD k 0) := by simp [List.getD, hlt]
        have h2 : t[k]? = some (t.getD k 0) := by simp [List.getD, hlt2]
        rw [h1, h2, he]
      · have he' : (s.getD k 0 != t.getD k 0) = true := by simpa using he
        have hne : s ≠ t := fun h => he (by rw [h])
        simp only [b116_0, go_sem, hl', hlt', hk0, Int.toNat_natCast, hsub, hsub2, he']
        simp only [i116, Out, resAll, geto, ints, List.getElem?_cons_zero, List.getElem?_cons_succ, resOf, outOf, snap, snapL, ev, getE, List.mapM_cons, List.mapM_nil, Option.bind_some, Option.pure_def, Option.bind_eq_bind, Option.map_some, reduceIte, Nat.reduceEqDiff, true_and, and_true, hne, decide_false]
    · have hlt' : ¬ (k : Int) < (t.length : Int) := by omega
      have heq : s = t := by
        rw [List.take_of_length_le (by omega), List.take_of_length_le (by omega)] at hp
        exact hp
      simp only [b116_0, k116_0, go_sem, hl', hlt']
      simp only [i116, Out, resAll, geto, ints, List.getElem?_cons_zero, List.getElem?_cons_succ, resOf, outOf, snap, snapL, ev, getE, List.mapM_cons, List.mapM_nil, Option.bind_some, Option.pure_def, Option.bind_eq_bind, Option.map_some, reduceIte, Nat.reduceEqDiff, true_and, and_true, heq, decide_true]
  · have hl' : ((s.length : Int) != (t.length : Int)) = true := by simp; omega
    have hne : s ≠ t := fun h => hl (by rw [h])
    simp only [c116, go_sem, hl']
    simp only [i116, Out, resAll, geto, ints, List.getElem?_cons_zero, List.getElem?_cons_succ, resOf, outOf, snap, snapL, ev, getE, List.mapM_cons, List.mapM_nil, Option.bind_some, Option.pure_def, Option.bind_eq_bind, Option.map_some, reduceIte, Nat.reduceEqDiff, true_and, and_true, hne, decide_false]
theorem c57_ok {s t : List Int} (hs : (s.length : Int) ≤ 1000000000000000) (ht : (t.length : Int) ≤ 1000000000000000) : Go.V.Call tab E 57 [ints s, ints t] [] (.bool (decide (s = t))) [] := by
  refine Go.V.Call.mach i57 c57 rfl rfl rfl rfl ?_
  simp only [c57, go_sem, snap]
  refine goP (c116_ok hs ht) ?_
  simp only [go_sem]
  simp only [i57, Out, resAll, geto, ints, List.getElem?_cons_zero, List.getElem?_cons_succ, resOf, outOf, snap, snapL, ev, getE, List.mapM_cons, List.mapM_nil, Option.bind_some, Option.pure_def, Option.bind_eq_bind, Option.map_some, reduceIte, Nat.reduceEqDiff, true_and, and_true]
end
theorem nums_append {k : IntKind} {a b : List Int} : nums k (a ++ b) = nums k a ++ nums k b := by simp [nums]
def lensum (L : List (List Int)) : Nat := L.flatten.length
theorem lensum_snoc {L : List (List Int)} {p : List Int} : lensum (L ++ [p]) = lensum L + p.length := by simp [lensum]
theorem lensum_take {L : List (List Int)} {k : Nat} : lensum (L.take k) ≤ lensum L := by
  have : L = L.take k ++ L.drop k := (List.take_append_drop k L).symm
  conv => rhs; rw [this]
  simp only [lensum, List.flatten_append, List.length_append]
  omega
theorem take_snocL {L : List (List Int)} {m : Nat} (h : m < L.length) : L.take (m + 1) = L.take m ++ [L.getD m []] := by
  rw [List.take_add_one]
  congr 1
  simp [List.getD, h]
theorem c152_ok {n : Nat} (hn : (n : Int) ≤ 10000000000000) : Go.V.Call tab E 152 [.nilsl 3 1, .int .i64 n] [] (.arr 0 0) [⟨false, 3, 1, 0, 0, [], false⟩] := by
  refine ⟨0, ?_⟩
  have h1 : (0 : Int) ≤ (n : Int) ∧ (n : Int) * 8 ≤ 140737488355328 := by omega
  simp only [CallN, E, ext, growOf, h1, and_self, if_true]
theorem c121_ok {L : List (List Int)} (hL : (L.length : Int) ≤ 1000000000000) (hs : lensum L ≤ 1000000000000) : Go.V.Call tab E 121 [rows L] [] (ints L.flatten) [] := by
  refine Go.V.Call.mach i121 c121 rfl rfl rfl rfl ?_
  simp only [c121, rows, go_sem]
  refine mLoop (fun N st => ∃ (i : Nat), i ≤ L.length ∧ N = L.length - i ∧
    st = ⟨[(0, rows L), (3, .int .i64 (lensum (L.take i) : Nat)), (9, rows L), (10, .int .i64 L.length), (11, .int .i64 i)], [⟨false, 3, 1, 0, 0, [], false⟩]⟩) L.length ⟨_, rfl, 0, by omega, by omega, by simp [getE, rows, lensum]⟩ ?_
  rintro N s0 ⟨i, hi, rfl, rfl⟩
  by_cases hlt : i < L.length
  · have hlt' : (i : Int) < (L.length : Int) := by omega
    have hi0 : (0 : Int) ≤ (i : Int) := by omega
    have hi1 : IntKind.i64.wrap ((i : Int) + 1) = ((i + 1 : Nat) : Int) := by rw [wrap_i64 (by omega) (by omega)]; omega
    have hsub := sub_rows hlt
    have htk := take_snocL hlt
    have hle := lensum_take (L := L) (k := i + 1)
    have hsn : lensum (L.take (i + 1)) = lensum (L.take i) + (L.getD i []).length := by rw [htk, lensum_snoc]
    have hw : IntKind.i64.wrap ((lensum (L.take i) : Int) + ((L.getD i []).length : Int)) = (lensum (L.take (i + 1)) : Int) := by rw [wrap_i64 (by omega) (by omega)]; omega
    have hneg : ¬ (lensum (L.take (i + 1)) : Int) < 0 := by omega
    simp only [b121_0, rows, go_sem, hlt', hi0, Int.toNat_natCast, hsub, hw, hneg, hi1]
    exact loopQ_go rfl (L.length - (i + 1)) (by omega) ⟨i + 1, by omega, rfl, rfl⟩
  · have hlt' : ¬ (i : Int) < (L.length : Int) := by omega
    obtain rfl : i = L.length := by omega
    simp only [b121_0, k121_1, rows, go_sem, hlt', List.take_length]
    refine goG rfl (c152_ok (n := lensum L) (by omega)) rfl rfl ?_
    simp only [go_sem, fillAll, fillIn, shiftR, shiftV, List.take_succ_cons, List.take_zero, List.drop_succ_cons, List.drop_zero, List.append_nil, Nat.zero_add, shiftO]
    refine mLoop (fun N st => ∃ (j : Nat), j ≤ L.length ∧ N = L.length - j ∧
      st = ⟨[(6, .arr 1 j), (25, rows L), (26, .int .i64 L.length), (27, .int .i64 j)], [⟨false, 3, 1, 0, 0, [], false⟩, ⟨false, 3, 1, j, lensum (L.take j), nums .i64 (L.take j).flatten, false⟩]⟩) L.length ⟨_, rfl, 0, by omega, by omega, by simp [getE, rows, lensum, nums]⟩ ?_
    rintro N s0 ⟨j, hj, rfl, rfl⟩
    by_cases hjl : j < L.length
    · have hjl' : (j : Int) < (L.length : Int) := by omega
      have hj0 : (0 : Int) ≤ (j : Int) := by omega
      have hj1 : IntKind.i64.wrap ((j : Int) + 1) = ((j + 1 : Nat) : Int) := by rw [wrap_i64 (by omega) (by omega)]; omega
      have hsub := sub_rows hjl
      have htk := take_snocL hjl
      have hle := lensum_take (L := L) (k := j + 1)
      have hsn : lensum (L.take (j + 1)) = lensum (L.take j) + (L.getD j []).length := by rw [htk, lensum_snoc]
      have e1 : (lensum (L.take j) + (L.getD j []).length) * 8 ≤ 140737488355328 := by omega
      have e2 : lensum (L.take j) + (L.getD j []).length ≤ 140737488355328 := by omega
      simp only [b121_1, rows, go_sem, hjl', hj0, Int.toNat_natCast, hsub, e1, e2, hj1]
      refine loopQ_go rfl (L.length - (j + 1)) (by omega) ⟨j + 1, by omega, rfl, ?_⟩
      rw [hsn, htk, List.flatten_append, List.flatten_cons, List.flatten_nil, List.append_nil, nums_append]
      rfl
    · have hjl' : ¬ (j : Int) < (L.length : Int) := by omega
      obtain rfl : j = L.length := by omega
      simp only [b121_1, k121_0, rows, go_sem, hjl', List.take_length]
      simp only [i121, Out, resAll, geto, ints, List.getElem?_cons_zero, List.getElem?_cons_succ, resOf, outOf, snap, snapL, ev, getE, List.mapM_cons, List.mapM_nil, Option.bind_some, Option.pure_def, Option.bind_eq_bind, Option.map_some, reduceIte, Nat.reduceEqDiff, true_and, and_true]
      rfl
end Go.Proofs.YtlejgleocnemoaaGreat.I

namespace Go.Proofs.YtlejgleocnemoaaGreat.I
open Go Go.V
attribute [local go_sem] mNil nat0 beq_self_eq_true mSkip mRet mExit mReg mSeq mCond mTrue mFalse mBlock mLv mCodeE mCodeR mEndN mEndR mEndE mOps mSome mGuard mGtt mGff mGtf mGft mGu mCallP mCallR mCallF mCallO mCallZ mCallG mCallM mCallV loopQ_exit loopQ_ret mO_mov mO_newnil mO_pick mO_alloc mO_box mO_build mO_bsl mO_bslF mO_ldf mO_ld mO_st mO_sta mO_nilchk mO_bin mO_binb mO_binp mO_bins mO_neg mO_com mO_not mO_conv mO_mk mO_mk0 mO_s2b mO_b2s mO_cpy mO_cut mO_faddr mO_fld mO_iaddr mO_iaddrf mO_sidx mO_len mO_lenf mO_slen mO_scut mO_app mO_ext mO_mx mO_mn mO_mkfn evalOp cutOp argsE ev getE putE cellsOf adopt rowOf binV boolV nilV ar_add ar_sub ar_mul ar_quo ar_rem ar_eq ar_ne ar_lt ar_le ar_gt ar_ge ar_and ar_or ar_xor geto bound finRet finNrm ints List.length_cons List.length_nil List.length_append List.getElem?_cons_zero List.getElem?_cons_succ List.nil_append List.cons_append List.map_cons List.map_nil List.mapM_cons List.mapM_nil Option.map_some Option.map_none Option.bind_some Option.pure_def Option.bind_eq_bind List.drop_zero or_self or_false false_or or_true true_or true_and and_true and_self decide_true decide_false Bool.false_eq_true Bool.true_eq_false Bool.not_true Bool.not_false Nat.le_refl eq_self gt_iff_lt ge_iff_le ne_eq not_true_eq_false not_false_eq_true storeOp apartOf freeze_nil refsL refs List.flatMap_cons List.flatMap_nil List.append_nil List.contains_nil List.set_cons_zero List.set_cons_succ snap snapL fill_nums flat_nums nums_length Go.V.freeze List.mapIdx_cons List.mapIdx_nil List.contains_cons Bool.or_false Bool.false_or Bool.or_true Bool.true_or
def whC (n : Bool) (p : Nat) : List AV := [us32 (limG p), .bool n]
def wcmp (n : Bool) (p : Nat) (m : Bool) (q : Nat) : Int := if n = true ∧ m = false then -1 else if n = false ∧ m = true then 1 else if n = true then cmpZ q p else cmpZ p q
theorem subW0 {a b : AV} : sub true 1 [a, b] 0 = some (.agg [a]) := rfl
theorem subW1 {a b : AV} : sub false 1 [a, b] 1 = some b := rfl
section
variable {E : CallRel}
def rcmp (x y : Rt) : Int := wcmp ((x.1 != false) && decide (x.2.1 * dn y.2.2 ≠ 0)) (x.2.1 * dn y.2.2) ((y.1 != false) && decide (y.2.1 * dn x.2.2 ≠ 0)) (y.2.1 * dn x.2.2)
end
def RtRed (x : Rt) : Prop := RtOk x ∧ x.2.2 ≠ 0 ∧ Nat.gcd x.2.1 x.2.2 = 1 ∧ (x.1 = true → x.2.1 ≠ 0)
end Go.Proofs.YtlejgleocnemoaaGreat.I

namespace Go.Proofs.YtlejgleocnemoaaGreat.I
open Go Go.V
attribute [local go_sem_proc ↓] reduceIte
attribute [local go_sem_proc] Nat.reduceEqDiff Nat.reduceAdd Nat.reduceMul Nat.reduceLeDiff Nat.reduceLT Int.reduceToNat Int.reduceLT Int.reduceLE reduceCtorEq Nat.reduceBEq
attribute [local go_sem] mNil nat0 beq_self_eq_true mSkip mRet mExit mReg mSeq mCond mTrue mFalse mBlock mLv mCodeE mCodeR mEndN mEndR mEndE mOps mSome mGuard mGtt mGff mGtf mGft mGu mCallP mCallR mCallF mCallO mCallZ mCallG mCallM mCallV loopQ_exit loopQ_ret mO_mov mO_newnil mO_pick mO_alloc mO_box mO_build mO_bsl mO_bslF mO_ldf mO_ld mO_st mO_sta mO_nilchk mO_bin mO_binb mO_binp mO_bins mO_neg mO_com mO_not mO_conv mO_mk mO_mk0 mO_s2b mO_b2s mO_cpy mO_cut mO_faddr mO_fld mO_iaddr mO_iaddrf mO_sidx mO_len mO_lenf mO_slen mO_scut mO_app mO_ext mO_mx mO_mn mO_mkfn evalOp cutOp argsE ev getE putE cellsOf adopt rowOf binV boolV nilV ar_add ar_sub ar_mul ar_quo ar_rem ar_eq ar_ne ar_lt ar_le ar_gt ar_ge ar_and ar_or ar_xor geto bound finRet finNrm ints List.length_cons List.length_nil List.length_append List.getElem?_cons_zero List.getElem?_cons_succ List.nil_append List.cons_append List.map_cons List.map_nil List.mapM_cons List.mapM_nil Option.map_some Option.map_none Option.bind_some Option.pure_def Option.bind_eq_bind List.drop_zero or_self or_false false_or or_true true_or true_and and_true and_self decide_true decide_false Bool.false_eq_true Bool.true_eq_false Bool.not_true Bool.not_false Nat.le_refl eq_self gt_iff_lt ge_iff_le ne_eq not_true_eq_false not_false_eq_true storeOp apartOf freeze_nil refsL refs List.flatMap_cons List.flatMap_nil List.append_nil List.contains_nil List.set_cons_zero List.set_cons_succ snap snapL fill_nums flat_nums nums_length Go.V.freeze List.mapIdx_cons List.mapIdx_nil List.contains_cons Bool.or_false Bool.false_or Bool.or_true Bool.true_or
theorem subT2 {a b c : AV} : sub true 2 [a, b, c] 0 = some (.agg [a, b]) := rfl
def wint (n : Bool) (p : Nat) : Option Int := if n = true then (if p ≤ 9223372036854775808 then some (-(p : Int)) else none) else if p < 9223372036854775808 then some (p : Int) else none
def rint (x : Rt) : Option Int := if dn x.2.2 = 1 then wint x.1 x.2.1 else none
section
variable {E : CallRel}
theorem c189_ok {n : Nat} : Go.V.Call tab E 189 [natC n] [] (.bool (decide (n = 1))) [] := by
  refine Go.V.Call.mach i189 c189 rfl rfl rfl rfl ?_
  by_cases h0 : n = 0
  · subst h0
    simp only [c189, natC, us32, limG_zero, nums, go_sem, sub, fillAll, fillIn, shiftR, shiftV, List.take_succ_cons, List.take_zero, List.drop_succ_cons, List.drop_zero, List.append_nil, Nat.zero_add, show (((0 : Nat) : Int) == 1) = false from rfl, show ((0 : Int) == 1) = false from rfl]
    simp only [i189, Out, resAll, geto, ints, List.getElem?_cons_zero, List.getElem?_cons_succ, resOf, outOf, snap, snapL, ev, getE, List.mapM_cons, List.mapM_nil, Option.bind_some, Option.pure_def, Option.bind_eq_bind, Option.map_some, reduceIte, Nat.reduceEqDiff, true_and, and_true, show decide ((0 : Nat) = 1) = false from rfl]
  · by_cases h1 : n < 4294967296
    · have hl : limG n = [(n : Int)] := by rw [limG_pos h0, show n / 4294967296 = 0 by omega, limG_zero, Nat.mod_eq_of_lt h1]
      have hb : ((n : Int) == 1) = decide (n = 1) := by
        by_cases h : n = 1
        · subst h; rfl
        · rw [decide_eq_false h, beq_eq_false_iff_ne]; omega
      have e0 : ((1 : Int) == 1) = true := rfl
      simp only [c189, natC, us32, hl, nums, go_sem, sub, fillAll, fillIn, shiftR, shiftV, List.take_succ_cons, List.take_zero, List.drop_succ_cons, List.drop_zero, List.append_nil, Nat.zero_add, e0, hb, show (0 : Int) < ((1 : Nat) : Int) from by decide, show (((1 : Nat) : Int) == 1) = true from rfl, show ((0 : Nat) + 1) = 1 from rfl, List.length_singleton]
      simp only [i189, Out, resAll, geto, ints, List.getElem?_cons_zero, List.getElem?_cons_succ, resOf, outOf, snap, snapL, ev, getE, List.mapM_cons, List.mapM_nil, Option.bind_some, Option.pure_def, Option.bind_eq_bind, Option.map_some, reduceIte, Nat.reduceEqDiff, true_and, and_true]
    · have hne : limG n ≠ [] := fun h => h0 (limG_len0 (by rw [h]; rfl))
      have hl : (((limG n).length : Int) == 1) = false := by
        rw [limG_pos h0, List.length_cons, beq_eq_false_iff_ne]
        intro h
        have : limG (n / 4294967296) = [] := List.length_eq_zero_iff.1 (by omega)
        have := limG_len0 (n := n / 4294967296) (by rw [this]; rfl)
        omega
      simp only [c189, natC, us32, go_sem, sub, fillAll, fillIn, shiftR, shiftV, List.take_succ_cons, List.take_zero, List.drop_succ_cons, List.drop_zero, List.append_nil, Nat.zero_add, hl]
      simp only [i189, Out, resAll, geto, ints, List.getElem?_cons_zero, List.getElem?_cons_succ, resOf, outOf, snap, snapL, ev, getE, List.mapM_cons, List.mapM_nil, Option.bind_some, Option.pure_def, Option.bind_eq_bind, Option.map_some, reduceIte, Nat.reduceEqDiff, true_and, and_true, show decide (n = 1) = false from decide_eq_false (by omega)]
theorem c171_gen {n : Bool} {p q : Nat} : Go.V.Call tab E 171 [.agg (ratG n p q)] [] (.bool (decide (dn q = 1))) [] := by
  refine Go.V.Call.mach i171 c171 rfl rfl rfl rfl ?_
  have h100 := c126_gen (E := E) (n := n) (p := p) (q := q)
  have h130 := c189_ok (E := E) (n := dn q)
  simp only [natC, ratG, us32] at h100 h130
  simp only [c171, ratG, us32, go_sem, subT3, fillAll, fillIn, shiftR, shiftV, List.take_succ_cons, List.take_zero, List.drop_succ_cons, List.drop_zero, List.append_nil, Nat.zero_add]
  refine goP h100 ?_
  simp only [go_sem]
  refine goP h130 ?_
  simp only [go_sem]
  simp only [i171, Out, resAll, geto, ints, List.getElem?_cons_zero, List.getElem?_cons_succ, resOf, outOf, snap, snapL, ev, getE, List.mapM_cons, List.mapM_nil, Option.bind_some, Option.pure_def, Option.bind_eq_bind, Option.map_some, reduceIte, Nat.reduceEqDiff, true_and, and_true]
theorem c172_gen {n : Bool} {p : Nat} : Go.V.Call tab E 172 [.agg (whC n p)] [] (optP (wint n p)) [] := by
  refine Go.V.Call.mach i172 c172 rfl rfl rfl rfl ?_
  by_cases hp : p < 18446744073709551616
  · have h131 := c178_nat (E := E) hp
    simp only [natC, us32] at h131
    simp only [c172, whC, us32, go_sem, subW0, fillAll, fillIn, shiftR, shiftV, List.take_succ_cons, List.take_zero, List.drop_succ_cons, List.drop_zero, List.append_nil, Nat.zero_add]
    refine goP h131 ?_
    by_cases h1 : 9223372036854775808 < p
    · have h1' : (9223372036854775808 : Int) < (p : Int) := by omega
      have hw : wint n p = none := by unfold wint; split <;> rw [if_neg (by omega)]
      simp only [go_sem, h1']
      simp only [i172, Out, resAll, geto, ints, List.getElem?_cons_zero, List.getElem?_cons_succ, resOf, outOf, snap, snapL, ev, getE, List.mapM_cons, List.mapM_nil, Option.bind_some, Option.pure_def, Option.bind_eq_bind, Option.map_some, reduceIte, Nat.reduceEqDiff, true_and, and_true, hw, optP]
    · have h1' : ¬ (9223372036854775808 : Int) < (p : Int) := by omega
      cases n with
      | true =>
        have hw : wint true p = some (-(p : Int)) := by unfold wint; rw [if_pos rfl, if_pos (by omega)]
        have e : ((p : Int) == 9223372036854775808) = true ∨ ((p : Int) == 9223372036854775808) = false := by cases h : ((p : Int) == 9223372036854775808) <;> simp
        by_cases h0 : p = 0
        · subst h0
          have e1 : IntKind.u64.wrap (0 - 1) = 18446744073709551615 := by decide
          have e2 : IntKind.i64.wrap 18446744073709551615 = -1 := by decide
          have e3 : IntKind.i64.wrap (0 - (-1)) = 1 := by decide
          have e4 : IntKind.i64.wrap (1 - 1) = 0 := by decide
          have e5 : ((0 : Int) == 9223372036854775808) = false := rfl
          have e6 : ((0 : Nat) : Int) = 0 := rfl
          simp only [go_sem, subW1, h1', e1, e2, e3, e4, e5, e6]
          simp only [i172, Out, resAll, geto, ints, List.getElem?_cons_zero, List.getElem?_cons_succ, resOf, outOf, snap, snapL, ev, getE, List.mapM_cons, List.mapM_nil, Option.bind_some, Option.pure_def, Option.bind_eq_bind, Option.map_some, reduceIte, Nat.reduceEqDiff, true_and, and_true, hw, optP]
          rfl
        · have e1 : IntKind.u64.wrap ((p : Int) - 1) = (p : Int) - 1 := wrap_u64 (by omega) (by omega)
          have e2 : IntKind.i64.wrap ((p : Int) - 1) = (p : Int) - 1 := wrap_i64 (by omega) (by omega)
          have e3 : IntKind.i64.wrap (0 - ((p : Int) - 1)) = 1 - (p : Int) := by rw [wrap_i64 (by omega) (by omega)]; omega
          have e4 : IntKind.i64.wrap (1 - (p : Int) - 1) = -(p : Int) := by rw [wrap_i64 (by omega) (by omega)]; omega
          rcases e with e | e
          · simp only [go_sem, subW1, h1', e, e1, e2, e3, e4]
            simp only [i172, Out, resAll, geto, ints, List.getElem?_cons_zero, List.getElem?_cons_succ, resOf, outOf, snap, snapL, ev, getE, List.mapM_cons, List.mapM_nil, Option.bind_some, Option.pure_def, Option.bind_eq_bind, Option.map_some, reduceIte, Nat.reduceEqDiff, true_and, and_true, hw, optP]
          · simp only [go_sem, subW1, h1', e, e1, e2, e3, e4]
            simp only [i172, Out, resAll, geto, ints, List.getElem?_cons_zero, List.getElem?_cons_succ, resOf, outOf, snap, snapL, ev, getE, List.mapM_cons, List.mapM_nil, Option.bind_some, Option.pure_def, Option.bind_eq_bind, Option.map_some, reduceIte, Nat.reduceEqDiff, true_and, and_true, hw, optP]
      | false =>
        by_cases h2 : p = 9223372036854775808
        · subst h2
          have e : (((9223372036854775808 : Nat) : Int) == 9223372036854775808) = true := rfl
          have hw : wint false 9223372036854775808 = none := rfl
          simp only [go_sem, subW1, h1', e]
          simp only [i172, Out, resAll, geto, ints, List.getElem?_cons_zero, List.getElem?_cons_succ, resOf, outOf, snap, snapL, ev, getE, List.mapM_cons, List.mapM_nil, Option.bind_some, Option.pure_def, Option.bind_eq_bind, Option.map_some, reduceIte, Nat.reduceEqDiff, true_and, and_true, hw, optP]
        · have e : ((p : Int) == 9223372036854775808) = false := by rw [beq_eq_false_iff_ne]; omega
          have hw : wint false p = some (p : Int) := by unfold wint; rw [if_neg (by simp), if_pos (by omega)]
          have e1 : IntKind.i64.wrap (p : Int) = (p : Int) := wrap_i64 (by omega) (by omega)
          simp only [go_sem, subW1, h1', e, e1]
          simp only [i172, Out, resAll, geto, ints, List.getElem?_cons_zero, List.getElem?_cons_succ, resOf, outOf, snap, snapL, ev, getE, List.mapM_cons, List.mapM_nil, Option.bind_some, Option.pure_def, Option.bind_eq_bind, Option.map_some, reduceIte, Nat.reduceEqDiff, true_and, and_true, hw, optP]
  · have h131 := c178_big (E := E) (n := p) (by omega)
    have hw : wint n p = none := by unfold wint; split <;> rw [if_neg (by omega)]
    simp only [natC, us32] at h131
    simp only [c172, whC, us32, go_sem, subW0, fillAll, fillIn, shiftR, shiftV, List.take_succ_cons, List.take_zero, List.drop_succ_cons, List.drop_zero, List.append_nil, Nat.zero_add]
    refine goP h131 ?_
    simp only [go_sem]
    simp only [i172, Out, resAll, geto, ints, List.getElem?_cons_zero, List.getElem?_cons_succ, resOf, outOf, snap, snapL, ev, getE, List.mapM_cons, List.mapM_nil, Option.bind_some, Option.pure_def, Option.bind_eq_bind, Option.map_some, reduceIte, Nat.reduceEqDiff, true_and, and_true, hw, optP]
theorem c143_gen {x : Rt} : Go.V.Call tab E 143 [.agg (rtC x)] [] (optP (rint x)) [] := by
  obtain ⟨n, p, q⟩ := x
  refine Go.V.Call.mach i143 c143 rfl rfl rfl rfl ?_
  have h112 := c171_gen (E := E) (n := n) (p := p) (q := q)
  have h113 := c172_gen (E := E) (n := n) (p := p)
  simp only [ratG, whC, us32] at h112 h113
  by_cases h : dn q = 1
  · rw [decide_eq_true h] at h112
    simp only [c143, rtC, ratG, us32, go_sem, subT3, fillAll, fillIn, shiftR, shiftV, List.take_succ_cons, List.take_zero, List.drop_succ_cons, List.drop_zero, List.append_nil, Nat.zero_add]
    refine goP h112 ?_
    simp only [go_sem, subT2]
    refine goP h113 ?_
    cases hw : wint n p with
    | none =>
      simp only [optP, go_sem]
      simp only [i143, Out, resAll, geto, ints, List.getElem?_cons_zero, List.getElem?_cons_succ, resOf, outOf, snap, snapL, ev, getE, List.mapM_cons, List.mapM_nil, Option.bind_some, Option.pure_def, Option.bind_eq_bind, Option.map_some, reduceIte, Nat.reduceEqDiff, true_and, and_true, rint, h, hw, optP, if_true]
    | some z =>
      simp only [optP, go_sem]
      simp only [i143, Out, resAll, geto, ints, List.getElem?_cons_zero, List.getElem?_cons_succ, resOf, outOf, snap, snapL, ev, getE, List.mapM_cons, List.mapM_nil, Option.bind_some, Option.pure_def, Option.bind_eq_bind, Option.map_some, reduceIte, Nat.reduceEqDiff, true_and, and_true, rint, h, hw, optP, if_true]
  · rw [decide_eq_false h] at h112
    simp only [c143, rtC, ratG, us32, go_sem, subT3, fillAll, fillIn, shiftR, shiftV, List.take_succ_cons, List.take_zero, List.drop_succ_cons, List.drop_zero, List.append_nil, Nat.zero_add]
    refine goP h112 ?_
    simp only [go_sem]
    simp only [i143, Out, resAll, geto, ints, List.getElem?_cons_zero, List.getElem?_cons_succ, resOf, outOf, snap, snapL, ev, getE, List.mapM_cons, List.mapM_nil, Option.bind_some, Option.pure_def, Option.bind_eq_bind, Option.map_some, reduceIte, Nat.reduceEqDiff, true_and, and_true, rint, h, optP, if_false]
def rlimbs (x : Rt) : Nat := max (limG x.2.1).length (limG (dn x.2.2)).length
def wdC (n : Bool) (p : Nat) : List AV := [.bool n, .str (dec p)]
theorem subD2 {a b : AV} : sub true 2 [a, b] 0 = some (.agg [a, b]) := rfl
theorem subD0 {a b : AV} : sub false 1 [a, b] 0 = some a := rfl
theorem subD1 {a b : AV} : sub false 1 [a, b] 1 = some b := rfl
theorem subN0 {a b c : AV} : sub false 1 [a, b, c] 0 = some a := rfl
theorem subN1 {a b c : AV} : sub false 1 [a, b, c] 1 = some b := rfl
theorem subN2 {a b c : AV} : sub false 1 [a, b, c] 2 = some c := rfl
theorem dec_zero : dec 0 = ⟨#[48]⟩ := rfl
theorem dec_one : dec 1 = ⟨#[49]⟩ := by rw [dec_eq, decL_digit (by omega)]; rfl
theorem dec_ne {a b : Nat} : strOp .ne (dec a) (dec b) = some (.bool (!decide (a = b))) := by
  rw [dec_eq, dec_eq]
  simp only [strOp, str_eq (decL_dig a).u8 (decL_dig b).u8]
  congr 3
  by_cases h : a = b
  · subst h; simp
  · rw [decide_eq_false h, decide_eq_false]
    intro hh
    exact h (by rw [← sval_decL a, hh, sval_decL])
theorem c182_ok {n : Bool} {p : Nat} (hp : (decL p).length ≤ 1000000000) : Go.V.Call tab E 182 [.bool n, .str (dec p)] [] (.agg (wdC (n && decide (p ≠ 0)) p)) [] := by
  refine Go.V.Call.mach i182 c182 rfl rfl rfl rfl ?_
  have h120 := c146_dig (E := E) (decL_dig p) (decL_ne p) hp
  rw [sval_decL, ← dec_eq] at h120
  have hne := dec_ne (a := p) (b := 0)
  rw [dec_zero] at hne
  have hd : (!decide (p = 0)) = decide (p ≠ 0) := by simp
  simp only [c182, go_sem, fillAll, fillIn, shiftR, shiftV, List.take_succ_cons, List.take_zero, List.drop_succ_cons, List.drop_zero, List.append_nil, Nat.zero_add]
  refine goP h120 ?_
  cases n with
  | true =>
    simp only [go_sem, fillAll, fillIn, shiftR, shiftV, List.take_succ_cons, List.take_zero, List.drop_succ_cons, List.drop_zero, List.append_nil, Nat.zero_add, hne, hd]
    simp only [i182, Out, resAll, geto, ints, List.getElem?_cons_zero, List.getElem?_cons_succ, resOf, outOf, snap, snapL, ev, getE, List.mapM_cons, List.mapM_nil, Option.bind_some, Option.pure_def, Option.bind_eq_bind, Option.map_some, reduceIte, Nat.reduceEqDiff, true_and, and_true, subD2, wdC, Bool.true_and]
  | false =>
    simp only [go_sem, fillAll, fillIn, shiftR, shiftV, List.take_succ_cons, List.take_zero, List.drop_succ_cons, List.drop_zero, List.append_nil, Nat.zero_add]
    simp only [i182, Out, resAll, geto, ints, List.getElem?_cons_zero, List.getElem?_cons_succ, resOf, outOf, snap, snapL, ev, getE, List.mapM_cons, List.mapM_nil, Option.bind_some, Option.pure_def, Option.bind_eq_bind, Option.map_some, reduceIte, Nat.reduceEqDiff, true_and, and_true, subD2, wdC, Bool.false_and]
theorem c165_ok {x : Rt} (hp : (decL x.2.1).length ≤ 1000000000) : Go.V.Call tab E 165 [.agg (numG x.1 x.2.1 (dn x.2.2))] [] (.agg (wdC (x.1 && decide (x.2.1 ≠ 0)) x.2.1)) [] := by
  refine Go.V.Call.mach i165 c165 rfl rfl rfl rfl ?_
  have h := c182_ok (E := E) (n := x.1) hp
  simp only [c165, numG, go_sem, fillAll, fillIn, shiftR, shiftV, List.take_succ_cons, List.take_zero, List.drop_succ_cons, List.drop_zero, List.append_nil, Nat.zero_add, subN0, subN1]
  refine goP h ?_
  simp only [wdC, go_sem, fillAll, fillIn, shiftR, shiftV, List.take_succ_cons, List.take_zero, List.drop_succ_cons, List.drop_zero, List.append_nil, Nat.zero_add]
  simp only [i165, Out, resAll, geto, ints, List.getElem?_cons_zero, List.getElem?_cons_succ, resOf, outOf, snap, snapL, ev, getE, List.mapM_cons, List.mapM_nil, Option.bind_some, Option.pure_def, Option.bind_eq_bind, Option.map_some, reduceIte, Nat.reduceEqDiff, true_and, and_true, subD2, wdC]
theorem c173_ok {n : Bool} {p : Nat} (hp : (decL p).length ≤ 1000000000) (h0 : n = true → p ≠ 0) : Go.V.Call tab E 173 [.agg (wdC n p)] [] (optP (wint n p)) [] := by
  refine Go.V.Call.mach i173 c173 rfl rfl rfl rfl ?_
  have h139 := c190_ok (E := E) hp
  simp only [c173, wdC, go_sem, fillAll, fillIn, shiftR, shiftV, List.take_succ_cons, List.take_zero, List.drop_succ_cons, List.drop_zero, List.append_nil, Nat.zero_add, subD1, subD0]
  by_cases hb : p < 18446744073709551616
  · rw [if_pos hb] at h139
    refine goP h139 ?_
    cases n with
    | true =>
      have h0' := h0 rfl
      by_cases h1 : 9223372036854775808 < p
      · have h1' : (9223372036854775808 : Int) < (p : Int) := by omega
        have hw : wint true p = none := by unfold wint; rw [if_pos rfl, if_neg (by omega)]
        simp only [go_sem, subD1, subD0, h1']
        simp only [i173, Out, resAll, geto, ints, List.getElem?_cons_zero, List.getElem?_cons_succ, resOf, outOf, snap, snapL, ev, getE, List.mapM_cons, List.mapM_nil, Option.bind_some, Option.pure_def, Option.bind_eq_bind, Option.map_some, reduceIte, Nat.reduceEqDiff, true_and, and_true, hw, optP]
      · have h1' : ¬ (9223372036854775808 : Int) < (p : Int) := by omega
        have hw : wint true p = some (-(p : Int)) := by unfold wint; rw [if_pos rfl, if_pos (by omega)]
        have e1 : IntKind.u64.wrap ((p : Int) - 1) = (p : Int) - 1 := wrap_u64 (by omega) (by omega)
        have e2 : IntKind.i64.wrap ((p : Int) - 1) = (p : Int) - 1 := wrap_i64 (by omega) (by omega)
        have e3 : IntKind.i64.wrap (0 - ((p : Int) - 1)) = 1 - (p : Int) := by rw [wrap_i64 (by omega) (by omega)]; omega
        have e4 : IntKind.i64.wrap (1 - (p : Int) - 1) = -(p : Int) := by rw [wrap_i64 (by omega) (by omega)]; omega
        simp only [go_sem, subD1, subD0, h1', e1, e2, e3, e4]
        simp only [i173, Out, resAll, geto, ints, List.getElem?_cons_zero, List.getElem?_cons_succ, resOf, outOf, snap, snapL, ev, getE, List.mapM_cons, List.mapM_nil, Option.bind_some, Option.pure_def, Option.bind_eq_bind, Option.map_some, reduceIte, Nat.reduceEqDiff, true_and, and_true, hw, optP]
    | false =>
      by_cases h1 : 9223372036854775807 < p
      · have h1' : (9223372036854775807 : Int) < (p : Int) := by omega
        have hw : wint false p = none := by unfold wint; rw [if_neg (by simp), if_neg (by omega)]
        simp only [go_sem, subD1, subD0, h1']
        simp only [i173, Out, resAll, geto, ints, List.getElem?_cons_zero, List.getElem?_cons_succ, resOf, outOf, snap, snapL, ev, getE, List.mapM_cons, List.mapM_nil, Option.bind_some, Option.pure_def, Option.bind_eq_bind, Option.map_some, reduceIte, Nat.reduceEqDiff, true_and, and_true, hw, optP]
      · have h1' : ¬ (9223372036854775807 : Int) < (p : Int) := by omega
        have hw : wint false p = some (p : Int) := by unfold wint; rw [if_neg (by simp), if_pos (by omega)]
        have e1 : IntKind.i64.wrap (p : Int) = (p : Int) := wrap_i64 (by omega) (by omega)
        simp only [go_sem, subD1, subD0, h1', e1]
        simp only [i173, Out, resAll, geto, ints, List.getElem?_cons_zero, List.getElem?_cons_succ, resOf, outOf, snap, snapL, ev, getE, List.mapM_cons, List.mapM_nil, Option.bind_some, Option.pure_def, Option.bind_eq_bind, Option.map_some, reduceIte, Nat.reduceEqDiff, true_and, and_true, hw, optP]
  · rw [if_neg hb] at h139
    refine goP h139 ?_
    have hw : wint n p = none := by unfold wint; split <;> rw [if_neg (by omega)]
    simp only [go_sem, subD1, subD0]
    simp only [i173, Out, resAll, geto, ints, List.getElem?_cons_zero, List.getElem?_cons_succ, resOf, outOf, snap, snapL, ev, getE, List.mapM_cons, List.mapM_nil, Option.bind_some, Option.pure_def, Option.bind_eq_bind, Option.map_some, reduceIte, Nat.reduceEqDiff, true_and, and_true, hw, optP]
theorem rint_norm {n : Bool} {p : Nat} : wint (n && decide (p ≠ 0)) p = wint n p := by
  by_cases h : p = 0
  · subst h; cases n <;> rfl
  · simp [h]
theorem c144_ok {x : Rt} (hp : (decL x.2.1).length ≤ 1000000000) : Go.V.Call tab E 144 [.agg (numG x.1 x.2.1 (dn x.2.2))] [] (optP (rint x)) [] := by
  refine Go.V.Call.mach i144 c144 rfl rfl rfl rfl ?_
  have hne := dec_ne (a := dn x.2.2) (b := 1)
  rw [dec_one] at hne
  have h123 := c165_ok (E := E) hp
  have h122 := c173_ok (E := E) (n := x.1 && decide (x.2.1 ≠ 0)) hp (by intro h; simp at h; exact h.2)
  rw [rint_norm] at h122
  simp only [numG, wdC] at h123 h122
  by_cases h : dn x.2.2 = 1
  · rw [decide_eq_true h] at hne
    simp only [c144, numG, go_sem, fillAll, fillIn, shiftR, shiftV, List.take_succ_cons, List.take_zero, List.drop_succ_cons, List.drop_zero, List.append_nil, Nat.zero_add, subN2, hne, subT3]
    refine goP h123 ?_
    simp only [go_sem]
    refine goP h122 ?_
    have hri : rint x = wint x.1 x.2.1 := by rw [rint, if_pos h]
    clear h hne
    cases hw : wint x.1 x.2.1 with
    | none =>
      simp only [optP, go_sem]
      simp only [i144, Out, resAll, geto, ints, List.getElem?_cons_zero, List.getElem?_cons_succ, resOf, outOf, snap, snapL, ev, getE, List.mapM_cons, List.mapM_nil, Option.bind_some, Option.pure_def, Option.bind_eq_bind, Option.map_some, reduceIte, Nat.reduceEqDiff, true_and, and_true, hri, hw, optP]
    | some z =>
      simp only [optP, go_sem]
      simp only [i144, Out, resAll, geto, ints, List.getElem?_cons_zero, List.getElem?_cons_succ, resOf, outOf, snap, snapL, ev, getE, List.mapM_cons, List.mapM_nil, Option.bind_some, Option.pure_def, Option.bind_eq_bind, Option.map_some, reduceIte, Nat.reduceEqDiff, true_and, and_true, hri, hw, optP]
  · rw [decide_eq_false h] at hne
    simp only [c144, numG, go_sem, fillAll, fillIn, shiftR, shiftV, List.take_succ_cons, List.take_zero, List.drop_succ_cons, List.drop_zero, List.append_nil, Nat.zero_add, subN2, hne, subT3]
    have hri : rint x = none := by rw [rint, if_neg h]
    simp only [i144, Out, resAll, geto, ints, List.getElem?_cons_zero, List.getElem?_cons_succ, resOf, outOf, snap, snapL, ev, getE, List.mapM_cons, List.mapM_nil, Option.bind_some, Option.pure_def, Option.bind_eq_bind, Option.map_some, reduceIte, Nat.reduceEqDiff, true_and, and_true, hri, optP]
end
def rv (x : Rt) : Int := (rint x).getD 0
def WhO (l : List Rt) : Prop := ∀ x ∈ l, (rint x).isSome = true
theorem WhO_take {l : List Rt} {i : Nat} (h : i < l.length) : WhO (l.take (i + 1)) ↔ WhO (l.take i) ∧ (rint (rtAt l i)).isSome = true := by
  have : l.take (i + 1) = l.take i ++ [rtAt l i] := takeAt h
  rw [this]
  unfold WhO
  simp only [List.mem_append, List.mem_singleton]
  exact ⟨fun h => ⟨fun x hx => h x (.inl hx), h _ (.inr rfl)⟩, fun h x hx => hx.elim (h.1 x) (fun e => e ▸ h.2)⟩
theorem rtAt_mem {l : List Rt} {i : Nat} (h : i < l.length) : rtAt l i ∈ l := by simp [rtAt, List.getD, h]
theorem nmAt_map {l : List Rt} {i : Nat} (h : i < l.length) : nmAt (l.map toNm) i = toNm (rtAt l i) := by simp [nmAt, rtAt, List.getD, h]
theorem rv_of {x : Rt} {z : Int} (h : rint x = some z) : rv x = z := by rw [rv, h]; rfl
theorem RtOk.len {x : Rt} (h : RtOk x) : (decL x.2.1).length ≤ 1000000000 ∧ (decL (dn x.2.2)).length ≤ 1000000000 := ⟨Nat.le_trans (lim2000_len h.1) (by omega), Nat.le_trans (lim2000_len h.2) (by omega)⟩
def lmax (l : List Rt) : Nat := l.foldl (fun a x => max a (rlimbs x)) 0
def rbytes (x : Rt) : Nat := 8 + 4 * ((limG x.2.1).length + (limG (dn x.2.2)).length)
def bsum (l : List Rt) : Nat := l.foldl (fun a x => a + rbytes x) 0
def runeAt (t : List Int) (k : Int) : Int := if 0 ≤ k ∧ k < t.length then t.getD k.toNat 0 else 0
theorem subX3 {a b c d e : AV} : sub false 1 [a, b, c, d, e] 3 = some d := rfl
theorem c100_X {s t : List Int} {l : List Rt} {ch ok : Bool} (ht : (t.length : Int) ≤ 1000000000000) (hl : (l.length : Int) ≤ 1000000000000) (hok : ok = true ↔ ¬ (ch = true ∧ 0 < t.length + l.length) ∧ WhO l) :
    Go.V.Call tab E 100 [.agg (arrX s ch t l)] [] (.tup [.arr 0 0, .bool ok]) [rowI (if ok then l.map rv else [])] := by
  refine Go.V.Call.mach i100 c100 rfl rfl rfl rfl ?_
  have hfalse : ¬ (¬ (ch = true ∧ 0 < t.length + l.length) ∧ WhO l) → ok = false := fun h => by rw [← Bool.not_eq_true, hok]; exact h
  have h54 := c55_X (s := s) (ch := ch) ht hl
  simp only [arrX, runes, ints] at h54
  have main : ¬ (ch = true ∧ 0 < t.length + l.length) → Mach (Go.V.Call tab E) (Fin i100 [] (.tup [.arr 0 0, .bool ok]) [rowI (if ok then l.map rv else [])]) [.code (.seq (.seq (.reg none [⟨some 16, .faddr 3 (.t 1), none⟩,
      ⟨some 17, .ld false 1 (.t 16), none⟩, ⟨some 18, .lenf (.t 17), none⟩, ⟨some 19, .mov (.k (.int .i64 0)), none⟩]) (.lv [4, 17, 18, 19] (.block 0 (.loop [4, 17, 18, 19] (some (3, [])) b100_0)))) k100_0)] .nrm
      ⟨[(1, .loc 0 0 0), (4, .arr 2 0)], [⟨true, 35, 5, 0, 1, arrX s ch t l, false⟩, ⟨false, 3, 1, 0, 0, [], false⟩, ⟨false, 3, 1, 0, 0, [], false⟩]⟩ := fun hch => by
    simp only [arrX, runes, ints, go_sem, subX3, fillAll, fillIn, shiftR, shiftV, List.take_succ_cons, List.take_zero, List.drop_succ_cons, List.drop_zero, List.append_nil, Nat.zero_add]
    refine mLoop (fun N st => ∃ (i : Nat), i ≤ l.length ∧ N = l.length - i ∧ WhO (l.take i) ∧
      st = ⟨[(4, .arr 2 i), (17, .sl l.length 3 (rtsC l)), (18, .int .i64 l.length), (19, .int .i64 i)],
        [⟨true, 35, 5, 0, 1, arrX s ch t l, false⟩, ⟨false, 3, 1, 0, 0, [], false⟩, ⟨false, 3, 1, i, i, nums .i64 ((l.take i).map rv), false⟩]⟩) l.length
      ⟨_, rfl, 0, by omega, by omega, fun x hx => by simp at hx, by simp [nums, getE, ints, arrX, runes]⟩ ?_
    rintro N s0 ⟨i, hi, rfl, hw, rfl⟩
    by_cases hlt : i < l.length
    · have hlt' : (i : Int) < (l.length : Int) := by omega
      have hi0 : (0 : Int) ≤ (i : Int) := by omega
      have hi1 : IntKind.i64.wrap ((i : Int) + 1) = ((i + 1 : Nat) : Int) := by rw [wrap_i64 (by omega) (by omega)]; omega
      have hsub := sub_rts hlt
      have htk : l.take (i + 1) = l.take i ++ [rtAt l i] := takeAt hlt
      have hwt := WhO_take hlt
      have e1 : (i + 1) * 8 ≤ 140737488355328 := by omega
      have e2 : i + 1 ≤ 140737488355328 := by omega
      have h88 := c143_gen (E := E) (x := rtAt l i)
      cases hr : rint (rtAt l i) with
      | none =>
        have := hfalse (fun h => by have := h.2 _ (rtAt_mem hlt); rw [hr] at this; cases this)
        subst this
        rw [hr] at h88
        simp only [optP, rtC, ratG, us32] at h88
        simp only [b100_0, arrX, runes, ints, go_sem, hlt', hi0, Int.toNat_natCast, hsub, rtC, ratG, us32, subT3, fillAll, fillIn, shiftR, shiftV, List.take_succ_cons, List.take_zero, List.drop_succ_cons, List.drop_zero, List.append_nil, Nat.zero_add]
        refine goR h88 rfl ?_
        simp only [go_sem, fillAll, fillIn, shiftR, shiftV, List.take_succ_cons, List.take_zero, List.drop_succ_cons, List.drop_zero, List.append_nil, Nat.zero_add]
        simp only [i100, Out, resAll, geto, ints, List.getElem?_cons_zero, List.getElem?_cons_succ, resOf, outOf, snap, snapL, ev, getE, List.mapM_cons, List.mapM_nil, Option.bind_some, Option.pure_def, Option.bind_eq_bind, Option.map_some, reduceIte, Nat.reduceEqDiff, true_and, and_true, ownOut, ownL, ownV, scalar, List.contains_nil, List.length_nil, List.length_cons, List.nil_append, List.cons_append, storeOp, apartOf, freeze_nil, refsL, refs, List.flatMap_cons, List.flatMap_nil, List.append_nil, List.contains_nil, List.set_cons_zero, List.set_cons_succ, snap, snapL, fill_nums, flat_nums, nums_length, reduceCtorEq, Bool.false_eq_true, and_self, not_false_eq_true, beq_self_eq_true, Nat.zero_add]
        rfl
      | some z =>
        have hz : rv (rtAt l i) = z := rv_of hr
        rw [hr] at h88 hwt
        simp only [optP, rtC, ratG, us32] at h88
        simp only [b100_0, arrX, runes, ints, go_sem, hlt', hi0, Int.toNat_natCast, hsub, rtC, ratG, us32, subT3, fillAll, fillIn, shiftR, shiftV, List.take_succ_cons, List.take_zero, List.drop_succ_cons, List.drop_zero, List.append_nil, Nat.zero_add]
        refine goR h88 rfl ?_
        simp only [go_sem, fillAll, fillIn, shiftR, shiftV, List.take_succ_cons, List.take_zero, List.drop_succ_cons, List.drop_zero, List.append_nil, Nat.zero_add, hi1, e1, e2, List.flatten_cons, List.flatten_nil, Option.getD_some]
        refine loopQ_go rfl (l.length - (i + 1)) (by omega) ⟨i + 1, by omega, rfl, hwt.2 ⟨hw, rfl⟩, ?_⟩
        rw [htk]
        simp only [nums, List.map_append, List.map_cons, List.map_nil, hz, arrX, runes, ints]
        rfl
    · have hlt' : ¬ (i : Int) < (l.length : Int) := by omega
      obtain rfl : i = l.length := by omega
      rw [List.take_length] at hw
      have := hok.2 ⟨hch, hw⟩
      subst this
      simp only [b100_0, k100_0, arrX, runes, ints, go_sem, hlt', List.take_length, Int.lt_irrefl]
      simp only [i100, Out, resAll, geto, ints, List.getElem?_cons_zero, List.getElem?_cons_succ, resOf, outOf, snap, snapL, ev, getE, List.mapM_cons, List.mapM_nil, Option.bind_some, Option.pure_def, Option.bind_eq_bind, Option.map_some, reduceIte, Nat.reduceEqDiff, true_and, and_true, ownOut, ownL, ownV, scalar, List.contains_nil, List.length_nil, List.length_cons, List.nil_append, List.cons_append, storeOp, apartOf, freeze_nil, refsL, refs, List.flatMap_cons, List.flatMap_nil, List.append_nil, List.contains_nil, List.set_cons_zero, List.set_cons_succ, snap, snapL, fill_nums, flat_nums, nums_length, reduceCtorEq, Bool.false_eq_true, and_self, not_false_eq_true, beq_self_eq_true, Nat.zero_add]
      simp [rowI]
  cases ch with
  | true =>
    simp only [c100, arrX, runes, ints, go_sem, subX1, subA5, fillAll, fillIn, shiftR, shiftV, List.take_succ_cons, List.take_zero, List.drop_succ_cons, List.drop_zero, List.append_nil, Nat.zero_add]
    refine goP h54 ?_
    by_cases h0 : 0 < t.length + l.length
    · have h0' : (0 : Int) < ((t.length + l.length : Nat) : Int) := by omega
      have := hfalse (fun h => h.1 ⟨rfl, h0⟩)
      subst this
      simp only [go_sem, h0']
      simp only [i100, Out, resAll, geto, ints, List.getElem?_cons_zero, List.getElem?_cons_succ, resOf, outOf, snap, snapL, ev, getE, List.mapM_cons, List.mapM_nil, Option.bind_some, Option.pure_def, Option.bind_eq_bind, Option.map_some, reduceIte, Nat.reduceEqDiff, true_and, and_true, ownOut, ownL, ownV, scalar, List.contains_nil, List.length_nil, List.length_cons, List.nil_append, List.cons_append, storeOp, apartOf, freeze_nil, refsL, refs, List.flatMap_cons, List.flatMap_nil, List.append_nil, List.contains_nil, List.set_cons_zero, List.set_cons_succ, snap, snapL, fill_nums, flat_nums, nums_length, reduceCtorEq, Bool.false_eq_true, and_self, not_false_eq_true, beq_self_eq_true, Nat.zero_add]
      rfl
    · have h0' : ¬ (0 : Int) < ((t.length + l.length : Nat) : Int) := by omega
      have hm := main (fun h => h0 h.2)
      simp only [arrX, runes, ints, go_sem, subX3, fillAll, fillIn, shiftR, shiftV, List.take_succ_cons, List.take_zero, List.drop_succ_cons, List.drop_zero, List.append_nil, Nat.zero_add] at hm
      simp only [go_sem, h0', subX3]
      exact hm
  | false =>
    have hm := main (fun h => by cases h.1)
    simp only [arrX, runes, ints, go_sem, subX3, fillAll, fillIn, shiftR, shiftV, List.take_succ_cons, List.take_zero, List.drop_succ_cons, List.drop_zero, List.append_nil, Nat.zero_add] at hm
    simp only [c100, arrX, runes, ints, go_sem, subX1, subX3, subA5, fillAll, fillIn, shiftR, shiftV, List.take_succ_cons, List.take_zero, List.drop_succ_cons, List.drop_zero, List.append_nil, Nat.zero_add]
    exact hm
theorem subP3n {a b c d : AV} : sub false 1 [a, b, c, d] 3 = some d := rfl
theorem c103_ok {s t : List Int} {l : List Rt} {ch ok : Bool} (ht : (t.length : Int) ≤ 1000000000000) (hl : (l.length : Int) ≤ 1000000000000) (hlk : ∀ x ∈ l, RtOk x) (hok : ok = true ↔ t.length = 0 ∧ WhO l) :
    Go.V.Call tab E 103 [.agg (plX s ch t (l.map toNm))] [] (.tup [.arr 0 0, .bool ok]) [rowI (if ok then l.map rv else [])] := by
  refine Go.V.Call.mach i103 c103 rfl rfl rfl rfl ?_
  have hfalse : ¬ (t.length = 0 ∧ WhO l) → ok = false := fun h => by rw [← Bool.not_eq_true, hok]; exact h
  by_cases h0 : 0 < t.length
  · have h0' : (0 : Int) < (t.length : Int) := by omega
    have := hfalse (fun h => by omega)
    subst this
    simp only [c103, plX, runes, ints, go_sem, subP4c, fillAll, fillIn, shiftR, shiftV, List.take_succ_cons, List.take_zero, List.drop_succ_cons, List.drop_zero, List.append_nil, Nat.zero_add, h0']
    simp only [i103, Out, resAll, geto, ints, List.getElem?_cons_zero, List.getElem?_cons_succ, resOf, outOf, snap, snapL, ev, getE, List.mapM_cons, List.mapM_nil, Option.bind_some, Option.pure_def, Option.bind_eq_bind, Option.map_some, reduceIte, Nat.reduceEqDiff, true_and, and_true, ownOut, ownL, ownV, scalar, List.contains_nil, List.length_nil, List.length_cons, List.nil_append, List.cons_append, storeOp, apartOf, freeze_nil, refsL, refs, List.flatMap_cons, List.flatMap_nil, List.append_nil, List.contains_nil, List.set_cons_zero, List.set_cons_succ, snap, snapL, fill_nums, flat_nums, nums_length, reduceCtorEq, Bool.false_eq_true, and_self, not_false_eq_true, beq_self_eq_true, Nat.zero_add]
    rfl
  · have h0' : ¬ (0 : Int) < (t.length : Int) := by omega
    have hlm : (l.map toNm).length = l.length := by simp
    simp only [c103, plX, runes, ints, go_sem, subP4c, fillAll, fillIn, shiftR, shiftV, List.take_succ_cons, List.take_zero, List.drop_succ_cons, List.drop_zero, List.append_nil, Nat.zero_add, h0', hlm]
    refine mLoop (fun N st => ∃ (i : Nat), i ≤ l.length ∧ N = l.length - i ∧ WhO (l.take i) ∧
      st = ⟨[(1, .loc 0 0 0), (4, .arr 2 i), (5, .int .i64 i)],
        [⟨true, 26, 4, 0, 1, plX s ch t (l.map toNm), false⟩, ⟨false, 3, 1, 0, 0, [], false⟩, ⟨false, 3, 1, i, i, nums .i64 ((l.take i).map rv), false⟩]⟩) l.length
      ⟨_, rfl, 0, by omega, by omega, fun x hx => by simp at hx, by simp [nums, getE, ints, plX, runes]⟩ ?_
    rintro N s0 ⟨i, hi, rfl, hw, rfl⟩
    by_cases hlt : i < l.length
    · have hlt' : (i : Int) < (l.length : Int) := by omega
      have hi0 : (0 : Int) ≤ (i : Int) := by omega
      have hi1 : IntKind.i64.wrap ((i : Int) + 1) = ((i + 1 : Nat) : Int) := by rw [wrap_i64 (by omega) (by omega)]; omega
      have hsub := sub_nms (l := l.map toNm) (i := i) (by rw [hlm]; exact hlt)
      rw [nmAt_map hlt, ← nmC_dec] at hsub
      have htk : l.take (i + 1) = l.take i ++ [rtAt l i] := takeAt hlt
      have hwt := WhO_take hlt
      have e1 : (i + 1) * 8 ≤ 140737488355328 := by omega
      have e2 : i + 1 ≤ 140737488355328 := by omega
      have h97 := c144_ok (E := E) (x := rtAt l i) (hlk _ (rtAt_mem hlt)).len.1
      cases hr : rint (rtAt l i) with
      | none =>
        have := hfalse (fun h => by have := h.2 _ (rtAt_mem hlt); rw [hr] at this; cases this)
        subst this
        rw [hr] at h97
        simp only [optP, numG] at h97
        simp only [b103_0, plX, runes, ints, go_sem, subP3n, subP3, hlt', hi0, hlm, Int.toNat_natCast, hsub, numG, fillAll, fillIn, shiftR, shiftV, List.take_succ_cons, List.take_zero, List.drop_succ_cons, List.drop_zero, List.append_nil, Nat.zero_add]
        refine goP h97 ?_
        simp only [go_sem, fillAll, fillIn, shiftR, shiftV, List.take_succ_cons, List.take_zero, List.drop_succ_cons, List.drop_zero, List.append_nil, Nat.zero_add]
        simp only [i103, Out, resAll, geto, ints, List.getElem?_cons_zero, List.getElem?_cons_succ, resOf, outOf, snap, snapL, ev, getE, List.mapM_cons, List.mapM_nil, Option.bind_some, Option.pure_def, Option.bind_eq_bind, Option.map_some, reduceIte, Nat.reduceEqDiff, true_and, and_true, ownOut, ownL, ownV, scalar, List.contains_nil, List.length_nil, List.length_cons, List.nil_append, List.cons_append, storeOp, apartOf, freeze_nil, refsL, refs, List.flatMap_cons, List.flatMap_nil, List.append_nil, List.contains_nil, List.set_cons_zero, List.set_cons_succ, snap, snapL, fill_nums, flat_nums, nums_length, reduceCtorEq, Bool.false_eq_true, and_self, not_false_eq_true, beq_self_eq_true, Nat.zero_add]
        rfl
      | some z =>
        have hz : rv (rtAt l i) = z := rv_of hr
        rw [hr] at h97 hwt
        simp only [optP, numG] at h97
        simp only [b103_0, plX, runes, ints, go_sem, subP3n, subP3, hlt', hi0, hlm, Int.toNat_natCast, hsub, numG, fillAll, fillIn, shiftR, shiftV, List.take_succ_cons, List.take_zero, List.drop_succ_cons, List.drop_zero, List.append_nil, Nat.zero_add]
        refine goP h97 ?_
        simp only [go_sem, fillAll, fillIn, shiftR, shiftV, List.take_succ_cons, List.take_zero, List.drop_succ_cons, List.drop_zero, List.append_nil, Nat.zero_add, hi1, e1, e2, List.flatten_cons, List.flatten_nil, Option.getD_some]
        refine loopQ_go rfl (l.length - (i + 1)) (by omega) ⟨i + 1, by omega, rfl, hwt.2 ⟨hw, rfl⟩, ?_⟩
        rw [htk]
        simp only [nums, List.map_append, List.map_cons, List.map_nil, hz, plX, runes, ints]
        rfl
    · have hlt' : ¬ (i : Int) < (l.length : Int) := by omega
      obtain rfl : i = l.length := by omega
      rw [List.take_length] at hw
      have := hok.2 ⟨by omega, hw⟩
      subst this
      simp only [b103_0, k103_0, plX, runes, ints, go_sem, subP3n, subP3, hlm, hlt', List.take_length, Int.lt_irrefl]
      simp only [i103, Out, resAll, geto, ints, List.getElem?_cons_zero, List.getElem?_cons_succ, resOf, outOf, snap, snapL, ev, getE, List.mapM_cons, List.mapM_nil, Option.bind_some, Option.pure_def, Option.bind_eq_bind, Option.map_some, reduceIte, Nat.reduceEqDiff, true_and, and_true, ownOut, ownL, ownV, scalar, List.contains_nil, List.length_nil, List.length_cons, List.nil_append, List.cons_append, storeOp, apartOf, freeze_nil, refsL, refs, List.flatMap_cons, List.flatMap_nil, List.append_nil, List.contains_nil, List.set_cons_zero, List.set_cons_succ, snap, snapL, fill_nums, flat_nums, nums_length, reduceCtorEq, Bool.false_eq_true, and_self, not_false_eq_true, beq_self_eq_true, Nat.zero_add]
      simp [rowI]
theorem c56_X {s t : List Int} {l : List Rt} {ch : Bool} (hs : (s.length : Int) ≤ 1000000000000) : Go.V.Call tab E 56 [.agg (arrX s ch t l)] [] (.int .i64 s.length) [] := by
  refine Go.V.Call.mach i56 c56 rfl rfl rfl rfl ?_
  have h69 := c48_X (s := s) (t := t) (l := l) (ch := ch) hs
  simp only [arrX, runes, ints] at h69
  simp only [c56, arrX, runes, ints, go_sem, subA5, fillAll, fillIn, shiftR, shiftV, List.take_succ_cons, List.take_zero, List.drop_succ_cons, List.drop_zero, List.append_nil, Nat.zero_add]
  refine goP h69 ?_
  simp only [go_sem, fillAll, fillIn, shiftR, shiftV, List.take_succ_cons, List.take_zero, List.drop_succ_cons, List.drop_zero, List.append_nil, Nat.zero_add]
  simp only [i56, Out, resAll, geto, ints, List.getElem?_cons_zero, List.getElem?_cons_succ, resOf, outOf, snap, snapL, ev, getE, List.mapM_cons, List.mapM_nil, Option.bind_some, Option.pure_def, Option.bind_eq_bind, Option.map_some, reduceIte, Nat.reduceEqDiff, true_and, and_true]
def roomX (s t : List Int) (l : List Rt) : Nat := 16 + 4 * s.length + t.length + bsum l
def zR (z : Int) : Rt := (decide (z < 0), z.natAbs, 1)
theorem wint_64 {n : Bool} {p : Nat} {z : Int} (h : wint n p = some z) : In64 z := by
  unfold wint at h
  split at h
  · split at h
    · simp at h; subst h; unfold In64; omega
    · cases h
  · split at h
    · simp at h; subst h; unfold In64; omega
    · cases h
theorem rv_64 {x : Rt} : In64 (rv x) := by
  unfold rv
  cases h : rint x with
  | none => exact ⟨by decide, by decide⟩
  | some z =>
    unfold rint at h
    split at h
    · exact wint_64 h
    · cases h
def wholeB (ch : Bool) (t : List Int) (L : List Rt) : Bool := !(ch && decide (0 < t.length + L.length)) && L.all fun x => (rint x).isSome
def lisV (s : List Int) (ch : Bool) (t : List Int) (L : List Rt) : List Int := if s.length ≤ 1 ∧ wholeB ch t L = true then L.map rv else []
def lisE (s : List Int) (ch : Bool) (t : List Int) (L : List Rt) : Int := if 1 < s.length then 23 else if wholeB ch t L = true then 0 else 22
def noP : List AV := plX [] false [] []
theorem noA_len : Go.V.Call tab E 55 [.agg noA] [] (.int .i64 0) [] := c55_no
theorem c35_yes {s t : List Int} {ch : Bool} {L : List Rt} (hs : (s.length : Int) ≤ 1000000000) (ht : (t.length : Int) ≤ 1000000000) (hl : (L.length : Int) ≤ 1000000000) (hlk : ∀ x ∈ L, RtOk x) :
    Go.V.Call tab E 35 [.agg (arrX s ch t L), .int .i64 0, .agg (plX s ch t (L.map toNm)), .int .i64 0] [] (.bool true) [] := by
  refine Go.V.Call.mach i35 c35 rfl rfl rfl rfl ?_
  have hlm : (L.map toNm).length = L.length := by simp
  have hu : ∀ x ∈ L.map toNm, NmU x := fun z hz => by
    obtain ⟨x, hx, rfl⟩ := List.mem_map.1 hz
    exact ⟨(decL_dig _).u8, (decL_dig _).u8, (hlk x hx).len.1, (hlk x hx).len.2⟩
  have h31 := c31_X (s := s) (t := t) (l := L) (ch := ch) (by omega) (by omega) (by omega) hlk
  have h29 := c29_gen (s := s) (s' := s) (t := t) (t' := t) (l := L.map toNm) (l' := L.map toNm) (ch := ch) (ch' := ch) (by omega) (by omega) (by omega) (by omega) (by omega) (by omega) hu hu
  rw [decide_eq_true ⟨rfl, rfl, rfl, rfl⟩] at h29
  simp only [plX, arrX, runes, ints] at h31 h29
  simp only [c35, plX, arrX, runes, ints, go_sem, fillAll, fillIn, shiftR, shiftV, List.take_succ_cons, List.take_zero, List.drop_succ_cons, List.drop_zero, List.append_nil, Nat.zero_add, subA5, subP4, bne_self_eq_false]
  refine goP h31 ?_
  simp only [go_sem, fillAll, fillIn, shiftR, shiftV, List.take_succ_cons, List.take_zero, List.drop_succ_cons, List.drop_zero, List.append_nil, Nat.zero_add, subA5, subP4]
  refine goP h29 ?_
  simp only [go_sem]
  simp only [i35, Out, resAll, geto, ints, List.getElem?_cons_zero, List.getElem?_cons_succ, resOf, outOf, snap, snapL, ev, getE, List.mapM_cons, List.mapM_nil, Option.bind_some, Option.pure_def, Option.bind_eq_bind, Option.map_some, reduceIte, Nat.reduceEqDiff, true_and, and_true]
theorem c35_err {e : Int} (he : e ≠ 0) : Go.V.Call tab E 35 [.agg noA, .int .i64 e, .agg noP, .int .i64 e] [] (.bool true) [] := by
  refine Go.V.Call.mach i35 c35 rfl rfl rfl rfl ?_
  have h55 := noA_len
  have hne : (e != 0) = true := by rw [bne_iff_ne]; exact he
  simp only [noA] at h55
  simp only [c35, noP, plX, noA, runes, ints, nums, nmsC, List.flatMap_nil, go_sem, fillAll, fillIn, shiftR, shiftV, List.take_succ_cons, List.take_zero, List.drop_succ_cons, List.drop_zero, List.append_nil, Nat.zero_add, subA5, subP4, bne_self_eq_false, hne]
  refine goP h55 ?_
  simp only [go_sem, beq_self_eq_true]
  simp only [i35, Out, resAll, geto, ints, List.getElem?_cons_zero, List.getElem?_cons_succ, resOf, outOf, snap, snapL, ev, getE, List.mapM_cons, List.mapM_nil, Option.bind_some, Option.pure_def, Option.bind_eq_bind, Option.map_some, reduceIte, Nat.reduceEqDiff, true_and, and_true]
theorem c25_ok {s t : List Int} {l : List Nm} {ch ok : Bool} (hs : ∀ d ∈ s, In64 d) (hu : ∀ x ∈ l, U8 x.2.1 ∧ U8 x.2.2) (hok : ok = true ↔ LightP s ch t l 250) : Go.V.Call tab E 25 [.agg (plX s ch t l)] [] (.bool ok) [] := by
  refine Go.V.Call.mach i25 c25 rfl rfl rfl rfl ?_
  have h := c10_ok (s := s) (t := t) (l := l) (ch := ch) (ok := ok) (most := 250) (by omega) hs hu hok
  simp only [plX, runes, ints] at h
  simp only [c25, plX, runes, ints, go_sem, fillAll, fillIn, shiftR, shiftV, List.take_succ_cons, List.take_zero, List.drop_succ_cons, List.drop_zero, List.append_nil, Nat.zero_add, subP4]
  refine goP h ?_
  simp only [go_sem]
  simp only [i25, Out, resAll, geto, ints, List.getElem?_cons_zero, List.getElem?_cons_succ, resOf, outOf, snap, snapL, ev, getE, List.mapM_cons, List.mapM_nil, Option.bind_some, Option.pure_def, Option.bind_eq_bind, Option.map_some, reduceIte, Nat.reduceEqDiff, true_and, and_true]
def axA (s : List Int) (a : Int) : Int := if a < 0 then (s.length : Int) - 1 else a
def axB (s : List Int) (a : Int) : Bool := decide (0 ≤ axA s a) && decide (axA s a < (s.length : Int))
theorem c27_ok {s t : List Int} {ch : Bool} {L : List Rt} {a : Int} (hs : (s.length : Int) ≤ 1000000000) : Go.V.Call tab E 27 [.agg (arrX s ch t L), .int .i64 a] [] (.tup [.int .i64 (axA s a), .bool (axB s a)]) [] := by
  refine Go.V.Call.mach i27 c27 rfl rfl rfl rfl ?_
  have h56 := c56_X (s := s) (t := t) (l := L) (ch := ch) (by omega)
  have w : IntKind.i64.wrap ((s.length : Int) - 1) = (s.length : Int) - 1 := wrap_i64 (by omega) (by omega)
  simp only [arrX, runes, ints] at h56
  by_cases ha : a < 0
  · have hA : axA s a = (s.length : Int) - 1 := if_pos ha
    by_cases h0 : (0 : Int) ≤ (s.length : Int) - 1
    · have h1 : (s.length : Int) - 1 < (s.length : Int) := by omega
      have hB : axB s a = true := by simp only [axB, hA, h0, h1, decide_true, Bool.and_self]
      simp only [c27, arrX, runes, ints, go_sem, fillAll, fillIn, shiftR, shiftV, List.take_succ_cons, List.take_zero, List.drop_succ_cons, List.drop_zero, List.append_nil, Nat.zero_add, subA5, ha]
      refine goP h56 ?_
      simp only [go_sem, fillAll, fillIn, shiftR, shiftV, List.take_succ_cons, List.take_zero, List.drop_succ_cons, List.drop_zero, List.append_nil, Nat.zero_add, subA5, w, h0]
      refine goP h56 ?_
      simp only [go_sem, h1]
      simp only [i27, Out, resAll, geto, ints, List.getElem?_cons_zero, List.getElem?_cons_succ, resOf, outOf, snap, snapL, ev, getE, List.mapM_cons, List.mapM_nil, Option.bind_some, Option.pure_def, Option.bind_eq_bind, Option.map_some, reduceIte, Nat.reduceEqDiff, true_and, and_true, hA, hB]
    · have hB : axB s a = false := by simp only [axB, hA, h0, decide_false, Bool.false_and]
      simp only [c27, arrX, runes, ints, go_sem, fillAll, fillIn, shiftR, shiftV, List.take_succ_cons, List.take_zero, List.drop_succ_cons, List.drop_zero, List.append_nil, Nat.zero_add, subA5, ha]
      refine goP h56 ?_
      simp only [go_sem, fillAll, fillIn, shiftR, shiftV, List.take_succ_cons, List.take_zero, List.drop_succ_cons, List.drop_zero, List.append_nil, Nat.zero_add, subA5, w, h0]
      simp only [i27, Out, resAll, geto, ints, List.getElem?_cons_zero, List.getElem?_cons_succ, resOf, outOf, snap, snapL, ev, getE, List.mapM_cons, List.mapM_nil, Option.bind_some, Option.pure_def, Option.bind_eq_bind, Option.map_some, reduceIte, Nat.reduceEqDiff, true_and, and_true, hA, hB]
  · have hA : axA s a = a := if_neg ha
    have h0 : (0 : Int) ≤ a := by omega
    by_cases h1 : a < (s.length : Int)
    · have hB : axB s a = true := by simp only [axB, hA, h0, h1, decide_true, Bool.and_self]
      simp only [c27, arrX, runes, ints, go_sem, fillAll, fillIn, shiftR, shiftV, List.take_succ_cons, List.take_zero, List.drop_succ_cons, List.drop_zero, List.append_nil, Nat.zero_add, subA5, ha, h0]
      refine goP h56 ?_
      simp only [go_sem, h1]
      simp only [i27, Out, resAll, geto, ints, List.getElem?_cons_zero, List.getElem?_cons_succ, resOf, outOf, snap, snapL, ev, getE, List.mapM_cons, List.mapM_nil, Option.bind_some, Option.pure_def, Option.bind_eq_bind, Option.map_some, reduceIte, Nat.reduceEqDiff, true_and, and_true, hA, hB]
    · have hB : axB s a = false := by simp only [axB, hA, h1, decide_false, Bool.and_false]
      simp only [c27, arrX, runes, ints, go_sem, fillAll, fillIn, shiftR, shiftV, List.take_succ_cons, List.take_zero, List.drop_succ_cons, List.drop_zero, List.append_nil, Nat.zero_add, subA5, ha, h0]
      refine goP h56 ?_
      simp only [go_sem, h1]
      simp only [i27, Out, resAll, geto, ints, List.getElem?_cons_zero, List.getElem?_cons_succ, resOf, outOf, snap, snapL, ev, getE, List.mapM_cons, List.mapM_nil, Option.bind_some, Option.pure_def, Option.bind_eq_bind, Option.map_some, reduceIte, Nat.reduceEqDiff, true_and, and_true, hA, hB]
theorem c28_ok {s t : List Int} {ch : Bool} {l : List Nm} {a : Int} (hs : (s.length : Int) ≤ 1000000000) : Go.V.Call tab E 28 [.agg (plX s ch t l), .int .i64 a] [] (.tup [.int .i64 (axA s a), .bool (axB s a)]) [] := by
  refine Go.V.Call.mach i28 c28 rfl rfl rfl rfl ?_
  have w : IntKind.i64.wrap ((s.length : Int) - 1) = (s.length : Int) - 1 := wrap_i64 (by omega) (by omega)
  by_cases ha : a < 0
  · have hA : axA s a = (s.length : Int) - 1 := if_pos ha
    by_cases h0 : (0 : Int) ≤ (s.length : Int) - 1
    · have h1 : (s.length : Int) - 1 < (s.length : Int) := by omega
      have hB : axB s a = true := by simp only [axB, hA, h0, h1, decide_true, Bool.and_self]
      simp only [c28, plX, runes, ints, go_sem, fillAll, fillIn, shiftR, shiftV, List.take_succ_cons, List.take_zero, List.drop_succ_cons, List.drop_zero, List.append_nil, Nat.zero_add, subP4a, ha, w, h0, h1]
      simp only [i28, Out, resAll, geto, ints, List.getElem?_cons_zero, List.getElem?_cons_succ, resOf, outOf, snap, snapL, ev, getE, List.mapM_cons, List.mapM_nil, Option.bind_some, Option.pure_def, Option.bind_eq_bind, Option.map_some, reduceIte, Nat.reduceEqDiff, true_and, and_true, hA, hB]
    · have hB : axB s a = false := by simp only [axB, hA, h0, decide_false, Bool.false_and]
      simp only [c28, plX, runes, ints, go_sem, fillAll, fillIn, shiftR, shiftV, List.take_succ_cons, List.take_zero, List.drop_succ_cons, List.drop_zero, List.append_nil, Nat.zero_add, subP4a, ha, w, h0]
      simp only [i28, Out, resAll, geto, ints, List.getElem?_cons_zero, List.getElem?_cons_succ, resOf, outOf, snap, snapL, ev, getE, List.mapM_cons, List.mapM_nil, Option.bind_some, Option.pure_def, Option.bind_eq_bind, Option.map_some, reduceIte, Nat.reduceEqDiff, true_and, and_true, hA, hB]
  · have hA : axA s a = a := if_neg ha
    have h0 : (0 : Int) ≤ a := by omega
    by_cases h1 : a < (s.length : Int)
    · have hB : axB s a = true := by simp only [axB, hA, h0, h1, decide_true, Bool.and_self]
      simp only [c28, plX, runes, ints, go_sem, fillAll, fillIn, shiftR, shiftV, List.take_succ_cons, List.take_zero, List.drop_succ_cons, List.drop_zero, List.append_nil, Nat.zero_add, subP4a, ha, h0, h1]
      simp only [i28, Out, resAll, geto, ints, List.getElem?_cons_zero, List.getElem?_cons_succ, resOf, outOf, snap, snapL, ev, getE, List.mapM_cons, List.mapM_nil, Option.bind_some, Option.pure_def, Option.bind_eq_bind, Option.map_some, reduceIte, Nat.reduceEqDiff, true_and, and_true, hA, hB]
    · have hB : axB s a = false := by simp only [axB, hA, h1, decide_false, Bool.and_false]
      simp only [c28, plX, runes, ints, go_sem, fillAll, fillIn, shiftR, shiftV, List.take_succ_cons, List.take_zero, List.drop_succ_cons, List.drop_zero, List.append_nil, Nat.zero_add, subP4a, ha, h0, h1]
      simp only [i28, Out, resAll, geto, ints, List.getElem?_cons_zero, List.getElem?_cons_succ, resOf, outOf, snap, snapL, ev, getE, List.mapM_cons, List.mapM_nil, Option.bind_some, Option.pure_def, Option.bind_eq_bind, Option.map_some, reduceIte, Nat.reduceEqDiff, true_and, and_true, hA, hB]
theorem c91_ok {s t s' ks : List Int} {L : List Rt} {ch : Bool} (hs : ∀ d ∈ s', In64 d) (hsl : (s'.length : Int) ≤ 1000000000000) (ht : (t.length : Int) ≤ 1000000000000) (hl : (L.length : Int) ≤ 1000000000000) (hks : (ks.length : Int) ≤ 1000000000) :
    Go.V.Call tab E 91 [.agg (arrX s ch t L), ints s', ints ks] [] (.tup [.agg (if fits s' ks.length then arrX s' ch (picksT ch t ks) (picksR ch L ks) else noA), .int .i64 (if fits s' ks.length then 0 else 26)]) [] := by
  refine Go.V.Call.mach i91 c91 rfl rfl rfl rfl ?_
  have h49 := c49_ok (s := s) (t := t) (s' := s') (ks := ks) (l := L) (ch := ch) hs hsl ht hl hks
  simp only [arrX, runes, ints] at h49
  cases hf : fits s' ks.length with
  | true =>
    rw [hf] at h49
    simp only [if_true] at h49
    simp only [c91, arrX, runes, ints, go_sem, fillAll, fillIn, shiftR, shiftV, List.take_succ_cons, List.take_zero, List.drop_succ_cons, List.drop_zero, List.append_nil, Nat.zero_add, subA5]
    refine goP h49 ?_
    simp only [go_sem, fillAll, fillIn, shiftR, shiftV, List.take_succ_cons, List.take_zero, List.drop_succ_cons, List.drop_zero, List.append_nil, Nat.zero_add, subA5]
    simp only [i91, Out, resAll, geto, ints, List.getElem?_cons_zero, List.getElem?_cons_succ, resOf, outOf, snap, snapL, ev, getE, List.mapM_cons, List.mapM_nil, Option.bind_some, Option.pure_def, Option.bind_eq_bind, Option.map_some, reduceIte, Nat.reduceEqDiff, true_and, and_true, subA5, if_true, arrX, runes, ints]
  | false =>
    rw [hf] at h49
    simp only [Bool.false_eq_true, if_false, noA] at h49
    simp only [c91, arrX, runes, ints, go_sem, fillAll, fillIn, shiftR, shiftV, List.take_succ_cons, List.take_zero, List.drop_succ_cons, List.drop_zero, List.append_nil, Nat.zero_add, subA5]
    refine goP h49 ?_
    simp only [go_sem, fillAll, fillIn, shiftR, shiftV, List.take_succ_cons, List.take_zero, List.drop_succ_cons, List.drop_zero, List.append_nil, Nat.zero_add, subA5]
    simp only [i91, Out, resAll, geto, ints, List.getElem?_cons_zero, List.getElem?_cons_succ, resOf, outOf, snap, snapL, ev, getE, List.mapM_cons, List.mapM_nil, Option.bind_some, Option.pure_def, Option.bind_eq_bind, Option.map_some, reduceIte, Nat.reduceEqDiff, true_and, and_true, subA5, Bool.false_eq_true, if_false, noA]
end Go.Proofs.YtlejgleocnemoaaGreat.I

namespace Go.Proofs.YtlejgleocnemoaaGreat.I
open Go Go.V
attribute [local go_sem] mNil nat0 beq_self_eq_true mSkip mRet mExit mReg mSeq mCond mTrue mFalse mBlock mLv mCodeE mCodeR mEndN mEndR mEndE mOps mSome mGuard mGtt mGff mGtf mGft mGu mCallP mCallR mCallF mCallO mCallZ mCallG mCallM mCallV loopQ_exit loopQ_ret mO_mov mO_newnil mO_pick mO_alloc mO_box mO_build mO_bsl mO_bslF mO_ldf mO_ld mO_st mO_sta mO_nilchk mO_bin mO_binb mO_binp mO_bins mO_neg mO_com mO_not mO_conv mO_mk mO_mk0 mO_s2b mO_b2s mO_cpy mO_cut mO_faddr mO_fld mO_iaddr mO_iaddrf mO_sidx mO_len mO_lenf mO_slen mO_scut mO_app mO_ext mO_mx mO_mn mO_mkfn evalOp cutOp argsE ev getE putE cellsOf adopt rowOf binV boolV nilV ar_add ar_sub ar_mul ar_quo ar_rem ar_eq ar_ne ar_lt ar_le ar_gt ar_ge ar_and ar_or ar_xor geto bound finRet finNrm ints List.length_cons List.length_nil List.length_append List.getElem?_cons_zero List.getElem?_cons_succ List.nil_append List.cons_append List.map_cons List.map_nil List.mapM_cons List.mapM_nil Option.map_some Option.map_none Option.bind_some Option.pure_def Option.bind_eq_bind List.drop_zero or_self or_false false_or or_true true_or true_and and_true and_self decide_true decide_false Bool.false_eq_true Bool.true_eq_false Bool.not_true Bool.not_false Nat.le_refl eq_self gt_iff_lt ge_iff_le ne_eq not_true_eq_false not_false_eq_true storeOp apartOf freeze_nil refsL refs List.flatMap_cons List.flatMap_nil List.append_nil List.contains_nil List.set_cons_zero List.set_cons_succ snap snapL fill_nums flat_nums nums_length Go.V.freeze List.mapIdx_cons List.mapIdx_nil List.contains_cons Bool.or_false Bool.false_or Bool.or_true Bool.true_or
theorem set_length {y : List Int} {m : Nat} {v : Int} (h : m < y.length) : (y.take m ++ v :: y.drop (m + 1)).length = y.length := by
  rw [List.length_append, List.length_take, List.length_cons, List.length_drop]; omega
def outA (e : Int) (s ks : List Int) (ch : Bool) (t : List Int) (L : List Rt) : List AV := if e = 0 then arrX s ch (picksT ch t ks) (picksR ch L ks) else noA
def outP (e : Int) (s ks : List Int) (ch : Bool) (t : List Int) (l : List Nm) : List AV := if e = 0 then plX s ch (picksT ch t ks) (picksN ch l ks) else noP
def negB (w : List Int) : Bool := w.any fun d => decide (d < 0)
def resE (e0 : Int) (w : List Int) : Int := if e0 ≠ 0 then e0 else if negB w = true then 22 else match count w with | none => if 8 < w.length then 23 else 26 | some _ => 0
def cyc (w : List Int) (len : Nat) : List Int := (List.range (prd w).toNat).map fun i => if len = 0 then (-1 : Int) else ((i % len : Nat) : Int)
theorem shows_out {e : Int} {s' ks t : List Int} {ch : Bool} {l : List Nm} (hR : ∀ x ∈ l, RightN x.1 x.2.1 x.2.2) (hs : e = 0 → (s'.length : Int) ≤ 1000000000 ∧ (ks.length : Int) ≤ 1000000000) :
    Go.V.Call tab E 35 [.agg (outA e s' ks ch t (l.map toRt)), .int .i64 e, .agg (outP e s' ks ch t l), .int .i64 e] [] (.bool true) [] := by
  by_cases he : e = 0
  · subst he
    obtain ⟨hs, hk⟩ := hs rfl
    have h := c35_yes (s := s') (t := picksT ch t ks) (ch := ch) (L := picksR ch (l.map toRt) ks) hs (by have := (picks_len (ch := ch) (t := t) (ks := ks) (l := l)).1; omega)
      (by have := picksR_len (ch := ch) (ks := ks) (l := l.map toRt); omega) (pick_ok hR)
    rw [picks_nm hR] at h
    simp only [outA, outP, if_true]
    exact h
  · simp only [outA, outP, he, if_false]
    exact c35_err he
theorem c26_ok : Go.V.Call tab E 26 [] [] (.bool true) [] := Go.V.Call.run (ext := ext) (fun h => h) (fuel := 400) (n := 40) (by kernel_rfl)
end Go.Proofs.YtlejgleocnemoaaGreat.I

namespace Go.Proofs.YtlejgleocnemoaaGreat.I
open Go Go.V
theorem goFn {C : CallRel} {Q : X → St → Prop} {f : Nat} {caps as1 bs : List AV} {d : Option Nat} {os : List IOp} {k : List Go.V.Item} {s : St} {r : AV} (hcaps : caps.mapM (fun c => snap s.mem 10 c) = some bs) (h : C f (as1 ++ bs) [] r []) (hs : scalars r = true)
    (hk : Mach C Q (.ops os :: k) .nrm ⟨putE s.env d r, s.mem⟩) : MachF C Q (.fn f caps) (some as1) d os k s := by
  simp only [MachF, hcaps, Option.map_some]
  exact goV h hs hk
section
variable {E : CallRel}
end
end Go.Proofs.YtlejgleocnemoaaGreat.I

namespace Go.Proofs.YtlejgleocnemoaaGreat.I
open Go Go.V
attribute [local go_sem] mNil nat0 beq_self_eq_true mSkip mRet mExit mReg mSeq mCond mTrue mFalse mBlock mLv mCodeE mCodeR mEndN mEndR mEndE mOps mSome mGuard mGtt mGff mGtf mGft mGu mCallP mCallR mCallF mCallO mCallZ mCallG mCallM mCallV loopQ_exit loopQ_ret mO_mov mO_newnil mO_pick mO_alloc mO_box mO_build mO_bsl mO_bslF mO_ldf mO_ld mO_st mO_sta mO_nilchk mO_bin mO_binb mO_binp mO_bins mO_neg mO_com mO_not mO_conv mO_mk mO_mk0 mO_s2b mO_b2s mO_cpy mO_cut mO_faddr mO_fld mO_iaddr mO_iaddrf mO_sidx mO_len mO_lenf mO_slen mO_scut mO_app mO_ext mO_mx mO_mn mO_mkfn evalOp cutOp argsE ev getE putE cellsOf adopt rowOf binV boolV nilV ar_add ar_sub ar_mul ar_quo ar_rem ar_eq ar_ne ar_lt ar_le ar_gt ar_ge ar_and ar_or ar_xor geto bound finRet finNrm ints List.length_cons List.length_nil List.length_append List.getElem?_cons_zero List.getElem?_cons_succ List.nil_append List.cons_append List.map_cons List.map_nil List.mapM_cons List.mapM_nil Option.map_some Option.map_none Option.bind_some Option.pure_def Option.bind_eq_bind List.drop_zero or_self or_false false_or or_true true_or true_and and_true and_self decide_true decide_false Bool.false_eq_true Bool.true_eq_false Bool.not_true Bool.not_false Nat.le_refl eq_self gt_iff_lt ge_iff_le ne_eq not_true_eq_false not_false_eq_true storeOp apartOf freeze_nil refsL refs List.flatMap_cons List.flatMap_nil List.append_nil List.contains_nil List.set_cons_zero List.set_cons_succ snap snapL fill_nums flat_nums nums_length Go.V.freeze List.mapIdx_cons List.mapIdx_nil List.contains_cons Bool.or_false Bool.false_or Bool.or_true Bool.true_or
section
variable {E : CallRel}
end
end Go.Proofs.YtlejgleocnemoaaGreat.I

namespace Go.Proofs.YtlejgleocnemoaaGreat.I
open Go Go.V
attribute [local go_sem_proc ↓] reduceIte
attribute [local go_sem_proc] Nat.reduceEqDiff Nat.reduceAdd Nat.reduceMul Nat.reduceLeDiff Nat.reduceLT Int.reduceToNat Int.reduceLT Int.reduceLE reduceCtorEq Nat.reduceBEq
attribute [local go_sem] mNil nat0 beq_self_eq_true mSkip mRet mExit mReg mSeq mCond mTrue mFalse mBlock mLv mCodeE mCodeR mEndN mEndR mEndE mOps mSome mGuard mGtt mGff mGtf mGft mGu mCallP mCallR mCallF mCallO mCallZ mCallG mCallM mCallV loopQ_exit loopQ_ret mO_mov mO_newnil mO_pick mO_alloc mO_box mO_build mO_bsl mO_bslF mO_ldf mO_ld mO_st mO_sta mO_nilchk mO_bin mO_binb mO_binp mO_bins mO_neg mO_com mO_not mO_conv mO_mk mO_mk0 mO_s2b mO_b2s mO_cpy mO_cut mO_faddr mO_fld mO_iaddr mO_iaddrf mO_sidx mO_len mO_lenf mO_slen mO_scut mO_app mO_ext mO_mx mO_mn mO_mkfn evalOp cutOp argsE ev getE putE cellsOf adopt rowOf binV boolV nilV ar_add ar_sub ar_mul ar_quo ar_rem ar_eq ar_ne ar_lt ar_le ar_gt ar_ge ar_and ar_or ar_xor geto bound finRet finNrm ints List.length_cons List.length_nil List.length_append List.getElem?_cons_zero List.getElem?_cons_succ List.nil_append List.cons_append List.map_cons List.map_nil List.mapM_cons List.mapM_nil Option.map_some Option.map_none Option.bind_some Option.pure_def Option.bind_eq_bind List.drop_zero or_self or_false false_or or_true true_or true_and and_true and_self decide_true decide_false Bool.false_eq_true Bool.true_eq_false Bool.not_true Bool.not_false Nat.le_refl eq_self gt_iff_lt ge_iff_le ne_eq not_true_eq_false not_false_eq_true storeOp apartOf freeze_nil refsL refs List.flatMap_cons List.flatMap_nil List.append_nil List.contains_nil List.set_cons_zero List.set_cons_succ snap snapL fill_nums flat_nums nums_length Go.V.freeze List.mapIdx_cons List.mapIdx_nil List.contains_cons Bool.or_false Bool.false_or Bool.or_true Bool.true_or
def wi (s : List Int) (a n : Int) : List Int := if 0 ≤ a ∧ a < s.length then s.take a.toNat ++ n :: s.drop (a.toNat + 1) else s
def wo (s : List Int) (a : Int) : List Int := if 0 ≤ a ∧ a < s.length then s.take a.toNat ++ s.drop (a.toNat + 1) else s
theorem wo_len {s : List Int} {a : Int} : (wo s a).length ≤ s.length := by
  unfold wo
  split
  · simp; omega
  · exact Nat.le_refl _
theorem wo_step {s : List Int} {a : Int} {k : Nat} (hk : k < s.length) : wo (s.take (k + 1)) a = wo (s.take k) a ++ if (k : Int) = a then [] else [s.getD k 0] := by
  have ht := take_snoc hk
  have hl : (s.take k).length = k := by simp; omega
  have hl1 : (s.take (k + 1)).length = k + 1 := by simp; omega
  unfold wo
  rw [hl, hl1]
  by_cases h0 : (k : Int) = a
  · subst h0
    rw [if_pos (by omega), if_neg (by omega), if_pos rfl, Int.toNat_natCast, List.take_take, Nat.min_eq_left (by omega), List.drop_eq_nil_of_le (by omega)]
  · rw [if_neg h0]
    by_cases h1 : 0 ≤ a ∧ a < k
    · rw [if_pos (by omega), if_pos h1, ht, List.take_append_of_le_length (by omega), List.drop_append_of_le_length (by omega)]
      simp
    · rw [if_neg (by omega), if_neg h1, ht]
section
variable {E : CallRel}
theorem c104_ok {s : List Int} {a : Int} (hs : (s.length : Int) ≤ 1000000000000) : Go.V.Call tab E 104 [ints s, .int .i64 a] [] (ints (wo s a)) [] := by
  refine Go.V.Call.mach i104 c104 rfl rfl rfl rfl ?_
  simp only [c104, go_sem]
  refine mLoop (fun N st => ∃ (k g : Nat), k ≤ s.length ∧ N = s.length - k ∧
    st = ⟨[(0, ints s), (1, .int .i64 a), (5, .arr 1 g), (6, .int .i64 k)], [⟨false, 3, 1, 0, 0, [], false⟩, ⟨false, 3, 1, g, (wo (s.take k) a).length, nums .i64 (wo (s.take k) a), false⟩]⟩) s.length ⟨_, rfl, 0, 0, by omega, by omega, by simp [getE, ints, wo, nums]⟩ ?_
  rintro N s0 ⟨k, g, hk, rfl, rfl⟩
  by_cases hlt : k < s.length
  · have hlt' : (k : Int) < (s.length : Int) := by omega
    have hk0 : (0 : Int) ≤ (k : Int) := by omega
    have hk1 : IntKind.i64.wrap ((k : Int) + 1) = ((k + 1 : Nat) : Int) := by rw [wrap_i64 (by omega) (by omega)]; omega
    have hsub := sub_nums (k := .i64) hlt
    have hst := wo_step (a := a) hlt
    have hle := wo_len (s := s.take k) (a := a)
    have hle2 : (s.take k).length ≤ s.length := by simp; omega
    have e1 : ((wo (s.take k) a).length + 1) * 8 ≤ 140737488355328 := by omega
    have e2 : (wo (s.take k) a).length + 1 ≤ 140737488355328 := by omega
    by_cases ha : (k : Int) = a
    · have ha' : ((k : Int) != a) = false := by simpa using ha
      rw [if_pos ha, List.append_nil] at hst
      simp only [b104_0, go_sem, hlt', hk0, hk1, ha', e1, e2, Int.toNat_natCast, hsub, List.flatten_cons, List.flatten_nil, Option.getD_some]
      refine loopQ_go rfl (s.length - (k + 1)) (by omega) ⟨k + 1, g, by omega, rfl, ?_⟩
      rw [hst]
      rfl
    · have ha' : ((k : Int) != a) = true := by simpa using ha
      rw [if_neg ha] at hst
      simp only [b104_0, go_sem, hlt', hk0, hk1, ha', e1, e2, Int.toNat_natCast, hsub, List.flatten_cons, List.flatten_nil, Option.getD_some]
      refine loopQ_go rfl (s.length - (k + 1)) (by omega) ⟨k + 1, g + 1, by omega, rfl, ?_⟩
      rw [hst]
      simp only [nums, List.map_append, List.map_cons, List.map_nil, List.length_append, List.length_cons, List.length_nil]
      rfl
  · have hlt' : ¬ (k : Int) < (s.length : Int) := by omega
    obtain rfl : k = s.length := by omega
    simp only [b104_0, k104_0, go_sem, hlt', List.take_length]
    simp only [i104, Out, resAll, geto, ints, List.getElem?_cons_zero, List.getElem?_cons_succ, resOf, outOf, snap, snapL, ev, getE, List.mapM_cons, List.mapM_nil, Option.bind_some, Option.pure_def, Option.bind_eq_bind, Option.map_some, reduceIte, Nat.reduceEqDiff, true_and, and_true]
end
theorem c101_ok {s : List Int} {a : Int} (hs : (s.length : Int) ≤ 100000000000) (ha : In64 a) : Go.V.Call tab E 101 [ints s, .int .i64 a] [] (ints (wo s a)) [] := by
  refine Go.V.Call.mach i101 c101 rfl rfl rfl rfl ?_
  by_cases h0 : a < 0
  · simp only [c101, go_sem, h0]
    refine goO (c110_ok (by omega)) rfl rfl ?_
    simp only [go_sem, fillAll, fillIn, shiftR, shiftV, List.take_succ_cons, List.take_zero, List.drop_succ_cons, List.drop_zero, List.append_nil, Nat.zero_add]
    simp only [i101, Out, resAll, geto, ints, List.getElem?_cons_zero, List.getElem?_cons_succ, resOf, outOf, snap, snapL, ev, getE, List.mapM_cons, List.mapM_nil, Option.bind_some, Option.pure_def, Option.bind_eq_bind, Option.map_some, reduceIte, Nat.reduceEqDiff, true_and, and_true, wo, show ¬ 0 ≤ a by omega, false_and]
  · by_cases h1 : (s.length : Int) ≤ a
    · simp only [c101, go_sem, h0, h1]
      refine goO (c110_ok (by omega)) rfl rfl ?_
      simp only [go_sem, fillAll, fillIn, shiftR, shiftV, List.take_succ_cons, List.take_zero, List.drop_succ_cons, List.drop_zero, List.append_nil, Nat.zero_add]
      simp only [i101, Out, resAll, geto, ints, List.getElem?_cons_zero, List.getElem?_cons_succ, resOf, outOf, snap, snapL, ev, getE, List.mapM_cons, List.mapM_nil, Option.bind_some, Option.pure_def, Option.bind_eq_bind, Option.map_some, reduceIte, Nat.reduceEqDiff, true_and, and_true, wo, show ¬ a < (s.length : Int) by omega, and_false]
    · obtain ⟨k, rfl⟩ := Int.eq_ofNat_of_zero_le (show 0 ≤ a by omega)
      have hk0 : (0 : Int) ≤ (k : Int) := by omega
      have hks : (k : Int) ≤ (s.length : Int) := by omega
      have hk1 : IntKind.i64.wrap ((k : Int) + 1) = ((k + 1 : Nat) : Int) := by rw [wrap_i64 (by omega) (by omega)]; omega
      have hk2 : (0 : Int) ≤ ((k + 1 : Nat) : Int) := by omega
      have hk3 : ((k + 1 : Nat) : Int) ≤ (s.length : Int) := by omega
      have hc1 := cut_to (k := .i64) (t := s) (m := k) (by omega)
      have hc2 := cut_nums (s := s) (k := k + 1) (by omega)
      simp only [c101, go_sem, h0, h1, hk0, hks, hk1, hk2, hk3, Int.toNat_natCast, Nat.sub_zero, hc1, hc2, List.flatten_cons, List.flatten_nil, Option.getD_some]
      refine goF (c121_ok (L := [s.take k, s.drop (k + 1)]) (by simp) (by simp [lensum]; omega)) ?_
      simp only [go_sem, fillAll, fillIn, shiftR, shiftV, List.take_succ_cons, List.take_zero, List.drop_succ_cons, List.drop_zero, List.append_nil, Nat.zero_add]
      have : wo s (k : Int) = [s.take k, s.drop (k + 1)].flatten := by
        unfold wo
        rw [if_pos (by omega)]
        simp
      rw [this]
      simp only [i101, Out, resAll, geto, ints, List.getElem?_cons_zero, List.getElem?_cons_succ, resOf, outOf, snap, snapL, ev, getE, List.mapM_cons, List.mapM_nil, Option.bind_some, Option.pure_def, Option.bind_eq_bind, Option.map_some, reduceIte, Nat.reduceEqDiff, true_and, and_true]
def mprd : List Int → Int
  | [] => 1
  | d :: ds => max 1 d * mprd ds
theorem mprd_pos : ∀ {s : List Int}, 1 ≤ mprd s
  | [] => Int.le_refl _
  | d :: ds => by
    have h1 := mprd_pos (s := ds)
    have h2 : 1 ≤ max 1 d := by rw [max1]; split <;> omega
    have := Int.mul_le_mul_of_nonneg_left (a := 1) (b := mprd ds) (c := max 1 d) h1 (by omega)
    rw [mprd]
    omega
theorem mprd_append : ∀ {s t : List Int}, mprd (s ++ t) = mprd s * mprd t
  | [], t => by rw [List.nil_append, mprd, Int.one_mul]
  | d :: ds, t => by rw [List.cons_append, mprd, mprd, mprd_append, Int.mul_assoc]
theorem cnt_iff : ∀ {s : List Int} {most n : Int}, 1 ≤ most → most ≤ 4096 → ((∀ d ∈ s, 0 ≤ d) ∧ most * mprd s ≤ 4096 → cnt most n s = some (n * prd s)) ∧ (cnt most n s ≠ none → (∀ d ∈ s, 0 ≤ d) ∧ most * mprd s ≤ 4096)
  | [], most, n, h1, h2 => ⟨fun _ => by rw [cnt, prd, Int.mul_one], fun _ => ⟨fun d hd => by simp at hd, by rw [mprd, Int.mul_one]; exact h2⟩⟩
  | d :: ds, most, n, h1, h2 => by
    have hmx : 1 ≤ max 1 d := by rw [max1]; split <;> omega
    have hmm : 1 ≤ most * max 1 d := by
      have := Int.mul_le_mul_of_nonneg_left (a := 1) (b := max 1 d) (c := most) hmx (by omega)
      omega
    have hp := mprd_pos (s := ds)
    rw [cnt, mprd, prd]
    refine ⟨fun ⟨h3, h4⟩ => ?_, fun h => ?_⟩
    · have hd := h3 d (by simp)
      have h5 : most * max 1 d ≤ 4096 := by
        have := Int.mul_le_mul_of_nonneg_left (a := 1) (b := mprd ds) (c := most * max 1 d) hp (by omega)
        rw [← Int.mul_assoc] at h4
        omega
      rw [if_neg (by omega), (cnt_iff hmm h5).1 ⟨fun x hx => h3 x (by simp [hx]), by rw [Int.mul_assoc]; exact h4⟩, Int.mul_assoc]
    · split at h
      · exact absurd rfl h
      · rename_i hno
        obtain ⟨h3, h4⟩ := (cnt_iff hmm (by omega)).2 h
        refine ⟨fun x hx => ?_, by rw [← Int.mul_assoc]; exact h4⟩
        rcases List.mem_cons.1 hx with rfl | hx
        · omega
        · exact h3 x hx
theorem count_iff {s : List Int} : (s.length ≤ 8 ∧ (∀ d ∈ s, 0 ≤ d) ∧ mprd s ≤ 4096 → count s = some (prd s)) ∧ (count s ≠ none → s.length ≤ 8 ∧ (∀ d ∈ s, 0 ≤ d) ∧ mprd s ≤ 4096) := by
  unfold count
  obtain ⟨h1, h2⟩ := cnt_iff (s := s) (most := 1) (n := 1) (by omega) (by omega)
  refine ⟨fun ⟨h3, h4, h5⟩ => ?_, fun h => ?_⟩
  · rw [if_neg (by omega), h1 ⟨h4, by rw [Int.one_mul]; exact h5⟩, Int.one_mul]
  · split at h
    · exact absurd rfl h
    · obtain ⟨h3, h4⟩ := h2 h
      exact ⟨by omega, h3, by rwa [Int.one_mul] at h4⟩
theorem count_parts {s : List Int} (h : count s ≠ none) (k : Nat) : count (s.take k) = some (prd (s.take k)) ∧ count (s.drop k) = some (prd (s.drop k)) ∧ 0 ≤ prd (s.take k) ∧ prd (s.take k) ≤ 4096 ∧ 0 ≤ prd (s.drop k) ∧ prd (s.drop k) ≤ 4096 := by
  obtain ⟨h1, h2, h3⟩ := count_iff.2 h
  have hs : s = s.take k ++ s.drop k := (List.take_append_drop k s).symm
  have hm := mprd_append (s := s.take k) (t := s.drop k)
  rw [← hs] at hm
  have p1 := mprd_pos (s := s.take k)
  have p2 := mprd_pos (s := s.drop k)
  have q1 : mprd (s.take k) ≤ mprd s := by
    have := Int.mul_le_mul_of_nonneg_left (a := 1) (b := mprd (s.drop k)) (c := mprd (s.take k)) p2 (by omega)
    omega
  have q2 : mprd (s.drop k) ≤ mprd s := by
    have := Int.mul_le_mul_of_nonneg_right (a := 1) (b := mprd (s.take k)) (c := mprd (s.drop k)) p1 (by omega)
    omega
  have c1 := count_iff.1 ⟨by simp; omega, fun d hd => h2 d (List.mem_of_mem_take hd), (by omega : mprd (s.take k) ≤ 4096)⟩
  have c2 := count_iff.1 ⟨by simp; omega, fun d hd => h2 d (List.mem_of_mem_drop hd), (by omega : mprd (s.drop k) ≤ 4096)⟩
  obtain ⟨_, _, b1⟩ := count_bound c1
  obtain ⟨_, _, b2⟩ := count_bound c2
  have b1 := b1 (s.take k).length
  have b2 := b2 (s.drop k).length
  rw [List.take_length] at b1 b2
  exact ⟨c1, c2, b1.1, b1.2, b2.1, b2.2⟩
def spl (s : List Int) (a : Int) : AV :=
  if count s = none ∨ a < 0 ∨ (s.length : Int) ≤ a then .tup [.int .i64 0, .int .i64 0, .int .i64 0, .bool false]
  else .tup [.int .i64 (prd (s.take a.toNat)), .int .i64 (s.getD a.toNat 0), .int .i64 (prd (s.drop (a.toNat + 1))), .bool true]
section
variable {E : CallRel}
theorem c122_ok {s : List Int} {a : Int} (hs : ∀ d ∈ s, In64 d) (hl : (s.length : Int) ≤ 1000000000000) (ha : In64 a) : Go.V.Call tab E 122 [ints s, .int .i64 a] [] (spl s a) [] := by
  refine Go.V.Call.mach i122 c122 rfl rfl rfl rfl ?_
  simp only [c122, go_sem]
  refine goP (c90_ok hs (by omega)) ?_
  cases hc : count s with
  | none =>
    simp only [optP, go_sem]
    simp only [i122, Out, resAll, geto, ints, List.getElem?_cons_zero, List.getElem?_cons_succ, resOf, outOf, snap, snapL, ev, getE, List.mapM_cons, List.mapM_nil, Option.bind_some, Option.pure_def, Option.bind_eq_bind, Option.map_some, reduceIte, Nat.reduceEqDiff, true_and, and_true, spl, hc, true_or]
  | some m =>
    by_cases h0 : a < 0
    · simp only [optP, go_sem, h0]
      simp only [i122, Out, resAll, geto, ints, List.getElem?_cons_zero, List.getElem?_cons_succ, resOf, outOf, snap, snapL, ev, getE, List.mapM_cons, List.mapM_nil, Option.bind_some, Option.pure_def, Option.bind_eq_bind, Option.map_some, reduceIte, Nat.reduceEqDiff, true_and, and_true, spl, h0, true_or, or_true]
    · by_cases h1 : (s.length : Int) ≤ a
      · simp only [optP, go_sem, h0, h1]
        simp only [i122, Out, resAll, geto, ints, List.getElem?_cons_zero, List.getElem?_cons_succ, resOf, outOf, snap, snapL, ev, getE, List.mapM_cons, List.mapM_nil, Option.bind_some, Option.pure_def, Option.bind_eq_bind, Option.map_some, reduceIte, Nat.reduceEqDiff, true_and, and_true, spl, h1, or_true]
      · obtain ⟨k, rfl⟩ := Int.eq_ofNat_of_zero_le (show 0 ≤ a by omega)
        have hne : count s ≠ none := by rw [hc]; simp
        obtain ⟨g1, _, g3, g4, _, _⟩ := count_parts hne k
        obtain ⟨_, g2, _, _, g5, g6⟩ := count_parts hne (k + 1)
        have hk0 : (0 : Int) ≤ (k : Int) := by omega
        have hks : (k : Int) ≤ (s.length : Int) := by omega
        have hlt : k < s.length := by omega
        have hlt' : (k : Int) < (s.length : Int) := by omega
        have hk1 : IntKind.i64.wrap ((k : Int) + 1) = ((k + 1 : Nat) : Int) := by rw [wrap_i64 (by omega) (by omega)]; omega
        have hk2 : (0 : Int) ≤ ((k + 1 : Nat) : Int) := by omega
        have hk3 : ((k + 1 : Nat) : Int) ≤ (s.length : Int) := by omega
        have hc1 := cut_to (k := .i64) (t := s) (m := k) (by omega)
        have hc2 := cut_nums (s := s) (k := k + 1) (by omega)
        have hsub := sub_nums (k := .i64) hlt
        have hspl : spl s (k : Int) = .tup [.int .i64 (prd (s.take k)), .int .i64 (s.getD k 0), .int .i64 (prd (s.drop (k + 1))), .bool true] := by
          rw [spl, if_neg (by rw [hc]; simp; omega)]
          rfl
        simp only [optP, go_sem, h0, h1, hk0, hks, Int.toNat_natCast, Nat.sub_zero, hc1]
        refine goP (c90_ok (s := s.take k) (fun d hd => hs d (List.mem_of_mem_take hd)) (by simp; omega)) ?_
        rw [g1]
        simp only [optP, go_sem, hk0, hk1, hk2, hk3, Int.toNat_natCast, hc2]
        refine goP (c90_ok (s := s.drop (k + 1)) (fun d hd => hs d (List.mem_of_mem_drop hd)) (by simp; omega)) ?_
        rw [g2]
        simp only [optP, go_sem, hk0, hlt', Int.toNat_natCast, hsub]
        simp only [i122, Out, resAll, geto, ints, List.getElem?_cons_zero, List.getElem?_cons_succ, resOf, outOf, snap, snapL, ev, getE, List.mapM_cons, List.mapM_nil, Option.bind_some, Option.pure_def, Option.bind_eq_bind, Option.map_some, reduceIte, Nat.reduceEqDiff, true_and, and_true, hspl]
end
def alo (m n : Nat) (v : Nat → Nat → Nat) (c : Nat) : Int := ((((c / n / m) * m + v ((c / n / m) * n + c % n) (c / n % m)) * n + c % n : Nat) : Int)
def alos (m n : Nat) (v : Nat → Nat → Nat) (c : Nat) : List Int := (List.range c).map (alo m n v)
theorem alos_len {m n c : Nat} {v : Nat → Nat → Nat} : (alos m n v c).length = c := by simp [alos]
theorem alo_at {m n o i j : Nat} {v : Nat → Nat → Nat} (hi : i < m) (hj : j < n) : alo m n v ((o * m + i) * n + j) = (((o * m + v (o * n + j) i) * n + j : Nat) : Int) := by
  have e1 : ((o * m + i) * n + j) % n = j := by rw [Nat.mul_comm, Nat.mul_add_mod, Nat.mod_eq_of_lt hj]
  have e2 : ((o * m + i) * n + j) / n = o * m + i := by rw [Nat.mul_comm, Nat.mul_add_div (by omega), Nat.div_eq_of_lt hj, Nat.add_zero]
  have e3 : (o * m + i) % m = i := by rw [Nat.mul_comm, Nat.mul_add_mod, Nat.mod_eq_of_lt hi]
  have e4 : (o * m + i) / m = o := by rw [Nat.mul_comm, Nat.mul_add_div (by omega), Nat.div_eq_of_lt hi, Nat.add_zero]
  rw [alo, e1, e2, e3, e4]
theorem alos_snoc {m n o i j : Nat} {v : Nat → Nat → Nat} (hi : i < m) (hj : j < n) : alos m n v ((o * m + i) * n + (j + 1)) = alos m n v ((o * m + i) * n + j) ++ [(((o * m + v (o * n + j) i) * n + j : Nat) : Int)] := by
  rw [← Nat.add_assoc, alos, List.range_succ, List.map_append, ← alo_at (v := v) hi hj]
  rfl
theorem mul_step {a b m : Nat} (h : a < b) : a * m + m ≤ b * m := by
  have := Nat.mul_le_mul_right m (show a + 1 ≤ b from h)
  rwa [Nat.succ_mul] at this
theorem alo_small {q m n o i j x : Nat} (h : q * m * n ≤ 4096) (ho : o < q) (hi : i < m) (hj : j < n) (hx : x < m) :
    o * m ≤ 4096 ∧ o * n + j < q * n ∧ o * n ≤ 4096 ∧ o * m + x ≤ 4096 ∧ (o * m + x) * n ≤ 4096 ∧ (o * m + x) * n + j < q * m * n ∧ (o * m + i) * n + j < q * m * n := by
  have h1 := mul_step (m := m) ho
  have h2 := mul_step (m := n) (show o * m + x < q * m by omega)
  have h3 := mul_step (m := n) (show o * m + i < q * m by omega)
  have h4 := mul_step (m := n) ho
  have h5 : q * m ≤ q * m * n := Nat.le_mul_of_pos_right _ (by omega)
  have h6 : q * n ≤ q * m * n := Nat.mul_le_mul_right n (Nat.le_mul_of_pos_right _ (by omega))
  refine ⟨by omega, by omega, by omega, by omega, by omega, by omega, by omega⟩
theorem prd_split {s : List Int} {k : Nat} (h : k < s.length) : prd s = prd (s.take k) * s.getD k 0 * prd (s.drop (k + 1)) := by
  induction s generalizing k with
  | nil => simp at h
  | cons d ds ih =>
    cases k with
    | zero => simp [prd]
    | succ k =>
      have := ih (k := k) (by simp at h; omega)
      rw [List.take_succ_cons, List.drop_succ_cons, List.getD_cons_succ, prd, prd, this, ← Int.mul_assoc, ← Int.mul_assoc]
theorem cut_shape {s : List Int} {n : Int} {k : Nat} (hc : count s = some n) (hk : k < s.length) : ∃ q m r : Nat, prd (s.take k) = q ∧ s.getD k 0 = m ∧ prd (s.drop (k + 1)) = r ∧ n = (q * m * r : Nat) ∧ q * m * r ≤ 4096 ∧ q ≤ 4096 ∧ m ≤ 4096 ∧ r ≤ 4096 := by
  have hne : count s ≠ none := by rw [hc]; simp
  obtain ⟨_, _, a1, a2, _, _⟩ := count_parts hne k
  obtain ⟨_, _, _, _, b1, b2⟩ := count_parts hne (k + 1)
  obtain ⟨_, hd, hp⟩ := count_bound hc
  have hm := hd (s.getD k 0) (by simp [List.getD, hk])
  have hn := count_prd hc
  have hp := hp s.length
  rw [List.take_length, ← hn] at hp
  have hs := prd_split hk
  refine ⟨(prd (s.take k)).toNat, (s.getD k 0).toNat, (prd (s.drop (k + 1))).toNat, by omega, by omega, by omega, ?_, ?_, by omega, by omega, by omega⟩
  · rw [hn, hs]
    push_cast
    rw [Int.toNat_of_nonneg a1, Int.toNat_of_nonneg hm.1, Int.toNat_of_nonneg b1]
  · have : ((prd (s.take k)).toNat * (s.getD k 0).toNat * (prd (s.drop (k + 1))).toNat : Nat) = n := by
      rw [hn, hs]
      push_cast
      rw [Int.toNat_of_nonneg a1, Int.toNat_of_nonneg hm.1, Int.toNat_of_nonneg b1]
    omega
theorem wmul {a b : Nat} (h : a * b ≤ 1000000) : IntKind.i64.wrap ((a : Int) * (b : Int)) = ((a * b : Nat) : Int) := by
  rw [← Int.natCast_mul]
  generalize a * b = c at *
  exact wrap_i64 (by omega) (by omega)
theorem wadd {a b : Nat} (h : a + b ≤ 1000000) : IntKind.i64.wrap ((a : Int) + (b : Int)) = ((a + b : Nat) : Int) := by
  rw [wrap_i64 (by omega) (by omega)]; omega
def aloM (s t : List Int) (ch : Bool) (L : List Rt) (m n : Nat) (v : Nat → Nat → Nat) (c : Nat) : List AObj :=
  [⟨true, 35, 5, 0, 1, arrX s ch t L, false⟩, ⟨false, 3, 1, 0, 0, [], false⟩, ⟨false, 21, 1, 0, 0, [], false⟩, ⟨false, 98, 3, 0, 0, [], false⟩, ⟨true, 35, 5, 0, 1, [.arr 1 0, .bool false, .arr 2 0, .arr 3 0, .bool false], false⟩, ⟨false, 3, 1, c, c, nums .i64 (alos m n v c), false⟩]
set_option maxHeartbeats 1000000 in
theorem c97_ok {s t : List Int} {ch : Bool} {L : List Rt} {k q m n f : Nat} {caps : List AV} {v : Nat → Nat → Nat} (hs : ∀ d ∈ s, In64 d) (hlen : ((t.length + L.length : Nat) : Int) = ((q * m * n : Nat) : Int)) (ht : (t.length : Int) ≤ 1000000000) (hL : (L.length : Int) ≤ 1000000000)
    (hc : count s = some ((q * m * n : Nat) : Int)) (hk : k < s.length) (hq : prd (s.take k) = q) (hm : s.getD k 0 = m) (hn : prd (s.drop (k + 1)) = n) (h4 : q * m * n ≤ 4096) (hq4 : q ≤ 4096) (hm4 : m ≤ 4096) (hn4 : n ≤ 4096)
    (hcaps : ∀ mem, caps.mapM (fun c => snap mem 10 c) = some caps) (hu : underL 6 caps = true) (hv : ∀ a i : Nat, a < q * n → i < m → v a i < m)
    (hf : ∀ a i : Nat, a < q * n → i < m → Go.V.Call tab E f (.int .i64 a :: .int .i64 i :: .int .i64 m :: caps) [] (.int .i64 (v a i)) []) :
    Go.V.Call tab E 97 [.agg (arrX s ch t L), .int .i64 k, .fn f caps] [] (.tup [.agg (arrX s ch (picksT ch t (alos m n v (q * m * n))) (picksR ch L (alos m n v (q * m * n)))), .int .i64 0]) [] := by
  obtain ⟨hl8, hd4, hpr⟩ := count_bound hc
  refine Go.V.Call.mach i97 c97 rfl rfl rfl rfl ?_
  have h48 := c48_X (s := s) (t := t) (l := L) (ch := ch) (by omega)
  have h55 := c55_X (s := s) (t := t) (l := L) (ch := ch) (by omega) (by omega)
  have h122 := c122_ok (E := E) (s := s) (a := (k : Int)) hs (by omega) ⟨by omega, by omega⟩
  have h91 := c91_ok (s := s) (t := t) (s' := s) (ks := alos m n v (q * m * n)) (L := L) (ch := ch) hs (by omega) (by omega) (by omega) (by rw [alos_len]; omega)
  have hspl : spl s (k : Int) = .tup [.int .i64 q, .int .i64 m, .int .i64 n, .bool true] := by
    rw [spl, if_neg (by rw [hc]; simp; omega), Int.toNat_natCast, hq, hm, hn]
  have hfit : fits s (q * m * n) = true := by rw [fits, hc]; simp
  rw [hspl] at h122
  rw [alos_len, hfit, if_pos rfl, if_pos rfl] at h91
  rw [hlen] at h55
  have m1 : (0 : Int) ≤ ((q * m * n : Nat) : Int) := by omega
  have m2 : 8 * (q * m * n) ≤ 140737488355328 := by omega
  have m3 : ((q * m * n : Nat) : Int) ≤ 140737488355328 := by omega
  simp only [arrX, runes, ints] at h48 h55 h122 h91
  simp only [c97, arrX, runes, ints, go_sem, fillAll, fillIn, shiftR, shiftV, List.take_succ_cons, List.take_zero, List.drop_succ_cons, List.drop_zero, List.append_nil, Nat.zero_add, subA5, hcaps]
  refine goP h48 ?_
  simp only [go_sem, fillAll, fillIn, shiftR, shiftV, List.take_succ_cons, List.take_zero, List.drop_succ_cons, List.drop_zero, List.append_nil, Nat.zero_add, subA5]
  refine goP h122 ?_
  simp only [go_sem, fillAll, fillIn, shiftR, shiftV, List.take_succ_cons, List.take_zero, List.drop_succ_cons, List.drop_zero, List.append_nil, Nat.zero_add, subA5]
  refine goP h55 ?_
  simp only [go_sem, fillAll, fillIn, shiftR, shiftV, List.take_succ_cons, List.take_zero, List.drop_succ_cons, List.drop_zero, List.append_nil, Nat.zero_add, subA5, Int.toNat_natCast, m1, m2, m3]
  refine mLoop (fun N st => ∃ o : Nat, o ≤ q ∧ N = q - o ∧ st = ⟨[(2, .fn f caps), (3, .loc 0 0 0), (6, .loc 4 0 0), (8, ints s), (10, .int .i64 m), (11, .int .i64 n), (13, .arr 5 (o * m * n)), (30, .int .i64 q), (31, .int .i64 o)], aloM s t ch L m n v (o * m * n)⟩) q
    ⟨_, by simp only [headOf]; exact (if_pos (by simp [under, underL, hu, getE, aloM, arrX, ints, runes])).trans rfl, 0, by omega, by omega, by simp [getE, aloM, alos, arrX, ints, runes, nums]⟩ ?_
  rintro N s0 ⟨o, ho, rfl, rfl⟩
  by_cases hlt : o < q
  · have hlt' : (o : Int) < (q : Int) := by omega
    have ho1 : IntKind.i64.wrap ((o : Int) + 1) = ((o + 1 : Nat) : Int) := by rw [wrap_i64 (by omega) (by omega)]; omega
    simp only [b97_0, ints, go_sem, hlt']
    refine mLoop (fun N st => ∃ i : Nat, i ≤ m ∧ N = m - i ∧ st = ⟨[(2, .fn f caps), (3, .loc 0 0 0), (6, .loc 4 0 0), (8, ints s), (10, .int .i64 m), (11, .int .i64 n), (13, .arr 5 ((o * m + i) * n)), (14, .int .i64 o), (30, .int .i64 q), (31, .int .i64 o), (34, .int .i64 m), (35, .int .i64 i)], aloM s t ch L m n v ((o * m + i) * n)⟩) m
      ⟨_, by simp only [headOf]; exact (if_pos (by simp [under, underL, hu, getE, aloM, arrX, ints, runes])).trans rfl, 0, by omega, by omega, rfl⟩ ?_
    rintro N1 s1 ⟨i, hi, rfl, rfl⟩
    by_cases hlti : i < m
    · have hlti' : (i : Int) < (m : Int) := by omega
      have hi1 : IntKind.i64.wrap ((i : Int) + 1) = ((i + 1 : Nat) : Int) := by rw [wrap_i64 (by omega) (by omega)]; omega
      simp only [b97_1, ints, go_sem, hlti']
      refine mLoop (fun N st => ∃ j : Nat, j ≤ n ∧ N = n - j ∧ st = ⟨[(2, .fn f caps), (3, .loc 0 0 0), (6, .loc 4 0 0), (8, ints s), (10, .int .i64 m), (11, .int .i64 n), (13, .arr 5 ((o * m + i) * n + j)), (14, .int .i64 o), (15, .int .i64 i), (30, .int .i64 q), (31, .int .i64 o), (34, .int .i64 m), (35, .int .i64 i), (38, .int .i64 n), (39, .int .i64 j)], aloM s t ch L m n v ((o * m + i) * n + j)⟩) n
        ⟨_, by simp only [headOf]; exact (if_pos (by simp [under, underL, hu, getE, aloM, arrX, ints, runes])).trans rfl, 0, by omega, by omega, rfl⟩ ?_
      rintro N2 s2 ⟨j, hj, rfl, rfl⟩
      by_cases hltj : j < n
      · have hltj' : (j : Int) < (n : Int) := by omega
        have hj1 : IntKind.i64.wrap ((j : Int) + 1) = ((j + 1 : Nat) : Int) := by rw [wrap_i64 (by omega) (by omega)]; omega
        obtain ⟨a1, a2, a3, _, _, _, a7⟩ := alo_small h4 hlt hlti hltj hlti
        have hvm := hv (o * n + j) i a2 hlti
        obtain ⟨_, _, _, b4, b5, b6, _⟩ := alo_small h4 hlt hlti hltj hvm
        have hcall := hf (o * n + j) i a2 hlti
        have w1 := wmul (a := o) (b := m) (by omega)
        have w2 := wmul (a := o) (b := n) (by omega)
        have w3 := wadd (a := o * n) (b := j) (by omega)
        have w4 := wadd (a := o * m) (b := v (o * n + j) i) (by omega)
        have w5 := wmul (a := o * m + v (o * n + j) i) (b := n) (by omega)
        have w6 := wadd (a := (o * m + v (o * n + j) i) * n) (b := j) (by omega)
        have e1 : ((o * m + i) * n + j + 1) * 8 ≤ 140737488355328 := by omega
        have e2 : (o * m + i) * n + j + 1 ≤ 140737488355328 := by omega
        simp only [b97_2, ints, aloM, go_sem, fillAll, fillIn, shiftR, shiftV, List.take_succ_cons, List.take_zero, List.drop_succ_cons, List.drop_zero, List.append_nil, Nat.zero_add, hltj', w1, w2, w3]
        refine goFn (hcaps _) hcall rfl ?_
        simp only [go_sem, fillAll, fillIn, shiftR, shiftV, List.take_succ_cons, List.take_zero, List.drop_succ_cons, List.drop_zero, List.append_nil, Nat.zero_add, w4, w5, w6, hj1, e1, e2, List.flatten_cons, List.flatten_nil, Option.getD_some]
        refine loopQ_go (by simp only [headOf]; exact (if_pos (by simp [under, underL, hu, getE, aloM, arrX, ints, runes])).trans rfl) (n - (j + 1)) (by omega) ⟨j + 1, by omega, rfl, ?_⟩
        rw [alos_snoc hlti hltj, nums_app]
        rfl
      · have hltj' : ¬ (j : Int) < (n : Int) := by omega
        obtain rfl : j = n := by omega
        simp only [b97_2, k97_0, ints, go_sem, fillAll, fillIn, shiftR, shiftV, List.take_succ_cons, List.take_zero, List.drop_succ_cons, List.drop_zero, List.append_nil, Nat.zero_add, hltj', hi1]
        refine loopQ_go (by simp only [headOf]; exact (if_pos (by simp [under, underL, hu, getE, aloM, arrX, ints, runes])).trans rfl) (m - (i + 1)) (by omega) ⟨i + 1, by omega, rfl, ?_⟩
        rw [show (o * m + (i + 1)) * j = (o * m + i) * j + j by rw [← Nat.add_assoc, Nat.succ_mul]]
        rfl
    · have hlti' : ¬ (i : Int) < (m : Int) := by omega
      obtain rfl : i = m := by omega
      simp only [b97_1, k97_1, ints, go_sem, fillAll, fillIn, shiftR, shiftV, List.take_succ_cons, List.take_zero, List.drop_succ_cons, List.drop_zero, List.append_nil, Nat.zero_add, hlti', ho1]
      refine loopQ_go (by simp only [headOf]; exact (if_pos (by simp [under, underL, hu, getE, aloM, arrX, ints, runes])).trans rfl) (q - (o + 1)) (by omega) ⟨o + 1, by omega, rfl, ?_⟩
      rw [show (o + 1) * i * n = (o * i + i) * n by rw [Nat.succ_mul]]
      rfl
  · have hlt' : ¬ (o : Int) < (q : Int) := by omega
    obtain rfl : o = q := by omega
    rw [alos_len] at h91
    simp only [b97_0, k97_2, aloM, arrX, runes, ints, go_sem, fillAll, fillIn, shiftR, shiftV, List.take_succ_cons, List.take_zero, List.drop_succ_cons, List.drop_zero, List.append_nil, Nat.zero_add, subA5, hlt']
    refine goF h91 ?_
    simp only [go_sem, fillAll, fillIn, shiftR, shiftV, List.take_succ_cons, List.take_zero, List.drop_succ_cons, List.drop_zero, List.append_nil, Nat.zero_add, subA5]
    simp only [i97, Out, resAll, geto, ints, List.getElem?_cons_zero, List.getElem?_cons_succ, resOf, outOf, snap, snapL, ev, getE, List.mapM_cons, List.mapM_nil, Option.bind_some, Option.pure_def, Option.bind_eq_bind, Option.map_some, reduceIte, Nat.reduceEqDiff, true_and, and_true, subA5]
def revV (m : Nat) (_ i : Nat) : Nat := m - 1 - i
theorem c98_ok {a i m : Nat} (hi : i < m) (hm : m ≤ 4096) : Go.V.Call tab E 98 [.int .i64 a, .int .i64 i, .int .i64 m] [] (.int .i64 (revV m a i)) [] := by
  refine Go.V.Call.mach i98 c98 rfl rfl rfl rfl ?_
  have w1 : IntKind.i64.wrap ((m : Int) - 1) = (m : Int) - 1 := wrap_i64 (by omega) (by omega)
  have w2 : IntKind.i64.wrap ((m : Int) - 1 - (i : Int)) = ((revV m a i : Nat) : Int) := by
    rw [wrap_i64 (by omega) (by omega), revV]; omega
  simp only [c98, go_sem, w1, w2]
  simp only [i98, Out, resAll, geto, ints, List.getElem?_cons_zero, List.getElem?_cons_succ, resOf, outOf, snap, snapL, ev, getE, List.mapM_cons, List.mapM_nil, Option.bind_some, Option.pure_def, Option.bind_eq_bind, Option.map_some, reduceIte, Nat.reduceEqDiff, true_and, and_true]
section
variable {s t : List Int} {ch : Bool} {L : List Rt} {a : Int}
theorem c40_same (hsl : (s.length : Int) ≤ 1000000000) (h : s.length = 0 ∧ a < 0) : Go.V.Call tab E 40 [.agg (arrX s ch t L), .int .i64 a] [] (.tup [.agg (arrX s ch t L), .int .i64 0]) [] := by
  refine Go.V.Call.mach i40 c40 rfl rfl rfl rfl ?_
  have h56 := c56_X (s := s) (t := t) (l := L) (ch := ch) (by omega)
  obtain ⟨h1, h2⟩ := h
  have hq : ((s.length : Int) == 0) = true := by rw [h1]; rfl
  simp only [arrX, runes, ints] at h56
  simp only [c40, arrX, runes, ints, go_sem, fillAll, fillIn, shiftR, shiftV, List.take_succ_cons, List.take_zero, List.drop_succ_cons, List.drop_zero, List.append_nil, Nat.zero_add, subA5]
  refine goP h56 ?_
  simp only [go_sem, fillAll, fillIn, shiftR, shiftV, List.take_succ_cons, List.take_zero, List.drop_succ_cons, List.drop_zero, List.append_nil, Nat.zero_add, subA5, hq, h2]
  simp only [i40, Out, resAll, geto, ints, List.getElem?_cons_zero, List.getElem?_cons_succ, resOf, outOf, snap, snapL, ev, getE, List.mapM_cons, List.mapM_nil, Option.bind_some, Option.pure_def, Option.bind_eq_bind, Option.map_some, reduceIte, Nat.reduceEqDiff, true_and, and_true, subA5]
theorem c40_err (h : ¬ (s.length = 0 ∧ a < 0)) (hsl : (s.length : Int) ≤ 1000000000) (hb : axB s a = false) : Go.V.Call tab E 40 [.agg (arrX s ch t L), .int .i64 a] [] (.tup [.agg noA, .int .i64 23]) [] := by
  refine Go.V.Call.mach i40 c40 rfl rfl rfl rfl ?_
  have h56 := c56_X (s := s) (t := t) (l := L) (ch := ch) (by omega)
  have h27 := c27_ok (s := s) (t := t) (ch := ch) (L := L) (a := a) hsl
  rw [hb] at h27
  have hq : ((s.length : Int) == 0) = decide (s.length = 0) := by
    by_cases h1 : s.length = 0
    · rw [h1]; rfl
    · rw [decide_eq_false h1]; exact beq_eq_false_iff_ne.2 (by omega)
  simp only [arrX, runes, ints] at h56 h27
  simp only [c40, arrX, runes, ints, go_sem, fillAll, fillIn, shiftR, shiftV, List.take_succ_cons, List.take_zero, List.drop_succ_cons, List.drop_zero, List.append_nil, Nat.zero_add, subA5]
  refine goP h56 ?_
  by_cases h1 : s.length = 0
  · have h2 : ¬ a < 0 := fun h2 => h ⟨h1, h2⟩
    simp only [go_sem, fillAll, fillIn, shiftR, shiftV, List.take_succ_cons, List.take_zero, List.drop_succ_cons, List.drop_zero, List.append_nil, Nat.zero_add, subA5, hq, h1, h2, decide_true]
    simp only [h1] at h27
    refine goP h27 ?_
    simp only [go_sem, fillAll, fillIn, shiftR, shiftV, List.take_succ_cons, List.take_zero, List.drop_succ_cons, List.drop_zero, List.append_nil, Nat.zero_add, subA5]
    simp only [i40, Out, resAll, geto, ints, List.getElem?_cons_zero, List.getElem?_cons_succ, resOf, outOf, snap, snapL, ev, getE, List.mapM_cons, List.mapM_nil, Option.bind_some, Option.pure_def, Option.bind_eq_bind, Option.map_some, reduceIte, Nat.reduceEqDiff, true_and, and_true, subA5, noA]
  · simp only [go_sem, fillAll, fillIn, shiftR, shiftV, List.take_succ_cons, List.take_zero, List.drop_succ_cons, List.drop_zero, List.append_nil, Nat.zero_add, subA5, hq, h1, decide_false]
    refine goP h27 ?_
    simp only [go_sem, fillAll, fillIn, shiftR, shiftV, List.take_succ_cons, List.take_zero, List.drop_succ_cons, List.drop_zero, List.append_nil, Nat.zero_add, subA5]
    simp only [i40, Out, resAll, geto, ints, List.getElem?_cons_zero, List.getElem?_cons_succ, resOf, outOf, snap, snapL, ev, getE, List.mapM_cons, List.mapM_nil, Option.bind_some, Option.pure_def, Option.bind_eq_bind, Option.map_some, reduceIte, Nat.reduceEqDiff, true_and, and_true, subA5, noA]
theorem c40_alo {q m n k : Nat} (h : ¬ (s.length = 0 ∧ a < 0)) (hsl : (s.length : Int) ≤ 1000000000) (hb : axB s a = true) (hk : axA s a = (k : Int)) {ks : List Int}
    (h97 : Go.V.Call tab E 97 [.agg (arrX s ch t L), .int .i64 k, .fn 98 []] [] (.tup [.agg (arrX s ch (picksT ch t ks) (picksR ch L ks)), .int .i64 0]) []) :
    Go.V.Call tab E 40 [.agg (arrX s ch t L), .int .i64 a] [] (.tup [.agg (arrX s ch (picksT ch t ks) (picksR ch L ks)), .int .i64 0]) [] := by
  refine Go.V.Call.mach i40 c40 rfl rfl rfl rfl ?_
  have h56 := c56_X (s := s) (t := t) (l := L) (ch := ch) (by omega)
  have h27 := c27_ok (s := s) (t := t) (ch := ch) (L := L) (a := a) hsl
  rw [hb, hk] at h27
  have hne : s.length ≠ 0 := by
    have h1 : axB s a = true := hb
    rw [axB, hk, Bool.and_eq_true, decide_eq_true_eq, decide_eq_true_eq] at h1
    omega
  have hq : ((s.length : Int) == 0) = false := beq_eq_false_iff_ne.2 (by omega)
  simp only [arrX, runes, ints] at h56 h27 h97
  simp only [c40, arrX, runes, ints, go_sem, fillAll, fillIn, shiftR, shiftV, List.take_succ_cons, List.take_zero, List.drop_succ_cons, List.drop_zero, List.append_nil, Nat.zero_add, subA5]
  refine goP h56 ?_
  simp only [go_sem, fillAll, fillIn, shiftR, shiftV, List.take_succ_cons, List.take_zero, List.drop_succ_cons, List.drop_zero, List.append_nil, Nat.zero_add, subA5, hq]
  refine goP h27 ?_
  simp only [go_sem, fillAll, fillIn, shiftR, shiftV, List.take_succ_cons, List.take_zero, List.drop_succ_cons, List.drop_zero, List.append_nil, Nat.zero_add, subA5]
  refine goP h97 ?_
  simp only [go_sem, fillAll, fillIn, shiftR, shiftV, List.take_succ_cons, List.take_zero, List.drop_succ_cons, List.drop_zero, List.append_nil, Nat.zero_add, subA5]
  simp only [i40, Out, resAll, geto, ints, List.getElem?_cons_zero, List.getElem?_cons_succ, resOf, outOf, snap, snapL, ev, getE, List.mapM_cons, List.mapM_nil, Option.bind_some, Option.pure_def, Option.bind_eq_bind, Option.map_some, reduceIte, Nat.reduceEqDiff, true_and, and_true, subA5]
end
end Go.Proofs.YtlejgleocnemoaaGreat.I

namespace Go.Proofs.YtlejgleocnemoaaGreat.I
open Go Go.V
attribute [local go_sem] mNil nat0 beq_self_eq_true mSkip mRet mExit mReg mSeq mCond mTrue mFalse mBlock mLv mCodeE mCodeR mEndN mEndR mEndE mOps mSome mGuard mGtt mGff mGtf mGft mGu mCallP mCallR mCallF mCallO mCallZ mCallG mCallM mCallV loopQ_exit loopQ_ret mO_mov mO_newnil mO_pick mO_alloc mO_box mO_build mO_bsl mO_bslF mO_ldf mO_ld mO_st mO_sta mO_nilchk mO_bin mO_binb mO_binp mO_bins mO_neg mO_com mO_not mO_conv mO_mk mO_mk0 mO_s2b mO_b2s mO_cpy mO_cut mO_faddr mO_fld mO_iaddr mO_iaddrf mO_sidx mO_len mO_lenf mO_slen mO_scut mO_app mO_ext mO_mx mO_mn mO_mkfn evalOp cutOp argsE ev getE putE cellsOf adopt rowOf binV boolV nilV ar_add ar_sub ar_mul ar_quo ar_rem ar_eq ar_ne ar_lt ar_le ar_gt ar_ge ar_and ar_or ar_xor geto bound finRet finNrm ints List.length_cons List.length_nil List.length_append List.getElem?_cons_zero List.getElem?_cons_succ List.nil_append List.cons_append List.map_cons List.map_nil List.mapM_cons List.mapM_nil Option.map_some Option.map_none Option.bind_some Option.pure_def Option.bind_eq_bind List.drop_zero or_self or_false false_or or_true true_or true_and and_true and_self decide_true decide_false Bool.false_eq_true Bool.true_eq_false Bool.not_true Bool.not_false Nat.le_refl eq_self gt_iff_lt ge_iff_le ne_eq not_true_eq_false not_false_eq_true storeOp apartOf freeze_nil refsL refs List.flatMap_cons List.flatMap_nil List.append_nil List.contains_nil List.set_cons_zero List.set_cons_succ snap snapL fill_nums flat_nums nums_length Go.V.freeze List.mapIdx_cons List.mapIdx_nil List.contains_cons Bool.or_false Bool.false_or Bool.or_true Bool.true_or
theorem pl_app : ∀ {s1 i1 s2 i2 : List Int} {n : Int}, i1.length = s1.length → pl n (s1 ++ s2) (i1 ++ i2) = (pl n s1 i1).bind fun m => pl m s2 i2
  | [], [], s2, i2, n, _ => rfl
  | [], x :: xs, s2, i2, n, h => by simp at h
  | d :: ds, [], s2, i2, n, h => by simp at h
  | d :: ds, x :: xs, s2, i2, n, h => by
    simp only [List.cons_append, pl]
    split
    · rfl
    · exact pl_app (by simpa using h)
theorem ix_app : ∀ {s1 s2 : List Int} {a : Int}, ix (s1 ++ s2) a = ((ix s1 (ix s2 a).2).1 ++ (ix s2 a).1, (ix s1 (ix s2 a).2).2)
  | [], s2, a => rfl
  | d :: ds, s2, a => by simp only [List.cons_append, ix, ix_app]
theorem pl_axis {s : List Int} {k q m r c : Nat} {x : Int} (hk : k < s.length) (hpos : ∀ d ∈ s, 1 ≤ d) (hq : prd (s.take k) = q) (hm : s.getD k 0 = m) (hr : prd (s.drop (k + 1)) = r) (hc : c < q * m * r) (hx : 0 ≤ x ∧ x < m) :
    (ix s c).1.getD k 0 = ((c / r % m : Nat) : Int) ∧ pl 0 s ((ix s c).1.take k ++ x :: (ix s c).1.drop (k + 1)) = some ((((c / r / m : Nat) : Int) * m + x) * r + ((c % r : Nat) : Int)) ∧
    pl 0 (s.take k ++ s.drop (k + 1)) ((ix s c).1.take k ++ (ix s c).1.drop (k + 1)) = some (((c / r / m : Nat) : Int) * r + ((c % r : Nat) : Int)) := by
  have hs : s = s.take k ++ s.getD k 0 :: s.drop (k + 1) := by rw [← getD_drop hk, List.take_append_drop]
  have p1 : ∀ d ∈ s.take k, 1 ≤ d := fun d hd => hpos d (List.mem_of_mem_take hd)
  have p2 : ∀ d ∈ s.drop (k + 1), 1 ≤ d := fun d hd => hpos d (List.mem_of_mem_drop hd)
  have hl1 : (s.take k).length = k := by rw [List.length_take]; omega
  have i2 := ix_snd (s := s.drop (k + 1)) (a := (c : Int)) (by omega) p2
  rw [hr, ← Int.natCast_ediv] at i2
  have hix : ix s c = ((ix (s.take k) ((c / r / m : Nat) : Int)).1 ++ ((c / r % m : Nat) : Int) :: (ix (s.drop (k + 1)) c).1, (ix (s.take k) ((c / r / m : Nat) : Int)).2) := by
    conv => lhs; rw [hs]
    rw [ix_app]
    simp only [ix, i2, hm, ← Int.natCast_ediv, ← Int.natCast_emod]
  have hl2 : (ix (s.take k) ((c / r / m : Nat) : Int)).1.length = k := by rw [ix_len, hl1]
  have e1 : (ix s c).1.take k = (ix (s.take k) ((c / r / m : Nat) : Int)).1 := by rw [hix]; exact List.take_left' hl2
  have e2 : (ix s c).1.drop (k + 1) = (ix (s.drop (k + 1)) c).1 := by
    rw [hix, List.drop_append, hl2, List.drop_eq_nil_of_le (by omega), List.nil_append, show k + 1 - k = 1 by omega]; rfl
  have e3 : (ix s c).1.getD k 0 = ((c / r % m : Nat) : Int) := by
    rw [hix]
    simp only [List.getD]
    rw [List.getElem?_append_right (by omega), hl2, Nat.sub_self]
    rfl
  have hrp : 0 < r := by rcases Nat.eq_zero_or_pos r with h | h; subst h; simp at hc; exact h
  have hmp : 0 < m := by rcases Nat.eq_zero_or_pos m with h | h; subst h; simp at hc; exact h
  have hb : c / r / m < q := by
    rw [Nat.div_div_eq_div_mul]
    exact (Nat.div_lt_iff_lt_mul (Nat.mul_pos hrp hmp)).2 (by rw [Nat.mul_comm r m, ← Nat.mul_assoc]; exact hc)
  have q1 := pl_ix (s := s.take k) (a := ((c / r / m : Nat) : Int)) (m := 0) (Int.natCast_nonneg _) p1
  rw [hq, Int.zero_mul, Int.zero_add, ← Int.natCast_emod, Nat.mod_eq_of_lt hb] at q1
  have q2 := fun n : Int => pl_ix (s := s.drop (k + 1)) (a := (c : Int)) (m := n) (by omega) p2
  rw [hr] at q2
  refine ⟨e3, ?_, ?_⟩
  · rw [e1, e2]
    have key : pl 0 (s.take k ++ s.getD k 0 :: s.drop (k + 1)) ((ix (s.take k) ((c / r / m : Nat) : Int)).1 ++ x :: (ix (s.drop (k + 1)) c).1) = some ((((c / r / m : Nat) : Int) * m + x) * r + ((c % r : Nat) : Int)) := by
      rw [pl_app (by rw [hl2, hl1]), q1, Option.bind_some, pl, hm, if_neg (by omega), q2, ← Int.natCast_emod]
    rwa [← hs] at key
  · rw [e1, e2, pl_app (by rw [hl2, hl1]), q1, Option.bind_some, q2, ← Int.natCast_emod]
theorem allL_all {s : List Int} {n : Nat} (hc : count s = some (n : Int)) : (allL s).length = n ∧ ∀ j : Nat, j < n → (allL s).getD j [] = (ix s j).1 := by
  obtain ⟨_, hd, _⟩ := count_bound hc
  obtain ⟨h1, h2⟩ := allL_take (fun d hd' => (hd d hd').1) (k := s.length) (Nat.le_refl _)
  rw [List.take_length, ← count_prd hc] at h1 h2
  refine ⟨by omega, fun j hj => ?_⟩
  rw [List.getD, h2 j (by omega)]
  rfl
end Go.Proofs.YtlejgleocnemoaaGreat.I

namespace Go.Proofs.YtlejgleocnemoaaGreat.I
open Go Go.V
attribute [local go_sem_proc ↓] reduceIte
attribute [local go_sem_proc] Nat.reduceEqDiff Nat.reduceAdd Nat.reduceMul Nat.reduceLeDiff Nat.reduceLT Int.reduceToNat Int.reduceLT Int.reduceLE reduceCtorEq Nat.reduceBEq
attribute [local go_sem] mNil nat0 beq_self_eq_true mSkip mRet mExit mReg mSeq mCond mTrue mFalse mBlock mLv mCodeE mCodeR mEndN mEndR mEndE mOps mSome mGuard mGtt mGff mGtf mGft mGu mCallP mCallR mCallF mCallO mCallZ mCallG mCallM mCallV loopQ_exit loopQ_ret mO_mov mO_newnil mO_pick mO_alloc mO_box mO_build mO_bsl mO_bslF mO_ldf mO_ld mO_st mO_sta mO_nilchk mO_bin mO_binb mO_binp mO_bins mO_neg mO_com mO_not mO_conv mO_mk mO_mk0 mO_s2b mO_b2s mO_cpy mO_cut mO_faddr mO_fld mO_iaddr mO_iaddrf mO_sidx mO_len mO_lenf mO_slen mO_scut mO_app mO_ext mO_mx mO_mn mO_mkfn evalOp cutOp argsE ev getE putE cellsOf adopt rowOf binV boolV nilV ar_add ar_sub ar_mul ar_quo ar_rem ar_eq ar_ne ar_lt ar_le ar_gt ar_ge ar_and ar_or ar_xor geto bound finRet finNrm ints List.length_cons List.length_nil List.length_append List.getElem?_cons_zero List.getElem?_cons_succ List.nil_append List.cons_append List.map_cons List.map_nil List.mapM_cons List.mapM_nil Option.map_some Option.map_none Option.bind_some Option.pure_def Option.bind_eq_bind List.drop_zero or_self or_false false_or or_true true_or true_and and_true and_self decide_true decide_false Bool.false_eq_true Bool.true_eq_false Bool.not_true Bool.not_false Nat.le_refl eq_self gt_iff_lt ge_iff_le ne_eq not_true_eq_false not_false_eq_true storeOp apartOf freeze_nil refsL refs List.flatMap_cons List.flatMap_nil List.append_nil List.contains_nil List.set_cons_zero List.set_cons_succ snap snapL fill_nums flat_nums nums_length Go.V.freeze List.mapIdx_cons List.mapIdx_nil List.contains_cons Bool.or_false Bool.false_or Bool.or_true Bool.true_or
section
variable {s t : List Int} {ch : Bool} {l : List Nm} {a : Int}
theorem c41_same (h : s.length = 0 ∧ a < 0) : Go.V.Call tab E 41 [.agg (plX s ch t l), .int .i64 a] [] (.tup [.agg (plX s ch t l), .int .i64 0]) [] := by
  refine Go.V.Call.mach i41 c41 rfl rfl rfl rfl ?_
  obtain ⟨h1, h2⟩ := h
  have hq : ((s.length : Int) == 0) = true := by rw [h1]; rfl
  simp only [c41, plX, runes, ints, go_sem, fillAll, fillIn, shiftR, shiftV, List.take_succ_cons, List.take_zero, List.drop_succ_cons, List.drop_zero, List.append_nil, Nat.zero_add, subP4, subP4a, hq, h2]
  simp only [i41, Out, resAll, geto, ints, List.getElem?_cons_zero, List.getElem?_cons_succ, resOf, outOf, snap, snapL, ev, getE, List.mapM_cons, List.mapM_nil, Option.bind_some, Option.pure_def, Option.bind_eq_bind, Option.map_some, reduceIte, Nat.reduceEqDiff, true_and, and_true, subP4]
theorem c41_err (h : ¬ (s.length = 0 ∧ a < 0)) (hsl : (s.length : Int) ≤ 1000000000) (hb : axB s a = false) : Go.V.Call tab E 41 [.agg (plX s ch t l), .int .i64 a] [] (.tup [.agg noP, .int .i64 23]) [] := by
  refine Go.V.Call.mach i41 c41 rfl rfl rfl rfl ?_
  have h28 := c28_ok (s := s) (t := t) (ch := ch) (l := l) (a := a) hsl
  rw [hb] at h28
  have hq : ((s.length : Int) == 0) = decide (s.length = 0) := by
    by_cases h1 : s.length = 0
    · rw [h1]; rfl
    · rw [decide_eq_false h1]; exact beq_eq_false_iff_ne.2 (by omega)
  simp only [plX, runes, ints] at h28
  by_cases h1 : s.length = 0
  · have h2 : ¬ a < 0 := fun h2 => h ⟨h1, h2⟩
    simp only [h1] at h28
    simp only [c41, plX, runes, ints, go_sem, fillAll, fillIn, shiftR, shiftV, List.take_succ_cons, List.take_zero, List.drop_succ_cons, List.drop_zero, List.append_nil, Nat.zero_add, subP4, subP4a, hq, h1, h2, decide_true]
    refine goP h28 ?_
    simp only [go_sem, fillAll, fillIn, shiftR, shiftV, List.take_succ_cons, List.take_zero, List.drop_succ_cons, List.drop_zero, List.append_nil, Nat.zero_add, subP4]
    simp only [i41, Out, resAll, geto, ints, List.getElem?_cons_zero, List.getElem?_cons_succ, resOf, outOf, snap, snapL, ev, getE, List.mapM_cons, List.mapM_nil, Option.bind_some, Option.pure_def, Option.bind_eq_bind, Option.map_some, reduceIte, Nat.reduceEqDiff, true_and, and_true, subP4, noP, plX]
    rfl
  · simp only [c41, plX, runes, ints, go_sem, fillAll, fillIn, shiftR, shiftV, List.take_succ_cons, List.take_zero, List.drop_succ_cons, List.drop_zero, List.append_nil, Nat.zero_add, subP4, subP4a, hq, h1, decide_false]
    refine goP h28 ?_
    simp only [go_sem, fillAll, fillIn, shiftR, shiftV, List.take_succ_cons, List.take_zero, List.drop_succ_cons, List.drop_zero, List.append_nil, Nat.zero_add, subP4]
    simp only [i41, Out, resAll, geto, ints, List.getElem?_cons_zero, List.getElem?_cons_succ, resOf, outOf, snap, snapL, ev, getE, List.mapM_cons, List.mapM_nil, Option.bind_some, Option.pure_def, Option.bind_eq_bind, Option.map_some, reduceIte, Nat.reduceEqDiff, true_and, and_true, subP4, noP, plX]
    rfl
set_option maxHeartbeats 1000000 in
theorem c41_alo {q m n k : Nat} (hsl : (s.length : Int) ≤ 1000000000) (hb : axB s a = true) (hk : axA s a = (k : Int)) (hks : k < s.length)
    (hch : (ch = true → l = []) ∧ (ch = false → t = [])) (ht : (t.length : Int) ≤ 1000000000) (hl : (l.length : Int) ≤ 1000000000)
    (hc : count s = some ((q * m * n : Nat) : Int)) (hq : prd (s.take k) = q) (hm : s.getD k 0 = m) (hn : prd (s.drop (k + 1)) = n) (h4 : q * m * n ≤ 4096) (hm4 : m ≤ 4096) :
    Go.V.Call tab E 41 [.agg (plX s ch t l), .int .i64 a] [] (.tup [.agg (plX s ch (picksT ch t (alos m n (revV m) (q * m * n))) (picksN ch l (alos m n (revV m) (q * m * n)))), .int .i64 0]) [] := by
  refine Go.V.Call.mach i41 c41 rfl rfl rfl rfl ?_
  have h28 := c28_ok (s := s) (t := t) (ch := ch) (l := l) (a := a) hsl
  rw [hb, hk] at h28
  obtain ⟨hall, hget⟩ := allL_all hc
  have hqz : ((s.length : Int) == 0) = false := beq_eq_false_iff_ne.2 (by omega)
  have h80 := c80_ok (E := E) hc
  have h53 := c53_ok (s := s) (t := t) (s' := s) (ks := alos m n (revV m) (q * m * n)) (l := l) (ch := ch) hch (by omega) (by omega) (by rw [alos_len]; omega)
  simp only [plX, runes, ints] at h28 h53
  simp only [ints, rows] at h80
  simp only [c41, plX, runes, ints, go_sem, fillAll, fillIn, shiftR, shiftV, List.take_succ_cons, List.take_zero, List.drop_succ_cons, List.drop_zero, List.append_nil, Nat.zero_add, subP4, subP4a, hqz]
  refine goP h28 ?_
  simp only [go_sem, fillAll, fillIn, shiftR, shiftV, List.take_succ_cons, List.take_zero, List.drop_succ_cons, List.drop_zero, List.append_nil, Nat.zero_add, subP4, subP4a]
  refine goP h80 ?_
  simp only [go_sem, fillAll, fillIn, shiftR, shiftV, List.take_succ_cons, List.take_zero, List.drop_succ_cons, List.drop_zero, List.append_nil, Nat.zero_add, subP4, subP4a]
  refine mLoop (fun N st => ∃ i : Nat, i ≤ q * m * n ∧ N = q * m * n - i ∧ st = ⟨[(2, .loc 0 0 0), (4, .loc 4 0 0), (6, .int .i64 k), (8, .sl (allL s).length 1 ((allL s).map ints)), (9, .arr 5 i), (10, .int .i64 i)],
      [⟨true, 26, 4, 0, 1, plX s ch t l, false⟩, ⟨false, 3, 1, 0, 0, [], false⟩, ⟨false, 21, 1, 0, 0, [], false⟩, ⟨false, 72, 3, 0, 0, [], false⟩, ⟨true, 26, 4, 0, 1, [.arr 1 0, .bool false, .arr 2 0, .arr 3 0], false⟩, ⟨false, 3, 1, i, i, nums .i64 (alos m n (revV m) i), false⟩]⟩) (q * m * n)
      ⟨_, rfl, 0, by omega, by omega, by simp [getE, ints, runes, plX, alos, nums]⟩ ?_
  rintro N s0 ⟨i, hi, rfl, rfl⟩
  by_cases hlt : i < q * m * n
  · have hlt' : (i : Int) < ((allL s).length : Int) := by rw [hall]; omega
    have hi0 : (0 : Int) ≤ (i : Int) := by omega
    have hi1 : IntKind.i64.wrap ((i : Int) + 1) = ((i + 1 : Nat) : Int) := by rw [wrap_i64 (by omega) (by omega)]; omega
    have hsub := sub_rows (L := allL s) (j := i) (by omega)
    rw [hget i hlt] at hsub
    have hN : ((q * m * n : Nat) : Int) ≠ 0 := by omega
    have hpos := count_pos hc hN
    have hnp : 0 < n := by rcases Nat.eq_zero_or_pos n with h | h; subst h; simp at hlt; exact h
    have hmp : 0 < m := by rcases Nat.eq_zero_or_pos m with h | h; subst h; simp at hlt; exact h
    have him : i / n % m < m := Nat.mod_lt _ hmp
    have hrv : revV m ((i / n / m) * n + i % n) (i / n % m) < m := by rw [revV]; omega
    obtain ⟨g1, g2, _⟩ := pl_axis (s := s) (c := i) (x := ((revV m ((i / n / m) * n + i % n) (i / n % m) : Nat) : Int)) hks hpos hq hm hn hlt ⟨by omega, by omega⟩
    have hix := ix_len (s := s) (a := (i : Int))
    have hsm := alos_len (m := m) (n := n) (v := revV m) (c := i)
    have hsn : alos m n (revV m) (i + 1) = alos m n (revV m) i ++ [alo m n (revV m) i] := by rw [alos, List.range_succ, List.map_append]; rfl
    have halo : alo m n (revV m) i = (((i / n / m : Nat) : Int) * m + ((revV m ((i / n / m) * n + i % n) (i / n % m) : Nat) : Int)) * n + ((i % n : Nat) : Int) := by
      rw [alo]; push_cast; rfl
    rw [← halo] at g2
    obtain ⟨p, h99, hp⟩ := c99_ok (E := E) (s := s) (idx := (ix s i).1.take k ++ ((revV m ((i / n / m) * n + i % n) (i / n % m) : Nat) : Int) :: (ix s i).1.drop (k + 1)) (by omega) (by rw [set_length (by omega), hix]; omega)
    have hpv : p = alo m n (revV m) i := by
      rcases hp (by rw [hc]; simp) with ⟨h1, _⟩ | ⟨_, h1⟩
      · rw [g2] at h1; cases h1
      · rw [g2] at h1; exact (Option.some.inj h1).symm
    subst hpv
    have hidk := sub_nums (k := .i64) (l := (ix s i).1) (i := k) (by omega)
    have hsk := sub_nums (k := .i64) (l := s) (i := k) (by omega)
    rw [g1] at hidk
    rw [hm] at hsk
    have w1 : IntKind.i64.wrap ((m : Int) - 1) = (m : Int) - 1 := wrap_i64 (by omega) (by omega)
    have w2 : IntKind.i64.wrap ((m : Int) - 1 - ((i / n % m : Nat) : Int)) = ((revV m ((i / n / m) * n + i % n) (i / n % m) : Nat) : Int) := by
      rw [wrap_i64 (by omega) (by omega), revV]; omega
    have hmt : nums .i64 (alos m n (revV m) (i + 1)) = nums .i64 (alos m n (revV m) i) ++ [.int .i64 (alo m n (revV m) i)] := by rw [hsn, nums_app]; rfl
    have k0 : (0 : Int) ≤ (k : Int) := by omega
    have k1 : (k : Int) < (s.length : Int) := by omega
    have e1 : (i + 1) * 8 ≤ 140737488355328 := by omega
    have e2 : i + 1 ≤ 140737488355328 := by omega
    have e3 : s.length * 8 ≤ 140737488355328 := by omega
    have e4 : s.length ≤ 140737488355328 := by omega
    have hst : k * 1 + 1 ≤ (ix s (i : Int)).1.length := by rw [hix]; omega
    generalize ((revV m ((i / n / m) * n + i % n) (i / n % m) : Nat) : Int) = x at *
    generalize ((i / n % m : Nat) : Int) = y at *
    generalize alo m n (revV m) i = z at *
    generalize (ix s (i : Int)).1 = idx at *
    have hxl : ((idx.take k ++ x :: idx.drop (k + 1)).length : Int) = s.length := by rw [set_length (by omega), hix]
    have hcv : List.take (k * 1) (nums .i64 idx) ++ [.int .i64 x] ++ List.drop (k * 1 + 1) (nums .i64 idx) = nums .i64 (idx.take k ++ x :: idx.drop (k + 1)) := by simp [nums, List.map_take, List.map_drop]
    rw [ints, hix] at hsub
    simp only [ints] at h99
    rw [set_length (by omega), hix] at h99
    simp only [b41_0, plX, runes, ints, go_sem, fillAll, fillIn, shiftR, shiftV, List.take_succ_cons, List.take_zero, List.drop_succ_cons, List.drop_zero, List.append_nil, Nat.zero_add, subP4, subP4a, hlt', hi0, Int.toNat_natCast, hsub, e3, e4, k0, k1, hidk, hsk, w1, w2, hst, Nat.zero_add, List.flatten_cons, List.flatten_nil, Option.getD_some]
    rw [hcv]
    refine goR h99 rfl ?_
    simp only [go_sem, fillAll, fillIn, shiftR, shiftV, List.take_succ_cons, List.take_zero, List.drop_succ_cons, List.drop_zero, List.append_nil, Nat.zero_add, hi1, e1, e2, List.flatten_cons, List.flatten_nil, Option.getD_some]
    refine loopQ_go rfl (q * m * n - (i + 1)) (by omega) ⟨i + 1, by omega, rfl, ?_⟩
    rw [hmt]
    rfl
  · have hlt' : ¬ (i : Int) < ((allL s).length : Int) := by rw [hall]; omega
    obtain rfl : i = q * m * n := by omega
    rw [alos_len] at h53
    simp only [b41_0, k41_0, plX, runes, ints, go_sem, fillAll, fillIn, shiftR, shiftV, List.take_succ_cons, List.take_zero, List.drop_succ_cons, List.drop_zero, List.append_nil, Nat.zero_add, subP4, subP4a, hlt']
    refine goF h53 ?_
    simp only [go_sem, fillAll, fillIn, shiftR, shiftV, List.take_succ_cons, List.take_zero, List.drop_succ_cons, List.drop_zero, List.append_nil, Nat.zero_add, subP4]
    simp only [i41, Out, resAll, geto, ints, List.getElem?_cons_zero, List.getElem?_cons_succ, resOf, outOf, snap, snapL, ev, getE, List.mapM_cons, List.mapM_nil, Option.bind_some, Option.pure_def, Option.bind_eq_bind, Option.map_some, reduceIte, Nat.reduceEqDiff, true_and, and_true, subP4]
end
theorem subOne {a : AV} : sub false 1 [a] 0 = some a := rfl
theorem tm_cases {x m : Int} (hm : 0 < m) : ((0 ≤ Int.tmod x m ∧ Int.tmod x m = x % m) ∨ (Int.tmod x m < 0 ∧ Int.tmod x m + m = x % m)) ∧ -m < Int.tmod x m ∧ Int.tmod x m < m := by
  have r1 := Int.emod_nonneg x (show m ≠ 0 by omega)
  have r2 := Int.emod_lt_of_pos x hm
  have h := Int.tmod_eq_emod (a := x) (b := m)
  rw [h]
  split
  · generalize x % m = r at *
    exact ⟨.inl ⟨by omega, by omega⟩, by omega, by omega⟩
  · rename_i hn
    have hz : x % m ≠ 0 := fun h => hn (.inr (Int.dvd_of_emod_eq_zero h))
    generalize x % m = r at *
    exact ⟨.inr ⟨by omega, by omega⟩, by omega, by omega⟩
theorem rot_mod {x m i : Int} (hm : 0 < m) (hi : 0 ≤ i ∧ i < m) : Int.tmod (Int.tmod (i + Int.tmod x m) m + m) m = (i + x) % m := by
  obtain ⟨_, b1, b2⟩ := tm_cases (x := x) hm
  obtain ⟨_, c1, c2⟩ := tm_cases (x := i + Int.tmod x m) hm
  have h1 := Int.tmod_add_mul_tdiv x m
  have h2 := Int.tmod_add_mul_tdiv (i + Int.tmod x m) m
  rw [Int.tmod_eq_emod_of_nonneg (by omega)]
  generalize Int.tmod (i + Int.tmod x m) m = t at *
  generalize Int.tdiv (i + Int.tmod x m) m = B at *
  generalize Int.tmod x m = r at *
  generalize Int.tdiv x m = A at *
  have h3 : t + m = (i + x) + m * (1 - A - B) := by
    rw [Int.mul_sub, Int.mul_sub, Int.mul_one]; omega
  rw [h3, Int.add_mul_emod_self_left]
theorem c105_ok {x : Int} {m : Nat} (hx : In64 x) (hm : 0 < m) (hm4 : m ≤ 4096) : Go.V.Call tab E 105 [.int .i64 x, .int .i64 m] [] (.int .i64 (x % m)) [] := by
  refine Go.V.Call.mach i105 c105 rfl rfl rfl rfl ?_
  obtain ⟨h1, h2⟩ := hx
  obtain ⟨hc, b1, b2⟩ := tm_cases (x := x) (show (0 : Int) < m by omega)
  have hne : ¬ (m : Int) = 0 := by omega
  generalize hre : Int.tmod x m = r at *
  have w1 : IntKind.i64.wrap r = r := wrap_i64 (by omega) (by omega)
  have w2 : IntKind.i64.wrap (r + m) = r + m := wrap_i64 (by omega) (by omega)
  rcases hc with ⟨c1, c2⟩ | ⟨c1, c2⟩
  · have c1' : ¬ r < 0 := by omega
    simp only [c105, go_sem, hne, hre, w1, w2, c1']
    simp only [i105, Out, resAll, geto, ints, List.getElem?_cons_zero, List.getElem?_cons_succ, resOf, outOf, snap, snapL, ev, getE, List.mapM_cons, List.mapM_nil, Option.bind_some, Option.pure_def, Option.bind_eq_bind, Option.map_some, reduceIte, Nat.reduceEqDiff, true_and, and_true, c2]
  · simp only [c105, go_sem, hne, hre, w1, w2, c1]
    simp only [i105, Out, resAll, geto, ints, List.getElem?_cons_zero, List.getElem?_cons_succ, resOf, outOf, snap, snapL, ev, getE, List.mapM_cons, List.mapM_nil, Option.bind_some, Option.pure_def, Option.bind_eq_bind, Option.map_some, reduceIte, Nat.reduceEqDiff, true_and, and_true, c2]
def rotV (w : List Int) (one : Bool) (m : Nat) (a i : Nat) : Nat := (((i : Int) + w.getD (if one then 0 else a) 0) % (m : Int)).toNat
theorem rotV_lt {w : List Int} {one : Bool} {m a i : Nat} (hm : 0 < m) : rotV w one m a i < m ∧ ((rotV w one m a i : Nat) : Int) = ((i : Int) + w.getD (if one then 0 else a) 0) % (m : Int) := by
  have r1 := Int.emod_nonneg ((i : Int) + w.getD (if one then 0 else a) 0) (show (m : Int) ≠ 0 by omega)
  have r2 := Int.emod_lt_of_pos ((i : Int) + w.getD (if one then 0 else a) 0) (show 0 < (m : Int) by omega)
  rw [rotV]
  omega
theorem c102_ok {w : List Int} {one : Bool} {a i m : Nat} (hw : ∀ d ∈ w, In64 d) (ha : (if one then 0 else a) < w.length) (hi : i < m) (hm4 : m ≤ 4096) :
    Go.V.Call tab E 102 [.int .i64 a, .int .i64 i, .int .i64 m, .ptr [.bool one] 0, .ptr [ints w] 0] [] (.int .i64 (rotV w one m a i)) [] := by
  refine Go.V.Call.mach i102 c102 rfl rfl rfl rfl ?_
  have hmp : (0 : Int) < m := by omega
  have hr := (rotV_lt (w := w) (one := one) (m := m) (a := a) (i := i) (by omega)).2
  have hd := hw (w.getD (if one then 0 else a) 0) (by simp [List.getD, ha])
  have hsub := sub_nums (k := .i64) ha
  have hro := rot_mod (x := w.getD (if one then 0 else a) 0) (i := i) hmp ⟨by omega, by omega⟩
  obtain ⟨_, b1, b2⟩ := tm_cases (x := w.getD (if one then 0 else a) 0) hmp
  obtain ⟨_, d1, d2⟩ := tm_cases (x := (i : Int) + Int.tmod (w.getD (if one then 0 else a) 0) m) hmp
  rw [← hr] at hro
  obtain ⟨_, f1, f2⟩ := tm_cases (x := Int.tmod ((i : Int) + Int.tmod (w.getD (if one then 0 else a) 0) m) m + m) hmp
  have hne : ¬ (m : Int) = 0 := by omega
  have k0 : (0 : Int) ≤ (a : Int) := by omega
  cases one with
  | true =>
    simp only [if_true] at ha hsub hro b1 b2 d1 d2 f1 f2
    have ha' : (0 : Int) < (w.length : Int) := by omega
    have hsub0 : sub false 1 (nums .i64 w) ((0 : Int).toNat * 1) = some (.int .i64 (w.getD 0 0)) := hsub
    have hsub0' : sub false 1 (nums .i64 w) (0 * 1) = some (.int .i64 (w.getD 0 0)) := hsub
    generalize w.getD 0 0 = x at *
    generalize hxe : Int.tmod x m = x1 at *
    generalize hye : Int.tmod ((i : Int) + x1) m = y1 at *
    generalize hze : Int.tmod (y1 + m) m = z1 at *
    have w1 : IntKind.i64.wrap x1 = x1 := wrap_i64 (by omega) (by omega)
    have w2 : IntKind.i64.wrap ((i : Int) + x1) = (i : Int) + x1 := wrap_i64 (by omega) (by omega)
    have w3 : IntKind.i64.wrap y1 = y1 := wrap_i64 (by omega) (by omega)
    have w4 : IntKind.i64.wrap (y1 + m) = y1 + m := wrap_i64 (by omega) (by omega)
    have w5 : IntKind.i64.wrap z1 = z1 := wrap_i64 (by omega) (by omega)
    simp only [c102, ints, go_sem, subOne, hne, ha', Int.le_refl, hsub0, hsub0', Nat.zero_mul, hsub, hxe, hye, hze, w1, w2, w3, w4, w5, Int.toNat_zero]
    simp only [i102, Out, resAll, geto, ints, List.getElem?_cons_zero, List.getElem?_cons_succ, resOf, outOf, snap, snapL, ev, getE, List.mapM_cons, List.mapM_nil, Option.bind_some, Option.pure_def, Option.bind_eq_bind, Option.map_some, reduceIte, Nat.reduceEqDiff, true_and, and_true, hro]
  | false =>
    simp only [Bool.false_eq_true, if_false] at ha hsub hro b1 b2 d1 d2 f1 f2
    have ha' : (a : Int) < (w.length : Int) := by omega
    generalize w.getD a 0 = x at *
    generalize hxe : Int.tmod x m = x1 at *
    generalize hye : Int.tmod ((i : Int) + x1) m = y1 at *
    generalize hze : Int.tmod (y1 + m) m = z1 at *
    have w1 : IntKind.i64.wrap x1 = x1 := wrap_i64 (by omega) (by omega)
    have w2 : IntKind.i64.wrap ((i : Int) + x1) = (i : Int) + x1 := wrap_i64 (by omega) (by omega)
    have w3 : IntKind.i64.wrap y1 = y1 := wrap_i64 (by omega) (by omega)
    have w4 : IntKind.i64.wrap (y1 + m) = y1 + m := wrap_i64 (by omega) (by omega)
    have w5 : IntKind.i64.wrap z1 = z1 := wrap_i64 (by omega) (by omega)
    simp only [c102, ints, go_sem, subOne, hne, ha', k0, hsub, hxe, hye, hze, w1, w2, w3, w4, w5, Int.toNat_natCast]
    simp only [i102, Out, resAll, geto, ints, List.getElem?_cons_zero, List.getElem?_cons_succ, resOf, outOf, snap, snapL, ev, getE, List.mapM_cons, List.mapM_nil, Option.bind_some, Option.pure_def, Option.bind_eq_bind, Option.map_some, reduceIte, Nat.reduceEqDiff, true_and, and_true, hro]
section
variable {sb tb s t : List Int} {cb ch ok : Bool} {Lb L : List Rt} {a : Int}
theorem c42_dom (htb : (tb.length : Int) ≤ 1000000000) (hlb : (Lb.length : Int) ≤ 1000000000) (hno : ¬ (¬ (cb = true ∧ 0 < tb.length + Lb.length) ∧ WhO Lb)) :
    Go.V.Call tab E 42 [.agg (arrX sb cb tb Lb), .agg (arrX s ch t L), .int .i64 a] [] (.tup [.agg noA, .int .i64 22]) [] := by
  refine Go.V.Call.mach i42 c42 rfl rfl rfl rfl ?_
  have h100 := c100_X (s := sb) (t := tb) (l := Lb) (ch := cb) (ok := false) (by omega) (by omega) ⟨fun h => (by cases h), fun h => absurd h hno⟩
  simp only [arrX, runes, ints, rowI] at h100
  simp only [c42, arrX, runes, ints, go_sem, fillAll, fillIn, shiftR, shiftV, List.take_succ_cons, List.take_zero, List.drop_succ_cons, List.drop_zero, List.append_nil, Nat.zero_add, subA5]
  refine goO h100 rfl rfl ?_
  simp only [go_sem, fillAll, fillIn, shiftR, shiftV, List.take_succ_cons, List.take_zero, List.drop_succ_cons, List.drop_zero, List.append_nil, Nat.zero_add, subA5]
  simp only [i42, Out, resAll, geto, ints, List.getElem?_cons_zero, List.getElem?_cons_succ, resOf, outOf, snap, snapL, ev, getE, List.mapM_cons, List.mapM_nil, Option.bind_some, Option.pure_def, Option.bind_eq_bind, Option.map_some, reduceIte, Nat.reduceEqDiff, true_and, and_true, subA5, noA]
theorem c42_none {w : List Int} (htb : (tb.length : Int) ≤ 1000000000) (hlb : (Lb.length : Int) ≤ 1000000000) (hok : ¬ (cb = true ∧ 0 < tb.length + Lb.length) ∧ WhO Lb) (hw : Lb.map rv = w) (hsl : (s.length : Int) ≤ 1000000000) (h : s.length = 0 ∧ a < 0) :
    Go.V.Call tab E 42 [.agg (arrX sb cb tb Lb), .agg (arrX s ch t L), .int .i64 a] [] (if tb.length + Lb.length = 1 then .tup [.agg (arrX s ch t L), .int .i64 0] else .tup [.agg noA, .int .i64 23]) [] := by
  refine Go.V.Call.mach i42 c42 rfl rfl rfl rfl ?_
  have h100 := c100_X (s := sb) (t := tb) (l := Lb) (ch := cb) (ok := true) (by omega) (by omega) ⟨fun _ => hok, fun _ => rfl⟩
  rw [if_pos rfl, hw] at h100
  have h56 := c56_X (s := s) (t := t) (l := L) (ch := ch) (by omega)
  have h55 := c55_X (s := sb) (t := tb) (l := Lb) (ch := cb) (by omega) (by omega)
  obtain ⟨h1, h2⟩ := h
  have hq : ((s.length : Int) == 0) = true := by rw [h1]; rfl
  simp only [arrX, runes, ints, rowI] at h100 h56 h55
  simp only [c42, arrX, runes, ints, go_sem, fillAll, fillIn, shiftR, shiftV, List.take_succ_cons, List.take_zero, List.drop_succ_cons, List.drop_zero, List.append_nil, Nat.zero_add, subA5]
  refine goO h100 rfl rfl ?_
  simp only [go_sem, fillAll, fillIn, shiftR, shiftV, List.take_succ_cons, List.take_zero, List.drop_succ_cons, List.drop_zero, List.append_nil, Nat.zero_add, subA5]
  refine goP h56 ?_
  simp only [go_sem, fillAll, fillIn, shiftR, shiftV, List.take_succ_cons, List.take_zero, List.drop_succ_cons, List.drop_zero, List.append_nil, Nat.zero_add, subA5, hq, h2]
  refine goP h55 ?_
  by_cases hl1 : tb.length + Lb.length = 1
  · have hb : (((tb.length + Lb.length : Nat) : Int) != 1) = false := by rw [hl1]; rfl
    simp only [go_sem, fillAll, fillIn, shiftR, shiftV, List.take_succ_cons, List.take_zero, List.drop_succ_cons, List.drop_zero, List.append_nil, Nat.zero_add, subA5, hb]
    simp only [i42, Out, resAll, geto, ints, List.getElem?_cons_zero, List.getElem?_cons_succ, resOf, outOf, snap, snapL, ev, getE, List.mapM_cons, List.mapM_nil, Option.bind_some, Option.pure_def, Option.bind_eq_bind, Option.map_some, reduceIte, Nat.reduceEqDiff, true_and, and_true, subA5, hl1, if_true, arrX, runes, ints]
  · have hb : (((tb.length + Lb.length : Nat) : Int) != 1) = true := by rw [bne_iff_ne]; omega
    simp only [go_sem, fillAll, fillIn, shiftR, shiftV, List.take_succ_cons, List.take_zero, List.drop_succ_cons, List.drop_zero, List.append_nil, Nat.zero_add, subA5, hb]
    simp only [i42, Out, resAll, geto, ints, List.getElem?_cons_zero, List.getElem?_cons_succ, resOf, outOf, snap, snapL, ev, getE, List.mapM_cons, List.mapM_nil, Option.bind_some, Option.pure_def, Option.bind_eq_bind, Option.map_some, reduceIte, Nat.reduceEqDiff, true_and, and_true, subA5, hl1, if_false, noA]
theorem c42_axis {w : List Int} (htb : (tb.length : Int) ≤ 1000000000) (hlb : (Lb.length : Int) ≤ 1000000000) (hok : ¬ (cb = true ∧ 0 < tb.length + Lb.length) ∧ WhO Lb) (hw : Lb.map rv = w) (hsl : (s.length : Int) ≤ 1000000000) (h : ¬ (s.length = 0 ∧ a < 0)) (hb : axB s a = false) :
    Go.V.Call tab E 42 [.agg (arrX sb cb tb Lb), .agg (arrX s ch t L), .int .i64 a] [] (.tup [.agg noA, .int .i64 23]) [] := by
  refine Go.V.Call.mach i42 c42 rfl rfl rfl rfl ?_
  have h100 := c100_X (s := sb) (t := tb) (l := Lb) (ch := cb) (ok := true) (by omega) (by omega) ⟨fun _ => hok, fun _ => rfl⟩
  rw [if_pos rfl, hw] at h100
  have h56 := c56_X (s := s) (t := t) (l := L) (ch := ch) (by omega)
  have h27 := c27_ok (s := s) (t := t) (ch := ch) (L := L) (a := a) hsl
  rw [hb] at h27
  have hq : ((s.length : Int) == 0) = decide (s.length = 0) := by
    by_cases h1 : s.length = 0
    · rw [h1]; rfl
    · rw [decide_eq_false h1]; exact beq_eq_false_iff_ne.2 (by omega)
  simp only [arrX, runes, ints, rowI] at h100 h56 h27
  simp only [c42, arrX, runes, ints, go_sem, fillAll, fillIn, shiftR, shiftV, List.take_succ_cons, List.take_zero, List.drop_succ_cons, List.drop_zero, List.append_nil, Nat.zero_add, subA5]
  refine goO h100 rfl rfl ?_
  simp only [go_sem, fillAll, fillIn, shiftR, shiftV, List.take_succ_cons, List.take_zero, List.drop_succ_cons, List.drop_zero, List.append_nil, Nat.zero_add, subA5]
  refine goP h56 ?_
  by_cases h1 : s.length = 0
  · have h2 : ¬ a < 0 := fun h2 => h ⟨h1, h2⟩
    simp only [go_sem, fillAll, fillIn, shiftR, shiftV, List.take_succ_cons, List.take_zero, List.drop_succ_cons, List.drop_zero, List.append_nil, Nat.zero_add, subA5, hq, h1, h2, decide_true]
    simp only [h1] at h27
    refine goP h27 ?_
    simp only [go_sem, fillAll, fillIn, shiftR, shiftV, List.take_succ_cons, List.take_zero, List.drop_succ_cons, List.drop_zero, List.append_nil, Nat.zero_add, subA5]
    simp only [i42, Out, resAll, geto, ints, List.getElem?_cons_zero, List.getElem?_cons_succ, resOf, outOf, snap, snapL, ev, getE, List.mapM_cons, List.mapM_nil, Option.bind_some, Option.pure_def, Option.bind_eq_bind, Option.map_some, reduceIte, Nat.reduceEqDiff, true_and, and_true, subA5, noA]
  · simp only [go_sem, fillAll, fillIn, shiftR, shiftV, List.take_succ_cons, List.take_zero, List.drop_succ_cons, List.drop_zero, List.append_nil, Nat.zero_add, subA5, hq, h1, decide_false]
    refine goP h27 ?_
    simp only [go_sem, fillAll, fillIn, shiftR, shiftV, List.take_succ_cons, List.take_zero, List.drop_succ_cons, List.drop_zero, List.append_nil, Nat.zero_add, subA5]
    simp only [i42, Out, resAll, geto, ints, List.getElem?_cons_zero, List.getElem?_cons_succ, resOf, outOf, snap, snapL, ev, getE, List.mapM_cons, List.mapM_nil, Option.bind_some, Option.pure_def, Option.bind_eq_bind, Option.map_some, reduceIte, Nat.reduceEqDiff, true_and, and_true, subA5, noA]
end
end Go.Proofs.YtlejgleocnemoaaGreat.I
