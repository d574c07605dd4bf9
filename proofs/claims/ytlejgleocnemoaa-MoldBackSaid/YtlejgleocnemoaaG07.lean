/- The texts L07n L06n L03c L06o L08a L08b L08d L07l L07m L07o L07p L08e L08f L08g L08h L08i L08j L08k L08p L08q, one behind the other. Conditions: each text's own. -/
import Derived.Test.YtlejgleocnemoaaG06
import Derived.Test.YtlejgleocnemoaaG04
import Derived.Test.YtlejgleocnemoaaG05
import Derived.WalkKit
set_option linter.unusedSimpArgs false
set_option linter.unusedVariables false
namespace Go.Proofs.Ytlejgleocnemoaa.I
open Go Go.V
attribute [local go_sem_proc ↓] reduceIte
attribute [local go_sem_proc] Nat.reduceEqDiff Nat.reduceAdd Nat.reduceMul Nat.reduceLeDiff Nat.reduceLT Int.reduceToNat Int.reduceLT Int.reduceLE reduceCtorEq Nat.reduceBEq
attribute [local go_sem] mNil nat0 beq_self_eq_true mSkip mRet mExit mReg mSeq mCond mTrue mFalse mBlock mLv mCodeE mCodeR mEndN mEndR mEndE mOps mSome mGuard mGtt mGff mGtf mGft mGu mCallP mCallR mCallF mCallO mCallZ mCallG mCallM mCallV loopQ_exit loopQ_ret mO_mov mO_newnil mO_pick mO_alloc mO_box mO_build mO_bsl mO_bslF mO_ldf mO_ld mO_st mO_sta mO_nilchk mO_bin mO_binb mO_binp mO_bins mO_neg mO_com mO_not mO_conv mO_mk mO_mk0 mO_s2b mO_b2s mO_cpy mO_cut mO_faddr mO_fld mO_iaddr mO_iaddrf mO_sidx mO_len mO_lenf mO_slen mO_scut mO_app mO_ext mO_mx mO_mn mO_mkfn evalOp cutOp argsE ev getE putE cellsOf adopt rowOf binV boolV nilV ar_add ar_sub ar_mul ar_quo ar_rem ar_eq ar_ne ar_lt ar_le ar_gt ar_ge ar_and ar_or ar_xor geto bound finRet finNrm ints List.length_cons List.length_nil List.length_append List.getElem?_cons_zero List.getElem?_cons_succ List.nil_append List.cons_append List.map_cons List.map_nil List.mapM_cons List.mapM_nil Option.map_some Option.map_none Option.bind_some Option.pure_def Option.bind_eq_bind List.drop_zero or_self or_false false_or or_true true_or true_and and_true and_self decide_true decide_false Bool.false_eq_true Bool.true_eq_false Bool.not_true Bool.not_false Nat.le_refl eq_self gt_iff_lt ge_iff_le ne_eq not_true_eq_false not_false_eq_true storeOp apartOf freeze_nil refsL refs List.flatMap_cons List.flatMap_nil List.append_nil List.contains_nil List.set_cons_zero List.set_cons_succ snap snapL fill_nums flat_nums nums_length Go.V.freeze List.mapIdx_cons List.mapIdx_nil List.contains_cons Bool.or_false Bool.false_or Bool.or_true Bool.true_or
section
variable {E : CallRel}
theorem c72_ok {s t : List Int} (hs : (s.length : Int) ≤ 1000000000000000) (ht : (t.length : Int) ≤ 1000000000000000) : Go.V.Call tab E 72 [ints s, ints t] [] (.bool (decide (s = t))) [] := by
  refine Go.V.Call.mach i72 c72 rfl rfl rfl rfl ?_
  by_cases hl : s.length = t.length
  · have hl' : (s.length : Int) = (t.length : Int) := by omega
    simp only [c72, go_sem, hl', bne_self_eq_false]
    refine mLoop (fun N st => ∃ (k : Nat), k ≤ s.length ∧ N = s.length - k ∧ s.take k = t.take k ∧
      st = ⟨[(0, ints s), (1, ints t), (12, .int .i64 t.length), (13, .int .i64 k)], []⟩) s.length ⟨_, rfl, 0, by omega, by omega, by simp, rfl⟩ ?_
    rintro N s0 ⟨k, hk, rfl, hp, rfl⟩
    by_cases hlt : k < s.length
    · have hlt' : (k : Int) < (t.length : Int) := by omega
      have hlt2 : k < t.length := by omega
      have hk0 : (0 : Int) ≤ (k : Int) := by omega
      have hk1 : IntKind.i64.wrap ((k : Int) + 1) = ((k + 1 : Nat) : Int) := by rw [wrap_i64 (by omega) (by omega)]; omega
      have hsub := sub_nums (k := .i64) hlt
      have hsub2 := sub_nums (k := .i64) hlt2
      by_cases he : s.getD k 0 = t.getD k 0
      · simp only [b72_0, go_sem, hl', hlt', hk0, Int.toNat_natCast, hsub, hsub2, he, bne_self_eq_false, hk1]
        refine loopQ_go (rfl) (s.length - (k + 1)) (by omega) ⟨k + 1, by omega, rfl, ?_, rfl⟩
        rw [List.take_add_one, List.take_add_one, hp]
        congr 1
        have h1 : s[k]? = some (s.getD k 0) := by simp [List.getD, hlt]
        have h2 : t[k]? = some (t.getD k 0) := by simp [List.getD, hlt2]
        rw [h1, h2, he]
      · have he' : (s.getD k 0 != t.getD k 0) = true := by simpa using he
        have hne : s ≠ t := fun h => he (by rw [h])
        simp only [b72_0, go_sem, hl', hlt', hk0, Int.toNat_natCast, hsub, hsub2, he']
        simp only [i72, Out, resAll, geto, ints, List.getElem?_cons_zero, List.getElem?_cons_succ, resOf, outOf, snap, snapL, ev, getE, List.mapM_cons, List.mapM_nil, Option.bind_some, Option.pure_def, Option.bind_eq_bind, Option.map_some, reduceIte, Nat.reduceEqDiff, true_and, and_true, hne, decide_false]
    · have hlt' : ¬ (k : Int) < (t.length : Int) := by omega
      have heq : s = t := by
        rw [List.take_of_length_le (by omega), List.take_of_length_le (by omega)] at hp
        exact hp
      simp only [b72_0, k72_0, go_sem, hl', hlt']
      simp only [i72, Out, resAll, geto, ints, List.getElem?_cons_zero, List.getElem?_cons_succ, resOf, outOf, snap, snapL, ev, getE, List.mapM_cons, List.mapM_nil, Option.bind_some, Option.pure_def, Option.bind_eq_bind, Option.map_some, reduceIte, Nat.reduceEqDiff, true_and, and_true, heq, decide_true]
  · have hl' : ((s.length : Int) != (t.length : Int)) = true := by simp; omega
    have hne : s ≠ t := fun h => hl (by rw [h])
    simp only [c72, go_sem, hl']
    simp only [i72, Out, resAll, geto, ints, List.getElem?_cons_zero, List.getElem?_cons_succ, resOf, outOf, snap, snapL, ev, getE, List.mapM_cons, List.mapM_nil, Option.bind_some, Option.pure_def, Option.bind_eq_bind, Option.map_some, reduceIte, Nat.reduceEqDiff, true_and, and_true, hne, decide_false]
theorem c67_ok {s t : List Int} (hs : (s.length : Int) ≤ 1000000000000000) (ht : (t.length : Int) ≤ 1000000000000000) : Go.V.Call tab E 67 [ints s, ints t] [] (.bool (decide (s = t))) [] := by
  refine Go.V.Call.mach i67 c67 rfl rfl rfl rfl ?_
  simp only [c67, go_sem, snap]
  refine goP (c72_ok hs ht) ?_
  simp only [go_sem]
  simp only [i67, Out, resAll, geto, ints, List.getElem?_cons_zero, List.getElem?_cons_succ, resOf, outOf, snap, snapL, ev, getE, List.mapM_cons, List.mapM_nil, Option.bind_some, Option.pure_def, Option.bind_eq_bind, Option.map_some, reduceIte, Nat.reduceEqDiff, true_and, and_true]
end
theorem nums_append {k : IntKind} {a b : List Int} : nums k (a ++ b) = nums k a ++ nums k b := by simp [nums]
def lensum (L : List (List Int)) : Nat := L.flatten.length
theorem lensum_snoc {L : List (List Int)} {p : List Int} : lensum (L ++ [p]) = lensum L + p.length := by simp [lensum]
theorem lensum_take {L : List (List Int)} {k : Nat} : lensum (L.take k) ≤ lensum L := by
  have : L = L.take k ++ L.drop k := (List.take_append_drop k L).symm
  conv => rhs; rw [this]
  simp only [lensum, List.flatten_append, List.length_append]
  omega
theorem take_snocL {L : List (List Int)} {m : Nat} (h : m < L.length) : L.take (m + 1) = L.take m ++ [L.getD m []] := by
  rw [List.take_add_one]
  congr 1
  simp [List.getD, h]
theorem c131_ok {n : Nat} (hn : (n : Int) ≤ 10000000000000) : Go.V.Call tab E 131 [.nilsl 3 1, .int .i64 n] [] (.arr 0 0) [⟨false, 3, 1, 0, 0, [], false⟩] := by
  refine ⟨0, ?_⟩
  have h1 : (0 : Int) ≤ (n : Int) ∧ (n : Int) * 8 ≤ 140737488355328 := by omega
  simp only [CallN, E, ext, growOf, h1, and_self, if_true]
theorem c101_ok {L : List (List Int)} (hL : (L.length : Int) ≤ 1000000000000) (hs : lensum L ≤ 1000000000000) : Go.V.Call tab E 101 [rows L] [] (ints L.flatten) [] := by
  refine Go.V.Call.mach i101 c101 rfl rfl rfl rfl ?_
  simp only [c101, rows, go_sem]
  refine mLoop (fun N st => ∃ (i : Nat), i ≤ L.length ∧ N = L.length - i ∧
    st = ⟨[(0, rows L), (3, .int .i64 (lensum (L.take i) : Nat)), (9, rows L), (10, .int .i64 L.length), (11, .int .i64 i)], [⟨false, 3, 1, 0, 0, [], false⟩]⟩) L.length ⟨_, rfl, 0, by omega, by omega, by simp [getE, rows, lensum]⟩ ?_
  rintro N s0 ⟨i, hi, rfl, rfl⟩
  by_cases hlt : i < L.length
  · have hlt' : (i : Int) < (L.length : Int) := by omega
    have hi0 : (0 : Int) ≤ (i : Int) := by omega
    have hi1 : IntKind.i64.wrap ((i : Int) + 1) = ((i + 1 : Nat) : Int) := by rw [wrap_i64 (by omega) (by omega)]; omega
    have hsub := sub_rows hlt
    have htk := take_snocL hlt
    have hle := lensum_take (L := L) (k := i + 1)
    have hsn : lensum (L.take (i + 1)) = lensum (L.take i) + (L.getD i []).length := by rw [htk, lensum_snoc]
    have hw : IntKind.i64.wrap ((lensum (L.take i) : Int) + ((L.getD i []).length : Int)) = (lensum (L.take (i + 1)) : Int) := by rw [wrap_i64 (by omega) (by omega)]; omega
    have hneg : ¬ (lensum (L.take (i + 1)) : Int) < 0 := by omega
    simp only [b101_0, rows, go_sem, hlt', hi0, Int.toNat_natCast, hsub, hw, hneg, hi1]
    exact loopQ_go rfl (L.length - (i + 1)) (by omega) ⟨i + 1, by omega, rfl, rfl⟩
  · have hlt' : ¬ (i : Int) < (L.length : Int) := by omega
    obtain rfl : i = L.length := by omega
    simp only [b101_0, k101_1, rows, go_sem, hlt', List.take_length]
    refine goG rfl (c131_ok (n := lensum L) (by omega)) rfl rfl ?_
    simp only [go_sem, fillAll, fillIn, shiftR, shiftV, List.take_succ_cons, List.take_zero, List.drop_succ_cons, List.drop_zero, List.append_nil, Nat.zero_add, shiftO]
    refine mLoop (fun N st => ∃ (j : Nat), j ≤ L.length ∧ N = L.length - j ∧
      st = ⟨[(6, .arr 1 j), (25, rows L), (26, .int .i64 L.length), (27, .int .i64 j)], [⟨false, 3, 1, 0, 0, [], false⟩, ⟨false, 3, 1, j, lensum (L.take j), nums .i64 (L.take j).flatten, false⟩]⟩) L.length ⟨_, rfl, 0, by omega, by omega, by simp [getE, rows, lensum, nums]⟩ ?_
    rintro N s0 ⟨j, hj, rfl, rfl⟩
    by_cases hjl : j < L.length
    · have hjl' : (j : Int) < (L.length : Int) := by omega
      have hj0 : (0 : Int) ≤ (j : Int) := by omega
      have hj1 : IntKind.i64.wrap ((j : Int) + 1) = ((j + 1 : Nat) : Int) := by rw [wrap_i64 (by omega) (by omega)]; omega
      have hsub := sub_rows hjl
      have htk := take_snocL hjl
      have hle := lensum_take (L := L) (k := j + 1)
      have hsn : lensum (L.take (j + 1)) = lensum (L.take j) + (L.getD j []).length := by rw [htk, lensum_snoc]
      have e1 : (lensum (L.take j) + (L.getD j []).length) * 8 ≤ 140737488355328 := by omega
      have e2 : lensum (L.take j) + (L.getD j []).length ≤ 140737488355328 := by omega
      simp only [b101_1, rows, go_sem, hjl', hj0, Int.toNat_natCast, hsub, e1, e2, hj1]
      refine loopQ_go rfl (L.length - (j + 1)) (by omega) ⟨j + 1, by omega, rfl, ?_⟩
      rw [hsn, htk, List.flatten_append, List.flatten_cons, List.flatten_nil, List.append_nil, nums_append]
      rfl
    · have hjl' : ¬ (j : Int) < (L.length : Int) := by omega
      obtain rfl : j = L.length := by omega
      simp only [b101_1, k101_0, rows, go_sem, hjl', List.take_length]
      simp only [i101, Out, resAll, geto, ints, List.getElem?_cons_zero, List.getElem?_cons_succ, resOf, outOf, snap, snapL, ev, getE, List.mapM_cons, List.mapM_nil, Option.bind_some, Option.pure_def, Option.bind_eq_bind, Option.map_some, reduceIte, Nat.reduceEqDiff, true_and, and_true]
      rfl
end Go.Proofs.Ytlejgleocnemoaa.I

namespace Go.Proofs.Ytlejgleocnemoaa.I
open Go Go.V
attribute [local go_sem] mNil nat0 beq_self_eq_true mSkip mRet mExit mReg mSeq mCond mTrue mFalse mBlock mLv mCodeE mCodeR mEndN mEndR mEndE mOps mSome mGuard mGtt mGff mGtf mGft mGu mCallP mCallR mCallF mCallO mCallZ mCallG mCallM mCallV loopQ_exit loopQ_ret mO_mov mO_newnil mO_pick mO_alloc mO_box mO_build mO_bsl mO_bslF mO_ldf mO_ld mO_st mO_sta mO_nilchk mO_bin mO_binb mO_binp mO_bins mO_neg mO_com mO_not mO_conv mO_mk mO_mk0 mO_s2b mO_b2s mO_cpy mO_cut mO_faddr mO_fld mO_iaddr mO_iaddrf mO_sidx mO_len mO_lenf mO_slen mO_scut mO_app mO_ext mO_mx mO_mn mO_mkfn evalOp cutOp argsE ev getE putE cellsOf adopt rowOf binV boolV nilV ar_add ar_sub ar_mul ar_quo ar_rem ar_eq ar_ne ar_lt ar_le ar_gt ar_ge ar_and ar_or ar_xor geto bound finRet finNrm ints List.length_cons List.length_nil List.length_append List.getElem?_cons_zero List.getElem?_cons_succ List.nil_append List.cons_append List.map_cons List.map_nil List.mapM_cons List.mapM_nil Option.map_some Option.map_none Option.bind_some Option.pure_def Option.bind_eq_bind List.drop_zero or_self or_false false_or or_true true_or true_and and_true and_self decide_true decide_false Bool.false_eq_true Bool.true_eq_false Bool.not_true Bool.not_false Nat.le_refl eq_self gt_iff_lt ge_iff_le ne_eq not_true_eq_false not_false_eq_true storeOp apartOf freeze_nil refsL refs List.flatMap_cons List.flatMap_nil List.append_nil List.contains_nil List.set_cons_zero List.set_cons_succ snap snapL fill_nums flat_nums nums_length Go.V.freeze List.mapIdx_cons List.mapIdx_nil List.contains_cons Bool.or_false Bool.false_or Bool.or_true Bool.true_or
def whC (n : Bool) (p : Nat) : List AV := [us32 (limG p), .bool n]
def wcmp (n : Bool) (p : Nat) (m : Bool) (q : Nat) : Int := if n = true ∧ m = false then -1 else if n = false ∧ m = true then 1 else if n = true then cmpZ q p else cmpZ p q
theorem subW0 {a b : AV} : sub true 1 [a, b] 0 = some (.agg [a]) := rfl
theorem subW1 {a b : AV} : sub false 1 [a, b] 1 = some b := rfl
section
variable {E : CallRel}
def rcmp (x y : Rt) : Int := wcmp ((x.1 != false) && decide (x.2.1 * dn y.2.2 ≠ 0)) (x.2.1 * dn y.2.2) ((y.1 != false) && decide (y.2.1 * dn x.2.2 ≠ 0)) (y.2.1 * dn x.2.2)
end
def RtRed (x : Rt) : Prop := RtOk x ∧ x.2.2 ≠ 0 ∧ Nat.gcd x.2.1 x.2.2 = 1 ∧ (x.1 = true → x.2.1 ≠ 0)
end Go.Proofs.Ytlejgleocnemoaa.I

namespace Go.Proofs.Ytlejgleocnemoaa.I
open Go Go.V
attribute [local go_sem_proc ↓] reduceIte
attribute [local go_sem_proc] Nat.reduceEqDiff Nat.reduceAdd Nat.reduceMul Nat.reduceLeDiff Nat.reduceLT Int.reduceToNat Int.reduceLT Int.reduceLE reduceCtorEq Nat.reduceBEq
attribute [local go_sem] mNil nat0 beq_self_eq_true mSkip mRet mExit mReg mSeq mCond mTrue mFalse mBlock mLv mCodeE mCodeR mEndN mEndR mEndE mOps mSome mGuard mGtt mGff mGtf mGft mGu mCallP mCallR mCallF mCallO mCallZ mCallG mCallM mCallV loopQ_exit loopQ_ret mO_mov mO_newnil mO_pick mO_alloc mO_box mO_build mO_bsl mO_bslF mO_ldf mO_ld mO_st mO_sta mO_nilchk mO_bin mO_binb mO_binp mO_bins mO_neg mO_com mO_not mO_conv mO_mk mO_mk0 mO_s2b mO_b2s mO_cpy mO_cut mO_faddr mO_fld mO_iaddr mO_iaddrf mO_sidx mO_len mO_lenf mO_slen mO_scut mO_app mO_ext mO_mx mO_mn mO_mkfn evalOp cutOp argsE ev getE putE cellsOf adopt rowOf binV boolV nilV ar_add ar_sub ar_mul ar_quo ar_rem ar_eq ar_ne ar_lt ar_le ar_gt ar_ge ar_and ar_or ar_xor geto bound finRet finNrm ints List.length_cons List.length_nil List.length_append List.getElem?_cons_zero List.getElem?_cons_succ List.nil_append List.cons_append List.map_cons List.map_nil List.mapM_cons List.mapM_nil Option.map_some Option.map_none Option.bind_some Option.pure_def Option.bind_eq_bind List.drop_zero or_self or_false false_or or_true true_or true_and and_true and_self decide_true decide_false Bool.false_eq_true Bool.true_eq_false Bool.not_true Bool.not_false Nat.le_refl eq_self gt_iff_lt ge_iff_le ne_eq not_true_eq_false not_false_eq_true storeOp apartOf freeze_nil refsL refs List.flatMap_cons List.flatMap_nil List.append_nil List.contains_nil List.set_cons_zero List.set_cons_succ snap snapL fill_nums flat_nums nums_length Go.V.freeze List.mapIdx_cons List.mapIdx_nil List.contains_cons Bool.or_false Bool.false_or Bool.or_true Bool.true_or
theorem subT2 {a b c : AV} : sub true 2 [a, b, c] 0 = some (.agg [a, b]) := rfl
def wint (n : Bool) (p : Nat) : Option Int := if n = true then (if p ≤ 9223372036854775808 then some (-(p : Int)) else none) else if p < 9223372036854775808 then some (p : Int) else none
def rint (x : Rt) : Option Int := if dn x.2.2 = 1 then wint x.1 x.2.1 else none
section
variable {E : CallRel}
theorem c156_ok {n : Nat} : Go.V.Call tab E 156 [natC n] [] (.bool (decide (n = 1))) [] := by
  refine Go.V.Call.mach i156 c156 rfl rfl rfl rfl ?_
  by_cases h0 : n = 0
  · subst h0
    simp only [c156, natC, us32, limG_zero, nums, go_sem, sub, fillAll, fillIn, shiftR, shiftV, List.take_succ_cons, List.take_zero, List.drop_succ_cons, List.drop_zero, List.append_nil, Nat.zero_add, show (((0 : Nat) : Int) == 1) = false from rfl, show ((0 : Int) == 1) = false from rfl]
    simp only [i156, Out, resAll, geto, ints, List.getElem?_cons_zero, List.getElem?_cons_succ, resOf, outOf, snap, snapL, ev, getE, List.mapM_cons, List.mapM_nil, Option.bind_some, Option.pure_def, Option.bind_eq_bind, Option.map_some, reduceIte, Nat.reduceEqDiff, true_and, and_true, show decide ((0 : Nat) = 1) = false from rfl]
  · by_cases h1 : n < 4294967296
    · have hl : limG n = [(n : Int)] := by rw [limG_pos h0, show n / 4294967296 = 0 by omega, limG_zero, Nat.mod_eq_of_lt h1]
      have hb : ((n : Int) == 1) = decide (n = 1) := by
        by_cases h : n = 1
        · subst h; rfl
        · rw [decide_eq_false h, beq_eq_false_iff_ne]; omega
      have e0 : ((1 : Int) == 1) = true := rfl
      simp only [c156, natC, us32, hl, nums, go_sem, sub, fillAll, fillIn, shiftR, shiftV, List.take_succ_cons, List.take_zero, List.drop_succ_cons, List.drop_zero, List.append_nil, Nat.zero_add, e0, hb, show (0 : Int) < ((1 : Nat) : Int) from by decide, show (((1 : Nat) : Int) == 1) = true from rfl, show ((0 : Nat) + 1) = 1 from rfl, List.length_singleton]
      simp only [i156, Out, resAll, geto, ints, List.getElem?_cons_zero, List.getElem?_cons_succ, resOf, outOf, snap, snapL, ev, getE, List.mapM_cons, List.mapM_nil, Option.bind_some, Option.pure_def, Option.bind_eq_bind, Option.map_some, reduceIte, Nat.reduceEqDiff, true_and, and_true]
    · have hne : limG n ≠ [] := fun h => h0 (limG_len0 (by rw [h]; rfl))
      have hl : (((limG n).length : Int) == 1) = false := by
        rw [limG_pos h0, List.length_cons, beq_eq_false_iff_ne]
        intro h
        have : limG (n / 4294967296) = [] := List.length_eq_zero_iff.1 (by omega)
        have := limG_len0 (n := n / 4294967296) (by rw [this]; rfl)
        omega
      simp only [c156, natC, us32, go_sem, sub, fillAll, fillIn, shiftR, shiftV, List.take_succ_cons, List.take_zero, List.drop_succ_cons, List.drop_zero, List.append_nil, Nat.zero_add, hl]
      simp only [i156, Out, resAll, geto, ints, List.getElem?_cons_zero, List.getElem?_cons_succ, resOf, outOf, snap, snapL, ev, getE, List.mapM_cons, List.mapM_nil, Option.bind_some, Option.pure_def, Option.bind_eq_bind, Option.map_some, reduceIte, Nat.reduceEqDiff, true_and, and_true, show decide (n = 1) = false from decide_eq_false (by omega)]
theorem c147_gen {n : Bool} {p q : Nat} : Go.V.Call tab E 147 [.agg (ratG n p q)] [] (.bool (decide (dn q = 1))) [] := by
  refine Go.V.Call.mach i147 c147 rfl rfl rfl rfl ?_
  have h100 := c79_gen (E := E) (n := n) (p := p) (q := q)
  have h130 := c156_ok (E := E) (n := dn q)
  simp only [natC, ratG, us32] at h100 h130
  simp only [c147, ratG, us32, go_sem, subT3, fillAll, fillIn, shiftR, shiftV, List.take_succ_cons, List.take_zero, List.drop_succ_cons, List.drop_zero, List.append_nil, Nat.zero_add]
  refine goP h100 ?_
  simp only [go_sem]
  refine goP h130 ?_
  simp only [go_sem]
  simp only [i147, Out, resAll, geto, ints, List.getElem?_cons_zero, List.getElem?_cons_succ, resOf, outOf, snap, snapL, ev, getE, List.mapM_cons, List.mapM_nil, Option.bind_some, Option.pure_def, Option.bind_eq_bind, Option.map_some, reduceIte, Nat.reduceEqDiff, true_and, and_true]
theorem c148_gen {n : Bool} {p : Nat} : Go.V.Call tab E 148 [.agg (whC n p)] [] (optP (wint n p)) [] := by
  refine Go.V.Call.mach i148 c148 rfl rfl rfl rfl ?_
  by_cases hp : p < 18446744073709551616
  · have h131 := c152_nat (E := E) hp
    simp only [natC, us32] at h131
    simp only [c148, whC, us32, go_sem, subW0, fillAll, fillIn, shiftR, shiftV, List.take_succ_cons, List.take_zero, List.drop_succ_cons, List.drop_zero, List.append_nil, Nat.zero_add]
    refine goP h131 ?_
    by_cases h1 : 9223372036854775808 < p
    · have h1' : (9223372036854775808 : Int) < (p : Int) := by omega
      have hw : wint n p = none := by unfold wint; split <;> rw [if_neg (by omega)]
      simp only [go_sem, h1']
      simp only [i148, Out, resAll, geto, ints, List.getElem?_cons_zero, List.getElem?_cons_succ, resOf, outOf, snap, snapL, ev, getE, List.mapM_cons, List.mapM_nil, Option.bind_some, Option.pure_def, Option.bind_eq_bind, Option.map_some, reduceIte, Nat.reduceEqDiff, true_and, and_true, hw, optP]
    · have h1' : ¬ (9223372036854775808 : Int) < (p : Int) := by omega
      cases n with
      | true =>
        have hw : wint true p = some (-(p : Int)) := by unfold wint; rw [if_pos rfl, if_pos (by omega)]
        have e : ((p : Int) == 9223372036854775808) = true ∨ ((p : Int) == 9223372036854775808) = false := by cases h : ((p : Int) == 9223372036854775808) <;> simp
        by_cases h0 : p = 0
        · subst h0
          have e1 : IntKind.u64.wrap (0 - 1) = 18446744073709551615 := by decide
          have e2 : IntKind.i64.wrap 18446744073709551615 = -1 := by decide
          have e3 : IntKind.i64.wrap (0 - (-1)) = 1 := by decide
          have e4 : IntKind.i64.wrap (1 - 1) = 0 := by decide
          have e5 : ((0 : Int) == 9223372036854775808) = false := rfl
          have e6 : ((0 : Nat) : Int) = 0 := rfl
          simp only [go_sem, subW1, h1', e1, e2, e3, e4, e5, e6]
          simp only [i148, Out, resAll, geto, ints, List.getElem?_cons_zero, List.getElem?_cons_succ, resOf, outOf, snap, snapL, ev, getE, List.mapM_cons, List.mapM_nil, Option.bind_some, Option.pure_def, Option.bind_eq_bind, Option.map_some, reduceIte, Nat.reduceEqDiff, true_and, and_true, hw, optP]
          rfl
        · have e1 : IntKind.u64.wrap ((p : Int) - 1) = (p : Int) - 1 := wrap_u64 (by omega) (by omega)
          have e2 : IntKind.i64.wrap ((p : Int) - 1) = (p : Int) - 1 := wrap_i64 (by omega) (by omega)
          have e3 : IntKind.i64.wrap (0 - ((p : Int) - 1)) = 1 - (p : Int) := by rw [wrap_i64 (by omega) (by omega)]; omega
          have e4 : IntKind.i64.wrap (1 - (p : Int) - 1) = -(p : Int) := by rw [wrap_i64 (by omega) (by omega)]; omega
          rcases e with e | e
          · simp only [go_sem, subW1, h1', e, e1, e2, e3, e4]
            simp only [i148, Out, resAll, geto, ints, List.getElem?_cons_zero, List.getElem?_cons_succ, resOf, outOf, snap, snapL, ev, getE, List.mapM_cons, List.mapM_nil, Option.bind_some, Option.pure_def, Option.bind_eq_bind, Option.map_some, reduceIte, Nat.reduceEqDiff, true_and, and_true, hw, optP]
          · simp only [go_sem, subW1, h1', e, e1, e2, e3, e4]
            simp only [i148, Out, resAll, geto, ints, List.getElem?_cons_zero, List.getElem?_cons_succ, resOf, outOf, snap, snapL, ev, getE, List.mapM_cons, List.mapM_nil, Option.bind_some, Option.pure_def, Option.bind_eq_bind, Option.map_some, reduceIte, Nat.reduceEqDiff, true_and, and_true, hw, optP]
      | false =>
        by_cases h2 : p = 9223372036854775808
        · subst h2
          have e : (((9223372036854775808 : Nat) : Int) == 9223372036854775808) = true := rfl
          have hw : wint false 9223372036854775808 = none := rfl
          simp only [go_sem, subW1, h1', e]
          simp only [i148, Out, resAll, geto, ints, List.getElem?_cons_zero, List.getElem?_cons_succ, resOf, outOf, snap, snapL, ev, getE, List.mapM_cons, List.mapM_nil, Option.bind_some, Option.pure_def, Option.bind_eq_bind, Option.map_some, reduceIte, Nat.reduceEqDiff, true_and, and_true, hw, optP]
        · have e : ((p : Int) == 9223372036854775808) = false := by rw [beq_eq_false_iff_ne]; omega
          have hw : wint false p = some (p : Int) := by unfold wint; rw [if_neg (by simp), if_pos (by omega)]
          have e1 : IntKind.i64.wrap (p : Int) = (p : Int) := wrap_i64 (by omega) (by omega)
          simp only [go_sem, subW1, h1', e, e1]
          simp only [i148, Out, resAll, geto, ints, List.getElem?_cons_zero, List.getElem?_cons_succ, resOf, outOf, snap, snapL, ev, getE, List.mapM_cons, List.mapM_nil, Option.bind_some, Option.pure_def, Option.bind_eq_bind, Option.map_some, reduceIte, Nat.reduceEqDiff, true_and, and_true, hw, optP]
  · have h131 := c152_big (E := E) (n := p) (by omega)
    have hw : wint n p = none := by unfold wint; split <;> rw [if_neg (by omega)]
    simp only [natC, us32] at h131
    simp only [c148, whC, us32, go_sem, subW0, fillAll, fillIn, shiftR, shiftV, List.take_succ_cons, List.take_zero, List.drop_succ_cons, List.drop_zero, List.append_nil, Nat.zero_add]
    refine goP h131 ?_
    simp only [go_sem]
    simp only [i148, Out, resAll, geto, ints, List.getElem?_cons_zero, List.getElem?_cons_succ, resOf, outOf, snap, snapL, ev, getE, List.mapM_cons, List.mapM_nil, Option.bind_some, Option.pure_def, Option.bind_eq_bind, Option.map_some, reduceIte, Nat.reduceEqDiff, true_and, and_true, hw, optP]
theorem c128_gen {x : Rt} : Go.V.Call tab E 128 [.agg (rtC x)] [] (optP (rint x)) [] := by
  obtain ⟨n, p, q⟩ := x
  refine Go.V.Call.mach i128 c128 rfl rfl rfl rfl ?_
  have h112 := c147_gen (E := E) (n := n) (p := p) (q := q)
  have h113 := c148_gen (E := E) (n := n) (p := p)
  simp only [ratG, whC, us32] at h112 h113
  by_cases h : dn q = 1
  · rw [decide_eq_true h] at h112
    simp only [c128, rtC, ratG, us32, go_sem, subT3, fillAll, fillIn, shiftR, shiftV, List.take_succ_cons, List.take_zero, List.drop_succ_cons, List.drop_zero, List.append_nil, Nat.zero_add]
    refine goP h112 ?_
    simp only [go_sem, subT2]
    refine goP h113 ?_
    cases hw : wint n p with
    | none =>
      simp only [optP, go_sem]
      simp only [i128, Out, resAll, geto, ints, List.getElem?_cons_zero, List.getElem?_cons_succ, resOf, outOf, snap, snapL, ev, getE, List.mapM_cons, List.mapM_nil, Option.bind_some, Option.pure_def, Option.bind_eq_bind, Option.map_some, reduceIte, Nat.reduceEqDiff, true_and, and_true, rint, h, hw, optP, if_true]
    | some z =>
      simp only [optP, go_sem]
      simp only [i128, Out, resAll, geto, ints, List.getElem?_cons_zero, List.getElem?_cons_succ, resOf, outOf, snap, snapL, ev, getE, List.mapM_cons, List.mapM_nil, Option.bind_some, Option.pure_def, Option.bind_eq_bind, Option.map_some, reduceIte, Nat.reduceEqDiff, true_and, and_true, rint, h, hw, optP, if_true]
  · rw [decide_eq_false h] at h112
    simp only [c128, rtC, ratG, us32, go_sem, subT3, fillAll, fillIn, shiftR, shiftV, List.take_succ_cons, List.take_zero, List.drop_succ_cons, List.drop_zero, List.append_nil, Nat.zero_add]
    refine goP h112 ?_
    simp only [go_sem]
    simp only [i128, Out, resAll, geto, ints, List.getElem?_cons_zero, List.getElem?_cons_succ, resOf, outOf, snap, snapL, ev, getE, List.mapM_cons, List.mapM_nil, Option.bind_some, Option.pure_def, Option.bind_eq_bind, Option.map_some, reduceIte, Nat.reduceEqDiff, true_and, and_true, rint, h, optP, if_false]
def rlimbs (x : Rt) : Nat := max (limG x.2.1).length (limG (dn x.2.2)).length
def wdC (n : Bool) (p : Nat) : List AV := [.bool n, .str (dec p)]
end
def rv (x : Rt) : Int := (rint x).getD 0
def WhO (l : List Rt) : Prop := ∀ x ∈ l, (rint x).isSome = true
theorem WhO_take {l : List Rt} {i : Nat} (h : i < l.length) : WhO (l.take (i + 1)) ↔ WhO (l.take i) ∧ (rint (rtAt l i)).isSome = true := by
  have : l.take (i + 1) = l.take i ++ [rtAt l i] := takeAt h
  rw [this]
  unfold WhO
  simp only [List.mem_append, List.mem_singleton]
  exact ⟨fun h => ⟨fun x hx => h x (.inl hx), h _ (.inr rfl)⟩, fun h x hx => hx.elim (h.1 x) (fun e => e ▸ h.2)⟩
theorem rtAt_mem {l : List Rt} {i : Nat} (h : i < l.length) : rtAt l i ∈ l := by simp [rtAt, List.getD, h]
theorem rv_of {x : Rt} {z : Int} (h : rint x = some z) : rv x = z := by rw [rv, h]; rfl
theorem RtOk.len {x : Rt} (h : RtOk x) : (decL x.2.1).length ≤ 1000000000 ∧ (decL (dn x.2.2)).length ≤ 1000000000 := ⟨Nat.le_trans (lim2000_len h.1) (by omega), Nat.le_trans (lim2000_len h.2) (by omega)⟩
def lmax (l : List Rt) : Nat := l.foldl (fun a x => max a (rlimbs x)) 0
def rbytes (x : Rt) : Nat := 8 + 4 * ((limG x.2.1).length + (limG (dn x.2.2)).length)
def bsum (l : List Rt) : Nat := l.foldl (fun a x => a + rbytes x) 0
def runeAt (t : List Int) (k : Int) : Int := if 0 ≤ k ∧ k < t.length then t.getD k.toNat 0 else 0
theorem subX3 {a b c d e : AV} : sub false 1 [a, b, c, d, e] 3 = some d := rfl
theorem c91_X {s t : List Int} {l : List Rt} {ch ok : Bool} (ht : (t.length : Int) ≤ 1000000000000) (hl : (l.length : Int) ≤ 1000000000000) (hok : ok = true ↔ ¬ (ch = true ∧ 0 < t.length + l.length) ∧ WhO l) :
    Go.V.Call tab E 91 [.agg (arrX s ch t l)] [] (.tup [.arr 0 0, .bool ok]) [rowI (if ok then l.map rv else [])] := by
  refine Go.V.Call.mach i91 c91 rfl rfl rfl rfl ?_
  have hfalse : ¬ (¬ (ch = true ∧ 0 < t.length + l.length) ∧ WhO l) → ok = false := fun h => by rw [← Bool.not_eq_true, hok]; exact h
  have h54 := c23_X (s := s) (ch := ch) ht hl
  simp only [arrX, runes, ints] at h54
  have main : ¬ (ch = true ∧ 0 < t.length + l.length) → Mach (Go.V.Call tab E) (Fin i91 [] (.tup [.arr 0 0, .bool ok]) [rowI (if ok then l.map rv else [])]) [.code (.seq (.seq (.reg none [⟨some 16, .faddr 3 (.t 1), none⟩,
      ⟨some 17, .ld false 1 (.t 16), none⟩, ⟨some 18, .lenf (.t 17), none⟩, ⟨some 19, .mov (.k (.int .i64 0)), none⟩]) (.lv [4, 17, 18, 19] (.block 0 (.loop [4, 17, 18, 19] (some (3, [])) b91_0)))) k91_0)] .nrm
      ⟨[(1, .loc 0 0 0), (4, .arr 2 0)], [⟨true, 28, 5, 0, 1, arrX s ch t l, false⟩, ⟨false, 3, 1, 0, 0, [], false⟩, ⟨false, 3, 1, 0, 0, [], false⟩]⟩ := fun hch => by
    simp only [arrX, runes, ints, go_sem, subX3, fillAll, fillIn, shiftR, shiftV, List.take_succ_cons, List.take_zero, List.drop_succ_cons, List.drop_zero, List.append_nil, Nat.zero_add]
    refine mLoop (fun N st => ∃ (i : Nat), i ≤ l.length ∧ N = l.length - i ∧ WhO (l.take i) ∧
      st = ⟨[(4, .arr 2 i), (17, .sl l.length 3 (rtsC l)), (18, .int .i64 l.length), (19, .int .i64 i)],
        [⟨true, 28, 5, 0, 1, arrX s ch t l, false⟩, ⟨false, 3, 1, 0, 0, [], false⟩, ⟨false, 3, 1, i, i, nums .i64 ((l.take i).map rv), false⟩]⟩) l.length
      ⟨_, rfl, 0, by omega, by omega, fun x hx => by simp at hx, by simp [nums, getE, ints, arrX, runes]⟩ ?_
    rintro N s0 ⟨i, hi, rfl, hw, rfl⟩
    by_cases hlt : i < l.length
    · have hlt' : (i : Int) < (l.length : Int) := by omega
      have hi0 : (0 : Int) ≤ (i : Int) := by omega
      have hi1 : IntKind.i64.wrap ((i : Int) + 1) = ((i + 1 : Nat) : Int) := by rw [wrap_i64 (by omega) (by omega)]; omega
      have hsub := sub_rts hlt
      have htk : l.take (i + 1) = l.take i ++ [rtAt l i] := takeAt hlt
      have hwt := WhO_take hlt
      have e1 : (i + 1) * 8 ≤ 140737488355328 := by omega
      have e2 : i + 1 ≤ 140737488355328 := by omega
      have h88 := c128_gen (E := E) (x := rtAt l i)
      cases hr : rint (rtAt l i) with
      | none =>
        have := hfalse (fun h => by have := h.2 _ (rtAt_mem hlt); rw [hr] at this; cases this)
        subst this
        rw [hr] at h88
        simp only [optP, rtC, ratG, us32] at h88
        simp only [b91_0, arrX, runes, ints, go_sem, hlt', hi0, Int.toNat_natCast, hsub, rtC, ratG, us32, subT3, fillAll, fillIn, shiftR, shiftV, List.take_succ_cons, List.take_zero, List.drop_succ_cons, List.drop_zero, List.append_nil, Nat.zero_add]
        refine goR h88 rfl ?_
        simp only [go_sem, fillAll, fillIn, shiftR, shiftV, List.take_succ_cons, List.take_zero, List.drop_succ_cons, List.drop_zero, List.append_nil, Nat.zero_add]
        simp only [i91, Out, resAll, geto, ints, List.getElem?_cons_zero, List.getElem?_cons_succ, resOf, outOf, snap, snapL, ev, getE, List.mapM_cons, List.mapM_nil, Option.bind_some, Option.pure_def, Option.bind_eq_bind, Option.map_some, reduceIte, Nat.reduceEqDiff, true_and, and_true, ownOut, ownL, ownV, scalar, List.contains_nil, List.length_nil, List.length_cons, List.nil_append, List.cons_append, storeOp, apartOf, freeze_nil, refsL, refs, List.flatMap_cons, List.flatMap_nil, List.append_nil, List.contains_nil, List.set_cons_zero, List.set_cons_succ, snap, snapL, fill_nums, flat_nums, nums_length, reduceCtorEq, Bool.false_eq_true, and_self, not_false_eq_true, beq_self_eq_true, Nat.zero_add]
        rfl
      | some z =>
        have hz : rv (rtAt l i) = z := rv_of hr
        rw [hr] at h88 hwt
        simp only [optP, rtC, ratG, us32] at h88
        simp only [b91_0, arrX, runes, ints, go_sem, hlt', hi0, Int.toNat_natCast, hsub, rtC, ratG, us32, subT3, fillAll, fillIn, shiftR, shiftV, List.take_succ_cons, List.take_zero, List.drop_succ_cons, List.drop_zero, List.append_nil, Nat.zero_add]
        refine goR h88 rfl ?_
        simp only [go_sem, fillAll, fillIn, shiftR, shiftV, List.take_succ_cons, List.take_zero, List.drop_succ_cons, List.drop_zero, List.append_nil, Nat.zero_add, hi1, e1, e2, List.flatten_cons, List.flatten_nil, Option.getD_some]
        refine loopQ_go rfl (l.length - (i + 1)) (by omega) ⟨i + 1, by omega, rfl, hwt.2 ⟨hw, rfl⟩, ?_⟩
        rw [htk]
        simp only [nums, List.map_append, List.map_cons, List.map_nil, hz, arrX, runes, ints]
        rfl
    · have hlt' : ¬ (i : Int) < (l.length : Int) := by omega
      obtain rfl : i = l.length := by omega
      rw [List.take_length] at hw
      have := hok.2 ⟨hch, hw⟩
      subst this
      simp only [b91_0, k91_0, arrX, runes, ints, go_sem, hlt', List.take_length, Int.lt_irrefl]
      simp only [i91, Out, resAll, geto, ints, List.getElem?_cons_zero, List.getElem?_cons_succ, resOf, outOf, snap, snapL, ev, getE, List.mapM_cons, List.mapM_nil, Option.bind_some, Option.pure_def, Option.bind_eq_bind, Option.map_some, reduceIte, Nat.reduceEqDiff, true_and, and_true, ownOut, ownL, ownV, scalar, List.contains_nil, List.length_nil, List.length_cons, List.nil_append, List.cons_append, storeOp, apartOf, freeze_nil, refsL, refs, List.flatMap_cons, List.flatMap_nil, List.append_nil, List.contains_nil, List.set_cons_zero, List.set_cons_succ, snap, snapL, fill_nums, flat_nums, nums_length, reduceCtorEq, Bool.false_eq_true, and_self, not_false_eq_true, beq_self_eq_true, Nat.zero_add]
      simp [rowI]
  cases ch with
  | true =>
    simp only [c91, arrX, runes, ints, go_sem, subX1, subA5, fillAll, fillIn, shiftR, shiftV, List.take_succ_cons, List.take_zero, List.drop_succ_cons, List.drop_zero, List.append_nil, Nat.zero_add]
    refine goP h54 ?_
    by_cases h0 : 0 < t.length + l.length
    · have h0' : (0 : Int) < ((t.length + l.length : Nat) : Int) := by omega
      have := hfalse (fun h => h.1 ⟨rfl, h0⟩)
      subst this
      simp only [go_sem, h0']
      simp only [i91, Out, resAll, geto, ints, List.getElem?_cons_zero, List.getElem?_cons_succ, resOf, outOf, snap, snapL, ev, getE, List.mapM_cons, List.mapM_nil, Option.bind_some, Option.pure_def, Option.bind_eq_bind, Option.map_some, reduceIte, Nat.reduceEqDiff, true_and, and_true, ownOut, ownL, ownV, scalar, List.contains_nil, List.length_nil, List.length_cons, List.nil_append, List.cons_append, storeOp, apartOf, freeze_nil, refsL, refs, List.flatMap_cons, List.flatMap_nil, List.append_nil, List.contains_nil, List.set_cons_zero, List.set_cons_succ, snap, snapL, fill_nums, flat_nums, nums_length, reduceCtorEq, Bool.false_eq_true, and_self, not_false_eq_true, beq_self_eq_true, Nat.zero_add]
      rfl
    · have h0' : ¬ (0 : Int) < ((t.length + l.length : Nat) : Int) := by omega
      have hm := main (fun h => h0 h.2)
      simp only [arrX, runes, ints, go_sem, subX3, fillAll, fillIn, shiftR, shiftV, List.take_succ_cons, List.take_zero, List.drop_succ_cons, List.drop_zero, List.append_nil, Nat.zero_add] at hm
      simp only [go_sem, h0', subX3]
      exact hm
  | false =>
    have hm := main (fun h => by cases h.1)
    simp only [arrX, runes, ints, go_sem, subX3, fillAll, fillIn, shiftR, shiftV, List.take_succ_cons, List.take_zero, List.drop_succ_cons, List.drop_zero, List.append_nil, Nat.zero_add] at hm
    simp only [c91, arrX, runes, ints, go_sem, subX1, subX3, subA5, fillAll, fillIn, shiftR, shiftV, List.take_succ_cons, List.take_zero, List.drop_succ_cons, List.drop_zero, List.append_nil, Nat.zero_add]
    exact hm
theorem c66_X {s t : List Int} {l : List Rt} {ch : Bool} (hs : (s.length : Int) ≤ 1000000000000) : Go.V.Call tab E 66 [.agg (arrX s ch t l)] [] (.int .i64 s.length) [] := by
  refine Go.V.Call.mach i66 c66 rfl rfl rfl rfl ?_
  have h69 := c44_X (s := s) (t := t) (l := l) (ch := ch) hs
  simp only [arrX, runes, ints] at h69
  simp only [c66, arrX, runes, ints, go_sem, subA5, fillAll, fillIn, shiftR, shiftV, List.take_succ_cons, List.take_zero, List.drop_succ_cons, List.drop_zero, List.append_nil, Nat.zero_add]
  refine goP h69 ?_
  simp only [go_sem, fillAll, fillIn, shiftR, shiftV, List.take_succ_cons, List.take_zero, List.drop_succ_cons, List.drop_zero, List.append_nil, Nat.zero_add]
  simp only [i66, Out, resAll, geto, ints, List.getElem?_cons_zero, List.getElem?_cons_succ, resOf, outOf, snap, snapL, ev, getE, List.mapM_cons, List.mapM_nil, Option.bind_some, Option.pure_def, Option.bind_eq_bind, Option.map_some, reduceIte, Nat.reduceEqDiff, true_and, and_true]
def roomX (s t : List Int) (l : List Rt) : Nat := 16 + 4 * s.length + t.length + bsum l
def zR (z : Int) : Rt := (decide (z < 0), z.natAbs, 1)
theorem ratC_zR {z : Int} (hz : In64 z) : ratC z = rtC (zR z) := by
  obtain ⟨h1, h2⟩ := hz
  rw [ratC, lim_limG (by omega)]
  show _ = [us32 (limG z.natAbs), AV.bool (decide (z < 0)), us32 (limG 1)]
  rw [limG_one (d := 1) (by omega) (by omega)]
  rfl
theorem ratsC_zR {l : List Int} (hl : ∀ z ∈ l, In64 z) : ratsC l = rtsC (l.map zR) := by
  induction l with
  | nil => rfl
  | cons z l ih =>
    have e1 : ratsC (z :: l) = ratC z ++ ratsC l := by simp [ratsC]
    have e2 : rtsC ((z :: l).map zR) = rtC (zR z) ++ rtsC (l.map zR) := by simp [rtsC]
    rw [e1, e2, ratC_zR (hl z (by simp)), ih fun y hy => hl y (by simp [hy])]
theorem arrV_X {s l : List Int} (hl : ∀ z ∈ l, In64 z) : arrV s l = arrX s false [] (l.map zR) := by
  rw [arrV, arrX, ratsC_zR hl, List.length_map]
  rfl
theorem rint_zR {z : Int} (hz : In64 z) : rint (zR z) = some z := by
  obtain ⟨h1, h2⟩ := hz
  have hd : dn (zR z).2.2 = 1 := rfl
  rw [rint, if_pos hd]
  show wint (decide (z < 0)) z.natAbs = some z
  by_cases h : z < 0
  · rw [decide_eq_true h, wint, if_pos rfl, if_pos (by omega)]
    congr 1; omega
  · rw [decide_eq_false h, wint, if_neg (by simp), if_pos (by omega)]
    congr 1; omega
theorem rv_zR {z : Int} (hz : In64 z) : rv (zR z) = z := rv_of (rint_zR hz)
def wholeB (ch : Bool) (t : List Int) (L : List Rt) : Bool := !(ch && decide (0 < t.length + L.length)) && L.all fun x => (rint x).isSome
def lisV (s : List Int) (ch : Bool) (t : List Int) (L : List Rt) : List Int := if s.length ≤ 1 ∧ wholeB ch t L = true then L.map rv else []
def lisE (s : List Int) (ch : Bool) (t : List Int) (L : List Rt) : Int := if 1 < s.length then 23 else if wholeB ch t L = true then 0 else 22
def noP : List AV := plX [] false [] []
theorem c32_yes {s t : List Int} {ch : Bool} {L : List Rt} (hs : (s.length : Int) ≤ 1000000000) (ht : (t.length : Int) ≤ 1000000000) (hl : (L.length : Int) ≤ 1000000000) (hlk : ∀ x ∈ L, RtOk x) :
    Go.V.Call tab E 32 [.agg (arrX s ch t L), .int .i64 0, .agg (plX s ch t (L.map toNm)), .int .i64 0] [] (.bool true) [] := by
  refine Go.V.Call.mach i32 c32 rfl rfl rfl rfl ?_
  have hlm : (L.map toNm).length = L.length := by simp
  have hu : ∀ x ∈ L.map toNm, NmU x := fun z hz => by
    obtain ⟨x, hx, rfl⟩ := List.mem_map.1 hz
    exact ⟨(decL_dig _).u8, (decL_dig _).u8, (hlk x hx).len.1, (hlk x hx).len.2⟩
  have h31 := c35_X (s := s) (t := t) (l := L) (ch := ch) (by omega) (by omega) (by omega) hlk
  have h29 := c33_gen (s := s) (s' := s) (t := t) (t' := t) (l := L.map toNm) (l' := L.map toNm) (ch := ch) (ch' := ch) (by omega) (by omega) (by omega) (by omega) (by omega) (by omega) hu hu
  rw [decide_eq_true ⟨rfl, rfl, rfl, rfl⟩] at h29
  simp only [plX, arrX, runes, ints] at h31 h29
  simp only [c32, plX, arrX, runes, ints, go_sem, fillAll, fillIn, shiftR, shiftV, List.take_succ_cons, List.take_zero, List.drop_succ_cons, List.drop_zero, List.append_nil, Nat.zero_add, subA5, subP4, bne_self_eq_false]
  refine goP h31 ?_
  simp only [go_sem, fillAll, fillIn, shiftR, shiftV, List.take_succ_cons, List.take_zero, List.drop_succ_cons, List.drop_zero, List.append_nil, Nat.zero_add, subA5, subP4]
  refine goP h29 ?_
  simp only [go_sem]
  simp only [i32, Out, resAll, geto, ints, List.getElem?_cons_zero, List.getElem?_cons_succ, resOf, outOf, snap, snapL, ev, getE, List.mapM_cons, List.mapM_nil, Option.bind_some, Option.pure_def, Option.bind_eq_bind, Option.map_some, reduceIte, Nat.reduceEqDiff, true_and, and_true]
theorem c27_ok {s t : List Int} {l : List Nm} {ch ok : Bool} (hs : ∀ d ∈ s, In64 d) (hu : ∀ x ∈ l, U8 x.2.1 ∧ U8 x.2.2) (hok : ok = true ↔ LightP s ch t l 250) : Go.V.Call tab E 27 [.agg (plX s ch t l)] [] (.bool ok) [] := by
  refine Go.V.Call.mach i27 c27 rfl rfl rfl rfl ?_
  have h := c17_ok (s := s) (t := t) (l := l) (ch := ch) (ok := ok) (most := 250) (by omega) hs hu hok
  simp only [plX, runes, ints] at h
  simp only [c27, plX, runes, ints, go_sem, fillAll, fillIn, shiftR, shiftV, List.take_succ_cons, List.take_zero, List.drop_succ_cons, List.drop_zero, List.append_nil, Nat.zero_add, subP4]
  refine goP h ?_
  simp only [go_sem]
  simp only [i27, Out, resAll, geto, ints, List.getElem?_cons_zero, List.getElem?_cons_succ, resOf, outOf, snap, snapL, ev, getE, List.mapM_cons, List.mapM_nil, Option.bind_some, Option.pure_def, Option.bind_eq_bind, Option.map_some, reduceIte, Nat.reduceEqDiff, true_and, and_true]
def axA (s : List Int) (a : Int) : Int := if a < 0 then (s.length : Int) - 1 else a
def axB (s : List Int) (a : Int) : Bool := decide (0 ≤ axA s a) && decide (axA s a < (s.length : Int))
theorem c88_ok {s t : List Int} {ch : Bool} {L : List Rt} {a : Int} (hs : (s.length : Int) ≤ 1000000000) : Go.V.Call tab E 88 [.agg (arrX s ch t L), .int .i64 a] [] (.tup [.int .i64 (axA s a), .bool (axB s a)]) [] := by
  refine Go.V.Call.mach i88 c88 rfl rfl rfl rfl ?_
  have h56 := c66_X (s := s) (t := t) (l := L) (ch := ch) (by omega)
  have w : IntKind.i64.wrap ((s.length : Int) - 1) = (s.length : Int) - 1 := wrap_i64 (by omega) (by omega)
  simp only [arrX, runes, ints] at h56
  by_cases ha : a < 0
  · have hA : axA s a = (s.length : Int) - 1 := if_pos ha
    by_cases h0 : (0 : Int) ≤ (s.length : Int) - 1
    · have h1 : (s.length : Int) - 1 < (s.length : Int) := by omega
      have hB : axB s a = true := by simp only [axB, hA, h0, h1, decide_true, Bool.and_self]
      simp only [c88, arrX, runes, ints, go_sem, fillAll, fillIn, shiftR, shiftV, List.take_succ_cons, List.take_zero, List.drop_succ_cons, List.drop_zero, List.append_nil, Nat.zero_add, subA5, ha]
      refine goP h56 ?_
      simp only [go_sem, fillAll, fillIn, shiftR, shiftV, List.take_succ_cons, List.take_zero, List.drop_succ_cons, List.drop_zero, List.append_nil, Nat.zero_add, subA5, w, h0]
      refine goP h56 ?_
      simp only [go_sem, h1]
      simp only [i88, Out, resAll, geto, ints, List.getElem?_cons_zero, List.getElem?_cons_succ, resOf, outOf, snap, snapL, ev, getE, List.mapM_cons, List.mapM_nil, Option.bind_some, Option.pure_def, Option.bind_eq_bind, Option.map_some, reduceIte, Nat.reduceEqDiff, true_and, and_true, hA, hB]
    · have hB : axB s a = false := by simp only [axB, hA, h0, decide_false, Bool.false_and]
      simp only [c88, arrX, runes, ints, go_sem, fillAll, fillIn, shiftR, shiftV, List.take_succ_cons, List.take_zero, List.drop_succ_cons, List.drop_zero, List.append_nil, Nat.zero_add, subA5, ha]
      refine goP h56 ?_
      simp only [go_sem, fillAll, fillIn, shiftR, shiftV, List.take_succ_cons, List.take_zero, List.drop_succ_cons, List.drop_zero, List.append_nil, Nat.zero_add, subA5, w, h0]
      simp only [i88, Out, resAll, geto, ints, List.getElem?_cons_zero, List.getElem?_cons_succ, resOf, outOf, snap, snapL, ev, getE, List.mapM_cons, List.mapM_nil, Option.bind_some, Option.pure_def, Option.bind_eq_bind, Option.map_some, reduceIte, Nat.reduceEqDiff, true_and, and_true, hA, hB]
  · have hA : axA s a = a := if_neg ha
    have h0 : (0 : Int) ≤ a := by omega
    by_cases h1 : a < (s.length : Int)
    · have hB : axB s a = true := by simp only [axB, hA, h0, h1, decide_true, Bool.and_self]
      simp only [c88, arrX, runes, ints, go_sem, fillAll, fillIn, shiftR, shiftV, List.take_succ_cons, List.take_zero, List.drop_succ_cons, List.drop_zero, List.append_nil, Nat.zero_add, subA5, ha, h0]
      refine goP h56 ?_
      simp only [go_sem, h1]
      simp only [i88, Out, resAll, geto, ints, List.getElem?_cons_zero, List.getElem?_cons_succ, resOf, outOf, snap, snapL, ev, getE, List.mapM_cons, List.mapM_nil, Option.bind_some, Option.pure_def, Option.bind_eq_bind, Option.map_some, reduceIte, Nat.reduceEqDiff, true_and, and_true, hA, hB]
    · have hB : axB s a = false := by simp only [axB, hA, h1, decide_false, Bool.and_false]
      simp only [c88, arrX, runes, ints, go_sem, fillAll, fillIn, shiftR, shiftV, List.take_succ_cons, List.take_zero, List.drop_succ_cons, List.drop_zero, List.append_nil, Nat.zero_add, subA5, ha, h0]
      refine goP h56 ?_
      simp only [go_sem, h1]
      simp only [i88, Out, resAll, geto, ints, List.getElem?_cons_zero, List.getElem?_cons_succ, resOf, outOf, snap, snapL, ev, getE, List.mapM_cons, List.mapM_nil, Option.bind_some, Option.pure_def, Option.bind_eq_bind, Option.map_some, reduceIte, Nat.reduceEqDiff, true_and, and_true, hA, hB]
theorem c84_ok {s t s' ks : List Int} {L : List Rt} {ch : Bool} (hs : ∀ d ∈ s', In64 d) (hsl : (s'.length : Int) ≤ 1000000000000) (ht : (t.length : Int) ≤ 1000000000000) (hl : (L.length : Int) ≤ 1000000000000) (hks : (ks.length : Int) ≤ 1000000000) :
    Go.V.Call tab E 84 [.agg (arrX s ch t L), ints s', ints ks] [] (.tup [.agg (if fits s' ks.length then arrX s' ch (picksT ch t ks) (picksR ch L ks) else noA), .int .i64 (if fits s' ks.length then 0 else 26)]) [] := by
  refine Go.V.Call.mach i84 c84 rfl rfl rfl rfl ?_
  have h49 := c64_ok (s := s) (t := t) (s' := s') (ks := ks) (l := L) (ch := ch) hs hsl ht hl hks
  simp only [arrX, runes, ints] at h49
  cases hf : fits s' ks.length with
  | true =>
    rw [hf] at h49
    simp only [if_true] at h49
    simp only [c84, arrX, runes, ints, go_sem, fillAll, fillIn, shiftR, shiftV, List.take_succ_cons, List.take_zero, List.drop_succ_cons, List.drop_zero, List.append_nil, Nat.zero_add, subA5]
    refine goP h49 ?_
    simp only [go_sem, fillAll, fillIn, shiftR, shiftV, List.take_succ_cons, List.take_zero, List.drop_succ_cons, List.drop_zero, List.append_nil, Nat.zero_add, subA5]
    simp only [i84, Out, resAll, geto, ints, List.getElem?_cons_zero, List.getElem?_cons_succ, resOf, outOf, snap, snapL, ev, getE, List.mapM_cons, List.mapM_nil, Option.bind_some, Option.pure_def, Option.bind_eq_bind, Option.map_some, reduceIte, Nat.reduceEqDiff, true_and, and_true, subA5, if_true, arrX, runes, ints]
  | false =>
    rw [hf] at h49
    simp only [Bool.false_eq_true, if_false, noA] at h49
    simp only [c84, arrX, runes, ints, go_sem, fillAll, fillIn, shiftR, shiftV, List.take_succ_cons, List.take_zero, List.drop_succ_cons, List.drop_zero, List.append_nil, Nat.zero_add, subA5]
    refine goP h49 ?_
    simp only [go_sem, fillAll, fillIn, shiftR, shiftV, List.take_succ_cons, List.take_zero, List.drop_succ_cons, List.drop_zero, List.append_nil, Nat.zero_add, subA5]
    simp only [i84, Out, resAll, geto, ints, List.getElem?_cons_zero, List.getElem?_cons_succ, resOf, outOf, snap, snapL, ev, getE, List.mapM_cons, List.mapM_nil, Option.bind_some, Option.pure_def, Option.bind_eq_bind, Option.map_some, reduceIte, Nat.reduceEqDiff, true_and, and_true, subA5, Bool.false_eq_true, if_false, noA]
end Go.Proofs.Ytlejgleocnemoaa.I

namespace Go.Proofs.Ytlejgleocnemoaa.I
open Go Go.V
attribute [local go_sem] mNil nat0 beq_self_eq_true mSkip mRet mExit mReg mSeq mCond mTrue mFalse mBlock mLv mCodeE mCodeR mEndN mEndR mEndE mOps mSome mGuard mGtt mGff mGtf mGft mGu mCallP mCallR mCallF mCallO mCallZ mCallG mCallM mCallV loopQ_exit loopQ_ret mO_mov mO_newnil mO_pick mO_alloc mO_box mO_build mO_bsl mO_bslF mO_ldf mO_ld mO_st mO_sta mO_nilchk mO_bin mO_binb mO_binp mO_bins mO_neg mO_com mO_not mO_conv mO_mk mO_mk0 mO_s2b mO_b2s mO_cpy mO_cut mO_faddr mO_fld mO_iaddr mO_iaddrf mO_sidx mO_len mO_lenf mO_slen mO_scut mO_app mO_ext mO_mx mO_mn mO_mkfn evalOp cutOp argsE ev getE putE cellsOf adopt rowOf binV boolV nilV ar_add ar_sub ar_mul ar_quo ar_rem ar_eq ar_ne ar_lt ar_le ar_gt ar_ge ar_and ar_or ar_xor geto bound finRet finNrm ints List.length_cons List.length_nil List.length_append List.getElem?_cons_zero List.getElem?_cons_succ List.nil_append List.cons_append List.map_cons List.map_nil List.mapM_cons List.mapM_nil Option.map_some Option.map_none Option.bind_some Option.pure_def Option.bind_eq_bind List.drop_zero or_self or_false false_or or_true true_or true_and and_true and_self decide_true decide_false Bool.false_eq_true Bool.true_eq_false Bool.not_true Bool.not_false Nat.le_refl eq_self gt_iff_lt ge_iff_le ne_eq not_true_eq_false not_false_eq_true storeOp apartOf freeze_nil refsL refs List.flatMap_cons List.flatMap_nil List.append_nil List.contains_nil List.set_cons_zero List.set_cons_succ snap snapL fill_nums flat_nums nums_length Go.V.freeze List.mapIdx_cons List.mapIdx_nil List.contains_cons Bool.or_false Bool.false_or Bool.or_true Bool.true_or
theorem fits_of {s : List Int} {n : Nat} (h : count s = some (n : Int)) : fits s n = true := by rw [fits, h]; simp
theorem fill_row {ks : List Int} {i n : Nat} (hn : ks.length = n) (hi : i < n) : (ks.take i ++ List.replicate (n - i) 0).take i ++ ks.getD i 0 :: (ks.take i ++ List.replicate (n - i) 0).drop (i + 1) = ks.take (i + 1) ++ List.replicate (n - (i + 1)) 0 := by
  have h1 : (ks.take i).length = i := by rw [List.length_take]; omega
  rw [List.take_left' h1, List.drop_append, h1, List.drop_eq_nil_of_le (by omega), List.nil_append, List.drop_replicate, take_snoc (by omega), List.append_assoc]
  rw [show n - i - (i + 1 - i) = n - (i + 1) by omega]
  rfl
theorem row_len {ks : List Int} {i n : Nat} (hn : ks.length = n) (hi : i ≤ n) : (ks.take i ++ List.replicate (n - i) 0).length = n := by
  rw [List.length_append, List.length_take, List.length_replicate]; omega
def outA (e : Int) (s ks : List Int) (ch : Bool) (t : List Int) (L : List Rt) : List AV := if e = 0 then arrX s ch (picksT ch t ks) (picksR ch L ks) else noA
def outP (e : Int) (s ks : List Int) (ch : Bool) (t : List Int) (l : List Nm) : List AV := if e = 0 then plX s ch (picksT ch t ks) (picksN ch l ks) else noP
def negB (w : List Int) : Bool := w.any fun d => decide (d < 0)
def resE (e0 : Int) (w : List Int) : Int := if e0 ≠ 0 then e0 else if negB w = true then 22 else match count w with | none => if 8 < w.length then 23 else 26 | some _ => 0
def cyc (w : List Int) (len : Nat) : List Int := (List.range (prd w).toNat).map fun i => if len = 0 then (-1 : Int) else ((i % len : Nat) : Int)
theorem cyc_self {s : List Int} {len : Nat} (h : count s = some (len : Int)) : cyc s len = (List.range len).map fun i : Nat => (i : Int) := by
  rw [cyc, ← count_prd h, Int.toNat_natCast]
  refine List.map_congr_left fun i hi => ?_
  have := List.mem_range.1 hi
  rw [if_neg (by omega), Nat.mod_eq_of_lt this]
theorem self_pick {α : Type} {d : α} {t : List α} {f : Int → α} (hf : ∀ i : Nat, i < t.length → f i = t.getD i d) : ((List.range t.length).map fun i : Nat => (i : Int)).map f = t := by
  refine List.ext_getElem (by simp) fun i h1 h2 => ?_
  have h3 : i < t.length := h2
  simp only [List.getElem_map, List.getElem_range]
  rw [hf i h3]
  simp [List.getD, h3]
theorem self_T {t : List Int} {n : Nat} (h : n = t.length) : picksT true t ((List.range n).map fun i : Nat => (i : Int)) = t := by
  subst h
  rw [picksT, if_pos rfl]
  refine self_pick (d := 0) fun i hi => ?_
  rw [pickT, if_pos ⟨by omega, by omega⟩, Int.toNat_natCast]
theorem self_R {l : List Rt} {n : Nat} (h : n = l.length) : picksR false l ((List.range n).map fun i : Nat => (i : Int)) = l := by
  subst h
  rw [picksR, if_neg (by simp)]
  refine self_pick (d := (false, 0, 0)) fun i hi => ?_
  rw [pickR, if_pos ⟨by omega, by omega⟩, Int.toNat_natCast]
  rfl
theorem self_X {s t : List Int} {ch : Bool} {l : List Nm} (h : RightP s ch t l) : cyc s (t.length + (l.map toRt).length) = (List.range (t.length + l.length)).map (fun i : Nat => (i : Int)) ∧ count s = some ((t.length + l.length : Nat) : Int) ∧
    picksT ch t ((List.range (t.length + l.length)).map fun i : Nat => (i : Int)) = t ∧ picksR ch (l.map toRt) ((List.range (t.length + l.length)).map fun i : Nat => (i : Int)) = l.map toRt := by
  have h1 := h.1
  unfold Shapes at h1
  rw [List.length_map]
  cases ch with
  | true =>
    simp only [if_true] at h1
    obtain ⟨h1, h2⟩ := h1
    rw [h2, Nat.add_zero]
    have h3 : l = [] := List.length_eq_zero_iff.1 h2
    subst h3
    exact ⟨cyc_self h1, h1, self_T rfl, rfl⟩
  | false =>
    simp only [Bool.false_eq_true, if_false] at h1
    obtain ⟨h1, rfl⟩ := h1
    rw [List.length_nil, Nat.zero_add]
    exact ⟨cyc_self h1, h1, rfl, self_R (by simp)⟩
theorem c28_awake : Go.V.Call tab E 28 [] [] (.bool true) [] := Go.V.Call.run (ext := ext) (fun h => h) (fuel := 400) (n := 40) (by kernel_rfl)
end Go.Proofs.Ytlejgleocnemoaa.I

namespace Go.Proofs.Ytlejgleocnemoaa.I
open Go Go.V
theorem set_get {y : List Int} {m : Nat} {v : Int} (h : m < y.length) : (y.take m ++ v :: y.drop (m + 1)).getD m 0 = v := by
  simp [List.getD, List.getElem?_append, Nat.min_eq_left (Nat.le_of_lt h)]
theorem set_set {y : List Int} {m : Nat} {v u : Int} (h : m < y.length) : (y.take m ++ v :: y.drop (m + 1)).take m ++ u :: (y.take m ++ v :: y.drop (m + 1)).drop (m + 1) = y.take m ++ u :: y.drop (m + 1) := by
  have e1 : (y.take m).length = m := by simp; omega
  rw [List.take_append_of_le_length (by omega), List.take_take, Nat.min_self, List.drop_append, e1, List.drop_eq_nil_of_le (by omega)]
  simp [show m + 1 - m = 1 by omega]
theorem set_len {y : List Int} {m : Nat} {v : Int} (h : m < y.length) : (y.take m ++ v :: y.drop (m + 1)).length = y.length := by
  simp; omega
theorem ix_zero2 : ∀ {s : List Int}, (ix s 0).2 = 0
  | [] => rfl
  | d :: ds => by rw [ix, ix_zero2, Int.zero_ediv]
theorem ix_zero : ∀ {s : List Int}, List.replicate s.length 0 = (ix s ((0 : Nat) : Int)).1
  | [] => rfl
  | d :: ds => by
    have := ix_zero (s := ds)
    simp only [Int.ofNat_eq_natCast, Int.natCast_zero] at this ⊢
    rw [ix, ix_zero2, List.length_cons, List.replicate_succ, this, Int.zero_emod]
theorem ix_range : ∀ {s : List Int} {a : Int} {m : Nat}, 0 ≤ a → (∀ d ∈ s, 1 ≤ d) → m < s.length → 0 ≤ (ix s a).1.getD m 0 ∧ (ix s a).1.getD m 0 < s.getD m 0
  | [], a, m, _, _, hm => by simp at hm
  | d :: ds, a, 0, ha, h, _ => by
    have hd := h d (by simp)
    simp only [ix, List.getD_cons_zero]
    exact ⟨Int.emod_nonneg _ (by omega), Int.emod_lt_of_pos _ (by omega)⟩
  | d :: ds, a, m + 1, ha, h, hm => by
    simp only [ix, List.getD_cons_succ]
    exact ix_range ha (fun x hx => h x (by simp [hx])) (by simpa using hm)
theorem goFn {C : CallRel} {Q : X → St → Prop} {f : Nat} {caps as1 bs : List AV} {d : Option Nat} {os : List IOp} {k : List Go.V.Item} {s : St} {r : AV} (hcaps : caps.mapM (fun c => snap s.mem 10 c) = some bs) (h : C f (as1 ++ bs) [] r []) (hs : scalars r = true)
    (hk : Mach C Q (.ops os :: k) .nrm ⟨putE s.env d r, s.mem⟩) : MachF C Q (.fn f caps) (some as1) d os k s := by
  simp only [MachF, hcaps, Option.map_some]
  exact goV h hs hk
section
variable {E : CallRel}
theorem c126_ok {s : List Int} {f : Nat} {caps : List AV} {n : Nat} {v : Nat → Int} (hc : count s = some (n : Int)) (hcaps : ∀ mem, caps.mapM (fun c => snap mem 10 c) = some caps) (hu : underL 3 caps = true)
    (hf : ∀ i : Nat, i < n → Go.V.Call tab E f (ints (ix s i).1 :: caps) [] (.int .i64 (v i)) []) : Go.V.Call tab E 126 [ints s, .fn f caps] [] (ints ((List.range n).map v)) [] := by
  obtain ⟨hl8, hd4, hpr⟩ := count_bound hc
  have hn := count_prd hc
  have hn4 : (n : Int) ≤ 4096 := by rw [hn]; have := (hpr s.length).2; rwa [List.take_length] at this
  refine Go.V.Call.mach i126 c126 rfl rfl rfl rfl ?_
  simp only [c126, mNil, nat0, beq_self_eq_true, mSkip, mRet, mExit, mReg, mSeq, mCond, mTrue, mFalse, mBlock, mLv, mCodeE, mCodeR, mEndN, mEndR, mEndE, mOps, mSome, mGuard, mGtt, mGff, mGtf, mGft, mGu, mCallP, mCallR, mCallF, mCallO, mCallZ, mCallG, mCallM, mCallV, loopQ_exit, loopQ_ret, mO_mov, mO_newnil, mO_pick, mO_alloc, mO_box, mO_build, mO_bsl, mO_bslF, mO_ldf, mO_ld, mO_st, mO_sta, mO_nilchk, mO_bin, mO_binb, mO_binp, mO_bins, mO_neg, mO_com, mO_not, mO_conv, mO_mk, mO_mk0, mO_s2b, mO_b2s, mO_cpy, mO_cut, mO_faddr, mO_fld, mO_iaddr, mO_iaddrf, mO_sidx, mO_len, mO_lenf, mO_slen, mO_scut, mO_app, mO_ext, mO_mx, mO_mn, mO_mkfn, evalOp, cutOp, argsE, ev, getE, putE, cellsOf, adopt, rowOf, binV, boolV, nilV, ar_add, ar_sub, ar_mul, ar_quo, ar_rem, ar_eq, ar_ne, ar_lt, ar_le, ar_gt, ar_ge, ar_and, ar_or, ar_xor, geto, bound, finRet, finNrm, ints, List.length_cons, List.length_nil, List.length_append, List.getElem?_cons_zero, List.getElem?_cons_succ, List.nil_append, List.cons_append, List.map_cons, List.map_nil, List.mapM_cons, List.mapM_nil, Option.map_some, Option.map_none, Option.bind_some, Option.pure_def, Option.bind_eq_bind, List.drop_zero, ↓reduceIte, Nat.reduceEqDiff, Nat.reduceAdd, Nat.reduceMul, Nat.reduceLeDiff, Nat.reduceLT, Int.reduceToNat, Int.reduceLT, Int.reduceLE, reduceCtorEq, or_self, or_false, false_or, or_true, true_or, true_and, and_true, and_self, decide_true, decide_false, Bool.false_eq_true, Bool.true_eq_false, Bool.not_true, Bool.not_false, Nat.le_refl, eq_self, gt_iff_lt, ge_iff_le, ne_eq, not_true_eq_false, not_false_eq_true, snap]
  refine goP (c83_ok (fun d hd => ⟨by have := hd4 d hd; omega, by have := hd4 d hd; omega⟩) (by omega)) ?_
  have h1 : (0 : Int) ≤ (n : Int) := by omega
  have h2 : 8 * n ≤ 140737488355328 := by omega
  have h3 : (n : Int) ≤ 140737488355328 := by omega
  have h4 : (0 : Int) ≤ (s.length : Int) := by omega
  have h5 : 8 * s.length ≤ 140737488355328 := by omega
  have h6 : (s.length : Int) ≤ 140737488355328 := by omega
  have hw : IntKind.i64.wrap ((s.length : Int) - 1) = (s.length : Int) - 1 := wrap_i64 (by omega) (by omega)
  simp only [hc, optP, mNil, nat0, beq_self_eq_true, mSkip, mRet, mExit, mReg, mSeq, mCond, mTrue, mFalse, mBlock, mLv, mCodeE, mCodeR, mEndN, mEndR, mEndE, mOps, mSome, mGuard, mGtt, mGff, mGtf, mGft, mGu, mCallP, mCallR, mCallF, mCallO, mCallZ, mCallG, mCallM, mCallV, loopQ_exit, loopQ_ret, mO_mov, mO_newnil, mO_pick, mO_alloc, mO_box, mO_build, mO_bsl, mO_bslF, mO_ldf, mO_ld, mO_st, mO_sta, mO_nilchk, mO_bin, mO_binb, mO_binp, mO_bins, mO_neg, mO_com, mO_not, mO_conv, mO_mk, mO_mk0, mO_s2b, mO_b2s, mO_cpy, mO_cut, mO_faddr, mO_fld, mO_iaddr, mO_iaddrf, mO_sidx, mO_len, mO_lenf, mO_slen, mO_scut, mO_app, mO_ext, mO_mx, mO_mn, mO_mkfn, evalOp, cutOp, argsE, ev, getE, putE, cellsOf, adopt, rowOf, binV, boolV, nilV, ar_add, ar_sub, ar_mul, ar_quo, ar_rem, ar_eq, ar_ne, ar_lt, ar_le, ar_gt, ar_ge, ar_and, ar_or, ar_xor, geto, bound, finRet, finNrm, ints, List.length_cons, List.length_nil, List.length_append, List.getElem?_cons_zero, List.getElem?_cons_succ, List.nil_append, List.cons_append, List.map_cons, List.map_nil, List.mapM_cons, List.mapM_nil, Option.map_some, Option.map_none, Option.bind_some, Option.pure_def, Option.bind_eq_bind, List.drop_zero, ↓reduceIte, Nat.reduceEqDiff, Nat.reduceAdd, Nat.reduceMul, Nat.reduceLeDiff, Nat.reduceLT, Int.reduceToNat, Int.reduceLT, Int.reduceLE, reduceCtorEq, or_self, or_false, false_or, or_true, true_or, true_and, and_true, and_self, decide_true, decide_false, Bool.false_eq_true, Bool.true_eq_false, Bool.not_true, Bool.not_false, Nat.le_refl, eq_self, gt_iff_lt, ge_iff_le, ne_eq, not_true_eq_false, not_false_eq_true, Int.toNat_natCast, h1, h2, h3, h4, h5, h6, flat_nums]
  have hpos : n ≠ 0 → ∀ d ∈ s, 1 ≤ d := fun h => count_pos hc (by omega)
  refine mLoop (fun N st => ∃ (i : Nat) (x : List Int), i ≤ n ∧ N = n - i ∧ x.length = s.length ∧ (i < n → x = (ix s i).1) ∧
    st = ⟨[(0, ints s), (1, .fn f caps), (7, .arr 1 0), (8, .arr 2 0), (24, .int .i64 n), (25, .int .i64 i)],
      [⟨false, 3, 1, 0, 0, [], false⟩, ⟨false, 3, 1, 0, n, nums .i64 ((List.range i).map v ++ List.replicate (n - i) 0), false⟩, ⟨false, 3, 1, 0, s.length, nums .i64 x, false⟩]⟩) n
    ⟨_, by simp only [headOf]; exact (if_pos (by simp [under, underL, hu, getE])).trans rfl, 0, List.replicate s.length 0, by omega, by omega, by simp, fun hi => ix_zero, by simp [ints, getE]⟩ ?_
  rintro N s0 ⟨i, x, hi, rfl, hxl, hx, rfl⟩
  by_cases hlt : i < n
  · have hlt' : (i : Int) < (n : Int) := by omega
    have hi0 : (0 : Int) ≤ (i : Int) := by omega
    have hi1 : IntKind.i64.wrap ((i : Int) + 1) = ((i + 1 : Nat) : Int) := by rw [wrap_i64 (by omega) (by omega)]; omega
    have hx := hx hlt
    have hcall := hf i hlt
    rw [← hx, ints, hxl] at hcall
    simp only [b126_0, mNil, nat0, beq_self_eq_true, mSkip, mRet, mExit, mReg, mSeq, mCond, mTrue, mFalse, mBlock, mLv, mCodeE, mCodeR, mEndN, mEndR, mEndE, mOps, mSome, mGuard, mGtt, mGff, mGtf, mGft, mGu, mCallP, mCallR, mCallF, mCallO, mCallZ, mCallG, mCallM, mCallV, loopQ_exit, loopQ_ret, mO_mov, mO_newnil, mO_pick, mO_alloc, mO_box, mO_build, mO_bsl, mO_bslF, mO_ldf, mO_ld, mO_st, mO_sta, mO_nilchk, mO_bin, mO_binb, mO_binp, mO_bins, mO_neg, mO_com, mO_not, mO_conv, mO_mk, mO_mk0, mO_s2b, mO_b2s, mO_cpy, mO_cut, mO_faddr, mO_fld, mO_iaddr, mO_iaddrf, mO_sidx, mO_len, mO_lenf, mO_slen, mO_scut, mO_app, mO_ext, mO_mx, mO_mn, mO_mkfn, evalOp, cutOp, argsE, ev, getE, putE, cellsOf, adopt, rowOf, binV, boolV, nilV, ar_add, ar_sub, ar_mul, ar_quo, ar_rem, ar_eq, ar_ne, ar_lt, ar_le, ar_gt, ar_ge, ar_and, ar_or, ar_xor, geto, bound, finRet, finNrm, ints, List.length_cons, List.length_nil, List.length_append, List.getElem?_cons_zero, List.getElem?_cons_succ, List.nil_append, List.cons_append, List.map_cons, List.map_nil, List.mapM_cons, List.mapM_nil, Option.map_some, Option.map_none, Option.bind_some, Option.pure_def, Option.bind_eq_bind, List.drop_zero, ↓reduceIte, Nat.reduceEqDiff, Nat.reduceAdd, Nat.reduceMul, Nat.reduceLeDiff, Nat.reduceLT, Int.reduceToNat, Int.reduceLT, Int.reduceLE, reduceCtorEq, or_self, or_false, false_or, or_true, true_or, true_and, and_true, and_self, decide_true, decide_false, Bool.false_eq_true, Bool.true_eq_false, Bool.not_true, Bool.not_false, Nat.le_refl, eq_self, gt_iff_lt, ge_iff_le, ne_eq, not_true_eq_false, not_false_eq_true, storeOp, apartOf, freeze_nil, refsL, refs, List.flatMap_cons, List.flatMap_nil, List.append_nil, List.contains_nil, List.set_cons_zero, List.set_cons_succ, snap, snapL, fill_nums, flat_nums, nums_length, hlt']
    refine goFn (hcaps _) hcall rfl ?_
    have hst : i * 1 + 1 ≤ ((List.range i).map v).length + (List.replicate (n - i) (0 : Int)).length := by simp; omega
    simp only [mNil, nat0, beq_self_eq_true, mSkip, mRet, mExit, mReg, mSeq, mCond, mTrue, mFalse, mBlock, mLv, mCodeE, mCodeR, mEndN, mEndR, mEndE, mOps, mSome, mGuard, mGtt, mGff, mGtf, mGft, mGu, mCallP, mCallR, mCallF, mCallO, mCallZ, mCallG, mCallM, mCallV, loopQ_exit, loopQ_ret, mO_mov, mO_newnil, mO_pick, mO_alloc, mO_box, mO_build, mO_bsl, mO_bslF, mO_ldf, mO_ld, mO_st, mO_sta, mO_nilchk, mO_bin, mO_binb, mO_binp, mO_bins, mO_neg, mO_com, mO_not, mO_conv, mO_mk, mO_mk0, mO_s2b, mO_b2s, mO_cpy, mO_cut, mO_faddr, mO_fld, mO_iaddr, mO_iaddrf, mO_sidx, mO_len, mO_lenf, mO_slen, mO_scut, mO_app, mO_ext, mO_mx, mO_mn, mO_mkfn, evalOp, cutOp, argsE, ev, getE, putE, cellsOf, adopt, rowOf, binV, boolV, nilV, ar_add, ar_sub, ar_mul, ar_quo, ar_rem, ar_eq, ar_ne, ar_lt, ar_le, ar_gt, ar_ge, ar_and, ar_or, ar_xor, geto, bound, finRet, finNrm, ints, List.length_cons, List.length_nil, List.length_append, List.getElem?_cons_zero, List.getElem?_cons_succ, List.nil_append, List.cons_append, List.map_cons, List.map_nil, List.mapM_cons, List.mapM_nil, Option.map_some, Option.map_none, Option.bind_some, Option.pure_def, Option.bind_eq_bind, List.drop_zero, ↓reduceIte, Nat.reduceEqDiff, Nat.reduceAdd, Nat.reduceMul, Nat.reduceLeDiff, Nat.reduceLT, Int.reduceToNat, Int.reduceLT, Int.reduceLE, reduceCtorEq, or_self, or_false, false_or, or_true, true_or, true_and, and_true, and_self, decide_true, decide_false, Bool.false_eq_true, Bool.true_eq_false, Bool.not_true, Bool.not_false, Nat.le_refl, eq_self, gt_iff_lt, ge_iff_le, ne_eq, not_true_eq_false, not_false_eq_true, storeOp, apartOf, freeze_nil, refsL, refs, List.flatMap_cons, List.flatMap_nil, List.append_nil, List.contains_nil, List.set_cons_zero, List.set_cons_succ, snap, snapL, fill_nums, flat_nums, nums_length, hlt', hi0, Int.toNat_natCast, hst, hw]
    have hout : (List.take i ((List.range i).map v ++ List.replicate (n - i) 0) ++ v i :: List.drop (i + 1) ((List.range i).map v ++ List.replicate (n - i) 0)) = (List.range (i + 1)).map v ++ List.replicate (n - (i + 1)) 0 := by
      rw [List.take_left' (by simp), List.drop_append, List.drop_eq_nil_of_le (by simp), List.range_succ]
      simp
      omega
    rw [hout]
    have hlens : s.length = x.length := hxl.symm
    have hback : ∀ x' : List Int, (inc s x).1 = x' → x'.length = s.length ∧ (i + 1 < n → x' = (ix s ((i + 1 : Nat) : Int)).1) := fun x' hx' => by
      refine ⟨by rw [← hx', inc_len hlens, hxl], fun h => ?_⟩
      rw [← hx', hx]
      have := (inc_ix (s := s) (a := (i : Int)) (by omega) (hpos (by omega))).1
      rw [this]
      rfl
    have hhead : ∀ x' : List Int, (inc s x).1 = x' → headOf [0, 1, 7, 8, 24, 25] (some (3, [])) ⟨[(25, .int .i64 ((i + 1 : Nat) : Int)), (59, .int .i64 ((i + 1 : Nat) : Int)), (0, .sl s.length 1 (nums .i64 s)), (1, .fn f caps), (7, .arr 1 0), (8, .arr 2 0), (24, .int .i64 n), (25, .int .i64 i)], [⟨false, 3, 1, 0, 0, [], false⟩, ⟨false, 3, 1, 0, n, nums .i64 ((List.range (i + 1)).map v ++ List.replicate (n - (i + 1)) 0), false⟩, ⟨false, 3, 1, 0, s.length, nums .i64 x', false⟩]⟩ = some ⟨[(0, .sl s.length 1 (nums .i64 s)), (1, .fn f caps), (7, .arr 1 0), (8, .arr 2 0), (24, .int .i64 n), (25, .int .i64 ((i + 1 : Nat) : Int))],
        [⟨false, 3, 1, 0, 0, [], false⟩, ⟨false, 3, 1, 0, n, nums .i64 ((List.range (i + 1)).map v ++ List.replicate (n - (i + 1)) 0), false⟩, ⟨false, 3, 1, 0, s.length, nums .i64 x', false⟩]⟩ := fun x' _ => by
      simp only [headOf]
      exact (if_pos (by simp [under, underL, hu, getE])).trans rfl
    refine mLoop (fun N st => ∃ (j : Nat) (t : List Int) (jj : Int), j ≤ s.length ∧ N = j ∧ jj = (j : Int) - 1 ∧ inc (s.drop j) (x.drop j) = (t, true) ∧
      st = ⟨[(0, ints s), (1, .fn f caps), (7, .arr 1 0), (8, .arr 2 0), (10, .int .i64 jj), (24, .int .i64 n), (25, .int .i64 i)],
        [⟨false, 3, 1, 0, 0, [], false⟩, ⟨false, 3, 1, 0, n, nums .i64 ((List.range (i + 1)).map v ++ List.replicate (n - (i + 1)) 0), false⟩, ⟨false, 3, 1, 0, s.length, nums .i64 (x.take j ++ t), false⟩]⟩) s.length
      ⟨_, by simp only [headOf]; exact (if_pos (by simp [under, underL, hu, getE])).trans rfl, s.length, [], _, by omega, rfl, rfl, by rw [List.drop_length, List.drop_eq_nil_of_le (by omega), inc]; simp, by
        have : x.take s.length ++ [] = x := by rw [List.append_nil, List.take_of_length_le (by omega)]
        rw [this]
        rfl⟩ ?_
    rintro N s0 ⟨j, t, jj, hj, rfl, hjj, hinc, rfl⟩
    cases N with
    | zero =>
      have hj' : ¬ 0 ≤ jj := by omega
      rw [List.drop_zero, List.drop_zero] at hinc
      have hh : (inc s x).1 = t := by rw [hinc]
      simp only [b126_1, k126_0, mNil, nat0, beq_self_eq_true, mSkip, mRet, mExit, mReg, mSeq, mCond, mTrue, mFalse, mBlock, mLv, mCodeE, mCodeR, mEndN, mEndR, mEndE, mOps, mSome, mGuard, mGtt, mGff, mGtf, mGft, mGu, mCallP, mCallR, mCallF, mCallO, mCallZ, mCallG, mCallM, mCallV, loopQ_exit, loopQ_ret, mO_mov, mO_newnil, mO_pick, mO_alloc, mO_box, mO_build, mO_bsl, mO_bslF, mO_ldf, mO_ld, mO_st, mO_sta, mO_nilchk, mO_bin, mO_binb, mO_binp, mO_bins, mO_neg, mO_com, mO_not, mO_conv, mO_mk, mO_mk0, mO_s2b, mO_b2s, mO_cpy, mO_cut, mO_faddr, mO_fld, mO_iaddr, mO_iaddrf, mO_sidx, mO_len, mO_lenf, mO_slen, mO_scut, mO_app, mO_ext, mO_mx, mO_mn, mO_mkfn, evalOp, cutOp, argsE, ev, getE, putE, cellsOf, adopt, rowOf, binV, boolV, nilV, ar_add, ar_sub, ar_mul, ar_quo, ar_rem, ar_eq, ar_ne, ar_lt, ar_le, ar_gt, ar_ge, ar_and, ar_or, ar_xor, geto, bound, finRet, finNrm, ints, List.length_cons, List.length_nil, List.length_append, List.getElem?_cons_zero, List.getElem?_cons_succ, List.nil_append, List.cons_append, List.map_cons, List.map_nil, List.mapM_cons, List.mapM_nil, Option.map_some, Option.map_none, Option.bind_some, Option.pure_def, Option.bind_eq_bind, List.drop_zero, ↓reduceIte, Nat.reduceEqDiff, Nat.reduceAdd, Nat.reduceMul, Nat.reduceLeDiff, Nat.reduceLT, Int.reduceToNat, Int.reduceLT, Int.reduceLE, reduceCtorEq, or_self, or_false, false_or, or_true, true_or, true_and, and_true, and_self, decide_true, decide_false, Bool.false_eq_true, Bool.true_eq_false, Bool.not_true, Bool.not_false, Nat.le_refl, eq_self, gt_iff_lt, ge_iff_le, ne_eq, not_true_eq_false, not_false_eq_true, hj', hi1, List.take_zero]
      exact loopQ_go (hhead t hh) (n - (i + 1)) (by omega) ⟨i + 1, t, by omega, rfl, (hback t hh).1, (hback t hh).2, rfl⟩
    | succ m =>
      obtain rfl : jj = (m : Int) := by omega
      have hm : m < s.length := by omega
      have hm' : (m : Int) < (s.length : Int) := by omega
      have hm0 : (0 : Int) ≤ (m : Int) := by omega
      have hm1 : IntKind.i64.wrap ((m : Int) - 1) = (m : Int) - 1 := wrap_i64 (by omega) (by omega)
      have hsub := sub_nums (k := .i64) hm
      have hmx : m < x.length := by omega
      have htl : t.length = s.length - (m + 1) := by
        have := inc_len (s := s.drop (m + 1)) (x := x.drop (m + 1)) (by simp [hxl])
        rw [hinc] at this
        simpa [hxl] using this
      generalize hy : x.take (m + 1) ++ t = y at *
      have hyl : y.length = s.length := by rw [← hy]; simp; omega
      have hmy : m < y.length := by omega
      have hsuby := sub_nums (k := .i64) hmy
      have hyd : y.getD m 0 = x.getD m 0 := by
        rw [← hy]
        simp only [List.getD]
        rw [List.getElem?_append_left (by simp; omega), List.getElem?_take, if_pos (by omega)]
      have hy1 : y.take m = x.take m := by
        rw [← hy, List.take_append_of_le_length (by simp; omega), List.take_take, Nat.min_eq_left (by omega)]
      have hy2 : y.drop (m + 1) = t := by
        have e1 : (x.take (m + 1)).length = m + 1 := by simp; omega
        rw [← hy, List.drop_append, List.drop_eq_nil_of_le (by omega), e1]
        simp
      have hincm : inc (s.drop m) (x.drop m) = if x.getD m 0 + 1 < s.getD m 0 then ((x.getD m 0 + 1) :: t, false) else (0 :: t, true) := by
        rw [getD_drop hm, getD_drop hmx, inc, hinc, if_pos rfl]
      have hd := hd4 (s.getD m 0) (by simp [List.getD, hm])
      have hxm : 0 ≤ x.getD m 0 ∧ x.getD m 0 < s.getD m 0 := by
        rw [hx]
        exact ix_range (by omega) (hpos (by omega)) hm
      have hst := (show m * 1 + 1 ≤ y.length by omega)
      have hwx : IntKind.i64.wrap (x.getD m 0 + 1) = x.getD m 0 + 1 := wrap_i64 (by omega) (by omega)
      have hsub2 := sub_nums (k := .i64) (l := y.take m ++ (x.getD m 0 + 1) :: y.drop (m + 1)) (i := m) (by rw [set_len hmy]; exact hmy)
      rw [set_get hmy] at hsub2
      have hst2 : m * 1 + 1 ≤ (y.take m).length + ((y.drop (m + 1)).length + 1) := by simp; omega
      rw [hyd] at hsuby
      generalize hX : x.getD m 0 = X at *
      generalize hD : s.getD m 0 = D at *
      by_cases hlt2 : X + 1 < D
      · rw [if_pos hlt2] at hincm
        have hh : (inc s x).1 = y.take m ++ (X + 1) :: y.drop (m + 1) := by rw [inc_drop hlens (by omega) hincm, hy1, hy2]
        simp only [b126_1, k126_0, mNil, nat0, beq_self_eq_true, mSkip, mRet, mExit, mReg, mSeq, mCond, mTrue, mFalse, mBlock, mLv, mCodeE, mCodeR, mEndN, mEndR, mEndE, mOps, mSome, mGuard, mGtt, mGff, mGtf, mGft, mGu, mCallP, mCallR, mCallF, mCallO, mCallZ, mCallG, mCallM, mCallV, loopQ_exit, loopQ_ret, mO_mov, mO_newnil, mO_pick, mO_alloc, mO_box, mO_build, mO_bsl, mO_bslF, mO_ldf, mO_ld, mO_st, mO_sta, mO_nilchk, mO_bin, mO_binb, mO_binp, mO_bins, mO_neg, mO_com, mO_not, mO_conv, mO_mk, mO_mk0, mO_s2b, mO_b2s, mO_cpy, mO_cut, mO_faddr, mO_fld, mO_iaddr, mO_iaddrf, mO_sidx, mO_len, mO_lenf, mO_slen, mO_scut, mO_app, mO_ext, mO_mx, mO_mn, mO_mkfn, evalOp, cutOp, argsE, ev, getE, putE, cellsOf, adopt, rowOf, binV, boolV, nilV, ar_add, ar_sub, ar_mul, ar_quo, ar_rem, ar_eq, ar_ne, ar_lt, ar_le, ar_gt, ar_ge, ar_and, ar_or, ar_xor, geto, bound, finRet, finNrm, ints, List.length_cons, List.length_nil, List.length_append, List.getElem?_cons_zero, List.getElem?_cons_succ, List.nil_append, List.cons_append, List.map_cons, List.map_nil, List.mapM_cons, List.mapM_nil, Option.map_some, Option.map_none, Option.bind_some, Option.pure_def, Option.bind_eq_bind, List.drop_zero, ↓reduceIte, Nat.reduceEqDiff, Nat.reduceAdd, Nat.reduceMul, Nat.reduceLeDiff, Nat.reduceLT, Int.reduceToNat, Int.reduceLT, Int.reduceLE, reduceCtorEq, or_self, or_false, false_or, or_true, true_or, true_and, and_true, and_self, decide_true, decide_false, Bool.false_eq_true, Bool.true_eq_false, Bool.not_true, Bool.not_false, Nat.le_refl, eq_self, gt_iff_lt, ge_iff_le, ne_eq, not_true_eq_false, not_false_eq_true, storeOp, apartOf, freeze_nil, refsL, refs, List.flatMap_cons, List.flatMap_nil, List.append_nil, List.contains_nil, List.set_cons_zero, List.set_cons_succ, snap, snapL, fill_nums, flat_nums, nums_length, hm0, hm', Int.toNat_natCast, hsub, hsuby, hst, hwx, hsub2, hlt2, hi1]
        exact loopQ_go (hhead _ hh) (n - (i + 1)) (by omega) ⟨i + 1, _, by omega, rfl, (hback _ hh).1, (hback _ hh).2, rfl⟩
      · rw [if_neg hlt2] at hincm
        simp only [b126_1, k126_0, mNil, nat0, beq_self_eq_true, mSkip, mRet, mExit, mReg, mSeq, mCond, mTrue, mFalse, mBlock, mLv, mCodeE, mCodeR, mEndN, mEndR, mEndE, mOps, mSome, mGuard, mGtt, mGff, mGtf, mGft, mGu, mCallP, mCallR, mCallF, mCallO, mCallZ, mCallG, mCallM, mCallV, loopQ_exit, loopQ_ret, mO_mov, mO_newnil, mO_pick, mO_alloc, mO_box, mO_build, mO_bsl, mO_bslF, mO_ldf, mO_ld, mO_st, mO_sta, mO_nilchk, mO_bin, mO_binb, mO_binp, mO_bins, mO_neg, mO_com, mO_not, mO_conv, mO_mk, mO_mk0, mO_s2b, mO_b2s, mO_cpy, mO_cut, mO_faddr, mO_fld, mO_iaddr, mO_iaddrf, mO_sidx, mO_len, mO_lenf, mO_slen, mO_scut, mO_app, mO_ext, mO_mx, mO_mn, mO_mkfn, evalOp, cutOp, argsE, ev, getE, putE, cellsOf, adopt, rowOf, binV, boolV, nilV, ar_add, ar_sub, ar_mul, ar_quo, ar_rem, ar_eq, ar_ne, ar_lt, ar_le, ar_gt, ar_ge, ar_and, ar_or, ar_xor, geto, bound, finRet, finNrm, ints, List.length_cons, List.length_nil, List.length_append, List.getElem?_cons_zero, List.getElem?_cons_succ, List.nil_append, List.cons_append, List.map_cons, List.map_nil, List.mapM_cons, List.mapM_nil, Option.map_some, Option.map_none, Option.bind_some, Option.pure_def, Option.bind_eq_bind, List.drop_zero, ↓reduceIte, Nat.reduceEqDiff, Nat.reduceAdd, Nat.reduceMul, Nat.reduceLeDiff, Nat.reduceLT, Int.reduceToNat, Int.reduceLT, Int.reduceLE, reduceCtorEq, or_self, or_false, false_or, or_true, true_or, true_and, and_true, and_self, decide_true, decide_false, Bool.false_eq_true, Bool.true_eq_false, Bool.not_true, Bool.not_false, Nat.le_refl, eq_self, gt_iff_lt, ge_iff_le, ne_eq, not_true_eq_false, not_false_eq_true, storeOp, apartOf, freeze_nil, refsL, refs, List.flatMap_cons, List.flatMap_nil, List.append_nil, List.contains_nil, List.set_cons_zero, List.set_cons_succ, snap, snapL, fill_nums, flat_nums, nums_length, hm0, hm', Int.toNat_natCast, hsub, hsuby, hst, hst2, hwx, hsub2, hlt2, hm1, set_set hmy]
        refine loopQ_go (s2 := ⟨[(0, ints s), (1, .fn f caps), (7, .arr 1 0), (8, .arr 2 0), (10, .int .i64 ((m : Int) - 1)), (24, .int .i64 n), (25, .int .i64 i)],
          [⟨false, 3, 1, 0, 0, [], false⟩, ⟨false, 3, 1, 0, n, nums .i64 ((List.range (i + 1)).map v ++ List.replicate (n - (i + 1)) 0), false⟩, ⟨false, 3, 1, 0, s.length, nums .i64 (y.take m ++ 0 :: y.drop (m + 1)), false⟩]⟩) ?_ m (by omega) ⟨m, 0 :: t, _, by omega, rfl, rfl, hincm, ?_⟩
        · simp only [headOf]
          exact (if_pos (by simp [under, underL, hu, getE])).trans rfl
        · rw [← hy1, ← hy2]
          rfl
  · have hlt' : ¬ (i : Int) < (n : Int) := by omega
    obtain rfl : i = n := by omega
    simp only [b126_0, k126_1, mNil, nat0, beq_self_eq_true, mSkip, mRet, mExit, mReg, mSeq, mCond, mTrue, mFalse, mBlock, mLv, mCodeE, mCodeR, mEndN, mEndR, mEndE, mOps, mSome, mGuard, mGtt, mGff, mGtf, mGft, mGu, mCallP, mCallR, mCallF, mCallO, mCallZ, mCallG, mCallM, mCallV, loopQ_exit, loopQ_ret, mO_mov, mO_newnil, mO_pick, mO_alloc, mO_box, mO_build, mO_bsl, mO_bslF, mO_ldf, mO_ld, mO_st, mO_sta, mO_nilchk, mO_bin, mO_binb, mO_binp, mO_bins, mO_neg, mO_com, mO_not, mO_conv, mO_mk, mO_mk0, mO_s2b, mO_b2s, mO_cpy, mO_cut, mO_faddr, mO_fld, mO_iaddr, mO_iaddrf, mO_sidx, mO_len, mO_lenf, mO_slen, mO_scut, mO_app, mO_ext, mO_mx, mO_mn, mO_mkfn, evalOp, cutOp, argsE, ev, getE, putE, cellsOf, adopt, rowOf, binV, boolV, nilV, ar_add, ar_sub, ar_mul, ar_quo, ar_rem, ar_eq, ar_ne, ar_lt, ar_le, ar_gt, ar_ge, ar_and, ar_or, ar_xor, geto, bound, finRet, finNrm, ints, List.length_cons, List.length_nil, List.length_append, List.getElem?_cons_zero, List.getElem?_cons_succ, List.nil_append, List.cons_append, List.map_cons, List.map_nil, List.mapM_cons, List.mapM_nil, Option.map_some, Option.map_none, Option.bind_some, Option.pure_def, Option.bind_eq_bind, List.drop_zero, ↓reduceIte, Nat.reduceEqDiff, Nat.reduceAdd, Nat.reduceMul, Nat.reduceLeDiff, Nat.reduceLT, Int.reduceToNat, Int.reduceLT, Int.reduceLE, reduceCtorEq, or_self, or_false, false_or, or_true, true_or, true_and, and_true, and_self, decide_true, decide_false, Bool.false_eq_true, Bool.true_eq_false, Bool.not_true, Bool.not_false, Nat.le_refl, eq_self, gt_iff_lt, ge_iff_le, ne_eq, not_true_eq_false, not_false_eq_true, hlt']
    simp only [i126, Out, resAll, geto, ints, List.getElem?_cons_zero, List.getElem?_cons_succ, resOf, outOf, snap, snapL, ev, getE, List.mapM_cons, List.mapM_nil, Option.bind_some, Option.pure_def, Option.bind_eq_bind, Option.map_some, reduceIte, Nat.reduceEqDiff, true_and, and_true, Nat.sub_self, List.replicate_zero, List.append_nil, List.length_map, List.length_range]
end
end Go.Proofs.Ytlejgleocnemoaa.I

namespace Go.Proofs.Ytlejgleocnemoaa.I
open Go Go.V
attribute [local go_sem] mNil nat0 beq_self_eq_true mSkip mRet mExit mReg mSeq mCond mTrue mFalse mBlock mLv mCodeE mCodeR mEndN mEndR mEndE mOps mSome mGuard mGtt mGff mGtf mGft mGu mCallP mCallR mCallF mCallO mCallZ mCallG mCallM mCallV loopQ_exit loopQ_ret mO_mov mO_newnil mO_pick mO_alloc mO_box mO_build mO_bsl mO_bslF mO_ldf mO_ld mO_st mO_sta mO_nilchk mO_bin mO_binb mO_binp mO_bins mO_neg mO_com mO_not mO_conv mO_mk mO_mk0 mO_s2b mO_b2s mO_cpy mO_cut mO_faddr mO_fld mO_iaddr mO_iaddrf mO_sidx mO_len mO_lenf mO_slen mO_scut mO_app mO_ext mO_mx mO_mn mO_mkfn evalOp cutOp argsE ev getE putE cellsOf adopt rowOf binV boolV nilV ar_add ar_sub ar_mul ar_quo ar_rem ar_eq ar_ne ar_lt ar_le ar_gt ar_ge ar_and ar_or ar_xor geto bound finRet finNrm ints List.length_cons List.length_nil List.length_append List.getElem?_cons_zero List.getElem?_cons_succ List.nil_append List.cons_append List.map_cons List.map_nil List.mapM_cons List.mapM_nil Option.map_some Option.map_none Option.bind_some Option.pure_def Option.bind_eq_bind List.drop_zero or_self or_false false_or or_true true_or true_and and_true and_self decide_true decide_false Bool.false_eq_true Bool.true_eq_false Bool.not_true Bool.not_false Nat.le_refl eq_self gt_iff_lt ge_iff_le ne_eq not_true_eq_false not_false_eq_true storeOp apartOf freeze_nil refsL refs List.flatMap_cons List.flatMap_nil List.append_nil List.contains_nil List.set_cons_zero List.set_cons_succ snap snapL fill_nums flat_nums nums_length Go.V.freeze List.mapIdx_cons List.mapIdx_nil List.contains_cons Bool.or_false Bool.false_or Bool.or_true Bool.true_or
section
variable {E : CallRel}
end
end Go.Proofs.Ytlejgleocnemoaa.I

namespace Go.Proofs.Ytlejgleocnemoaa.I
open Go Go.V
attribute [local go_sem_proc ↓] reduceIte
attribute [local go_sem_proc] Nat.reduceEqDiff Nat.reduceAdd Nat.reduceMul Nat.reduceLeDiff Nat.reduceLT Int.reduceToNat Int.reduceLT Int.reduceLE reduceCtorEq Nat.reduceBEq
attribute [local go_sem] mNil nat0 beq_self_eq_true mSkip mRet mExit mReg mSeq mCond mTrue mFalse mBlock mLv mCodeE mCodeR mEndN mEndR mEndE mOps mSome mGuard mGtt mGff mGtf mGft mGu mCallP mCallR mCallF mCallO mCallZ mCallG mCallM mCallV loopQ_exit loopQ_ret mO_mov mO_newnil mO_pick mO_alloc mO_box mO_build mO_bsl mO_bslF mO_ldf mO_ld mO_st mO_sta mO_nilchk mO_bin mO_binb mO_binp mO_bins mO_neg mO_com mO_not mO_conv mO_mk mO_mk0 mO_s2b mO_b2s mO_cpy mO_cut mO_faddr mO_fld mO_iaddr mO_iaddrf mO_sidx mO_len mO_lenf mO_slen mO_scut mO_app mO_ext mO_mx mO_mn mO_mkfn evalOp cutOp argsE ev getE putE cellsOf adopt rowOf binV boolV nilV ar_add ar_sub ar_mul ar_quo ar_rem ar_eq ar_ne ar_lt ar_le ar_gt ar_ge ar_and ar_or ar_xor geto bound finRet finNrm ints List.length_cons List.length_nil List.length_append List.getElem?_cons_zero List.getElem?_cons_succ List.nil_append List.cons_append List.map_cons List.map_nil List.mapM_cons List.mapM_nil Option.map_some Option.map_none Option.bind_some Option.pure_def Option.bind_eq_bind List.drop_zero or_self or_false false_or or_true true_or true_and and_true and_self decide_true decide_false Bool.false_eq_true Bool.true_eq_false Bool.not_true Bool.not_false Nat.le_refl eq_self gt_iff_lt ge_iff_le ne_eq not_true_eq_false not_false_eq_true storeOp apartOf freeze_nil refsL refs List.flatMap_cons List.flatMap_nil List.append_nil List.contains_nil List.set_cons_zero List.set_cons_succ snap snapL fill_nums flat_nums nums_length Go.V.freeze List.mapIdx_cons List.mapIdx_nil List.contains_cons Bool.or_false Bool.false_or Bool.or_true Bool.true_or
def wi (s : List Int) (a n : Int) : List Int := if 0 ≤ a ∧ a < s.length then s.take a.toNat ++ n :: s.drop (a.toNat + 1) else s
def wo (s : List Int) (a : Int) : List Int := if 0 ≤ a ∧ a < s.length then s.take a.toNat ++ s.drop (a.toNat + 1) else s
theorem wo_len {s : List Int} {a : Int} : (wo s a).length ≤ s.length := by
  unfold wo
  split
  · simp; omega
  · exact Nat.le_refl _
section
variable {E : CallRel}
end
theorem c92_ok {s : List Int} {a : Int} (hs : (s.length : Int) ≤ 100000000000) (ha : In64 a) : Go.V.Call tab E 92 [ints s, .int .i64 a] [] (ints (wo s a)) [] := by
  refine Go.V.Call.mach i92 c92 rfl rfl rfl rfl ?_
  by_cases h0 : a < 0
  · simp only [c92, go_sem, h0]
    refine goO (c102_ok (by omega)) rfl rfl ?_
    simp only [go_sem, fillAll, fillIn, shiftR, shiftV, List.take_succ_cons, List.take_zero, List.drop_succ_cons, List.drop_zero, List.append_nil, Nat.zero_add]
    simp only [i92, Out, resAll, geto, ints, List.getElem?_cons_zero, List.getElem?_cons_succ, resOf, outOf, snap, snapL, ev, getE, List.mapM_cons, List.mapM_nil, Option.bind_some, Option.pure_def, Option.bind_eq_bind, Option.map_some, reduceIte, Nat.reduceEqDiff, true_and, and_true, wo, show ¬ 0 ≤ a by omega, false_and]
  · by_cases h1 : (s.length : Int) ≤ a
    · simp only [c92, go_sem, h0, h1]
      refine goO (c102_ok (by omega)) rfl rfl ?_
      simp only [go_sem, fillAll, fillIn, shiftR, shiftV, List.take_succ_cons, List.take_zero, List.drop_succ_cons, List.drop_zero, List.append_nil, Nat.zero_add]
      simp only [i92, Out, resAll, geto, ints, List.getElem?_cons_zero, List.getElem?_cons_succ, resOf, outOf, snap, snapL, ev, getE, List.mapM_cons, List.mapM_nil, Option.bind_some, Option.pure_def, Option.bind_eq_bind, Option.map_some, reduceIte, Nat.reduceEqDiff, true_and, and_true, wo, show ¬ a < (s.length : Int) by omega, and_false]
    · obtain ⟨k, rfl⟩ := Int.eq_ofNat_of_zero_le (show 0 ≤ a by omega)
      have hk0 : (0 : Int) ≤ (k : Int) := by omega
      have hks : (k : Int) ≤ (s.length : Int) := by omega
      have hk1 : IntKind.i64.wrap ((k : Int) + 1) = ((k + 1 : Nat) : Int) := by rw [wrap_i64 (by omega) (by omega)]; omega
      have hk2 : (0 : Int) ≤ ((k + 1 : Nat) : Int) := by omega
      have hk3 : ((k + 1 : Nat) : Int) ≤ (s.length : Int) := by omega
      have hc1 := cut_to (k := .i64) (t := s) (m := k) (by omega)
      have hc2 := cut_nums (s := s) (k := k + 1) (by omega)
      simp only [c92, go_sem, h0, h1, hk0, hks, hk1, hk2, hk3, Int.toNat_natCast, Nat.sub_zero, hc1, hc2, List.flatten_cons, List.flatten_nil, Option.getD_some]
      refine goF (c101_ok (L := [s.take k, s.drop (k + 1)]) (by simp) (by simp [lensum]; omega)) ?_
      simp only [go_sem, fillAll, fillIn, shiftR, shiftV, List.take_succ_cons, List.take_zero, List.drop_succ_cons, List.drop_zero, List.append_nil, Nat.zero_add]
      have : wo s (k : Int) = [s.take k, s.drop (k + 1)].flatten := by
        unfold wo
        rw [if_pos (by omega)]
        simp
      rw [this]
      simp only [i92, Out, resAll, geto, ints, List.getElem?_cons_zero, List.getElem?_cons_succ, resOf, outOf, snap, snapL, ev, getE, List.mapM_cons, List.mapM_nil, Option.bind_some, Option.pure_def, Option.bind_eq_bind, Option.map_some, reduceIte, Nat.reduceEqDiff, true_and, and_true]
def mprd : List Int → Int
  | [] => 1
  | d :: ds => max 1 d * mprd ds
theorem mprd_pos : ∀ {s : List Int}, 1 ≤ mprd s
  | [] => Int.le_refl _
  | d :: ds => by
    have h1 := mprd_pos (s := ds)
    have h2 : 1 ≤ max 1 d := by rw [max1]; split <;> omega
    have := Int.mul_le_mul_of_nonneg_left (a := 1) (b := mprd ds) (c := max 1 d) h1 (by omega)
    rw [mprd]
    omega
theorem mprd_append : ∀ {s t : List Int}, mprd (s ++ t) = mprd s * mprd t
  | [], t => by rw [List.nil_append, mprd, Int.one_mul]
  | d :: ds, t => by rw [List.cons_append, mprd, mprd, mprd_append, Int.mul_assoc]
theorem cnt_iff : ∀ {s : List Int} {most n : Int}, 1 ≤ most → most ≤ 4096 → ((∀ d ∈ s, 0 ≤ d) ∧ most * mprd s ≤ 4096 → cnt most n s = some (n * prd s)) ∧ (cnt most n s ≠ none → (∀ d ∈ s, 0 ≤ d) ∧ most * mprd s ≤ 4096)
  | [], most, n, h1, h2 => ⟨fun _ => by rw [cnt, prd, Int.mul_one], fun _ => ⟨fun d hd => by simp at hd, by rw [mprd, Int.mul_one]; exact h2⟩⟩
  | d :: ds, most, n, h1, h2 => by
    have hmx : 1 ≤ max 1 d := by rw [max1]; split <;> omega
    have hmm : 1 ≤ most * max 1 d := by
      have := Int.mul_le_mul_of_nonneg_left (a := 1) (b := max 1 d) (c := most) hmx (by omega)
      omega
    have hp := mprd_pos (s := ds)
    rw [cnt, mprd, prd]
    refine ⟨fun ⟨h3, h4⟩ => ?_, fun h => ?_⟩
    · have hd := h3 d (by simp)
      have h5 : most * max 1 d ≤ 4096 := by
        have := Int.mul_le_mul_of_nonneg_left (a := 1) (b := mprd ds) (c := most * max 1 d) hp (by omega)
        rw [← Int.mul_assoc] at h4
        omega
      rw [if_neg (by omega), (cnt_iff hmm h5).1 ⟨fun x hx => h3 x (by simp [hx]), by rw [Int.mul_assoc]; exact h4⟩, Int.mul_assoc]
    · split at h
      · exact absurd rfl h
      · rename_i hno
        obtain ⟨h3, h4⟩ := (cnt_iff hmm (by omega)).2 h
        refine ⟨fun x hx => ?_, by rw [← Int.mul_assoc]; exact h4⟩
        rcases List.mem_cons.1 hx with rfl | hx
        · omega
        · exact h3 x hx
theorem count_iff {s : List Int} : (s.length ≤ 8 ∧ (∀ d ∈ s, 0 ≤ d) ∧ mprd s ≤ 4096 → count s = some (prd s)) ∧ (count s ≠ none → s.length ≤ 8 ∧ (∀ d ∈ s, 0 ≤ d) ∧ mprd s ≤ 4096) := by
  unfold count
  obtain ⟨h1, h2⟩ := cnt_iff (s := s) (most := 1) (n := 1) (by omega) (by omega)
  refine ⟨fun ⟨h3, h4, h5⟩ => ?_, fun h => ?_⟩
  · rw [if_neg (by omega), h1 ⟨h4, by rw [Int.one_mul]; exact h5⟩, Int.one_mul]
  · split at h
    · exact absurd rfl h
    · obtain ⟨h3, h4⟩ := h2 h
      exact ⟨by omega, h3, by rwa [Int.one_mul] at h4⟩
theorem count_parts {s : List Int} (h : count s ≠ none) (k : Nat) : count (s.take k) = some (prd (s.take k)) ∧ count (s.drop k) = some (prd (s.drop k)) ∧ 0 ≤ prd (s.take k) ∧ prd (s.take k) ≤ 4096 ∧ 0 ≤ prd (s.drop k) ∧ prd (s.drop k) ≤ 4096 := by
  obtain ⟨h1, h2, h3⟩ := count_iff.2 h
  have hs : s = s.take k ++ s.drop k := (List.take_append_drop k s).symm
  have hm := mprd_append (s := s.take k) (t := s.drop k)
  rw [← hs] at hm
  have p1 := mprd_pos (s := s.take k)
  have p2 := mprd_pos (s := s.drop k)
  have q1 : mprd (s.take k) ≤ mprd s := by
    have := Int.mul_le_mul_of_nonneg_left (a := 1) (b := mprd (s.drop k)) (c := mprd (s.take k)) p2 (by omega)
    omega
  have q2 : mprd (s.drop k) ≤ mprd s := by
    have := Int.mul_le_mul_of_nonneg_right (a := 1) (b := mprd (s.take k)) (c := mprd (s.drop k)) p1 (by omega)
    omega
  have c1 := count_iff.1 ⟨by simp; omega, fun d hd => h2 d (List.mem_of_mem_take hd), (by omega : mprd (s.take k) ≤ 4096)⟩
  have c2 := count_iff.1 ⟨by simp; omega, fun d hd => h2 d (List.mem_of_mem_drop hd), (by omega : mprd (s.drop k) ≤ 4096)⟩
  obtain ⟨_, _, b1⟩ := count_bound c1
  obtain ⟨_, _, b2⟩ := count_bound c2
  have b1 := b1 (s.take k).length
  have b2 := b2 (s.drop k).length
  rw [List.take_length] at b1 b2
  exact ⟨c1, c2, b1.1, b1.2, b2.1, b2.2⟩
def spl (s : List Int) (a : Int) : AV :=
  if count s = none ∨ a < 0 ∨ (s.length : Int) ≤ a then .tup [.int .i64 0, .int .i64 0, .int .i64 0, .bool false]
  else .tup [.int .i64 (prd (s.take a.toNat)), .int .i64 (s.getD a.toNat 0), .int .i64 (prd (s.drop (a.toNat + 1))), .bool true]
section
variable {E : CallRel}
theorem c103_ok {s : List Int} {a : Int} (hs : ∀ d ∈ s, In64 d) (hl : (s.length : Int) ≤ 1000000000000) (ha : In64 a) : Go.V.Call tab E 103 [ints s, .int .i64 a] [] (spl s a) [] := by
  refine Go.V.Call.mach i103 c103 rfl rfl rfl rfl ?_
  simp only [c103, go_sem]
  refine goP (c83_ok hs (by omega)) ?_
  cases hc : count s with
  | none =>
    simp only [optP, go_sem]
    simp only [i103, Out, resAll, geto, ints, List.getElem?_cons_zero, List.getElem?_cons_succ, resOf, outOf, snap, snapL, ev, getE, List.mapM_cons, List.mapM_nil, Option.bind_some, Option.pure_def, Option.bind_eq_bind, Option.map_some, reduceIte, Nat.reduceEqDiff, true_and, and_true, spl, hc, true_or]
  | some m =>
    by_cases h0 : a < 0
    · simp only [optP, go_sem, h0]
      simp only [i103, Out, resAll, geto, ints, List.getElem?_cons_zero, List.getElem?_cons_succ, resOf, outOf, snap, snapL, ev, getE, List.mapM_cons, List.mapM_nil, Option.bind_some, Option.pure_def, Option.bind_eq_bind, Option.map_some, reduceIte, Nat.reduceEqDiff, true_and, and_true, spl, h0, true_or, or_true]
    · by_cases h1 : (s.length : Int) ≤ a
      · simp only [optP, go_sem, h0, h1]
        simp only [i103, Out, resAll, geto, ints, List.getElem?_cons_zero, List.getElem?_cons_succ, resOf, outOf, snap, snapL, ev, getE, List.mapM_cons, List.mapM_nil, Option.bind_some, Option.pure_def, Option.bind_eq_bind, Option.map_some, reduceIte, Nat.reduceEqDiff, true_and, and_true, spl, h1, or_true]
      · obtain ⟨k, rfl⟩ := Int.eq_ofNat_of_zero_le (show 0 ≤ a by omega)
        have hne : count s ≠ none := by rw [hc]; simp
        obtain ⟨g1, _, g3, g4, _, _⟩ := count_parts hne k
        obtain ⟨_, g2, _, _, g5, g6⟩ := count_parts hne (k + 1)
        have hk0 : (0 : Int) ≤ (k : Int) := by omega
        have hks : (k : Int) ≤ (s.length : Int) := by omega
        have hlt : k < s.length := by omega
        have hlt' : (k : Int) < (s.length : Int) := by omega
        have hk1 : IntKind.i64.wrap ((k : Int) + 1) = ((k + 1 : Nat) : Int) := by rw [wrap_i64 (by omega) (by omega)]; omega
        have hk2 : (0 : Int) ≤ ((k + 1 : Nat) : Int) := by omega
        have hk3 : ((k + 1 : Nat) : Int) ≤ (s.length : Int) := by omega
        have hc1 := cut_to (k := .i64) (t := s) (m := k) (by omega)
        have hc2 := cut_nums (s := s) (k := k + 1) (by omega)
        have hsub := sub_nums (k := .i64) hlt
        have hspl : spl s (k : Int) = .tup [.int .i64 (prd (s.take k)), .int .i64 (s.getD k 0), .int .i64 (prd (s.drop (k + 1))), .bool true] := by
          rw [spl, if_neg (by rw [hc]; simp; omega)]
          rfl
        simp only [optP, go_sem, h0, h1, hk0, hks, Int.toNat_natCast, Nat.sub_zero, hc1]
        refine goP (c83_ok (s := s.take k) (fun d hd => hs d (List.mem_of_mem_take hd)) (by simp; omega)) ?_
        rw [g1]
        simp only [optP, go_sem, hk0, hk1, hk2, hk3, Int.toNat_natCast, hc2]
        refine goP (c83_ok (s := s.drop (k + 1)) (fun d hd => hs d (List.mem_of_mem_drop hd)) (by simp; omega)) ?_
        rw [g2]
        simp only [optP, go_sem, hk0, hlt', Int.toNat_natCast, hsub]
        simp only [i103, Out, resAll, geto, ints, List.getElem?_cons_zero, List.getElem?_cons_succ, resOf, outOf, snap, snapL, ev, getE, List.mapM_cons, List.mapM_nil, Option.bind_some, Option.pure_def, Option.bind_eq_bind, Option.map_some, reduceIte, Nat.reduceEqDiff, true_and, and_true, hspl]
end
def alo (m n : Nat) (v : Nat → Nat → Nat) (c : Nat) : Int := ((((c / n / m) * m + v ((c / n / m) * n + c % n) (c / n % m)) * n + c % n : Nat) : Int)
def alos (m n : Nat) (v : Nat → Nat → Nat) (c : Nat) : List Int := (List.range c).map (alo m n v)
theorem alos_len {m n c : Nat} {v : Nat → Nat → Nat} : (alos m n v c).length = c := by simp [alos]
theorem alo_at {m n o i j : Nat} {v : Nat → Nat → Nat} (hi : i < m) (hj : j < n) : alo m n v ((o * m + i) * n + j) = (((o * m + v (o * n + j) i) * n + j : Nat) : Int) := by
  have e1 : ((o * m + i) * n + j) % n = j := by rw [Nat.mul_comm, Nat.mul_add_mod, Nat.mod_eq_of_lt hj]
  have e2 : ((o * m + i) * n + j) / n = o * m + i := by rw [Nat.mul_comm, Nat.mul_add_div (by omega), Nat.div_eq_of_lt hj, Nat.add_zero]
  have e3 : (o * m + i) % m = i := by rw [Nat.mul_comm, Nat.mul_add_mod, Nat.mod_eq_of_lt hi]
  have e4 : (o * m + i) / m = o := by rw [Nat.mul_comm, Nat.mul_add_div (by omega), Nat.div_eq_of_lt hi, Nat.add_zero]
  rw [alo, e1, e2, e3, e4]
theorem alos_snoc {m n o i j : Nat} {v : Nat → Nat → Nat} (hi : i < m) (hj : j < n) : alos m n v ((o * m + i) * n + (j + 1)) = alos m n v ((o * m + i) * n + j) ++ [(((o * m + v (o * n + j) i) * n + j : Nat) : Int)] := by
  rw [← Nat.add_assoc, alos, List.range_succ, List.map_append, ← alo_at (v := v) hi hj]
  rfl
theorem mul_step {a b m : Nat} (h : a < b) : a * m + m ≤ b * m := by
  have := Nat.mul_le_mul_right m (show a + 1 ≤ b from h)
  rwa [Nat.succ_mul] at this
theorem alo_small {q m n o i j x : Nat} (h : q * m * n ≤ 4096) (ho : o < q) (hi : i < m) (hj : j < n) (hx : x < m) :
    o * m ≤ 4096 ∧ o * n + j < q * n ∧ o * n ≤ 4096 ∧ o * m + x ≤ 4096 ∧ (o * m + x) * n ≤ 4096 ∧ (o * m + x) * n + j < q * m * n ∧ (o * m + i) * n + j < q * m * n := by
  have h1 := mul_step (m := m) ho
  have h2 := mul_step (m := n) (show o * m + x < q * m by omega)
  have h3 := mul_step (m := n) (show o * m + i < q * m by omega)
  have h4 := mul_step (m := n) ho
  have h5 : q * m ≤ q * m * n := Nat.le_mul_of_pos_right _ (by omega)
  have h6 : q * n ≤ q * m * n := Nat.mul_le_mul_right n (Nat.le_mul_of_pos_right _ (by omega))
  refine ⟨by omega, by omega, by omega, by omega, by omega, by omega, by omega⟩
theorem prd_split {s : List Int} {k : Nat} (h : k < s.length) : prd s = prd (s.take k) * s.getD k 0 * prd (s.drop (k + 1)) := by
  induction s generalizing k with
  | nil => simp at h
  | cons d ds ih =>
    cases k with
    | zero => simp [prd]
    | succ k =>
      have := ih (k := k) (by simp at h; omega)
      rw [List.take_succ_cons, List.drop_succ_cons, List.getD_cons_succ, prd, prd, this, ← Int.mul_assoc, ← Int.mul_assoc]
theorem cut_shape {s : List Int} {n : Int} {k : Nat} (hc : count s = some n) (hk : k < s.length) : ∃ q m r : Nat, prd (s.take k) = q ∧ s.getD k 0 = m ∧ prd (s.drop (k + 1)) = r ∧ n = (q * m * r : Nat) ∧ q * m * r ≤ 4096 ∧ q ≤ 4096 ∧ m ≤ 4096 ∧ r ≤ 4096 := by
  have hne : count s ≠ none := by rw [hc]; simp
  obtain ⟨_, _, a1, a2, _, _⟩ := count_parts hne k
  obtain ⟨_, _, _, _, b1, b2⟩ := count_parts hne (k + 1)
  obtain ⟨_, hd, hp⟩ := count_bound hc
  have hm := hd (s.getD k 0) (by simp [List.getD, hk])
  have hn := count_prd hc
  have hp := hp s.length
  rw [List.take_length, ← hn] at hp
  have hs := prd_split hk
  refine ⟨(prd (s.take k)).toNat, (s.getD k 0).toNat, (prd (s.drop (k + 1))).toNat, by omega, by omega, by omega, ?_, ?_, by omega, by omega, by omega⟩
  · rw [hn, hs]
    push_cast
    rw [Int.toNat_of_nonneg a1, Int.toNat_of_nonneg hm.1, Int.toNat_of_nonneg b1]
  · have : ((prd (s.take k)).toNat * (s.getD k 0).toNat * (prd (s.drop (k + 1))).toNat : Nat) = n := by
      rw [hn, hs]
      push_cast
      rw [Int.toNat_of_nonneg a1, Int.toNat_of_nonneg hm.1, Int.toNat_of_nonneg b1]
    omega
theorem wmul {a b : Nat} (h : a * b ≤ 1000000) : IntKind.i64.wrap ((a : Int) * (b : Int)) = ((a * b : Nat) : Int) := by
  rw [← Int.natCast_mul]
  generalize a * b = c at *
  exact wrap_i64 (by omega) (by omega)
theorem wadd {a b : Nat} (h : a + b ≤ 1000000) : IntKind.i64.wrap ((a : Int) + (b : Int)) = ((a + b : Nat) : Int) := by
  rw [wrap_i64 (by omega) (by omega)]; omega
def aloM (s t : List Int) (ch : Bool) (L : List Rt) (m n : Nat) (v : Nat → Nat → Nat) (c : Nat) : List AObj :=
  [⟨true, 28, 5, 0, 1, arrX s ch t L, false⟩, ⟨false, 3, 1, 0, 0, [], false⟩, ⟨false, 21, 1, 0, 0, [], false⟩, ⟨false, 59, 3, 0, 0, [], false⟩, ⟨true, 28, 5, 0, 1, [.arr 1 0, .bool false, .arr 2 0, .arr 3 0, .bool false], false⟩, ⟨false, 3, 1, c, c, nums .i64 (alos m n v c), false⟩]
set_option maxHeartbeats 1000000 in
theorem c89_ok {s t : List Int} {ch : Bool} {L : List Rt} {k q m n f : Nat} {caps : List AV} {v : Nat → Nat → Nat} (hs : ∀ d ∈ s, In64 d) (hlen : ((t.length + L.length : Nat) : Int) = ((q * m * n : Nat) : Int)) (ht : (t.length : Int) ≤ 1000000000) (hL : (L.length : Int) ≤ 1000000000)
    (hc : count s = some ((q * m * n : Nat) : Int)) (hk : k < s.length) (hq : prd (s.take k) = q) (hm : s.getD k 0 = m) (hn : prd (s.drop (k + 1)) = n) (h4 : q * m * n ≤ 4096) (hq4 : q ≤ 4096) (hm4 : m ≤ 4096) (hn4 : n ≤ 4096)
    (hcaps : ∀ mem, caps.mapM (fun c => snap mem 10 c) = some caps) (hu : underL 6 caps = true) (hv : ∀ a i : Nat, a < q * n → i < m → v a i < m)
    (hf : ∀ a i : Nat, a < q * n → i < m → Go.V.Call tab E f (.int .i64 a :: .int .i64 i :: .int .i64 m :: caps) [] (.int .i64 (v a i)) []) :
    Go.V.Call tab E 89 [.agg (arrX s ch t L), .int .i64 k, .fn f caps] [] (.tup [.agg (arrX s ch (picksT ch t (alos m n v (q * m * n))) (picksR ch L (alos m n v (q * m * n)))), .int .i64 0]) [] := by
  obtain ⟨hl8, hd4, hpr⟩ := count_bound hc
  refine Go.V.Call.mach i89 c89 rfl rfl rfl rfl ?_
  have h48 := c44_X (s := s) (t := t) (l := L) (ch := ch) (by omega)
  have h55 := c23_X (s := s) (t := t) (l := L) (ch := ch) (by omega) (by omega)
  have h122 := c103_ok (E := E) (s := s) (a := (k : Int)) hs (by omega) ⟨by omega, by omega⟩
  have h91 := c84_ok (s := s) (t := t) (s' := s) (ks := alos m n v (q * m * n)) (L := L) (ch := ch) hs (by omega) (by omega) (by omega) (by rw [alos_len]; omega)
  have hspl : spl s (k : Int) = .tup [.int .i64 q, .int .i64 m, .int .i64 n, .bool true] := by
    rw [spl, if_neg (by rw [hc]; simp; omega), Int.toNat_natCast, hq, hm, hn]
  have hfit : fits s (q * m * n) = true := by rw [fits, hc]; simp
  rw [hspl] at h122
  rw [alos_len, hfit, if_pos rfl, if_pos rfl] at h91
  rw [hlen] at h55
  have m1 : (0 : Int) ≤ ((q * m * n : Nat) : Int) := by omega
  have m2 : 8 * (q * m * n) ≤ 140737488355328 := by omega
  have m3 : ((q * m * n : Nat) : Int) ≤ 140737488355328 := by omega
  simp only [arrX, runes, ints] at h48 h55 h122 h91
  simp only [c89, arrX, runes, ints, go_sem, fillAll, fillIn, shiftR, shiftV, List.take_succ_cons, List.take_zero, List.drop_succ_cons, List.drop_zero, List.append_nil, Nat.zero_add, subA5, hcaps]
  refine goP h48 ?_
  simp only [go_sem, fillAll, fillIn, shiftR, shiftV, List.take_succ_cons, List.take_zero, List.drop_succ_cons, List.drop_zero, List.append_nil, Nat.zero_add, subA5]
  refine goP h122 ?_
  simp only [go_sem, fillAll, fillIn, shiftR, shiftV, List.take_succ_cons, List.take_zero, List.drop_succ_cons, List.drop_zero, List.append_nil, Nat.zero_add, subA5]
  refine goP h55 ?_
  simp only [go_sem, fillAll, fillIn, shiftR, shiftV, List.take_succ_cons, List.take_zero, List.drop_succ_cons, List.drop_zero, List.append_nil, Nat.zero_add, subA5, Int.toNat_natCast, m1, m2, m3]
  refine mLoop (fun N st => ∃ o : Nat, o ≤ q ∧ N = q - o ∧ st = ⟨[(2, .fn f caps), (3, .loc 0 0 0), (6, .loc 4 0 0), (8, ints s), (10, .int .i64 m), (11, .int .i64 n), (13, .arr 5 (o * m * n)), (30, .int .i64 q), (31, .int .i64 o)], aloM s t ch L m n v (o * m * n)⟩) q
    ⟨_, by simp only [headOf]; exact (if_pos (by simp [under, underL, hu, getE, aloM, arrX, ints, runes])).trans rfl, 0, by omega, by omega, by simp [getE, aloM, alos, arrX, ints, runes, nums]⟩ ?_
  rintro N s0 ⟨o, ho, rfl, rfl⟩
  by_cases hlt : o < q
  · have hlt' : (o : Int) < (q : Int) := by omega
    have ho1 : IntKind.i64.wrap ((o : Int) + 1) = ((o + 1 : Nat) : Int) := by rw [wrap_i64 (by omega) (by omega)]; omega
    simp only [b89_0, ints, go_sem, hlt']
    refine mLoop (fun N st => ∃ i : Nat, i ≤ m ∧ N = m - i ∧ st = ⟨[(2, .fn f caps), (3, .loc 0 0 0), (6, .loc 4 0 0), (8, ints s), (10, .int .i64 m), (11, .int .i64 n), (13, .arr 5 ((o * m + i) * n)), (14, .int .i64 o), (30, .int .i64 q), (31, .int .i64 o), (34, .int .i64 m), (35, .int .i64 i)], aloM s t ch L m n v ((o * m + i) * n)⟩) m
      ⟨_, by simp only [headOf]; exact (if_pos (by simp [under, underL, hu, getE, aloM, arrX, ints, runes])).trans rfl, 0, by omega, by omega, rfl⟩ ?_
    rintro N1 s1 ⟨i, hi, rfl, rfl⟩
    by_cases hlti : i < m
    · have hlti' : (i : Int) < (m : Int) := by omega
      have hi1 : IntKind.i64.wrap ((i : Int) + 1) = ((i + 1 : Nat) : Int) := by rw [wrap_i64 (by omega) (by omega)]; omega
      simp only [b89_1, ints, go_sem, hlti']
      refine mLoop (fun N st => ∃ j : Nat, j ≤ n ∧ N = n - j ∧ st = ⟨[(2, .fn f caps), (3, .loc 0 0 0), (6, .loc 4 0 0), (8, ints s), (10, .int .i64 m), (11, .int .i64 n), (13, .arr 5 ((o * m + i) * n + j)), (14, .int .i64 o), (15, .int .i64 i), (30, .int .i64 q), (31, .int .i64 o), (34, .int .i64 m), (35, .int .i64 i), (38, .int .i64 n), (39, .int .i64 j)], aloM s t ch L m n v ((o * m + i) * n + j)⟩) n
        ⟨_, by simp only [headOf]; exact (if_pos (by simp [under, underL, hu, getE, aloM, arrX, ints, runes])).trans rfl, 0, by omega, by omega, rfl⟩ ?_
      rintro N2 s2 ⟨j, hj, rfl, rfl⟩
      by_cases hltj : j < n
      · have hltj' : (j : Int) < (n : Int) := by omega
        have hj1 : IntKind.i64.wrap ((j : Int) + 1) = ((j + 1 : Nat) : Int) := by rw [wrap_i64 (by omega) (by omega)]; omega
        obtain ⟨a1, a2, a3, _, _, _, a7⟩ := alo_small h4 hlt hlti hltj hlti
        have hvm := hv (o * n + j) i a2 hlti
        obtain ⟨_, _, _, b4, b5, b6, _⟩ := alo_small h4 hlt hlti hltj hvm
        have hcall := hf (o * n + j) i a2 hlti
        have w1 := wmul (a := o) (b := m) (by omega)
        have w2 := wmul (a := o) (b := n) (by omega)
        have w3 := wadd (a := o * n) (b := j) (by omega)
        have w4 := wadd (a := o * m) (b := v (o * n + j) i) (by omega)
        have w5 := wmul (a := o * m + v (o * n + j) i) (b := n) (by omega)
        have w6 := wadd (a := (o * m + v (o * n + j) i) * n) (b := j) (by omega)
        have e1 : ((o * m + i) * n + j + 1) * 8 ≤ 140737488355328 := by omega
        have e2 : (o * m + i) * n + j + 1 ≤ 140737488355328 := by omega
        simp only [b89_2, ints, aloM, go_sem, fillAll, fillIn, shiftR, shiftV, List.take_succ_cons, List.take_zero, List.drop_succ_cons, List.drop_zero, List.append_nil, Nat.zero_add, hltj', w1, w2, w3]
        refine goFn (hcaps _) hcall rfl ?_
        simp only [go_sem, fillAll, fillIn, shiftR, shiftV, List.take_succ_cons, List.take_zero, List.drop_succ_cons, List.drop_zero, List.append_nil, Nat.zero_add, w4, w5, w6, hj1, e1, e2, List.flatten_cons, List.flatten_nil, Option.getD_some]
        refine loopQ_go (by simp only [headOf]; exact (if_pos (by simp [under, underL, hu, getE, aloM, arrX, ints, runes])).trans rfl) (n - (j + 1)) (by omega) ⟨j + 1, by omega, rfl, ?_⟩
        rw [alos_snoc hlti hltj, nums_app]
        rfl
      · have hltj' : ¬ (j : Int) < (n : Int) := by omega
        obtain rfl : j = n := by omega
        simp only [b89_2, k89_0, ints, go_sem, fillAll, fillIn, shiftR, shiftV, List.take_succ_cons, List.take_zero, List.drop_succ_cons, List.drop_zero, List.append_nil, Nat.zero_add, hltj', hi1]
        refine loopQ_go (by simp only [headOf]; exact (if_pos (by simp [under, underL, hu, getE, aloM, arrX, ints, runes])).trans rfl) (m - (i + 1)) (by omega) ⟨i + 1, by omega, rfl, ?_⟩
        rw [show (o * m + (i + 1)) * j = (o * m + i) * j + j by rw [← Nat.add_assoc, Nat.succ_mul]]
        rfl
    · have hlti' : ¬ (i : Int) < (m : Int) := by omega
      obtain rfl : i = m := by omega
      simp only [b89_1, k89_1, ints, go_sem, fillAll, fillIn, shiftR, shiftV, List.take_succ_cons, List.take_zero, List.drop_succ_cons, List.drop_zero, List.append_nil, Nat.zero_add, hlti', ho1]
      refine loopQ_go (by simp only [headOf]; exact (if_pos (by simp [under, underL, hu, getE, aloM, arrX, ints, runes])).trans rfl) (q - (o + 1)) (by omega) ⟨o + 1, by omega, rfl, ?_⟩
      rw [show (o + 1) * i * n = (o * i + i) * n by rw [Nat.succ_mul]]
      rfl
  · have hlt' : ¬ (o : Int) < (q : Int) := by omega
    obtain rfl : o = q := by omega
    rw [alos_len] at h91
    simp only [b89_0, k89_2, aloM, arrX, runes, ints, go_sem, fillAll, fillIn, shiftR, shiftV, List.take_succ_cons, List.take_zero, List.drop_succ_cons, List.drop_zero, List.append_nil, Nat.zero_add, subA5, hlt']
    refine goF h91 ?_
    simp only [go_sem, fillAll, fillIn, shiftR, shiftV, List.take_succ_cons, List.take_zero, List.drop_succ_cons, List.drop_zero, List.append_nil, Nat.zero_add, subA5]
    simp only [i89, Out, resAll, geto, ints, List.getElem?_cons_zero, List.getElem?_cons_succ, resOf, outOf, snap, snapL, ev, getE, List.mapM_cons, List.mapM_nil, Option.bind_some, Option.pure_def, Option.bind_eq_bind, Option.map_some, reduceIte, Nat.reduceEqDiff, true_and, and_true, subA5]
def revV (m : Nat) (_ i : Nat) : Nat := m - 1 - i
theorem c90_ok {a i m : Nat} (hi : i < m) (hm : m ≤ 4096) : Go.V.Call tab E 90 [.int .i64 a, .int .i64 i, .int .i64 m] [] (.int .i64 (revV m a i)) [] := by
  refine Go.V.Call.mach i90 c90 rfl rfl rfl rfl ?_
  have w1 : IntKind.i64.wrap ((m : Int) - 1) = (m : Int) - 1 := wrap_i64 (by omega) (by omega)
  have w2 : IntKind.i64.wrap ((m : Int) - 1 - (i : Int)) = ((revV m a i : Nat) : Int) := by
    rw [wrap_i64 (by omega) (by omega), revV]; omega
  simp only [c90, go_sem, w1, w2]
  simp only [i90, Out, resAll, geto, ints, List.getElem?_cons_zero, List.getElem?_cons_succ, resOf, outOf, snap, snapL, ev, getE, List.mapM_cons, List.mapM_nil, Option.bind_some, Option.pure_def, Option.bind_eq_bind, Option.map_some, reduceIte, Nat.reduceEqDiff, true_and, and_true]
section
variable {s t : List Int} {ch : Bool} {L : List Rt} {a : Int}
theorem c36_same (hsl : (s.length : Int) ≤ 1000000000) (h : s.length = 0 ∧ a < 0) : Go.V.Call tab E 36 [.agg (arrX s ch t L), .int .i64 a] [] (.tup [.agg (arrX s ch t L), .int .i64 0]) [] := by
  refine Go.V.Call.mach i36 c36 rfl rfl rfl rfl ?_
  have h56 := c66_X (s := s) (t := t) (l := L) (ch := ch) (by omega)
  obtain ⟨h1, h2⟩ := h
  have hq : ((s.length : Int) == 0) = true := by rw [h1]; rfl
  simp only [arrX, runes, ints] at h56
  simp only [c36, arrX, runes, ints, go_sem, fillAll, fillIn, shiftR, shiftV, List.take_succ_cons, List.take_zero, List.drop_succ_cons, List.drop_zero, List.append_nil, Nat.zero_add, subA5]
  refine goP h56 ?_
  simp only [go_sem, fillAll, fillIn, shiftR, shiftV, List.take_succ_cons, List.take_zero, List.drop_succ_cons, List.drop_zero, List.append_nil, Nat.zero_add, subA5, hq, h2]
  simp only [i36, Out, resAll, geto, ints, List.getElem?_cons_zero, List.getElem?_cons_succ, resOf, outOf, snap, snapL, ev, getE, List.mapM_cons, List.mapM_nil, Option.bind_some, Option.pure_def, Option.bind_eq_bind, Option.map_some, reduceIte, Nat.reduceEqDiff, true_and, and_true, subA5]
theorem c36_alo {q m n k : Nat} (h : ¬ (s.length = 0 ∧ a < 0)) (hsl : (s.length : Int) ≤ 1000000000) (hb : axB s a = true) (hk : axA s a = (k : Int)) {ks : List Int}
    (h97 : Go.V.Call tab E 89 [.agg (arrX s ch t L), .int .i64 k, .fn 90 []] [] (.tup [.agg (arrX s ch (picksT ch t ks) (picksR ch L ks)), .int .i64 0]) []) :
    Go.V.Call tab E 36 [.agg (arrX s ch t L), .int .i64 a] [] (.tup [.agg (arrX s ch (picksT ch t ks) (picksR ch L ks)), .int .i64 0]) [] := by
  refine Go.V.Call.mach i36 c36 rfl rfl rfl rfl ?_
  have h56 := c66_X (s := s) (t := t) (l := L) (ch := ch) (by omega)
  have h27 := c88_ok (s := s) (t := t) (ch := ch) (L := L) (a := a) hsl
  rw [hb, hk] at h27
  have hne : s.length ≠ 0 := by
    have h1 : axB s a = true := hb
    rw [axB, hk, Bool.and_eq_true, decide_eq_true_eq, decide_eq_true_eq] at h1
    omega
  have hq : ((s.length : Int) == 0) = false := beq_eq_false_iff_ne.2 (by omega)
  simp only [arrX, runes, ints] at h56 h27 h97
  simp only [c36, arrX, runes, ints, go_sem, fillAll, fillIn, shiftR, shiftV, List.take_succ_cons, List.take_zero, List.drop_succ_cons, List.drop_zero, List.append_nil, Nat.zero_add, subA5]
  refine goP h56 ?_
  simp only [go_sem, fillAll, fillIn, shiftR, shiftV, List.take_succ_cons, List.take_zero, List.drop_succ_cons, List.drop_zero, List.append_nil, Nat.zero_add, subA5, hq]
  refine goP h27 ?_
  simp only [go_sem, fillAll, fillIn, shiftR, shiftV, List.take_succ_cons, List.take_zero, List.drop_succ_cons, List.drop_zero, List.append_nil, Nat.zero_add, subA5]
  refine goP h97 ?_
  simp only [go_sem, fillAll, fillIn, shiftR, shiftV, List.take_succ_cons, List.take_zero, List.drop_succ_cons, List.drop_zero, List.append_nil, Nat.zero_add, subA5]
  simp only [i36, Out, resAll, geto, ints, List.getElem?_cons_zero, List.getElem?_cons_succ, resOf, outOf, snap, snapL, ev, getE, List.mapM_cons, List.mapM_nil, Option.bind_some, Option.pure_def, Option.bind_eq_bind, Option.map_some, reduceIte, Nat.reduceEqDiff, true_and, and_true, subA5]
end
end Go.Proofs.Ytlejgleocnemoaa.I

namespace Go.Proofs.Ytlejgleocnemoaa.I
open Go Go.V
attribute [local go_sem] mNil nat0 beq_self_eq_true mSkip mRet mExit mReg mSeq mCond mTrue mFalse mBlock mLv mCodeE mCodeR mEndN mEndR mEndE mOps mSome mGuard mGtt mGff mGtf mGft mGu mCallP mCallR mCallF mCallO mCallZ mCallG mCallM mCallV loopQ_exit loopQ_ret mO_mov mO_newnil mO_pick mO_alloc mO_box mO_build mO_bsl mO_bslF mO_ldf mO_ld mO_st mO_sta mO_nilchk mO_bin mO_binb mO_binp mO_bins mO_neg mO_com mO_not mO_conv mO_mk mO_mk0 mO_s2b mO_b2s mO_cpy mO_cut mO_faddr mO_fld mO_iaddr mO_iaddrf mO_sidx mO_len mO_lenf mO_slen mO_scut mO_app mO_ext mO_mx mO_mn mO_mkfn evalOp cutOp argsE ev getE putE cellsOf adopt rowOf binV boolV nilV ar_add ar_sub ar_mul ar_quo ar_rem ar_eq ar_ne ar_lt ar_le ar_gt ar_ge ar_and ar_or ar_xor geto bound finRet finNrm ints List.length_cons List.length_nil List.length_append List.getElem?_cons_zero List.getElem?_cons_succ List.nil_append List.cons_append List.map_cons List.map_nil List.mapM_cons List.mapM_nil Option.map_some Option.map_none Option.bind_some Option.pure_def Option.bind_eq_bind List.drop_zero or_self or_false false_or or_true true_or true_and and_true and_self decide_true decide_false Bool.false_eq_true Bool.true_eq_false Bool.not_true Bool.not_false Nat.le_refl eq_self gt_iff_lt ge_iff_le ne_eq not_true_eq_false not_false_eq_true storeOp apartOf freeze_nil refsL refs List.flatMap_cons List.flatMap_nil List.append_nil List.contains_nil List.set_cons_zero List.set_cons_succ snap snapL fill_nums flat_nums nums_length Go.V.freeze List.mapIdx_cons List.mapIdx_nil List.contains_cons Bool.or_false Bool.false_or Bool.or_true Bool.true_or
section
variable {s t : List Int} {ch : Bool} {l : List Nm} {a : Int}
end
theorem subOne {a : AV} : sub false 1 [a] 0 = some a := rfl
theorem tm_cases {x m : Int} (hm : 0 < m) : ((0 ≤ Int.tmod x m ∧ Int.tmod x m = x % m) ∨ (Int.tmod x m < 0 ∧ Int.tmod x m + m = x % m)) ∧ -m < Int.tmod x m ∧ Int.tmod x m < m := by
  have r1 := Int.emod_nonneg x (show m ≠ 0 by omega)
  have r2 := Int.emod_lt_of_pos x hm
  have h := Int.tmod_eq_emod (a := x) (b := m)
  rw [h]
  split
  · generalize x % m = r at *
    exact ⟨.inl ⟨by omega, by omega⟩, by omega, by omega⟩
  · rename_i hn
    have hz : x % m ≠ 0 := fun h => hn (.inr (Int.dvd_of_emod_eq_zero h))
    generalize x % m = r at *
    exact ⟨.inr ⟨by omega, by omega⟩, by omega, by omega⟩
theorem rot_mod {x m i : Int} (hm : 0 < m) (hi : 0 ≤ i ∧ i < m) : Int.tmod (Int.tmod (i + Int.tmod x m) m + m) m = (i + x) % m := by
  obtain ⟨_, b1, b2⟩ := tm_cases (x := x) hm
  obtain ⟨_, c1, c2⟩ := tm_cases (x := i + Int.tmod x m) hm
  have h1 := Int.tmod_add_mul_tdiv x m
  have h2 := Int.tmod_add_mul_tdiv (i + Int.tmod x m) m
  rw [Int.tmod_eq_emod_of_nonneg (by omega)]
  generalize Int.tmod (i + Int.tmod x m) m = t at *
  generalize Int.tdiv (i + Int.tmod x m) m = B at *
  generalize Int.tmod x m = r at *
  generalize Int.tdiv x m = A at *
  have h3 : t + m = (i + x) + m * (1 - A - B) := by
    rw [Int.mul_sub, Int.mul_sub, Int.mul_one]; omega
  rw [h3, Int.add_mul_emod_self_left]
def rotV (w : List Int) (one : Bool) (m : Nat) (a i : Nat) : Nat := (((i : Int) + w.getD (if one then 0 else a) 0) % (m : Int)).toNat
theorem rotV_lt {w : List Int} {one : Bool} {m a i : Nat} (hm : 0 < m) : rotV w one m a i < m ∧ ((rotV w one m a i : Nat) : Int) = ((i : Int) + w.getD (if one then 0 else a) 0) % (m : Int) := by
  have r1 := Int.emod_nonneg ((i : Int) + w.getD (if one then 0 else a) 0) (show (m : Int) ≠ 0 by omega)
  have r2 := Int.emod_lt_of_pos ((i : Int) + w.getD (if one then 0 else a) 0) (show 0 < (m : Int) by omega)
  rw [rotV]
  omega
theorem c93_ok {w : List Int} {one : Bool} {a i m : Nat} (hw : ∀ d ∈ w, In64 d) (ha : (if one then 0 else a) < w.length) (hi : i < m) (hm4 : m ≤ 4096) :
    Go.V.Call tab E 93 [.int .i64 a, .int .i64 i, .int .i64 m, .ptr [.bool one] 0, .ptr [ints w] 0] [] (.int .i64 (rotV w one m a i)) [] := by
  refine Go.V.Call.mach i93 c93 rfl rfl rfl rfl ?_
  have hmp : (0 : Int) < m := by omega
  have hr := (rotV_lt (w := w) (one := one) (m := m) (a := a) (i := i) (by omega)).2
  have hd := hw (w.getD (if one then 0 else a) 0) (by simp [List.getD, ha])
  have hsub := sub_nums (k := .i64) ha
  have hro := rot_mod (x := w.getD (if one then 0 else a) 0) (i := i) hmp ⟨by omega, by omega⟩
  obtain ⟨_, b1, b2⟩ := tm_cases (x := w.getD (if one then 0 else a) 0) hmp
  obtain ⟨_, d1, d2⟩ := tm_cases (x := (i : Int) + Int.tmod (w.getD (if one then 0 else a) 0) m) hmp
  rw [← hr] at hro
  obtain ⟨_, f1, f2⟩ := tm_cases (x := Int.tmod ((i : Int) + Int.tmod (w.getD (if one then 0 else a) 0) m) m + m) hmp
  have hne : ¬ (m : Int) = 0 := by omega
  have k0 : (0 : Int) ≤ (a : Int) := by omega
  cases one with
  | true =>
    simp only [if_true] at ha hsub hro b1 b2 d1 d2 f1 f2
    have ha' : (0 : Int) < (w.length : Int) := by omega
    have hsub0 : sub false 1 (nums .i64 w) ((0 : Int).toNat * 1) = some (.int .i64 (w.getD 0 0)) := hsub
    have hsub0' : sub false 1 (nums .i64 w) (0 * 1) = some (.int .i64 (w.getD 0 0)) := hsub
    generalize w.getD 0 0 = x at *
    generalize hxe : Int.tmod x m = x1 at *
    generalize hye : Int.tmod ((i : Int) + x1) m = y1 at *
    generalize hze : Int.tmod (y1 + m) m = z1 at *
    have w1 : IntKind.i64.wrap x1 = x1 := wrap_i64 (by omega) (by omega)
    have w2 : IntKind.i64.wrap ((i : Int) + x1) = (i : Int) + x1 := wrap_i64 (by omega) (by omega)
    have w3 : IntKind.i64.wrap y1 = y1 := wrap_i64 (by omega) (by omega)
    have w4 : IntKind.i64.wrap (y1 + m) = y1 + m := wrap_i64 (by omega) (by omega)
    have w5 : IntKind.i64.wrap z1 = z1 := wrap_i64 (by omega) (by omega)
    simp only [c93, ints, go_sem, ↓reduceIte, Nat.reduceEqDiff, Nat.reduceAdd, Nat.reduceMul, Nat.reduceLeDiff, Nat.reduceLT, Int.reduceToNat, Int.reduceLT, Int.reduceLE, reduceCtorEq, Nat.reduceBEq, subOne, hne, ha', Int.le_refl, hsub0, hsub0', Nat.zero_mul, hsub, hxe, hye, hze, w1, w2, w3, w4, w5, Int.toNat_zero]
    simp only [i93, Out, resAll, geto, ints, List.getElem?_cons_zero, List.getElem?_cons_succ, resOf, outOf, snap, snapL, ev, getE, List.mapM_cons, List.mapM_nil, Option.bind_some, Option.pure_def, Option.bind_eq_bind, Option.map_some, reduceIte, Nat.reduceEqDiff, true_and, and_true, hro]
  | false =>
    simp only [Bool.false_eq_true, if_false] at ha hsub hro b1 b2 d1 d2 f1 f2
    have ha' : (a : Int) < (w.length : Int) := by omega
    generalize w.getD a 0 = x at *
    generalize hxe : Int.tmod x m = x1 at *
    generalize hye : Int.tmod ((i : Int) + x1) m = y1 at *
    generalize hze : Int.tmod (y1 + m) m = z1 at *
    have w1 : IntKind.i64.wrap x1 = x1 := wrap_i64 (by omega) (by omega)
    have w2 : IntKind.i64.wrap ((i : Int) + x1) = (i : Int) + x1 := wrap_i64 (by omega) (by omega)
    have w3 : IntKind.i64.wrap y1 = y1 := wrap_i64 (by omega) (by omega)
    have w4 : IntKind.i64.wrap (y1 + m) = y1 + m := wrap_i64 (by omega) (by omega)
    have w5 : IntKind.i64.wrap z1 = z1 := wrap_i64 (by omega) (by omega)
    simp only [c93, ints, go_sem, ↓reduceIte, Nat.reduceEqDiff, Nat.reduceAdd, Nat.reduceMul, Nat.reduceLeDiff, Nat.reduceLT, Int.reduceToNat, Int.reduceLT, Int.reduceLE, reduceCtorEq, Nat.reduceBEq, subOne, hne, ha', k0, hsub, hxe, hye, hze, w1, w2, w3, w4, w5, Int.toNat_natCast]
    simp only [i93, Out, resAll, geto, ints, List.getElem?_cons_zero, List.getElem?_cons_succ, resOf, outOf, snap, snapL, ev, getE, List.mapM_cons, List.mapM_nil, Option.bind_some, Option.pure_def, Option.bind_eq_bind, Option.map_some, reduceIte, Nat.reduceEqDiff, true_and, and_true, hro]
end Go.Proofs.Ytlejgleocnemoaa.I

namespace Go.Proofs.Ytlejgleocnemoaa.I
open Go Go.V
attribute [local go_sem_proc ↓] reduceIte
attribute [local go_sem_proc] Nat.reduceEqDiff Nat.reduceAdd Nat.reduceMul Nat.reduceLeDiff Nat.reduceLT Int.reduceToNat Int.reduceLT Int.reduceLE reduceCtorEq Nat.reduceBEq
attribute [local go_sem] mNil nat0 beq_self_eq_true mSkip mRet mExit mReg mSeq mCond mTrue mFalse mBlock mLv mCodeE mCodeR mEndN mEndR mEndE mOps mSome mGuard mGtt mGff mGtf mGft mGu mCallP mCallR mCallF mCallO mCallZ mCallG mCallM mCallV loopQ_exit loopQ_ret mO_mov mO_newnil mO_pick mO_alloc mO_box mO_build mO_bsl mO_bslF mO_ldf mO_ld mO_st mO_sta mO_nilchk mO_bin mO_binb mO_binp mO_bins mO_neg mO_com mO_not mO_conv mO_mk mO_mk0 mO_s2b mO_b2s mO_cpy mO_cut mO_faddr mO_fld mO_iaddr mO_iaddrf mO_sidx mO_len mO_lenf mO_slen mO_scut mO_app mO_ext mO_mx mO_mn mO_mkfn evalOp cutOp argsE ev getE putE cellsOf adopt rowOf binV boolV nilV ar_add ar_sub ar_mul ar_quo ar_rem ar_eq ar_ne ar_lt ar_le ar_gt ar_ge ar_and ar_or ar_xor geto bound finRet finNrm ints List.length_cons List.length_nil List.length_append List.getElem?_cons_zero List.getElem?_cons_succ List.nil_append List.cons_append List.map_cons List.map_nil List.mapM_cons List.mapM_nil Option.map_some Option.map_none Option.bind_some Option.pure_def Option.bind_eq_bind List.drop_zero or_self or_false false_or or_true true_or true_and and_true and_self decide_true decide_false Bool.false_eq_true Bool.true_eq_false Bool.not_true Bool.not_false Nat.le_refl eq_self gt_iff_lt ge_iff_le ne_eq not_true_eq_false not_false_eq_true storeOp apartOf freeze_nil refsL refs List.flatMap_cons List.flatMap_nil List.append_nil List.contains_nil List.set_cons_zero List.set_cons_succ snap snapL fill_nums flat_nums nums_length Go.V.freeze List.mapIdx_cons List.mapIdx_nil List.contains_cons Bool.or_false Bool.false_or Bool.or_true Bool.true_or
section
variable {sb tb s t : List Int} {cb ch ok : Bool} {Lb L : List Rt} {a : Int}
theorem c37_none {w : List Int} (htb : (tb.length : Int) ≤ 1000000000) (hlb : (Lb.length : Int) ≤ 1000000000) (hok : ¬ (cb = true ∧ 0 < tb.length + Lb.length) ∧ WhO Lb) (hw : Lb.map rv = w) (hsl : (s.length : Int) ≤ 1000000000) (h : s.length = 0 ∧ a < 0) :
    Go.V.Call tab E 37 [.agg (arrX sb cb tb Lb), .agg (arrX s ch t L), .int .i64 a] [] (if tb.length + Lb.length = 1 then .tup [.agg (arrX s ch t L), .int .i64 0] else .tup [.agg noA, .int .i64 23]) [] := by
  refine Go.V.Call.mach i37 c37 rfl rfl rfl rfl ?_
  have h100 := c91_X (s := sb) (t := tb) (l := Lb) (ch := cb) (ok := true) (by omega) (by omega) ⟨fun _ => hok, fun _ => rfl⟩
  rw [if_pos rfl, hw] at h100
  have h56 := c66_X (s := s) (t := t) (l := L) (ch := ch) (by omega)
  have h55 := c23_X (s := sb) (t := tb) (l := Lb) (ch := cb) (by omega) (by omega)
  obtain ⟨h1, h2⟩ := h
  have hq : ((s.length : Int) == 0) = true := by rw [h1]; rfl
  simp only [arrX, runes, ints, rowI] at h100 h56 h55
  simp only [c37, arrX, runes, ints, go_sem, fillAll, fillIn, shiftR, shiftV, List.take_succ_cons, List.take_zero, List.drop_succ_cons, List.drop_zero, List.append_nil, Nat.zero_add, subA5]
  refine goO h100 rfl rfl ?_
  simp only [go_sem, fillAll, fillIn, shiftR, shiftV, List.take_succ_cons, List.take_zero, List.drop_succ_cons, List.drop_zero, List.append_nil, Nat.zero_add, subA5]
  refine goP h56 ?_
  simp only [go_sem, fillAll, fillIn, shiftR, shiftV, List.take_succ_cons, List.take_zero, List.drop_succ_cons, List.drop_zero, List.append_nil, Nat.zero_add, subA5, hq, h2]
  refine goP h55 ?_
  by_cases hl1 : tb.length + Lb.length = 1
  · have hb : (((tb.length + Lb.length : Nat) : Int) != 1) = false := by rw [hl1]; rfl
    simp only [go_sem, fillAll, fillIn, shiftR, shiftV, List.take_succ_cons, List.take_zero, List.drop_succ_cons, List.drop_zero, List.append_nil, Nat.zero_add, subA5, hb]
    simp only [i37, Out, resAll, geto, ints, List.getElem?_cons_zero, List.getElem?_cons_succ, resOf, outOf, snap, snapL, ev, getE, List.mapM_cons, List.mapM_nil, Option.bind_some, Option.pure_def, Option.bind_eq_bind, Option.map_some, reduceIte, Nat.reduceEqDiff, true_and, and_true, subA5, hl1, if_true, arrX, runes, ints]
  · have hb : (((tb.length + Lb.length : Nat) : Int) != 1) = true := by rw [bne_iff_ne]; omega
    simp only [go_sem, fillAll, fillIn, shiftR, shiftV, List.take_succ_cons, List.take_zero, List.drop_succ_cons, List.drop_zero, List.append_nil, Nat.zero_add, subA5, hb]
    simp only [i37, Out, resAll, geto, ints, List.getElem?_cons_zero, List.getElem?_cons_succ, resOf, outOf, snap, snapL, ev, getE, List.mapM_cons, List.mapM_nil, Option.bind_some, Option.pure_def, Option.bind_eq_bind, Option.map_some, reduceIte, Nat.reduceEqDiff, true_and, and_true, subA5, hl1, if_false, noA]
end
section
variable {sb tb s t w : List Int} {cb ch : Bool} {Lb L : List Rt} {a : Int} {k : Nat}
def oneB (sb : List Int) (n : Nat) : Bool := decide (sb.length = 0) || (decide (n = 1) && decide (sb.length = 1))
theorem c37_one (hsbl : (sb.length : Int) ≤ 1000000000) (htb : (tb.length : Int) ≤ 1000000000) (hlb : (Lb.length : Int) ≤ 1000000000) (hok : ¬ (cb = true ∧ 0 < tb.length + Lb.length) ∧ WhO Lb) (hw : Lb.map rv = w) (hsl : (s.length : Int) ≤ 1000000000) (hks : k < s.length) (hb : axB s a = true) (hk : axA s a = (k : Int)) {ks : List Int} (hone : oneB sb (tb.length + Lb.length) = true)
    (h97 : Go.V.Call tab E 89 [.agg (arrX s ch t L), .int .i64 k, .fn 93 [.ptr [.bool true] 0, .ptr [ints w] 0]] [] (.tup [.agg (arrX s ch (picksT ch t ks) (picksR ch L ks)), .int .i64 0]) []) :
    Go.V.Call tab E 37 [.agg (arrX sb cb tb Lb), .agg (arrX s ch t L), .int .i64 a] [] (.tup [.agg (arrX s ch (picksT ch t ks) (picksR ch L ks)), .int .i64 0]) [] := by
  refine Go.V.Call.mach i37 c37 rfl rfl rfl rfl ?_
  have h100 := c91_X (s := sb) (t := tb) (l := Lb) (ch := cb) (ok := true) (by omega) (by omega) ⟨fun _ => hok, fun _ => rfl⟩
  rw [if_pos rfl, hw] at h100
  have h56 := c66_X (s := s) (t := t) (l := L) (ch := ch) (by omega)
  have h27 := c88_ok (s := s) (t := t) (ch := ch) (L := L) (a := a) hsl
  rw [hb, hk] at h27
  have h48 := c44_X (s := s) (t := t) (l := L) (ch := ch) (by omega)
  have h101 := c92_ok (s := s) (a := (k : Int)) (by omega) ⟨by omega, by omega⟩
  have h56b := c66_X (s := sb) (t := tb) (l := Lb) (ch := cb) (by omega)
  have h55b := c23_X (s := sb) (t := tb) (l := Lb) (ch := cb) (by omega) (by omega)
  have h48b := c44_X (s := sb) (t := tb) (l := Lb) (ch := cb) (by omega)
  have hwol := wo_len (s := s) (a := (k : Int))
  have h57 := c67_ok (E := E) (s := sb) (t := wo s (k : Int)) (by omega) (by omega)
  have hq : ((s.length : Int) == 0) = false := beq_eq_false_iff_ne.2 (by omega)
  generalize wo s (k : Int) = rest at *
  simp only [arrX, runes, ints, rowI] at h100 h56 h27 h48 h101 h56b h55b h48b h57 h97
  simp only [c37, arrX, runes, ints, go_sem, fillAll, fillIn, shiftR, shiftV, List.take_succ_cons, List.take_zero, List.drop_succ_cons, List.drop_zero, List.append_nil, Nat.zero_add, subA5]
  refine goO h100 rfl rfl ?_
  simp only [go_sem, fillAll, fillIn, shiftR, shiftV, List.take_succ_cons, List.take_zero, List.drop_succ_cons, List.drop_zero, List.append_nil, Nat.zero_add, subA5, subOne]
  refine goP h56 ?_
  simp only [go_sem, fillAll, fillIn, shiftR, shiftV, List.take_succ_cons, List.take_zero, List.drop_succ_cons, List.drop_zero, List.append_nil, Nat.zero_add, subA5, subOne, hq]
  refine goP h27 ?_
  simp only [go_sem, fillAll, fillIn, shiftR, shiftV, List.take_succ_cons, List.take_zero, List.drop_succ_cons, List.drop_zero, List.append_nil, Nat.zero_add, subA5, subOne]
  refine goP h48 ?_
  simp only [go_sem, fillAll, fillIn, shiftR, shiftV, List.take_succ_cons, List.take_zero, List.drop_succ_cons, List.drop_zero, List.append_nil, Nat.zero_add, subA5, subOne]
  refine goP h101 ?_
  simp only [go_sem, fillAll, fillIn, shiftR, shiftV, List.take_succ_cons, List.take_zero, List.drop_succ_cons, List.drop_zero, List.append_nil, Nat.zero_add, subA5, subOne]
  refine goP h56b ?_
  by_cases h0 : sb.length = 0
  · have hq0 : ((sb.length : Int) == 0) = true := by rw [h0]; rfl
    simp only [go_sem, fillAll, fillIn, shiftR, shiftV, List.take_succ_cons, List.take_zero, List.drop_succ_cons, List.drop_zero, List.append_nil, Nat.zero_add, subA5, subOne, hq0]
    refine goF h97 ?_
    simp only [go_sem, fillAll, fillIn, shiftR, shiftV, List.take_succ_cons, List.take_zero, List.drop_succ_cons, List.drop_zero, List.append_nil, Nat.zero_add, subA5, subOne]
    simp only [i37, Out, resAll, geto, ints, List.getElem?_cons_zero, List.getElem?_cons_succ, resOf, outOf, snap, snapL, ev, getE, List.mapM_cons, List.mapM_nil, Option.bind_some, Option.pure_def, Option.bind_eq_bind, Option.map_some, reduceIte, Nat.reduceEqDiff, true_and, and_true, subA5]
  · have hq0 : ((sb.length : Int) == 0) = false := beq_eq_false_iff_ne.2 (by omega)
    have ho := hone
    rw [oneB, decide_eq_false h0, Bool.false_or, Bool.and_eq_true, decide_eq_true_eq, decide_eq_true_eq] at ho
    have hq1 : (((tb.length + Lb.length : Nat) : Int) == 1) = true := by rw [ho.1]; rfl
    have hq2 : ((sb.length : Int) == 1) = true := by rw [ho.2]; rfl
    simp only [go_sem, fillAll, fillIn, shiftR, shiftV, List.take_succ_cons, List.take_zero, List.drop_succ_cons, List.drop_zero, List.append_nil, Nat.zero_add, subA5, subOne, hq0]
    refine goP h55b ?_
    simp only [go_sem, fillAll, fillIn, shiftR, shiftV, List.take_succ_cons, List.take_zero, List.drop_succ_cons, List.drop_zero, List.append_nil, Nat.zero_add, subA5, subOne, hq1]
    refine goP h56b ?_
    simp only [go_sem, fillAll, fillIn, shiftR, shiftV, List.take_succ_cons, List.take_zero, List.drop_succ_cons, List.drop_zero, List.append_nil, Nat.zero_add, subA5, subOne, hq2]
    refine goF h97 ?_
    simp only [go_sem, fillAll, fillIn, shiftR, shiftV, List.take_succ_cons, List.take_zero, List.drop_succ_cons, List.drop_zero, List.append_nil, Nat.zero_add, subA5, subOne]
    simp only [i37, Out, resAll, geto, ints, List.getElem?_cons_zero, List.getElem?_cons_succ, resOf, outOf, snap, snapL, ev, getE, List.mapM_cons, List.mapM_nil, Option.bind_some, Option.pure_def, Option.bind_eq_bind, Option.map_some, reduceIte, Nat.reduceEqDiff, true_and, and_true, subA5]
end
end Go.Proofs.Ytlejgleocnemoaa.I

namespace Go.Proofs.Ytlejgleocnemoaa.I
open Go Go.V
attribute [local go_sem] mNil nat0 beq_self_eq_true mSkip mRet mExit mReg mSeq mCond mTrue mFalse mBlock mLv mCodeE mCodeR mEndN mEndR mEndE mOps mSome mGuard mGtt mGff mGtf mGft mGu mCallP mCallR mCallF mCallO mCallZ mCallG mCallM mCallV loopQ_exit loopQ_ret mO_mov mO_newnil mO_pick mO_alloc mO_box mO_build mO_bsl mO_bslF mO_ldf mO_ld mO_st mO_sta mO_nilchk mO_bin mO_binb mO_binp mO_bins mO_neg mO_com mO_not mO_conv mO_mk mO_mk0 mO_s2b mO_b2s mO_cpy mO_cut mO_faddr mO_fld mO_iaddr mO_iaddrf mO_sidx mO_len mO_lenf mO_slen mO_scut mO_app mO_ext mO_mx mO_mn mO_mkfn evalOp cutOp argsE ev getE putE cellsOf adopt rowOf binV boolV nilV ar_add ar_sub ar_mul ar_quo ar_rem ar_eq ar_ne ar_lt ar_le ar_gt ar_ge ar_and ar_or ar_xor geto bound finRet finNrm ints List.length_cons List.length_nil List.length_append List.getElem?_cons_zero List.getElem?_cons_succ List.nil_append List.cons_append List.map_cons List.map_nil List.mapM_cons List.mapM_nil Option.map_some Option.map_none Option.bind_some Option.pure_def Option.bind_eq_bind List.drop_zero or_self or_false false_or or_true true_or true_and and_true and_self decide_true decide_false Bool.false_eq_true Bool.true_eq_false Bool.not_true Bool.not_false Nat.le_refl eq_self gt_iff_lt ge_iff_le ne_eq not_true_eq_false not_false_eq_true storeOp apartOf freeze_nil refsL refs List.flatMap_cons List.flatMap_nil List.append_nil List.contains_nil List.set_cons_zero List.set_cons_succ snap snapL fill_nums flat_nums nums_length Go.V.freeze List.mapIdx_cons List.mapIdx_nil List.contains_cons Bool.or_false Bool.false_or Bool.or_true Bool.true_or
def dmin (k : Int) : List Int → List Int → Int → Int
  | a :: l, b :: s, d => dmin k l s (if a = k then min d b else d)
  | _, _, d => d
def shpT (l s : List Int) (m : Nat) : List Int := (List.range m).map fun k : Nat => dmin k l s 4096
theorem shpT_len {l s : List Int} {m : Nat} : (shpT l s m).length = m := by simp [shpT]
theorem shpT_get {l s : List Int} {m k : Nat} (h : k < m) : (shpT l s m).getD k 0 = dmin k l s 4096 := by
  simp [shpT, List.getD, h]
theorem dmin_snoc {k a b : Int} : ∀ {l s : List Int} {d : Int}, l.length = s.length → dmin k (l ++ [a]) (s ++ [b]) d = if a = k then min (dmin k l s d) b else dmin k l s d
  | [], [], d, _ => rfl
  | x :: l, y :: s, d, h => by
    rw [List.cons_append, List.cons_append, dmin, dmin, dmin_snoc (by simpa using h)]
  | [], y :: s, d, h => by simp at h
  | x :: l, [], d, h => by simp at h
theorem dmin_le {k : Int} : ∀ {l s : List Int} {d : Int}, dmin k l s d ≤ d
  | [], _, d => by rw [dmin]; exact Int.le_refl _; simp
  | x :: l, [], d => by rw [dmin]; exact Int.le_refl _; simp
  | x :: l, y :: s, d => by
    rw [dmin]
    have := dmin_le (k := k) (l := l) (s := s) (d := if x = k then min d y else d)
    split at this <;> rename_i h
    · rw [if_pos h]; omega
    · rw [if_neg h]; omega
theorem dmin_at {k : Int} : ∀ {l s : List Int} {d : Int} {i : Nat}, i < l.length → i < s.length → l.getD i 0 = k → dmin k l s d ≤ s.getD i 0
  | x :: l, y :: s, d, 0, _, _, h => by
    rw [List.getD_cons_zero] at h ⊢
    rw [dmin, if_pos h]
    have := dmin_le (k := k) (l := l) (s := s) (d := min d y)
    omega
  | x :: l, y :: s, d, i + 1, h1, h2, h => by
    rw [List.getD_cons_succ] at h ⊢
    rw [dmin]
    exact dmin_at (by simpa using h1) (by simpa using h2) h
  | [], _, d, i, h1, _, _ => by simp at h1
  | _, [], d, i, _, h2, _ => by simp at h2
theorem dmin_low {k c : Int} : ∀ {l s : List Int} {d : Int}, c ≤ d → (∀ y ∈ s, c ≤ y) → c ≤ dmin k l s d
  | [], _, d, h, _ => by rw [dmin]; exact h; simp
  | x :: l, [], d, h, _ => by rw [dmin]; exact h; simp
  | x :: l, y :: s, d, h, hs => by
    rw [dmin]
    refine dmin_low ?_ fun z hz => hs z (by simp [hz])
    have := hs y (by simp)
    split <;> omega
theorem dmin_min {k : Int} : ∀ {l s : List Int} {d b : Int}, dmin k l s (min d b) = min b (dmin k l s d)
  | [], s, d, b => by simp only [dmin]; omega
  | x :: l, [], d, b => by simp only [dmin]; omega
  | x :: l, y :: s, d, b => by
    rw [dmin, dmin]
    split
    · rw [show min (min d b) y = min (min d y) b by omega, dmin_min]
    · rw [dmin_min]
theorem dmin_no {k : Int} : ∀ {l s : List Int} {d : Int}, k ∉ l → dmin k l s d = d
  | [], s, d, _ => by simp only [dmin]
  | x :: l, [], d, _ => by simp only [dmin]
  | x :: l, y :: s, d, h => by
    rw [List.mem_cons, not_or] at h
    rw [dmin, if_neg (fun e => h.1 e.symm), dmin_no h.2]
def pN (g : Nat → Int) : Nat → Int
  | 0 => 1
  | m + 1 => pN g m * g m
theorem pN_pos {g : Nat → Int} (h : ∀ k, 1 ≤ g k) : ∀ {m : Nat}, 1 ≤ pN g m
  | 0 => Int.le_refl _
  | m + 1 => by
    have h1 := pN_pos h (m := m)
    have := Int.mul_le_mul_of_nonneg_left (a := 1) (b := g m) (c := pN g m) (h m) (by omega)
    rw [pN]
    omega
theorem pN_one {g : Nat → Int} (h : ∀ k, g k = 1) : ∀ {m : Nat}, pN g m = 1
  | 0 => rfl
  | m + 1 => by rw [pN, pN_one h, h, Int.one_mul]
theorem pN_eq {g g' : Nat → Int} {a : Int} (h : ∀ k : Nat, (k : Int) ≠ a → g' k = g k) : ∀ {m : Nat}, (m : Int) ≤ a → pN g' m = pN g m
  | 0, _ => rfl
  | m + 1, hm => by rw [pN, pN, pN_eq h (by omega), h m (by omega)]
theorem pN_step {g g' : Nat → Int} {a b : Int} (hg : ∀ k, 1 ≤ g k) (hb : 1 ≤ b) (h : ∀ k : Nat, (k : Int) ≠ a → g' k = g k) (ha : ∀ k : Nat, (k : Int) = a → g' k ≤ b * g k) : ∀ {m : Nat}, pN g' m ≤ b * pN g m
  | 0 => by rw [pN, pN]; omega
  | m + 1 => by
    have hp := pN_pos hg (m := m)
    by_cases hm : (m : Int) = a
    · rw [pN, pN, pN_eq h (by omega)]
      have := Int.mul_le_mul_of_nonneg_left (ha m hm) (show 0 ≤ pN g m by omega)
      rwa [← Int.mul_assoc, Int.mul_comm (pN g m) b, Int.mul_assoc] at this
    · rw [pN, pN, h m hm, ← Int.mul_assoc]
      exact Int.mul_le_mul_of_nonneg_right (pN_step hg hb h ha) (by have := hg m; omega)
def gT (l s : List Int) (k : Nat) : Int := if (k : Int) ∈ l then max 1 (dmin k l s 4096) else 1
theorem gT_pos {l s : List Int} {k : Nat} : 1 ≤ gT l s k := by
  rw [gT]
  split <;> omega
theorem gT_le {m : Nat} : ∀ {l s : List Int}, l.length = s.length → pN (gT l s) m ≤ mprd s
  | [], [], _ => by rw [pN_one fun k => by simp [gT], mprd]; exact Int.le_refl _
  | [], y :: s, h => by simp at h
  | x :: l, [], h => by simp at h
  | x :: l, y :: s, h => by
    have h1 := gT_le (m := m) (l := l) (s := s) (by simpa using h)
    have hb : (1 : Int) ≤ max 1 y := by omega
    have h2 := pN_step (m := m) (g := gT l s) (g' := gT (x :: l) (y :: s)) (a := x) (b := max 1 y) (fun _ => gT_pos) hb
      (fun k hk => by
        simp only [gT, List.mem_cons, dmin]
        have hk' : ¬ x = (k : Int) := fun e => hk e.symm
        by_cases hm : (k : Int) ∈ l
        · rw [if_pos (Or.inr hm), if_pos hm, if_neg hk']
        · rw [if_neg (show ¬ ((k : Int) = x ∨ (k : Int) ∈ l) from fun e => e.elim hk hm), if_neg hm])
      (fun k hk => by
        simp only [gT, List.mem_cons, dmin]
        rw [if_pos hk.symm, dmin_min, if_pos (.inl hk)]
        by_cases hm : (k : Int) ∈ l
        · rw [if_pos hm]
          have e1 : (1 : Int) ≤ max 1 (dmin k l s 4096) := by omega
          have := Int.mul_le_mul_of_nonneg_left (a := 1) (b := max 1 (dmin k l s 4096)) (c := max 1 y) e1 (by omega)
          generalize max 1 y * max 1 (dmin k l s 4096) = p at *
          omega
        · rw [if_neg hm, Int.mul_one]
          omega)
    rw [mprd]
    have := Int.mul_le_mul_of_nonneg_left h1 (show 0 ≤ max 1 y by omega)
    omega
theorem mprd_shpT {l s : List Int} : ∀ {m : Nat}, (∀ k : Nat, k < m → (k : Int) ∈ l) → mprd (shpT l s m) = pN (gT l s) m
  | 0, _ => rfl
  | m + 1, h => by
    have e : shpT l s (m + 1) = shpT l s m ++ [dmin m l s 4096] := by simp [shpT, List.range_succ]
    rw [e, mprd_append, mprd_shpT fun k hk => h k (by omega), pN, mprd, mprd, Int.mul_one, gT, if_pos (h m (by omega))]
theorem pig : ∀ {m : Nat} {l : List Int}, (∀ k : Nat, k < m → (k : Int) ∈ l) → m ≤ l.length
  | 0, _, _ => by omega
  | m + 1, l, h => by
    have h1 := pig (m := m) (l := l.erase (m : Int)) (fun k hk => (List.mem_erase_of_ne (by omega)).2 (h k (by omega)))
    have h2 := h m (by omega)
    rw [List.length_erase_of_mem h2] at h1
    have := List.length_pos_of_mem h2
    omega
theorem shpT_count {l s : List Int} {m : Nat} (hc : count s ≠ none) (hl : l.length = s.length) (hm : ∀ k : Nat, k < m → (k : Int) ∈ l) : ∃ n : Nat, count (shpT l s m) = some (n : Int) := by
  obtain ⟨h1, h2, h3⟩ := count_iff.2 hc
  have h4 := gT_le (m := m) hl
  have h5 := pig hm
  have h6 := (count_iff (s := shpT l s m)).1 ⟨by rw [shpT_len]; omega, fun d hd => by
    obtain ⟨k, _, rfl⟩ := List.mem_map.1 hd
    exact dmin_low (by omega) h2, by rw [mprd_shpT hm]; omega⟩
  obtain ⟨_, _, h7⟩ := count_bound h6
  have h7 := h7 (shpT l s m).length
  rw [List.take_length] at h7
  exact ⟨(prd (shpT l s m)).toNat, by rw [h6, Int.toNat_of_nonneg h7.1]⟩
def strP : List Int → List Int
  | [] => []
  | _ :: ds => prd ds :: strP ds
theorem strP_len : ∀ {s : List Int}, (strP s).length = s.length
  | [] => rfl
  | d :: ds => by simp [strP, strP_len]
theorem str_P : ∀ {s : List Int}, (∀ k : Nat, 0 ≤ prd (s.drop k) ∧ prd (s.drop k) ≤ 4096) → str s = strP s
  | [], _ => rfl
  | d :: ds, h => by
    have h1 := h 1
    rw [List.drop_succ_cons, List.drop_zero] at h1
    rw [str, strP, prodR_wrap, wrap_i64 (by omega) (by omega), str_P fun k => h (k + 1)]
theorem strP_get : ∀ {s : List Int} {i : Nat}, i < s.length → (strP s).getD i 0 = prd (s.drop (i + 1))
  | d :: ds, 0, _ => rfl
  | d :: ds, i + 1, h => by
    rw [strP, List.getD_cons_succ, List.drop_succ_cons]
    exact strP_get (by simpa using h)
  | [], i, h => by simp at h
def inR : List Int → List Int → Prop
  | [], [] => True
  | d :: ds, x :: xs => (0 ≤ x ∧ x < d) ∧ inR ds xs
  | _, _ => False
def dI : List Int → List Int → Int
  | d :: ds, x :: xs => x * prd ds + dI ds xs
  | _, _ => 0
theorem inR_len : ∀ {s x : List Int}, inR s x → x.length = s.length
  | [], [], _ => rfl
  | d :: ds, x :: xs, h => by simp [inR_len h.2]
theorem dI_bound : ∀ {s x : List Int}, inR s x → 0 ≤ dI s x ∧ dI s x < prd s
  | [], [], _ => ⟨Int.le_refl _, by decide⟩
  | d :: ds, x :: xs, h => by
    obtain ⟨⟨h1, h2⟩, h3⟩ := h
    obtain ⟨h4, h5⟩ := dI_bound h3
    have h6 := Int.mul_nonneg h1 (show 0 ≤ prd ds by omega)
    have h7 := Int.mul_le_mul_of_nonneg_right (show x + 1 ≤ d by omega) (show 0 ≤ prd ds by omega)
    rw [Int.add_mul, Int.one_mul] at h7
    rw [dI, prd]
    omega
theorem pl_dI : ∀ {s x : List Int} {n : Int}, inR s x → pl n s x = some (n * prd s + dI s x)
  | [], [], n, _ => by simp [pl, prd, dI]
  | d :: ds, x :: xs, n, h => by
    obtain ⟨h1, h3⟩ := h
    rw [pl, if_neg (by omega), pl_dI h3, dI, prd, Int.add_mul, Int.mul_assoc, Int.add_assoc]
theorem ix_dI : ∀ {s x : List Int} {q : Int}, inR s x → ix s (q * prd s + dI s x) = (x, q)
  | [], [], q, _ => by simp [ix, prd, dI]
  | d :: ds, x :: xs, q, h => by
    obtain ⟨⟨h1, h2⟩, h3⟩ := h
    have e : q * prd (d :: ds) + dI (d :: ds) (x :: xs) = (x + d * q) * prd ds + dI ds xs := by
      rw [prd, dI, Int.add_mul, ← Int.mul_assoc, Int.mul_comm q d]
      omega
    rw [e, ix, ix_dI h3, Int.add_mul_emod_self_left, Int.emod_eq_of_lt h1 h2, Int.add_mul_ediv_left _ _ (by omega), Int.ediv_eq_zero_of_lt h1 h2, Int.zero_add]
theorem inR_ix : ∀ {s : List Int} {a : Int}, (∀ d ∈ s, 1 ≤ d) → inR s (ix s a).1
  | [], a, _ => trivial
  | d :: ds, a, h => by
    have hd := h d (by simp)
    exact ⟨⟨Int.emod_nonneg _ (by omega), Int.emod_lt_of_pos _ (by omega)⟩, inR_ix fun y hy => h y (by simp [hy])⟩
theorem dI_ix {s : List Int} {a : Int} (ha : 0 ≤ a) (h : ∀ d ∈ s, 1 ≤ d) (hl : a < prd s) : dI s (ix s a).1 = a := by
  have h1 := pl_ix0 ha h hl
  rw [pl_dI (inR_ix h), Int.zero_mul, Int.zero_add] at h1
  exact Option.some.inj h1
def dotT : List Int → List Int → List Int → Int
  | a :: l, w :: st, x => w * x.getD a.toNat 0 + dotT l st x
  | _, _, _ => 0
theorem dotT_snoc {a w : Int} {x : List Int} : ∀ {l st : List Int}, l.length = st.length → dotT (l ++ [a]) (st ++ [w]) x = dotT l st x + w * x.getD a.toNat 0
  | [], [], _ => by simp [dotT]
  | b :: l, v :: st, h => by
    rw [List.cons_append, List.cons_append, dotT, dotT, dotT_snoc (by simpa using h), Int.add_assoc]
  | [], v :: st, h => by simp at h
  | b :: l, [], h => by simp at h
theorem dotT_dI {x : List Int} : ∀ {l s : List Int}, l.length = s.length → dotT l (strP s) x = dI s (l.map fun a => x.getD a.toNat 0)
  | [], [], _ => rfl
  | a :: l, d :: ds, h => by
    rw [strP, dotT, List.map_cons, dI, dotT_dI (by simpa using h), Int.mul_comm]
  | [], d :: ds, h => by simp at h
  | a :: l, [], h => by simp at h
theorem dotT_take {x : List Int} : ∀ {l s : List Int} {i : Nat}, inR s (l.map fun a => x.getD a.toNat 0) → 0 ≤ dotT (l.take i) ((strP s).take i) x ∧ dotT (l.take i) ((strP s).take i) x ≤ dI s (l.map fun a => x.getD a.toNat 0)
  | l, s, 0, h => by
    have := dI_bound h
    simp only [List.take_zero, dotT]
    omega
  | [], s, i + 1, h => by
    have := dI_bound h
    simp only [List.take_nil, dotT]
    omega
  | a :: l, d :: ds, i + 1, h => by
    obtain ⟨⟨h1, h2⟩, h3⟩ := h
    have h4 := dotT_take (i := i) h3
    have h5 := dI_bound h3
    have h6 : 0 ≤ prd ds * x.getD a.toNat 0 := Int.mul_nonneg (show 0 ≤ prd ds by omega) h1
    rw [strP, List.take_succ_cons, List.take_succ_cons, dotT, List.map_cons, dI, Int.mul_comm (x.getD a.toNat 0)]
    omega
  | a :: l, [], i + 1, h => by simp [inR] at h
theorem inR_of {x : List Int} : ∀ {l s : List Int}, l.length = s.length → (∀ i : Nat, i < l.length → 0 ≤ x.getD (l.getD i 0).toNat 0 ∧ x.getD (l.getD i 0).toNat 0 < s.getD i 0) → inR s (l.map fun a => x.getD a.toNat 0)
  | [], [], _, _ => trivial
  | a :: l, d :: ds, h, hi => ⟨by have := hi 0 (by simp); simpa using this, inR_of (by simpa using h) fun i hil => by have := hi (i + 1) (by simpa using hil); simpa using this⟩
  | [], d :: ds, h, _ => by simp at h
  | a :: l, [], h, _ => by simp at h
def turnK (l s : List Int) (m n : Nat) : List Int := (List.range n).map fun j : Nat => dotT l (strP s) (ix (shpT l s m) j).1
theorem turnK_len {l s : List Int} {m n : Nat} : (turnK l s m n).length = n := by simp [turnK]
theorem turn_in {l s : List Int} {m n j : Nat} (hl : l.length = s.length) (hr : ∀ a ∈ l, 0 ≤ a ∧ a < m) (hc : count (shpT l s m) = some (n : Int)) (hj : j < n) : inR s (l.map fun a => (ix (shpT l s m) j).1.getD a.toNat 0) := by
  refine inR_of hl fun i hi => ?_
  have hp := count_pos hc (by omega)
  have h1 := hr (l.getD i 0) (by simp [List.getD, hi])
  have h2 := ix_range (s := shpT l s m) (a := (j : Int)) (m := (l.getD i 0).toNat) (by omega) hp (by rw [shpT_len]; omega)
  rw [shpT_get (by omega)] at h2
  have h3 := dmin_at (k := ((l.getD i 0).toNat : Nat)) (l := l) (s := s) (d := 4096) (i := i) hi (by omega) (by omega)
  omega
def revl (m : Nat) : List Int := (List.range m).map fun i : Nat => (m : Int) - 1 - i
theorem revl_len {m : Nat} : (revl m).length = m := by simp [revl]
theorem revl_cons {m : Nat} : revl (m + 1) = (m : Int) :: revl m := by
  rw [revl, revl, List.range_succ_eq_map, List.map_cons, List.map_map]
  congr 1
  · omega
  · refine List.map_congr_left fun i _ => ?_
    simp only [Function.comp]
    omega
theorem revl_mem {m : Nat} {a : Int} : a ∈ revl m ↔ 0 ≤ a ∧ a < m := by
  rw [revl, List.mem_map]
  constructor
  · rintro ⟨i, hi, rfl⟩
    have := List.mem_range.1 hi
    omega
  · intro h
    exact ⟨m - 1 - a.toNat, List.mem_range.2 (by omega), by omega⟩
theorem dmin_rev : ∀ {s : List Int} {d : Int} {k : Nat}, k < s.length → dmin k (revl s.length) s d = min d (s.reverse.getD k 0)
  | [], d, k, h => by simp at h
  | b :: s, d, k, h => by
    rw [List.length_cons, revl_cons, dmin, List.reverse_cons]
    by_cases hk : k = s.length
    · subst hk
      rw [if_pos rfl, dmin_no (by rw [revl_mem]; omega)]
      simp [List.getD]
    · have h' : k < s.length := by simp at h; omega
      rw [if_neg (by omega), dmin_rev h']
      simp only [List.getD]
      rw [List.getElem?_append_left (by simpa using h')]
theorem shpT_rev {s : List Int} (h : ∀ d ∈ s, d ≤ 4096) : shpT (revl s.length) s s.length = s.reverse := by
  refine List.ext_getElem (by simp [shpT]) fun i h1 h2 => ?_
  have h3 : i < s.length := by simpa [shpT] using h1
  simp only [shpT, List.getElem_map, List.getElem_range]
  rw [dmin_rev h3]
  have h4 := h s.reverse[i] (by rw [← List.mem_reverse]; exact List.getElem_mem h2)
  simp only [List.getD, List.getElem?_eq_getElem h2, Option.getD_some]
  omega
theorem map_revl {x : List Int} : (revl x.length).map (fun a => x.getD a.toNat 0) = x.reverse := by
  refine List.ext_getElem (by simp [revl]) fun i h1 h2 => ?_
  have h3 : i < x.length := by simpa using h2
  simp only [revl, List.getElem_map, List.getElem_range, List.getElem_reverse, List.getD]
  rw [show ((x.length : Int) - 1 - (i : Int)).toNat = x.length - 1 - i by omega, List.getElem?_eq_getElem (by omega), Option.getD_some]
theorem inR_snoc {d a : Int} : ∀ {s x : List Int}, inR s x → 0 ≤ a ∧ a < d → inR (s ++ [d]) (x ++ [a])
  | [], [], _, h => ⟨h, trivial⟩
  | c :: s, y :: x, h, ha => ⟨h.1, inR_snoc h.2 ha⟩
theorem inR_rev : ∀ {s x : List Int}, inR s x → inR s.reverse x.reverse
  | [], [], _ => trivial
  | c :: s, y :: x, h => by
    rw [List.reverse_cons, List.reverse_cons]
    exact inR_snoc (inR_rev h.2) h.1
theorem turn_back {s : List Int} {n j : Nat} (hs : ∀ d ∈ s, d ≤ 4096) (hp : ∀ d ∈ s, 1 ≤ d) (hn : prd s = n) (hn' : prd s.reverse = n) (hj : j < n) :
    ∃ i : Nat, i < n ∧ (turnK (revl s.length) s.reverse s.length n).getD j 0 = (i : Int) ∧ (turnK (revl s.length) s s.length n).getD i 0 = (j : Int) := by
  have hr : ∀ d ∈ s.reverse, d ≤ 4096 := fun d hd => hs d (List.mem_reverse.1 hd)
  have e1 := shpT_rev hs
  have e2 := shpT_rev hr
  rw [List.length_reverse, List.reverse_reverse] at e2
  have hy := inR_ix (s := s) (a := (j : Int)) hp
  have hyl := inR_len hy
  have hyr := inR_rev hy
  have hb := dI_bound hyr
  have k2 : (turnK (revl s.length) s.reverse s.length n).getD j 0 = dI s.reverse (ix s j).1.reverse := by
    simp only [turnK, List.getD, List.getElem?_map, List.getElem?_range hj, Option.map_some, Option.getD_some]
    rw [e2, dotT_dI (by rw [revl_len, List.length_reverse]), ← hyl, map_revl]
  refine ⟨(dI s.reverse (ix s j).1.reverse).toNat, by omega, by rw [k2]; omega, ?_⟩
  have hi : (dI s.reverse (ix s j).1.reverse).toNat < n := by omega
  have hx := ix_dI (q := 0) hyr
  rw [Int.zero_mul, Int.zero_add] at hx
  simp only [turnK, List.getD, List.getElem?_map, List.getElem?_range hi, Option.map_some, Option.getD_some]
  rw [e1, Int.toNat_of_nonneg hb.1, hx, dotT_dI revl_len, ← hyl, ← List.length_reverse, map_revl, List.reverse_reverse]
  exact dI_ix (by omega) hp (by omega)
end Go.Proofs.Ytlejgleocnemoaa.I

namespace Go.Proofs.Ytlejgleocnemoaa.I
open Go Go.V
attribute [local go_sem_proc ↓] reduceIte
attribute [local go_sem_proc] Nat.reduceEqDiff Nat.reduceAdd Nat.reduceMul Nat.reduceLeDiff Nat.reduceLT Int.reduceToNat Int.reduceLT Int.reduceLE reduceCtorEq Nat.reduceBEq
attribute [local go_sem] mNil nat0 beq_self_eq_true mSkip mRet mExit mReg mSeq mCond mTrue mFalse mBlock mLv mCodeE mCodeR mEndN mEndR mEndE mOps mSome mGuard mGtt mGff mGtf mGft mGu mCallP mCallR mCallF mCallO mCallZ mCallG mCallM mCallV loopQ_exit loopQ_ret mO_mov mO_newnil mO_pick mO_alloc mO_box mO_build mO_bsl mO_bslF mO_ldf mO_ld mO_st mO_sta mO_nilchk mO_bin mO_binb mO_binp mO_bins mO_neg mO_com mO_not mO_conv mO_mk mO_mk0 mO_s2b mO_b2s mO_cpy mO_cut mO_faddr mO_fld mO_iaddr mO_iaddrf mO_sidx mO_len mO_lenf mO_slen mO_scut mO_app mO_ext mO_mx mO_mn mO_mkfn evalOp cutOp argsE ev getE putE cellsOf adopt rowOf binV boolV nilV ar_add ar_sub ar_mul ar_quo ar_rem ar_eq ar_ne ar_lt ar_le ar_gt ar_ge ar_and ar_or ar_xor geto bound finRet finNrm ints List.length_cons List.length_nil List.length_append List.getElem?_cons_zero List.getElem?_cons_succ List.nil_append List.cons_append List.map_cons List.map_nil List.mapM_cons List.mapM_nil Option.map_some Option.map_none Option.bind_some Option.pure_def Option.bind_eq_bind List.drop_zero or_self or_false false_or or_true true_or true_and and_true and_self decide_true decide_false Bool.false_eq_true Bool.true_eq_false Bool.not_true Bool.not_false Nat.le_refl eq_self gt_iff_lt ge_iff_le ne_eq not_true_eq_false not_false_eq_true storeOp apartOf freeze_nil refsL refs List.flatMap_cons List.flatMap_nil List.append_nil List.contains_nil List.set_cons_zero List.set_cons_succ snap snapL fill_nums flat_nums nums_length Go.V.freeze List.mapIdx_cons List.mapIdx_nil List.contains_cons Bool.or_false Bool.false_or Bool.or_true Bool.true_or
def idx1 (k : Int) : List Int → Int → Int
  | [], _ => -1
  | a :: l, i => if k = a then i else idx1 k l (i + 1)
theorem idx1_mem {k : Int} : ∀ {l : List Int} {i : Int}, 0 ≤ i → (0 ≤ idx1 k l i ↔ k ∈ l)
  | [], i, _ => by simp [idx1]
  | a :: l, i, h => by
    rw [idx1, List.mem_cons]
    by_cases he : k = a
    · rw [if_pos he]; exact ⟨fun _ => .inl he, fun _ => h⟩
    · rw [if_neg he, idx1_mem (by omega)]
      exact ⟨.inr, fun h => h.elim (fun e => absurd e he) id⟩
theorem take_getD {l : List Int} {i : Nat} (h : i < l.length) : l.take (i + 1) = l.take i ++ [l.getD i 0] := by
  rw [List.take_add_one]
  simp [List.getD, h]
theorem inR_get : ∀ {s x : List Int} {i : Nat}, inR s x → i < s.length → 0 ≤ x.getD i 0 ∧ x.getD i 0 < s.getD i 0
  | d :: s, y :: x, 0, h, _ => h.1
  | d :: s, y :: x, i + 1, h, hi => by
    rw [List.getD_cons_succ, List.getD_cons_succ]
    exact inR_get h.2 (by simpa using hi)
  | [], _, i, _, hi => by simp at hi
  | d :: s, [], i, h, _ => by simp [inR] at h
theorem min_if {x y : Int} : min x y = if y < x then y else x := by split <;> omega
section
variable {E : CallRel}
theorem c146_ok {l : List Int} {k : Int} (hl : (l.length : Int) ≤ 1000000000) : Go.V.Call tab E 146 [ints l, .int .i64 k] [] (.int .i64 (idx1 k l 0)) [] := by
  refine Go.V.Call.mach i146 c146 rfl rfl rfl rfl ?_
  simp only [c146, go_sem]
  refine mLoop (fun N st => ∃ i : Nat, i ≤ l.length ∧ N = l.length - i ∧ idx1 k l 0 = idx1 k (l.drop i) i ∧ st = ⟨[(0, ints l), (1, .int .i64 k), (7, .int .i64 l.length), (8, .int .i64 i)], []⟩) l.length ⟨_, rfl, 0, by omega, by omega, rfl, rfl⟩ ?_
  rintro N s0 ⟨i, hi, rfl, hx, rfl⟩
  by_cases hlt : i < l.length
  · have hlt' : (i : Int) < (l.length : Int) := by omega
    have hi0 : (0 : Int) ≤ (i : Int) := by omega
    have hi1 : IntKind.i64.wrap ((i : Int) + 1) = ((i + 1 : Nat) : Int) := by rw [wrap_i64 (by omega) (by omega)]; omega
    have hsub := sub_nums (k := .i64) hlt
    rw [getD_drop hlt, idx1] at hx
    by_cases he : k = l.getD i 0
    · rw [if_pos he] at hx
      have he' : (k == l.getD i 0) = true := by simpa using he
      simp only [b146_0, go_sem, hlt', hi0, Int.toNat_natCast, hsub, he']
      simp only [i146, Out, resAll, geto, ints, List.getElem?_cons_zero, List.getElem?_cons_succ, resOf, outOf, snap, snapL, ev, getE, List.mapM_cons, List.mapM_nil, Option.bind_some, Option.pure_def, Option.bind_eq_bind, Option.map_some, reduceIte, Nat.reduceEqDiff, true_and, and_true, hx]
    · rw [if_neg he] at hx
      have he' : (k == l.getD i 0) = false := by simpa using he
      simp only [b146_0, go_sem, hlt', hi0, Int.toNat_natCast, hsub, he', hi1]
      exact loopQ_go rfl (l.length - (i + 1)) (by omega) ⟨i + 1, by omega, rfl, hx, rfl⟩
  · have hlt' : ¬ (i : Int) < (l.length : Int) := by omega
    rw [List.drop_eq_nil_of_le (by omega), idx1] at hx
    simp only [b146_0, k146_0, go_sem, hlt']
    simp only [i146, Out, resAll, geto, ints, List.getElem?_cons_zero, List.getElem?_cons_succ, resOf, outOf, snap, snapL, ev, getE, List.mapM_cons, List.mapM_nil, Option.bind_some, Option.pure_def, Option.bind_eq_bind, Option.map_some, reduceIte, Nat.reduceEqDiff, true_and, and_true, hx]
theorem c125_ok {l : List Int} {k : Int} {b : Bool} (hl : (l.length : Int) ≤ 1000000000) (hb : b = true ↔ k ∈ l) : Go.V.Call tab E 125 [ints l, .int .i64 k] [] (.bool b) [] := by
  refine Go.V.Call.mach i125 c125 rfl rfl rfl rfl ?_
  have h := c146_ok (E := E) (k := k) hl
  have hm := idx1_mem (k := k) (l := l) (i := 0) (by omega)
  generalize idx1 k l 0 = r at *
  simp only [c125, go_sem, snap]
  refine goP h ?_
  by_cases hr : 0 ≤ r
  · have : b = true := hb.2 (hm.1 hr)
    subst this
    simp only [go_sem, hr, decide_true]
    simp only [i125, Out, resAll, geto, ints, List.getElem?_cons_zero, List.getElem?_cons_succ, resOf, outOf, snap, snapL, ev, getE, List.mapM_cons, List.mapM_nil, Option.bind_some, Option.pure_def, Option.bind_eq_bind, Option.map_some, reduceIte, Nat.reduceEqDiff, true_and, and_true]
  · have : b = false := by
      cases b with
      | true => exact absurd (hm.2 (hb.1 rfl)) hr
      | false => rfl
    subst this
    simp only [go_sem, hr, decide_false]
    simp only [i125, Out, resAll, geto, ints, List.getElem?_cons_zero, List.getElem?_cons_succ, resOf, outOf, snap, snapL, ev, getE, List.mapM_cons, List.mapM_nil, Option.bind_some, Option.pure_def, Option.bind_eq_bind, Option.map_some, reduceIte, Nat.reduceEqDiff, true_and, and_true]
theorem c127_ok {x l s : List Int} (hin : inR s (l.map fun a => x.getD a.toNat 0)) (hl : l.length = s.length) (hll : (l.length : Int) ≤ 1000000) (ha : ∀ a ∈ l, 0 ≤ a ∧ a < x.length) (hd : ∀ d ∈ s, d ≤ 4096) (hp : ∀ k : Nat, 0 ≤ prd (s.drop k) ∧ prd (s.drop k) ≤ 4096) :
    Go.V.Call tab E 127 [ints x, .ptr [ints l] 0, .ptr [ints (strP s)] 0] [] (.int .i64 (dotT l (strP s) x)) [] := by
  refine Go.V.Call.mach i127 c127 rfl rfl rfl rfl ?_
  have hst : (strP s).length = l.length := by rw [strP_len, hl]
  simp only [c127, go_sem, subOne]
  refine mLoop (fun N st => ∃ i : Nat, i ≤ l.length ∧ N = l.length - i ∧ st = ⟨[(0, ints x), (2, .ptr [ints (strP s)] 0), (5, .int .i64 (dotT (l.take i) ((strP s).take i) x)), (8, ints l), (9, .int .i64 l.length), (10, .int .i64 i)], []⟩) l.length ⟨_, rfl, 0, by omega, by omega, rfl⟩ ?_
  rintro N s0 ⟨i, hi, rfl, rfl⟩
  by_cases hlt : i < l.length
  · have hlt' : (i : Int) < (l.length : Int) := by omega
    have hi0 : (0 : Int) ≤ (i : Int) := by omega
    have hi1 : IntKind.i64.wrap ((i : Int) + 1) = ((i + 1 : Nat) : Int) := by rw [wrap_i64 (by omega) (by omega)]; omega
    have hsub := sub_nums (k := .i64) hlt
    have hsub2 := sub_nums (k := .i64) (l := strP s) (i := i) (by omega)
    have ha' := ha (l.getD i 0) (by simp [List.getD, hlt])
    have hsub3 := sub_nums (k := .i64) (l := x) (i := (l.getD i 0).toNat) (by omega)
    have b1 := dotT_take (i := i) hin
    have b2 := dotT_take (i := i + 1) hin
    have b3 := dI_bound hin
    have b4 := hp 0
    rw [List.drop_zero] at b4
    have b5 := hp (i + 1)
    rw [← strP_get (by omega)] at b5
    have b6 := inR_get (i := i) hin (by omega)
    have e1 : (l.map fun a => x.getD a.toNat 0).getD i 0 = x.getD (l.getD i 0).toNat 0 := by simp [List.getD, hlt]
    rw [e1] at b6
    have b7 := hd (s.getD i 0) (by simp [List.getD, show i < s.length by omega])
    rw [take_getD hlt, take_getD (l := strP s) (by omega), dotT_snoc (by simp; omega)] at b2
    have e2 : dotT (l.take (i + 1)) ((strP s).take (i + 1)) x = dotT (l.take i) ((strP s).take i) x + (strP s).getD i 0 * x.getD (l.getD i 0).toNat 0 := by
      rw [take_getD hlt, take_getD (l := strP s) (by omega), dotT_snoc (by simp; omega)]
    have b8 := mul_bound b5.1 b5.2 b6.1 (show x.getD (l.getD i 0).toNat 0 ≤ 4096 by omega)
    have hst' : (i : Int) < ((strP s).length : Int) := by omega
    clear e1 hin
    generalize x.getD (l.getD i 0).toNat 0 = v at *
    generalize l.getD i 0 = a at *
    generalize (strP s).getD i 0 = w at *
    generalize dI s _ = z at *
    generalize hn : dotT (l.take i) ((strP s).take i) x = n at *
    generalize hwv : w * v = wv at *
    have w1 : IntKind.i64.wrap wv = wv := wrap_i64 (by omega) (by omega)
    have w2 : IntKind.i64.wrap (n + wv) = n + wv := wrap_i64 (by omega) (by omega)
    simp only [b127_0, go_sem, subOne, hlt', hi0, Int.toNat_natCast, hsub, hst', hsub2, ha', hsub3, hwv, w1, w2, hi1]
    exact loopQ_go rfl (l.length - (i + 1)) (by omega) ⟨i + 1, by omega, rfl, by rw [e2]; rfl⟩
  · have hlt' : ¬ (i : Int) < (l.length : Int) := by omega
    obtain rfl : i = l.length := by omega
    rw [List.take_length, List.take_of_length_le (by omega)]
    simp only [b127_0, k127_0, go_sem, hlt']
    simp only [i127, Out, resAll, geto, ints, List.getElem?_cons_zero, List.getElem?_cons_succ, resOf, outOf, snap, snapL, ev, getE, List.mapM_cons, List.mapM_nil, Option.bind_some, Option.pure_def, Option.bind_eq_bind, Option.map_some, reduceIte, Nat.reduceEqDiff, true_and, and_true]
end
def turnM (l s t : List Int) (ch : Bool) (L : List Rt) (k : Nat) : List AObj :=
  [⟨true, 24, 1, 0, 1, [ints l], false⟩, ⟨true, 28, 5, 0, 1, arrX s ch t L, false⟩, ⟨false, 3, 1, 0, 0, [], false⟩, ⟨false, 21, 1, 0, 0, [], false⟩, ⟨false, 59, 3, 0, 0, [], false⟩, ⟨true, 28, 5, 0, 1, [.arr 2 0, .bool false, .arr 3 0, .arr 4 0, .bool false], false⟩, ⟨false, 3, 1, k, k, nums .i64 (shpT l s k), false⟩]
theorem shpT_snoc {l s : List Int} {k : Nat} : shpT l s (k + 1) = shpT l s k ++ [dmin k l s 4096] := by simp [shpT, List.range_succ]
set_option maxHeartbeats 1000000 in
theorem c87_ok {l s t : List Int} {ch : Bool} {L : List Rt} {m n : Nat} (hs : ∀ d ∈ s, In64 d) (hcs : count s ≠ none) (hl : l.length = s.length) (ht : (t.length : Int) ≤ 1000000000) (hL : (L.length : Int) ≤ 1000000000)
    (hr : ∀ a ∈ l, 0 ≤ a ∧ a < m) (hm : ∀ k : Nat, k < m → (k : Int) ∈ l) (hc : count (shpT l s m) = some (n : Int)) :
    Go.V.Call tab E 87 [ints l, .agg (arrX s ch t L)] [] (.tup [.agg (arrX (shpT l s m) ch (picksT ch t (turnK l s m n)) (picksR ch L (turnK l s m n))), .int .i64 0]) [] := by
  refine Go.V.Call.mach i87 c87 rfl rfl rfl rfl ?_
  obtain ⟨hl8, _, _⟩ := count_iff.2 hcs
  obtain ⟨_, hd4, hpp⟩ := count_bound hc
  have hsd : ∀ d ∈ s, d ≤ 4096 := by
    have h0 := (count_parts hcs s.length).1
    rw [List.take_length] at h0
    exact fun d hd => ((count_bound h0).2.1 d hd).2
  have hp : ∀ k : Nat, 0 ≤ prd (s.drop k) ∧ prd (s.drop k) ≤ 4096 := fun k => by
    obtain ⟨_, _, _, _, h1, h2⟩ := count_parts hcs k
    exact ⟨h1, h2⟩
  have hm8 := pig hm
  have hn4 : (n : Int) ≤ 4096 := by
    have := (hpp (shpT l s m).length).2
    rw [List.take_length, ← count_prd hc] at this
    exact this
  have h44 := c44_X (s := s) (t := t) (l := L) (ch := ch) (by omega)
  have h121 := c121_ok (E := E) (s := s) (by omega)
  rw [str_P hp] at h121
  have h126 := c126_ok (E := E) (s := shpT l s m) (f := 127) (caps := [.ptr [ints l] 0, .ptr [ints (strP s)] 0]) (n := n) (v := fun j => dotT l (strP s) (ix (shpT l s m) j).1) hc (fun _ => rfl) rfl
    (fun j hj => c127_ok (turn_in hl hr hc hj) hl (by omega) (by rw [ix_len, shpT_len]; exact hr) hsd hp)
  have h84 := c84_ok (s := s) (t := t) (s' := shpT l s m) (ks := turnK l s m n) (L := L) (ch := ch) (fun d hd => ⟨by have := hd4 d hd; omega, by have := hd4 d hd; omega⟩) (by rw [shpT_len]; omega) (by omega) (by omega) (by rw [turnK_len]; omega)
  rw [turnK_len, fits_of hc, if_pos rfl, if_pos rfl] at h84
  have h125 : ∀ k : Nat, k ≤ m → Go.V.Call tab E 125 [ints l, .int .i64 k] [] (.bool (decide (k < m))) [] := fun k hk => c125_ok (by omega) (by
    rw [decide_eq_true_eq]
    exact ⟨hm k, fun h => by have := (hr _ h).2; omega⟩)
  change Go.V.Call tab E 126 [ints (shpT l s m), .fn 127 [.ptr [ints l] 0, .ptr [ints (strP s)] 0]] [] (ints (turnK l s m n)) [] at h126
  simp only [ints, turnK_len, shpT_len, arrX, runes] at h44 h121 h126 h84 h125
  have z0 : (0 : Int) ≤ (l.length : Int) := by omega
  have z1 : 8 * l.length ≤ 140737488355328 := by omega
  have z2 : (l.length : Int) ≤ 140737488355328 := by omega
  simp only [c87, arrX, runes, ints, go_sem, fillAll, fillIn, shiftR, shiftV, List.take_succ_cons, List.take_zero, List.drop_succ_cons, List.drop_zero, List.append_nil, Nat.zero_add, subA5]
  refine goP h44 ?_
  simp only [go_sem, fillAll, fillIn, shiftR, shiftV, List.take_succ_cons, List.take_zero, List.drop_succ_cons, List.drop_zero, List.append_nil, Nat.zero_add, subA5, subOne, Int.toNat_natCast, z0, z1, z2]
  refine mLoop (fun N st => ∃ k : Nat, k ≤ m ∧ N = m - k ∧ st = ⟨[(2, .loc 0 0 0), (3, .loc 1 0 0), (4, .loc 5 0 0), (6, ints s), (7, .arr 6 k), (8, .int .i64 k)], turnM l s t ch L k⟩) m ⟨_, rfl, 0, by omega, by omega, by simp [getE, turnM, shpT, arrX, ints, runes, nums]⟩ ?_
  rintro N s0 ⟨k, hk, rfl, rfl⟩
  by_cases hlt : k < m
  · have h125k := h125 k hk
    rw [decide_eq_true hlt] at h125k
    have hk1 : IntKind.i64.wrap ((k : Int) + 1) = ((k + 1 : Nat) : Int) := by rw [wrap_i64 (by omega) (by omega)]; omega
    simp only [b87_0, turnM, ints, go_sem, subOne]
    refine goP h125k ?_
    simp only [go_sem, subOne]
    refine mLoop (fun N st => ∃ i : Nat, i ≤ l.length ∧ N = l.length - i ∧ st = ⟨[(2, .loc 0 0 0), (3, .loc 1 0 0), (4, .loc 5 0 0), (6, ints s), (7, .arr 6 k), (8, .int .i64 k), (9, .int .i64 (dmin k (l.take i) (s.take i) 4096)), (24, ints l), (25, .int .i64 l.length), (26, .int .i64 i)], turnM l s t ch L k⟩) l.length ⟨_, rfl, 0, by omega, by omega, rfl⟩ ?_
    rintro N1 s1 ⟨i, hi, rfl, rfl⟩
    by_cases hlti : i < l.length
    · have hlti' : (i : Int) < (l.length : Int) := by omega
      have hlts' : (i : Int) < (s.length : Int) := by omega
      have hi0 : (0 : Int) ≤ (i : Int) := by omega
      have hi1 : IntKind.i64.wrap ((i : Int) + 1) = ((i + 1 : Nat) : Int) := by rw [wrap_i64 (by omega) (by omega)]; omega
      have hsub := sub_nums (k := .i64) hlti
      have hsub2 := sub_nums (k := .i64) (l := s) (i := i) (by omega)
      have e1 : dmin k (l.take (i + 1)) (s.take (i + 1)) 4096 = if l.getD i 0 = (k : Int) then min (dmin k (l.take i) (s.take i) 4096) (s.getD i 0) else dmin k (l.take i) (s.take i) 4096 := by
        rw [take_getD hlti, take_getD (l := s) (by omega), dmin_snoc (by simp; omega)]
      generalize l.getD i 0 = a at *
      generalize s.getD i 0 = b at *
      by_cases he : a = (k : Int)
      · rw [if_pos he, min_if] at e1
        have he' : (a == (k : Int)) = true := by simpa using he
        simp only [b87_1, turnM, ints, go_sem, subOne, hlti', hlts', hi0, Int.toNat_natCast, hsub, hsub2, he', hi1]
        exact loopQ_go rfl (l.length - (i + 1)) (by omega) ⟨i + 1, by omega, rfl, by rw [e1]; rfl⟩
      · rw [if_neg he] at e1
        have he' : (a == (k : Int)) = false := by simpa using he
        simp only [b87_1, turnM, ints, go_sem, subOne, hlti', hlts', hi0, Int.toNat_natCast, hsub, hsub2, he', hi1]
        exact loopQ_go rfl (l.length - (i + 1)) (by omega) ⟨i + 1, by omega, rfl, by rw [e1]; rfl⟩
    · have hlti' : ¬ (i : Int) < (l.length : Int) := by omega
      obtain rfl : i = l.length := by omega
      have e1 : dmin k (l.take l.length) (s.take l.length) 4096 = dmin k l s 4096 := by rw [List.take_length, List.take_of_length_le (by omega)]
      have q1 : (k + 1) * 8 ≤ 140737488355328 := by omega
      have q2 : k + 1 ≤ 140737488355328 := by omega
      rw [e1]
      simp only [b87_1, k87_0, k87_1, turnM, ints, go_sem, fillAll, fillIn, shiftR, shiftV, List.take_succ_cons, List.take_zero, List.drop_succ_cons, List.drop_zero, List.append_nil, Nat.zero_add, subOne, hlti', hk1, q1, q2, List.flatten_cons, List.flatten_nil, Option.getD_some]
      refine loopQ_go rfl (m - (k + 1)) (by omega) ⟨k + 1, by omega, rfl, ?_⟩
      rw [shpT_snoc, nums_app]
      rfl
  · have h125k := h125 k hk
    rw [decide_eq_false hlt] at h125k
    obtain rfl : k = m := by omega
    simp only [b87_0, k87_2, turnM, arrX, runes, ints, go_sem, fillAll, fillIn, shiftR, shiftV, List.take_succ_cons, List.take_zero, List.drop_succ_cons, List.drop_zero, List.append_nil, Nat.zero_add, subOne, subA5]
    refine goP h125k ?_
    simp only [go_sem, fillAll, fillIn, shiftR, shiftV, List.take_succ_cons, List.take_zero, List.drop_succ_cons, List.drop_zero, List.append_nil, Nat.zero_add, subOne, subA5]
    refine goP h121 ?_
    simp only [go_sem, fillAll, fillIn, shiftR, shiftV, List.take_succ_cons, List.take_zero, List.drop_succ_cons, List.drop_zero, List.append_nil, Nat.zero_add, subOne, subA5]
    refine goF h126 ?_
    simp only [go_sem, fillAll, fillIn, shiftR, shiftV, List.take_succ_cons, List.take_zero, List.drop_succ_cons, List.drop_zero, List.append_nil, Nat.zero_add, subOne, subA5]
    refine goF h84 ?_
    simp only [go_sem, fillAll, fillIn, shiftR, shiftV, List.take_succ_cons, List.take_zero, List.drop_succ_cons, List.drop_zero, List.append_nil, Nat.zero_add, subOne, subA5]
    simp only [i87, Out, resAll, geto, ints, List.getElem?_cons_zero, List.getElem?_cons_succ, resOf, outOf, snap, snapL, ev, getE, List.mapM_cons, List.mapM_nil, Option.bind_some, Option.pure_def, Option.bind_eq_bind, Option.map_some, reduceIte, Nat.reduceEqDiff, true_and, and_true, subA5, shpT_len]
end Go.Proofs.Ytlejgleocnemoaa.I
