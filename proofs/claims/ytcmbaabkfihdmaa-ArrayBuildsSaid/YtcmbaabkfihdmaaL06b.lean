/- Layers 1 to 3: whole numbers of 64 bits as exact numbers, and back. -/
import Derived.Test.YtcmbaabkfihdmaaL07a
import Derived.WalkKit
set_option linter.unusedVariables false
set_option linter.unusedSimpArgs false
namespace Go.Proofs.Ytcmbaabkfihdmaa.I
open Go Go.V
attribute [local go_sem] mNil nat0 beq_self_eq_true mSkip mRet mExit mReg mSeq mCond mTrue mFalse mBlock mLv mCodeE mCodeR mEndN mEndR mEndE mOps mSome mGuard mGtt mGff mGtf mGft mGu mCallP mCallR mCallF mCallO mCallZ mCallG mCallM mCallV loopQ_exit loopQ_ret mO_mov mO_newnil mO_pick mO_alloc mO_box mO_build mO_bsl mO_ldf mO_ld mO_st mO_sta mO_nilchk mO_bin mO_binb mO_binp mO_bins mO_neg mO_not mO_conv mO_mk mO_mk0 mO_s2b mO_b2s mO_cpy mO_cut mO_faddr mO_fld mO_iaddr mO_iaddrf mO_sidx mO_len mO_lenf mO_slen mO_scut mO_app mO_ext mO_mx mO_mn mO_mkfn evalOp cutOp argsE ev getE putE cellsOf adopt rowOf binV boolV nilV arith geto bound finRet finNrm ints List.length_cons List.length_nil List.length_append List.getElem?_cons_zero List.getElem?_cons_succ List.nil_append List.cons_append List.map_cons List.map_nil List.mapM_cons List.mapM_nil Option.map_some Option.map_none Option.bind_some Option.pure_def Option.bind_eq_bind List.drop_zero or_self or_false false_or or_true true_or true_and and_true and_self decide_true decide_false Bool.false_eq_true Bool.true_eq_false Bool.not_true Bool.not_false Nat.le_refl eq_self gt_iff_lt ge_iff_le ne_eq not_true_eq_false not_false_eq_true storeOp apartOf freeze_nil refsL refs List.flatMap_cons List.flatMap_nil List.append_nil List.contains_nil List.set_cons_zero List.set_cons_succ snap snapL fill_nums flat_nums nums_length Go.V.freeze List.mapIdx_cons List.mapIdx_nil List.contains_cons Bool.or_false Bool.false_or Bool.or_true Bool.true_or

def us32 (l : List Int) : AV := .sl l.length 1 (nums .u32 l)
def trimL : List Int → List Int
  | [] => []
  | x :: xs => match trimL xs with
    | [] => if x = 0 then [] else [x]
    | y :: ys => x :: y :: ys
theorem trimL_snoc0 : ∀ {l : List Int}, trimL (l ++ [0]) = trimL l
  | [] => rfl
  | x :: l => by simp only [List.cons_append, trimL, trimL_snoc0]
theorem trimL_snoc {x : Int} (h : x ≠ 0) : ∀ {l : List Int}, trimL (l ++ [x]) = l ++ [x]
  | [] => by simp [trimL, h]
  | y :: l => by
    simp only [List.cons_append, trimL, trimL_snoc h]
    cases l <;> rfl
theorem take_snoc {l : List Int} {m : Nat} (h : m < l.length) : l.take (m + 1) = l.take m ++ [l.getD m 0] := by
  rw [List.take_add_one]
  congr 1
  simp [List.getD, h]

theorem wrap_u64 {n : Int} (h1 : 0 ≤ n) (h2 : n ≤ 18446744073709551615) : IntKind.u64.wrap n = n := by
  simp only [IntKind.wrap, IntKind.bits, IntKind.signed]
  simp
  omega
theorem wrap_u32 {n : Int} : IntKind.u32.wrap n = n % 4294967296 := by
  simp only [IntKind.wrap, IntKind.bits, IntKind.signed]
  simp
theorem wrap_i64' {n : Int} (h1 : 9223372036854775808 ≤ n) (h2 : n ≤ 18446744073709551615) : IntKind.i64.wrap n = n - 18446744073709551616 := by
  simp only [IntKind.wrap, IntKind.bits, IntKind.signed]
  simp
  omega

/-- The limbs of a number of 64 bits. -/
def lim (n : Nat) : List Int := if n = 0 then [] else if n < 4294967296 then [(n : Int)] else [((n % 4294967296 : Nat) : Int), ((n / 4294967296 : Nat) : Int)]
theorem trim_lim {n : Nat} : trimL [((n % 4294967296 : Nat) : Int), ((n / 4294967296 : Nat) : Int)] = lim n := by
  simp only [trimL, lim]
  by_cases h0 : n = 0
  · subst h0; rfl
  · rw [if_neg h0]
    by_cases h1 : n < 4294967296
    · have e1 : n / 4294967296 = 0 := by omega
      have e2 : n % 4294967296 = n := by omega
      rw [if_pos h1, e1, e2]
      simp
      omega
    · have : ¬ ((n / 4294967296 : Nat) : Int) = 0 := by omega
      rw [if_neg h1, if_neg this]
def ratC (z : Int) : List AV := [us32 (lim z.natAbs), .bool (decide (z < 0)), us32 [1]]

theorem cut_to {k : IntKind} {t : List Int} {m : Nat} (h : m ≤ t.length) : AV.sl m 1 ((nums k t).take (m * 1)) = .sl (t.take m).length 1 (nums k (t.take m)) := by
  simp only [nums, Nat.mul_one, List.map_take, List.length_take]
  congr 1
  omega

section
variable {E : CallRel}
theorem c114_ok {l : List Int} (hl : (l.length : Int) ≤ 1000000000000) : Go.V.Call tab E 114 [us32 l] [] (.agg [us32 (trimL l)]) [] := by
  refine Go.V.Call.mach i114 c114 rfl rfl rfl rfl ?_
  simp only [c114, go_sem, ↓reduceIte, Nat.reduceEqDiff, Nat.reduceAdd, Nat.reduceMul, Nat.reduceLeDiff, Nat.reduceLT, Int.reduceToNat, Int.reduceLT, Int.reduceLE, reduceCtorEq, Nat.reduceBEq, us32]
  refine mLoop (fun N st => ∃ (k : Nat), k ≤ l.length ∧ N = k ∧ trimL l = trimL (l.take k) ∧
    st = ⟨[(0, us32 (l.take k)), (2, .loc 1 0 0)], [⟨false, 133, 1, 0, 0, [], false⟩, ⟨true, 66, 1, 0, 1, [.arr 0 0], false⟩]⟩) l.length ⟨_, rfl, l.length, by omega, rfl, by rw [List.take_length], by rw [List.take_length]; rfl⟩ ?_
  rintro N s0 ⟨k, hk, rfl, ht, rfl⟩
  have hfin : fillIn [.arr 0 0] 0 [us32 (l.take N)] = [us32 (l.take N)] := rfl
  cases N with
  | zero =>
    simp only [b114_0, k114_0, go_sem, ↓reduceIte, Nat.reduceEqDiff, Nat.reduceAdd, Nat.reduceMul, Nat.reduceLeDiff, Nat.reduceLT, Int.reduceToNat, Int.reduceLT, Int.reduceLE, reduceCtorEq, Nat.reduceBEq, fillAll, fillIn, shiftR, shiftV, List.take_succ_cons, List.take_zero, List.drop_succ_cons, List.drop_zero, List.append_nil, Nat.zero_add, us32]
    rw [List.take_zero, trimL] at ht
    simp only [i114, Out, resAll, geto, ints, List.getElem?_cons_zero, List.getElem?_cons_succ, resOf, outOf, snap, snapL, ev, getE, List.mapM_cons, List.mapM_nil, Option.bind_some, Option.pure_def, Option.bind_eq_bind, Option.map_some, reduceIte, Nat.reduceEqDiff, true_and, and_true, sub, ht, fillAll, fillIn, shiftR, shiftV, List.take_succ_cons, List.take_zero, List.drop_succ_cons, List.drop_zero, List.append_nil, Nat.zero_add, List.length_cons, List.length_nil, Nat.le_refl]
  | succ m =>
    have hm : m < (l.take (m + 1)).length := by simp; omega
    have hlen : (l.take (m + 1)).length = m + 1 := by simp; omega
    have hlen' : (((l.take (m + 1)).length : Nat) : Int) = ((m + 1 : Nat) : Int) := by omega
    have hpos : (0 : Int) < ((m + 1 : Nat) : Int) := by omega
    have hw : IntKind.i64.wrap (((m + 1 : Nat) : Int) - 1) = (m : Int) := by rw [wrap_i64 (by omega) (by omega)]; omega
    have hm0 : (0 : Int) ≤ (m : Int) := by omega
    have hm1 : (m : Int) < ((m + 1 : Nat) : Int) := by omega
    have hm2 : (m : Int) ≤ ((m + 1 : Nat) : Int) := by omega
    have hsub := sub_nums (k := .u32) hm
    have hlast : (l.take (m + 1)).getD m 0 = l.getD m 0 := by simp [List.getD]
    have hts := take_snoc (l := l) (m := m) (by omega)
    have htt : (l.take (m + 1)).take m = l.take m := by rw [List.take_take]; congr 1; omega
    have hcut := cut_to (k := .u32) (t := l.take (m + 1)) (m := m) (by omega)
    rw [htt] at hcut
    rw [hlast] at hsub
    by_cases h0 : l.getD m 0 = 0
    · rw [h0] at hsub hts
      simp only [b114_0, go_sem, ↓reduceIte, Nat.reduceEqDiff, Nat.reduceAdd, Nat.reduceMul, Nat.reduceLeDiff, Nat.reduceLT, Int.reduceToNat, Int.reduceLT, Int.reduceLE, reduceCtorEq, Nat.reduceBEq, us32, hlen', hpos, hw, hm0, hm1, hm2, Int.toNat_natCast, hsub, Nat.sub_zero, hcut]
      refine loopQ_go rfl m (by omega) ⟨m, by omega, rfl, ?_, rfl⟩
      rw [ht, hts, trimL_snoc0]
    · have h0' : (l.getD m 0 == 0) = false := by simpa using h0
      simp only [b114_0, k114_0, go_sem, ↓reduceIte, Nat.reduceEqDiff, Nat.reduceAdd, Nat.reduceMul, Nat.reduceLeDiff, Nat.reduceLT, Int.reduceToNat, Int.reduceLT, Int.reduceLE, reduceCtorEq, Nat.reduceBEq, us32, hlen', hpos, hw, hm0, hm1, hm2, Int.toNat_natCast, hsub, h0', fillAll, fillIn, shiftR, shiftV, List.take_succ_cons, List.take_zero, List.drop_succ_cons, List.drop_zero, List.append_nil, Nat.zero_add]
      rw [hts, trimL_snoc h0, ← hts] at ht
      simp only [i114, Out, resAll, geto, ints, List.getElem?_cons_zero, List.getElem?_cons_succ, resOf, outOf, snap, snapL, ev, getE, List.mapM_cons, List.mapM_nil, Option.bind_some, Option.pure_def, Option.bind_eq_bind, Option.map_some, reduceIte, Nat.reduceEqDiff, true_and, and_true, sub, ht, fillAll, fillIn, shiftR, shiftV, List.take_succ_cons, List.take_zero, List.drop_succ_cons, List.drop_zero, List.append_nil, Nat.zero_add, List.length_cons, List.length_nil, Nat.le_refl]
theorem c90_ok {n : Nat} (hn : n < 18446744073709551616) : Go.V.Call tab E 90 [.int .u64 n] [] (.agg [us32 (lim n)]) [] := by
  refine Go.V.Call.mach i90 c90 rfl rfl rfl rfl ?_
  have h1 : IntKind.u32.wrap (n : Int) = ((n % 4294967296 : Nat) : Int) := by rw [wrap_u32]; omega
  have h2 : IntKind.u32.wrap (((n / 4294967296 : Nat) : Int)) = ((n / 4294967296 : Nat) : Int) := by rw [wrap_u32]; omega
  have h3 : shiftOp .shr .u64 (n : Int) 32 = some (.int .u64 ((n / 4294967296 : Nat) : Int)) := by
    simp [shiftOp, IntKind.bits, Int.fdiv_eq_ediv_of_nonneg]
  have h := c114_ok (E := E) (l := [((n % 4294967296 : Nat) : Int), ((n / 4294967296 : Nat) : Int)]) (by simp)
  rw [trim_lim] at h
  simp only [c90, go_sem, ↓reduceIte, Nat.reduceEqDiff, Nat.reduceAdd, Nat.reduceMul, Nat.reduceLeDiff, Nat.reduceLT, Int.reduceToNat, Int.reduceLT, Int.reduceLE, reduceCtorEq, Nat.reduceBEq, h1, h2, h3, List.flatten_cons, List.flatten_nil, Option.getD_some]
  refine goF h ?_
  simp only [go_sem, ↓reduceIte, Nat.reduceEqDiff, Nat.reduceAdd, Nat.reduceMul, Nat.reduceLeDiff, Nat.reduceLT, Int.reduceToNat, Int.reduceLT, Int.reduceLE, reduceCtorEq, Nat.reduceBEq, fillAll, fillIn, shiftR, shiftV, List.take_succ_cons, List.take_zero, List.drop_succ_cons, List.drop_zero, List.append_nil, Nat.zero_add, us32]
  simp only [i90, Out, resAll, geto, ints, List.getElem?_cons_zero, List.getElem?_cons_succ, resOf, outOf, snap, snapL, ev, getE, List.mapM_cons, List.mapM_nil, Option.bind_some, Option.pure_def, Option.bind_eq_bind, Option.map_some, reduceIte, Nat.reduceEqDiff, true_and, and_true, sub, fillAll, fillIn, shiftR, shiftV, List.take_succ_cons, List.take_zero, List.drop_succ_cons, List.drop_zero, List.append_nil, Nat.zero_add, List.length_cons, List.length_nil, Nat.le_refl]
theorem c124_ok {l : List Int} : Go.V.Call tab E 124 [.agg [us32 l]] [] (.bool ((l.length : Int) == 0)) [] := by
  refine Go.V.Call.mach i124 c124 rfl rfl rfl rfl ?_
  simp only [c124, go_sem, ↓reduceIte, Nat.reduceEqDiff, Nat.reduceAdd, Nat.reduceMul, Nat.reduceLeDiff, Nat.reduceLT, Int.reduceToNat, Int.reduceLT, Int.reduceLE, reduceCtorEq, Nat.reduceBEq, us32, sub, fillAll, fillIn, shiftR, shiftV, List.take_succ_cons, List.take_zero, List.drop_succ_cons, List.drop_zero, List.append_nil, Nat.zero_add]
  simp only [i124, Out, resAll, geto, ints, List.getElem?_cons_zero, List.getElem?_cons_succ, resOf, outOf, snap, snapL, ev, getE, List.mapM_cons, List.mapM_nil, Option.bind_some, Option.pure_def, Option.bind_eq_bind, Option.map_some, reduceIte, Nat.reduceEqDiff, true_and, and_true]
theorem c130_one : Go.V.Call tab E 130 [.agg [us32 [1]]] [] (.bool true) [] := Go.V.Call.run (ext := fun _ _ _ => none) (fun h => by cases h) (fuel := 100) (n := 5) (by kernel_rfl)
theorem c89_ok {z : Int} (hz : In64 z) : Go.V.Call tab E 89 [.int .i64 z] [] (.agg [us32 (lim z.natAbs), .bool (decide (z < 0))]) [] := by
  obtain ⟨hz1, hz2⟩ := hz
  refine Go.V.Call.mach i89 c89 rfl rfl rfl rfl ?_
  by_cases h0 : z < 0
  · have e1 : IntKind.i64.wrap (z + 1) = z + 1 := wrap_i64 (by omega) (by omega)
    have e2 : IntKind.i64.wrap (0 - (z + 1)) = -(z + 1) := by rw [wrap_i64 (by omega) (by omega)]; omega
    have e3 : IntKind.u64.wrap (-(z + 1)) = -(z + 1) := wrap_u64 (by omega) (by omega)
    have e4 : IntKind.u64.wrap (-(z + 1) + 1) = (z.natAbs : Int) := by rw [wrap_u64 (by omega) (by omega)]; omega
    simp only [c89, go_sem, ↓reduceIte, Nat.reduceEqDiff, Nat.reduceAdd, Nat.reduceMul, Nat.reduceLeDiff, Nat.reduceLT, Int.reduceToNat, Int.reduceLT, Int.reduceLE, reduceCtorEq, Nat.reduceBEq, h0, e1, e2, e3, e4, snap]
    refine goP (c90_ok (by omega)) ?_
    simp only [go_sem, ↓reduceIte, Nat.reduceEqDiff, Nat.reduceAdd, Nat.reduceMul, Nat.reduceLeDiff, Nat.reduceLT, Int.reduceToNat, Int.reduceLT, Int.reduceLE, reduceCtorEq, Nat.reduceBEq, fillAll, fillIn, shiftR, shiftV, List.take_succ_cons, List.take_zero, List.drop_succ_cons, List.drop_zero, List.append_nil, Nat.zero_add, us32]
    simp only [i89, Out, resAll, geto, ints, List.getElem?_cons_zero, List.getElem?_cons_succ, resOf, outOf, snap, snapL, ev, getE, List.mapM_cons, List.mapM_nil, Option.bind_some, Option.pure_def, Option.bind_eq_bind, Option.map_some, reduceIte, Nat.reduceEqDiff, true_and, and_true, sub, fillAll, fillIn, shiftR, shiftV, List.take_succ_cons, List.take_zero, List.drop_succ_cons, List.drop_zero, List.append_nil, Nat.zero_add, List.length_cons, List.length_nil, Nat.le_refl]
  · have e1 : IntKind.u64.wrap z = (z.natAbs : Int) := by rw [wrap_u64 (by omega) (by omega)]; omega
    simp only [c89, go_sem, ↓reduceIte, Nat.reduceEqDiff, Nat.reduceAdd, Nat.reduceMul, Nat.reduceLeDiff, Nat.reduceLT, Int.reduceToNat, Int.reduceLT, Int.reduceLE, reduceCtorEq, Nat.reduceBEq, h0, e1, snap]
    refine goP (c90_ok (by omega)) ?_
    simp only [go_sem, ↓reduceIte, Nat.reduceEqDiff, Nat.reduceAdd, Nat.reduceMul, Nat.reduceLeDiff, Nat.reduceLT, Int.reduceToNat, Int.reduceLT, Int.reduceLE, reduceCtorEq, Nat.reduceBEq, fillAll, fillIn, shiftR, shiftV, List.take_succ_cons, List.take_zero, List.drop_succ_cons, List.drop_zero, List.append_nil, Nat.zero_add, us32]
    simp only [i89, Out, resAll, geto, ints, List.getElem?_cons_zero, List.getElem?_cons_succ, resOf, outOf, snap, snapL, ev, getE, List.mapM_cons, List.mapM_nil, Option.bind_some, Option.pure_def, Option.bind_eq_bind, Option.map_some, reduceIte, Nat.reduceEqDiff, true_and, and_true, sub, fillAll, fillIn, shiftR, shiftV, List.take_succ_cons, List.take_zero, List.drop_succ_cons, List.drop_zero, List.append_nil, Nat.zero_add, List.length_cons, List.length_nil, Nat.le_refl]
theorem lim1 : lim 1 = [1] := rfl
theorem c90_one : Go.V.Call tab E 90 [.int .u64 1] [] (.agg [us32 [1]]) [] := c90_ok (n := 1) (by omega)
theorem c45_ok {z : Int} (hz : In64 z) : Go.V.Call tab E 45 [.int .i64 z] [] (.agg (ratC z)) [] := by
  refine Go.V.Call.mach i45 c45 rfl rfl rfl rfl ?_
  simp only [c45, go_sem, ↓reduceIte, Nat.reduceEqDiff, Nat.reduceAdd, Nat.reduceMul, Nat.reduceLeDiff, Nat.reduceLT, Int.reduceToNat, Int.reduceLT, Int.reduceLE, reduceCtorEq, Nat.reduceBEq, snap]
  refine goP (c89_ok hz) ?_
  simp only [go_sem, ↓reduceIte, Nat.reduceEqDiff, Nat.reduceAdd, Nat.reduceMul, Nat.reduceLeDiff, Nat.reduceLT, Int.reduceToNat, Int.reduceLT, Int.reduceLE, reduceCtorEq, Nat.reduceBEq]
  refine goP c90_one ?_
  simp only [go_sem, ↓reduceIte, Nat.reduceEqDiff, Nat.reduceAdd, Nat.reduceMul, Nat.reduceLeDiff, Nat.reduceLT, Int.reduceToNat, Int.reduceLT, Int.reduceLE, reduceCtorEq, Nat.reduceBEq, fillAll, fillIn, shiftR, shiftV, List.take_succ_cons, List.take_zero, List.drop_succ_cons, List.drop_zero, List.append_nil, Nat.zero_add, us32]
  simp only [i45, Out, resAll, geto, ints, List.getElem?_cons_zero, List.getElem?_cons_succ, resOf, outOf, snap, snapL, ev, getE, List.mapM_cons, List.mapM_nil, Option.bind_some, Option.pure_def, Option.bind_eq_bind, Option.map_some, reduceIte, Nat.reduceEqDiff, true_and, and_true, sub, fillAll, fillIn, shiftR, shiftV, List.take_succ_cons, List.take_zero, List.drop_succ_cons, List.drop_zero, List.append_nil, Nat.zero_add, List.length_cons, List.length_nil, Nat.le_refl, ratC, us32]
theorem c100_ok {t : List Int} {neg : Bool} : Go.V.Call tab E 100 [.agg [us32 t, .bool neg, us32 [1]]] [] (.agg [us32 [1]]) [] := by
  refine Go.V.Call.mach i100 c100 rfl rfl rfl rfl ?_
  simp only [c100, go_sem, ↓reduceIte, Nat.reduceEqDiff, Nat.reduceAdd, Nat.reduceMul, Nat.reduceLeDiff, Nat.reduceLT, Int.reduceToNat, Int.reduceLT, Int.reduceLE, reduceCtorEq, Nat.reduceBEq, us32, sub, fillAll, fillIn, shiftR, shiftV, List.take_succ_cons, List.take_zero, List.drop_succ_cons, List.drop_zero, List.append_nil, Nat.zero_add]
  refine goP (c124_ok (l := [1])) ?_
  simp only [go_sem, ↓reduceIte, Nat.reduceEqDiff, Nat.reduceAdd, Nat.reduceMul, Nat.reduceLeDiff, Nat.reduceLT, Int.reduceToNat, Int.reduceLT, Int.reduceLE, reduceCtorEq, Nat.reduceBEq, us32, sub, fillAll, fillIn, shiftR, shiftV, List.take_succ_cons, List.take_zero, List.drop_succ_cons, List.drop_zero, List.append_nil, Nat.zero_add, show ((1 : Nat) : Int) = 1 from rfl, show ((1 : Int) == 0) = false from rfl]
  simp only [i100, Out, resAll, geto, ints, List.getElem?_cons_zero, List.getElem?_cons_succ, resOf, outOf, snap, snapL, ev, getE, List.mapM_cons, List.mapM_nil, Option.bind_some, Option.pure_def, Option.bind_eq_bind, Option.map_some, reduceIte, Nat.reduceEqDiff, true_and, and_true, sub, fillAll, fillIn, shiftR, shiftV, List.take_succ_cons, List.take_zero, List.drop_succ_cons, List.drop_zero, List.append_nil, Nat.zero_add, List.length_cons, List.length_nil, Nat.le_refl]
theorem c112_ok {t : List Int} {neg : Bool} : Go.V.Call tab E 112 [.agg [us32 t, .bool neg, us32 [1]]] [] (.bool true) [] := by
  refine Go.V.Call.mach i112 c112 rfl rfl rfl rfl ?_
  simp only [c112, go_sem, ↓reduceIte, Nat.reduceEqDiff, Nat.reduceAdd, Nat.reduceMul, Nat.reduceLeDiff, Nat.reduceLT, Int.reduceToNat, Int.reduceLT, Int.reduceLE, reduceCtorEq, Nat.reduceBEq, us32, sub, fillAll, fillIn, shiftR, shiftV, List.take_succ_cons, List.take_zero, List.drop_succ_cons, List.drop_zero, List.append_nil, Nat.zero_add]
  refine goP c100_ok ?_
  simp only [go_sem, ↓reduceIte, Nat.reduceEqDiff, Nat.reduceAdd, Nat.reduceMul, Nat.reduceLeDiff, Nat.reduceLT, Int.reduceToNat, Int.reduceLT, Int.reduceLE, reduceCtorEq, Nat.reduceBEq, us32]
  refine goP c130_one ?_
  simp only [go_sem, ↓reduceIte, Nat.reduceEqDiff, Nat.reduceAdd, Nat.reduceMul, Nat.reduceLeDiff, Nat.reduceLT, Int.reduceToNat, Int.reduceLT, Int.reduceLE, reduceCtorEq, Nat.reduceBEq]
  simp only [i112, Out, resAll, geto, ints, List.getElem?_cons_zero, List.getElem?_cons_succ, resOf, outOf, snap, snapL, ev, getE, List.mapM_cons, List.mapM_nil, Option.bind_some, Option.pure_def, Option.bind_eq_bind, Option.map_some, reduceIte, Nat.reduceEqDiff, true_and, and_true]
theorem or_shl {a b : Nat} (ha : a < 4294967296) (hb : b < 4294967296) : IntKind.u64.wrap (((BitVec.ofInt 64 (a : Int) ||| BitVec.ofInt 64 ((b : Int) * 4294967296)).toNat : Nat) : Int) = (b : Int) * 4294967296 + a := by
  have h1 : (BitVec.ofInt 64 (a : Int)).toNat = a := by simp [BitVec.toNat_ofInt]; omega
  have h2 : (BitVec.ofInt 64 ((b : Int) * 4294967296)).toNat = b * 4294967296 := by simp [BitVec.toNat_ofInt]; omega
  rw [BitVec.toNat_or, h1, h2]
  have h3 : a ||| b * 4294967296 = b * 4294967296 + a := by
    have := Nat.shiftLeft_add_eq_or_of_lt (i := 32) (b := a) (by simpa using ha) b
    rw [Nat.shiftLeft_eq] at this
    rw [Nat.or_comm]
    simpa using this.symm
  rw [h3, wrap_u64 (by omega) (by omega)]
  omega
theorem c131_ok {n : Nat} (hn : n < 18446744073709551616) : Go.V.Call tab E 131 [.agg [us32 (lim n)]] [] (.tup [.int .u64 n, .bool true]) [] := by
  refine Go.V.Call.mach i131 c131 rfl rfl rfl rfl ?_
  by_cases h0 : n = 0
  · subst h0
    simp only [c131, go_sem, ↓reduceIte, Nat.reduceEqDiff, Nat.reduceAdd, Nat.reduceMul, Nat.reduceLeDiff, Nat.reduceLT, Int.reduceToNat, Int.reduceLT, Int.reduceLE, reduceCtorEq, Nat.reduceBEq, us32, sub, fillAll, fillIn, shiftR, shiftV, List.take_succ_cons, List.take_zero, List.drop_succ_cons, List.drop_zero, List.append_nil, Nat.zero_add, lim, nums]
    simp only [i131, Out, resAll, geto, ints, List.getElem?_cons_zero, List.getElem?_cons_succ, resOf, outOf, snap, snapL, ev, getE, List.mapM_cons, List.mapM_nil, Option.bind_some, Option.pure_def, Option.bind_eq_bind, Option.map_some, reduceIte, Nat.reduceEqDiff, true_and, and_true]
  · by_cases h1 : n < 4294967296
    · have hw : IntKind.u64.wrap (n : Int) = (n : Int) := wrap_u64 (by omega) (by omega)
      simp only [c131, go_sem, ↓reduceIte, Nat.reduceEqDiff, Nat.reduceAdd, Nat.reduceMul, Nat.reduceLeDiff, Nat.reduceLT, Int.reduceToNat, Int.reduceLT, Int.reduceLE, reduceCtorEq, Nat.reduceBEq, us32, sub, fillAll, fillIn, shiftR, shiftV, List.take_succ_cons, List.take_zero, List.drop_succ_cons, List.drop_zero, List.append_nil, Nat.zero_add, lim, nums, h0, h1, show ((1 : Nat) : Int) = 1 from rfl, show ((1 : Int) == 0) = false from rfl, hw]
      simp only [i131, Out, resAll, geto, ints, List.getElem?_cons_zero, List.getElem?_cons_succ, resOf, outOf, snap, snapL, ev, getE, List.mapM_cons, List.mapM_nil, Option.bind_some, Option.pure_def, Option.bind_eq_bind, Option.map_some, reduceIte, Nat.reduceEqDiff, true_and, and_true]
    · have e1 := or_shl (a := n % 4294967296) (b := n / 4294967296) (by omega) (by omega)
      have e2 : ((n / 4294967296 : Nat) : Int) * 4294967296 + ((n % 4294967296 : Nat) : Int) = (n : Int) := by omega
      rw [e2] at e1
      have w1 : IntKind.u64.wrap ((n % 4294967296 : Nat) : Int) = ((n % 4294967296 : Nat) : Int) := wrap_u64 (by omega) (by omega)
      have w2 : IntKind.u64.wrap ((n / 4294967296 : Nat) : Int) = ((n / 4294967296 : Nat) : Int) := wrap_u64 (by omega) (by omega)
      have w3 : shiftOp .shl .u64 ((n / 4294967296 : Nat) : Int) 32 = some (.int .u64 (((n / 4294967296 : Nat) : Int) * 4294967296)) := by
        have : IntKind.u64.wrap (((n / 4294967296 : Nat) : Int) * 4294967296) = ((n / 4294967296 : Nat) : Int) * 4294967296 := wrap_u64 (by omega) (by omega)
        simp only [shiftOp, IntKind.bits]
        simp
        exact this
      simp only [c131, go_sem, ↓reduceIte, Nat.reduceEqDiff, Nat.reduceAdd, Nat.reduceMul, Nat.reduceLeDiff, Nat.reduceLT, Int.reduceToNat, Int.reduceLT, Int.reduceLE, reduceCtorEq, Nat.reduceBEq, us32, sub, fillAll, fillIn, shiftR, shiftV, List.take_succ_cons, List.take_zero, List.drop_succ_cons, List.drop_zero, List.append_nil, Nat.zero_add, lim, nums, h0, h1, show ((2 : Nat) : Int) = 2 from rfl, show ((2 : Int) == 0) = false from rfl, show ((2 : Int) == 1) = false from rfl, w1, w2, w3]
      simp only [i131, Out, resAll, geto, ints, List.getElem?_cons_zero, List.getElem?_cons_succ, resOf, outOf, snap, snapL, ev, getE, List.mapM_cons, List.mapM_nil, Option.bind_some, Option.pure_def, Option.bind_eq_bind, Option.map_some, reduceIte, Nat.reduceEqDiff, true_and, and_true]
      exact congrArg (fun x => some (AV.tup [AV.int .u64 x, .bool true])) e1
theorem c113_ok {z : Int} (hz : In64 z) : Go.V.Call tab E 113 [.agg [us32 (lim z.natAbs), .bool (decide (z < 0))]] [] (.tup [.int .i64 z, .bool true]) [] := by
  obtain ⟨hz1, hz2⟩ := hz
  refine Go.V.Call.mach i113 c113 rfl rfl rfl rfl ?_
  simp only [c113, go_sem, ↓reduceIte, Nat.reduceEqDiff, Nat.reduceAdd, Nat.reduceMul, Nat.reduceLeDiff, Nat.reduceLT, Int.reduceToNat, Int.reduceLT, Int.reduceLE, reduceCtorEq, Nat.reduceBEq, us32, sub, fillAll, fillIn, shiftR, shiftV, List.take_succ_cons, List.take_zero, List.drop_succ_cons, List.drop_zero, List.append_nil, Nat.zero_add]
  refine goP (c131_ok (by omega)) ?_
  have h1 : ¬ (9223372036854775808 : Int) < ((z.natAbs : Nat) : Int) := by omega
  by_cases h0 : z < 0
  · have e1 : IntKind.u64.wrap ((z.natAbs : Int) - 1) = -z - 1 := by rw [wrap_u64 (by omega) (by omega)]; omega
    have e2 : IntKind.i64.wrap (-z - 1) = -z - 1 := wrap_i64 (by omega) (by omega)
    have e3 : IntKind.i64.wrap (0 - (-z - 1)) = z + 1 := by rw [wrap_i64 (by omega) (by omega)]; omega
    have e4 : IntKind.i64.wrap (z + 1 - 1) = z := by rw [wrap_i64 (by omega) (by omega)]; omega
    by_cases h2 : z.natAbs = 9223372036854775808
    · have h2' : ((z.natAbs : Int) == 9223372036854775808) = true := by simp; omega
      simp only [go_sem, ↓reduceIte, Nat.reduceEqDiff, Nat.reduceAdd, Nat.reduceMul, Nat.reduceLeDiff, Nat.reduceLT, Int.reduceToNat, Int.reduceLT, Int.reduceLE, reduceCtorEq, Nat.reduceBEq, sub, fillAll, fillIn, shiftR, shiftV, List.take_succ_cons, List.take_zero, List.drop_succ_cons, List.drop_zero, List.append_nil, Nat.zero_add, h1, h0, h2', e1, e2, e3, e4]
      simp only [i113, Out, resAll, geto, ints, List.getElem?_cons_zero, List.getElem?_cons_succ, resOf, outOf, snap, snapL, ev, getE, List.mapM_cons, List.mapM_nil, Option.bind_some, Option.pure_def, Option.bind_eq_bind, Option.map_some, reduceIte, Nat.reduceEqDiff, true_and, and_true]
    · have h2' : ((z.natAbs : Int) == 9223372036854775808) = false := by simp; omega
      simp only [go_sem, ↓reduceIte, Nat.reduceEqDiff, Nat.reduceAdd, Nat.reduceMul, Nat.reduceLeDiff, Nat.reduceLT, Int.reduceToNat, Int.reduceLT, Int.reduceLE, reduceCtorEq, Nat.reduceBEq, sub, fillAll, fillIn, shiftR, shiftV, List.take_succ_cons, List.take_zero, List.drop_succ_cons, List.drop_zero, List.append_nil, Nat.zero_add, h1, h0, h2', e1, e2, e3, e4]
      simp only [i113, Out, resAll, geto, ints, List.getElem?_cons_zero, List.getElem?_cons_succ, resOf, outOf, snap, snapL, ev, getE, List.mapM_cons, List.mapM_nil, Option.bind_some, Option.pure_def, Option.bind_eq_bind, Option.map_some, reduceIte, Nat.reduceEqDiff, true_and, and_true]
  · have h2' : ((z.natAbs : Int) == 9223372036854775808) = false := by simp; omega
    have e1 : IntKind.i64.wrap (z.natAbs : Int) = z := by rw [wrap_i64 (by omega) (by omega)]; omega
    simp only [go_sem, ↓reduceIte, Nat.reduceEqDiff, Nat.reduceAdd, Nat.reduceMul, Nat.reduceLeDiff, Nat.reduceLT, Int.reduceToNat, Int.reduceLT, Int.reduceLE, reduceCtorEq, Nat.reduceBEq, sub, fillAll, fillIn, shiftR, shiftV, List.take_succ_cons, List.take_zero, List.drop_succ_cons, List.drop_zero, List.append_nil, Nat.zero_add, h1, h0, h2', e1]
    simp only [i113, Out, resAll, geto, ints, List.getElem?_cons_zero, List.getElem?_cons_succ, resOf, outOf, snap, snapL, ev, getE, List.mapM_cons, List.mapM_nil, Option.bind_some, Option.pure_def, Option.bind_eq_bind, Option.map_some, reduceIte, Nat.reduceEqDiff, true_and, and_true]
theorem c88_ok {z : Int} (hz : In64 z) : Go.V.Call tab E 88 [.agg (ratC z)] [] (.tup [.int .i64 z, .bool true]) [] := by
  refine Go.V.Call.mach i88 c88 rfl rfl rfl rfl ?_
  simp only [c88, ratC, go_sem, ↓reduceIte, Nat.reduceEqDiff, Nat.reduceAdd, Nat.reduceMul, Nat.reduceLeDiff, Nat.reduceLT, Int.reduceToNat, Int.reduceLT, Int.reduceLE, reduceCtorEq, Nat.reduceBEq, us32, sub, fillAll, fillIn, shiftR, shiftV, List.take_succ_cons, List.take_zero, List.drop_succ_cons, List.drop_zero, List.append_nil, Nat.zero_add]
  refine goP c112_ok ?_
  simp only [go_sem, ↓reduceIte, Nat.reduceEqDiff, Nat.reduceAdd, Nat.reduceMul, Nat.reduceLeDiff, Nat.reduceLT, Int.reduceToNat, Int.reduceLT, Int.reduceLE, reduceCtorEq, Nat.reduceBEq, sub, fillAll, fillIn, shiftR, shiftV, List.take_succ_cons, List.take_zero, List.drop_succ_cons, List.drop_zero, List.append_nil, Nat.zero_add]
  refine goP (c113_ok hz) ?_
  simp only [go_sem, ↓reduceIte, Nat.reduceEqDiff, Nat.reduceAdd, Nat.reduceMul, Nat.reduceLeDiff, Nat.reduceLT, Int.reduceToNat, Int.reduceLT, Int.reduceLE, reduceCtorEq, Nat.reduceBEq, sub, fillAll, fillIn, shiftR, shiftV, List.take_succ_cons, List.take_zero, List.drop_succ_cons, List.drop_zero, List.append_nil, Nat.zero_add]
  simp only [i88, Out, resAll, geto, ints, List.getElem?_cons_zero, List.getElem?_cons_succ, resOf, outOf, snap, snapL, ev, getE, List.mapM_cons, List.mapM_nil, Option.bind_some, Option.pure_def, Option.bind_eq_bind, Option.map_some, reduceIte, Nat.reduceEqDiff, true_and, and_true]
end
end Go.Proofs.Ytcmbaabkfihdmaa.I
