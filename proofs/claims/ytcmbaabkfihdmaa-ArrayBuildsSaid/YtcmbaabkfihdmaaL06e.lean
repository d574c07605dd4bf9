/- Layer 6: arrays, and what the page says of them. -/
import Derived.Test.YtcmbaabkfihdmaaL06d
import Derived.Test.YtcmbaabkfihdmaaL01d
import Derived.Test.YtcmbaabkfihdmaaL07f
set_option linter.unusedVariables false
set_option linter.unusedSimpArgs false
namespace Go.Proofs.Ytcmbaabkfihdmaa.I
open Go Go.V
attribute [local go_sem] mNil nat0 beq_self_eq_true mSkip mRet mExit mReg mSeq mCond mTrue mFalse mBlock mLv mCodeE mCodeR mEndN mEndR mEndE mOps mSome mGuard mGtt mGff mGtf mGft mGu mCallP mCallR mCallF mCallO mCallZ mCallG mCallM mCallV loopQ_exit loopQ_ret mO_mov mO_newnil mO_pick mO_alloc mO_box mO_build mO_bsl mO_ldf mO_ld mO_st mO_sta mO_nilchk mO_bin mO_binb mO_binp mO_bins mO_neg mO_not mO_conv mO_mk mO_mk0 mO_s2b mO_b2s mO_cpy mO_cut mO_faddr mO_fld mO_iaddr mO_iaddrf mO_sidx mO_len mO_lenf mO_slen mO_scut mO_app mO_ext mO_mx mO_mn mO_mkfn evalOp cutOp argsE ev getE putE cellsOf adopt rowOf binV boolV nilV arith geto bound finRet finNrm ints List.length_cons List.length_nil List.length_append List.getElem?_cons_zero List.getElem?_cons_succ List.nil_append List.cons_append List.map_cons List.map_nil List.mapM_cons List.mapM_nil Option.map_some Option.map_none Option.bind_some Option.pure_def Option.bind_eq_bind List.drop_zero or_self or_false false_or or_true true_or true_and and_true and_self decide_true decide_false Bool.false_eq_true Bool.true_eq_false Bool.not_true Bool.not_false Nat.le_refl eq_self gt_iff_lt ge_iff_le ne_eq not_true_eq_false not_false_eq_true storeOp apartOf freeze_nil refsL refs List.flatMap_cons List.flatMap_nil List.append_nil List.contains_nil List.set_cons_zero List.set_cons_succ snap snapL fill_nums flat_nums nums_length Go.V.freeze List.mapIdx_cons List.mapIdx_nil List.contains_cons Bool.or_false Bool.false_or Bool.or_true Bool.true_or
def runes (t : List Int) : AV := .sl t.length 1 (nums .i32 t)
def arrG (s : List Int) (ch : Bool) (t l : List Int) : List AV := [ints s, .bool ch, runes t, .sl l.length 3 (ratsC l), .bool true]
def numsC (l : List Int) : List AV := l.flatMap numC
def plG (s : List Int) (ch : Bool) (t l : List Int) : List AV := [ints s, .bool ch, runes t, .sl l.length 3 (numsC l)]
def noA : List AV := [.sl 0 1 [], .bool false, .sl 0 1 [], .sl 0 3 [], .bool false]
theorem numsC_len {l : List Int} : (numsC l).length = l.length * 3 := by
  induction l with
  | nil => rfl
  | cons z l ih =>
    have : numsC (z :: l) = numC z ++ numsC l := rfl
    rw [this, List.length_append, ih]
    simp [numC]
    omega
theorem numsC_get : ∀ {l : List Int} {i : Nat}, i < l.length → ((numsC l).drop (i * 3)).take 3 = numC (l.getD i 0)
  | [], i, h => by simp at h
  | z :: l, 0, _ => by
    have : numsC (z :: l) = numC z ++ numsC l := rfl
    rw [this, Nat.zero_mul, List.drop_zero]
    simp [numC]
  | z :: l, i + 1, h => by
    have : numsC (z :: l) = numC z ++ numsC l := rfl
    rw [this, Nat.succ_mul, List.drop_append]
    have e : (numC z).length = 3 := rfl
    rw [List.drop_eq_nil_of_le (by rw [e]; omega), e, Nat.add_sub_cancel, List.nil_append, numsC_get (by simpa using h)]
    simp
theorem sub_numsC {l : List Int} {i : Nat} (h : i < l.length) : sub true 3 (numsC l) (i * 3) = some (.agg (numC (l.getD i 0))) := by
  simp only [sub, numsC_len, if_true]
  rw [if_pos (by omega), numsC_get h]
theorem numsC_snoc {l : List Int} {z : Int} : numsC (l ++ [z]) = numsC l ++ numC z := by simp [numsC]
theorem beqBA {a : ByteArray} : (a == a) = true := by
  obtain ⟨⟨l⟩⟩ := a
  show ((⟨l⟩ : Array UInt8) == ⟨l⟩) = true
  simp
theorem same_numC {z : Int} : structV .ne [0, 2, 2] (.agg (numC z)) (.agg (numC z)) = some (.bool false) := by
  simp [structV, numC, kindOf, scalarsEq, scalEq, beqBA]
theorem dgs_bound : ∀ {k n : Nat}, n < 10 ^ k → (dgs n).length ≤ k
  | 0, n, h => by
    have : n = 0 := by simpa using h
    subst this
    rw [dgs_zero]; simp
  | k + 1, n, h => by
    by_cases h0 : n = 0
    · subst h0; rw [dgs_zero]; simp
    · rw [dgs_pos h0, List.length_cons]
      have := dgs_bound (k := k) (n := n / 10) (by rw [Nat.pow_succ] at h; omega)
      omega
theorem lim_len {n : Nat} : (lim n).length ≤ 2 := by
  unfold lim
  split
  · simp
  · split <;> simp
theorem dec1 : dec 1 = ⟨#[49]⟩ := by
  have : dgs 1 = [1] := by rw [dgs_pos (by omega)]; rw [show 1 / 10 = 0 from rfl, dgs_zero]; rfl
  rw [dec, if_neg (by omega), this]
  rfl
section
variable {E : CallRel}
theorem c99_small {n : Nat} (h : n < 18446744073709551616) : Go.V.Call tab E 99 [.agg [us32 (lim n)]] [] (.str (dec n)) [] := by
  have h1 := lim_len (n := n)
  have h2 := dgs_bound (k := 20) (n := n) (by omega)
  have h3 := c99_ok (E := E) (n := n) (by rw [← lim_limG h]; omega) (by omega)
  rwa [← lim_limG h] at h3
theorem c74_ok {z : Int} (hz : In64 z) : Go.V.Call tab E 74 [.agg (ratC z)] [] (.agg (numC z)) [] := by
  have hz' := hz
  obtain ⟨hz1, hz2⟩ := hz'
  have h99 := c99_small (E := E) (n := z.natAbs) (by omega)
  have h991 := c99_small (E := E) (n := 1) (by omega)
  rw [dec1, lim1] at h991
  have h98 : Go.V.Call tab E 98 [.agg [us32 (lim z.natAbs), .bool (decide (z < 0))]] [] (.bool (decide (z < 0))) [] := by
    refine Go.V.Call.mach i98 c98 rfl rfl rfl rfl ?_
    simp only [c98, us32, go_sem, ↓reduceIte, Nat.reduceEqDiff, Nat.reduceAdd, Nat.reduceMul, Nat.reduceLeDiff, Nat.reduceLT, Int.reduceToNat, Int.reduceLT, Int.reduceLE, reduceCtorEq, Nat.reduceBEq, sub, fillAll, fillIn, shiftR, shiftV, List.take_succ_cons, List.take_zero, List.drop_succ_cons, List.drop_zero, List.append_nil, Nat.zero_add]
    simp only [i98, Out, resAll, geto, ints, List.getElem?_cons_zero, List.getElem?_cons_succ, resOf, outOf, snap, snapL, ev, getE, List.mapM_cons, List.mapM_nil, Option.bind_some, Option.pure_def, Option.bind_eq_bind, Option.map_some, reduceIte, Nat.reduceEqDiff, true_and, and_true]
  refine Go.V.Call.mach i74 c74 rfl rfl rfl rfl ?_
  simp only [c74, ratC, us32, go_sem, ↓reduceIte, Nat.reduceEqDiff, Nat.reduceAdd, Nat.reduceMul, Nat.reduceLeDiff, Nat.reduceLT, Int.reduceToNat, Int.reduceLT, Int.reduceLE, reduceCtorEq, Nat.reduceBEq, sub, fillAll, fillIn, shiftR, shiftV, List.take_succ_cons, List.take_zero, List.drop_succ_cons, List.drop_zero, List.append_nil, Nat.zero_add]
  refine goP h98 ?_
  simp only [us32, go_sem, ↓reduceIte, Nat.reduceEqDiff, Nat.reduceAdd, Nat.reduceMul, Nat.reduceLeDiff, Nat.reduceLT, Int.reduceToNat, Int.reduceLT, Int.reduceLE, reduceCtorEq, Nat.reduceBEq, sub, fillAll, fillIn, shiftR, shiftV, List.take_succ_cons, List.take_zero, List.drop_succ_cons, List.drop_zero, List.append_nil, Nat.zero_add]
  refine goP h99 ?_
  simp only [us32, go_sem, ↓reduceIte, Nat.reduceEqDiff, Nat.reduceAdd, Nat.reduceMul, Nat.reduceLeDiff, Nat.reduceLT, Int.reduceToNat, Int.reduceLT, Int.reduceLE, reduceCtorEq, Nat.reduceBEq, sub, fillAll, fillIn, shiftR, shiftV, List.take_succ_cons, List.take_zero, List.drop_succ_cons, List.drop_zero, List.append_nil, Nat.zero_add]
  refine goP c100_ok ?_
  simp only [us32, go_sem, ↓reduceIte, Nat.reduceEqDiff, Nat.reduceAdd, Nat.reduceMul, Nat.reduceLeDiff, Nat.reduceLT, Int.reduceToNat, Int.reduceLT, Int.reduceLE, reduceCtorEq, Nat.reduceBEq, sub, fillAll, fillIn, shiftR, shiftV, List.take_succ_cons, List.take_zero, List.drop_succ_cons, List.drop_zero, List.append_nil, Nat.zero_add]
  refine goP h991 ?_
  simp only [us32, go_sem, ↓reduceIte, Nat.reduceEqDiff, Nat.reduceAdd, Nat.reduceMul, Nat.reduceLeDiff, Nat.reduceLT, Int.reduceToNat, Int.reduceLT, Int.reduceLE, reduceCtorEq, Nat.reduceBEq, sub, fillAll, fillIn, shiftR, shiftV, List.take_succ_cons, List.take_zero, List.drop_succ_cons, List.drop_zero, List.append_nil, Nat.zero_add]
  simp only [i74, Out, resAll, geto, ints, List.getElem?_cons_zero, List.getElem?_cons_succ, resOf, outOf, snap, snapL, ev, getE, List.mapM_cons, List.mapM_nil, Option.bind_some, Option.pure_def, Option.bind_eq_bind, Option.map_some, reduceIte, Nat.reduceEqDiff, true_and, and_true, sub, fillAll, fillIn, shiftR, shiftV, List.take_succ_cons, List.take_zero, List.drop_succ_cons, List.drop_zero, List.append_nil, Nat.zero_add, List.length_cons, List.length_nil, Nat.le_refl, numC]
end
end Go.Proofs.Ytcmbaabkfihdmaa.I
