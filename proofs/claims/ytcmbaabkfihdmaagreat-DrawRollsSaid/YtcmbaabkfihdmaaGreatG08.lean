/- The texts L06l L06a L06m L07c L07d L07h L07g L07i L07j L07k L07n L06n L01r L03c L06o LRat L02a L02b L02c L17f, one behind the other. Conditions: each text's own. -/
import Derived.Test.YtcmbaabkfihdmaaGreatG07
import Derived.Test.YtcmbaabkfihdmaaGreatG05
/- Layer 6: the document's elements at any places. -/
set_option linter.unusedVariables false
set_option linter.unusedSimpArgs false
namespace Go.Proofs.YtcmbaabkfihdmaaGreat.I
open Go Go.V
attribute [local go_sem] mNil nat0 beq_self_eq_true mSkip mRet mExit mReg mSeq mCond mTrue mFalse mBlock mLv mCodeE mCodeR mEndN mEndR mEndE mOps mSome mGuard mGtt mGff mGtf mGft mGu mCallP mCallR mCallF mCallO mCallZ mCallG mCallM mCallV loopQ_exit loopQ_ret mO_mov mO_newnil mO_pick mO_alloc mO_box mO_build mO_bsl mO_bslF mO_ldf mO_ld mO_st mO_sta mO_nilchk mO_bin mO_binb mO_binp mO_bins mO_neg mO_com mO_not mO_conv mO_mk mO_mk0 mO_s2b mO_b2s mO_cpy mO_cut mO_faddr mO_fld mO_iaddr mO_iaddrf mO_sidx mO_len mO_lenf mO_slen mO_scut mO_app mO_ext mO_mx mO_mn mO_mkfn evalOp cutOp argsE ev getE putE cellsOf adopt rowOf binV boolV nilV ar_add ar_sub ar_mul ar_quo ar_rem ar_eq ar_ne ar_lt ar_le ar_gt ar_ge ar_and ar_or ar_xor geto bound finRet finNrm ints List.length_cons List.length_nil List.length_append List.getElem?_cons_zero List.getElem?_cons_succ List.nil_append List.cons_append List.map_cons List.map_nil List.mapM_cons List.mapM_nil Option.map_some Option.map_none Option.bind_some Option.pure_def Option.bind_eq_bind List.drop_zero or_self or_false false_or or_true true_or true_and and_true and_self decide_true decide_false Bool.false_eq_true Bool.true_eq_false Bool.not_true Bool.not_false Nat.le_refl eq_self gt_iff_lt ge_iff_le ne_eq not_true_eq_false not_false_eq_true storeOp apartOf freeze_nil refsL refs List.flatMap_cons List.flatMap_nil List.append_nil List.contains_nil List.set_cons_zero List.set_cons_succ snap snapL fill_nums flat_nums nums_length Go.V.freeze List.mapIdx_cons List.mapIdx_nil List.contains_cons Bool.or_false Bool.false_or Bool.or_true Bool.true_or
def pickN (l : List Nm) (k : Int) : Nm := if 0 ≤ k ∧ k < l.length then nmAt l k.toNat else (false, [48], [49])
def picksN (ch : Bool) (l : List Nm) (ks : List Int) : List Nm := if ch then [] else ks.map (pickN l)
theorem dn_pos {q : Nat} (h : q ≠ 0) : dn q = q := by
  unfold dn
  rw [if_neg h]
/-- What is right on the page is the same when it comes back. -/
theorem back_nm {x : Nm} (h : RightN x.1 x.2.1 x.2.2) : toNm (toRt x) = x := by
  obtain ⟨n, a, b⟩ := x
  obtain ⟨hRa, hRb, t1, t2, hb48, _, _⟩ := h
  have ea : decL (sval a) = a := by rw [← trimS_dec hRa.1 (fun h0 => by have := hRa.2.1; rw [h0] at this; simp at this)]; exact t1
  have eb : decL (sval b) = b := by rw [← trimS_dec hRb.1 (fun h0 => by have := hRb.2.1; rw [h0] at this; simp at this)]; exact t2
  have hq : sval b ≠ 0 := fun h => hb48 ((right_zero hRb t2).1 h)
  have hd := dn_pos hq
  simp only [toNm, toRt]
  rw [hd, ea, eb]
theorem back_nms {l : List Nm} (h : ∀ x ∈ l, RightN x.1 x.2.1 x.2.2) : (l.map toRt).map toNm = l := by
  rw [List.map_map]
  conv => rhs; rw [← List.map_id l]
  exact List.map_congr_left fun x hx => back_nm (h x hx)
theorem right_ok {x : Nm} (h : RightN x.1 x.2.1 x.2.2) : RtOk (toRt x) := by
  obtain ⟨hRa, hRb, t1, t2, hb48, _, _⟩ := h
  refine ⟨Right_lim hRa, ?_⟩
  have hq : sval x.2.2 ≠ 0 := fun h => hb48 ((right_zero hRb t2).1 h)
  show dn (sval x.2.2) < lim2000
  rw [dn_pos hq]
  exact Right_lim hRb
end Go.Proofs.YtcmbaabkfihdmaaGreat.I

/- Layer 6: ArrayCounts. -/
set_option linter.unusedVariables false
set_option linter.unusedSimpArgs false
namespace Go.Proofs.YtcmbaabkfihdmaaGreat.I
open Go Go.V
end Go.Proofs.YtcmbaabkfihdmaaGreat.I

/- Layer 6: ArrayPicks. -/
set_option linter.unusedVariables false
set_option linter.unusedSimpArgs false
namespace Go.Proofs.YtcmbaabkfihdmaaGreat.I
open Go Go.V
attribute [local go_sem] mNil nat0 beq_self_eq_true mSkip mRet mExit mReg mSeq mCond mTrue mFalse mBlock mLv mCodeE mCodeR mEndN mEndR mEndE mOps mSome mGuard mGtt mGff mGtf mGft mGu mCallP mCallR mCallF mCallO mCallZ mCallG mCallM mCallV loopQ_exit loopQ_ret mO_mov mO_newnil mO_pick mO_alloc mO_box mO_build mO_bsl mO_bslF mO_ldf mO_ld mO_st mO_sta mO_nilchk mO_bin mO_binb mO_binp mO_bins mO_neg mO_com mO_not mO_conv mO_mk mO_mk0 mO_s2b mO_b2s mO_cpy mO_cut mO_faddr mO_fld mO_iaddr mO_iaddrf mO_sidx mO_len mO_lenf mO_slen mO_scut mO_app mO_ext mO_mx mO_mn mO_mkfn evalOp cutOp argsE ev getE putE cellsOf adopt rowOf binV boolV nilV ar_add ar_sub ar_mul ar_quo ar_rem ar_eq ar_ne ar_lt ar_le ar_gt ar_ge ar_and ar_or ar_xor geto bound finRet finNrm ints List.length_cons List.length_nil List.length_append List.getElem?_cons_zero List.getElem?_cons_succ List.nil_append List.cons_append List.map_cons List.map_nil List.mapM_cons List.mapM_nil Option.map_some Option.map_none Option.bind_some Option.pure_def Option.bind_eq_bind List.drop_zero or_self or_false false_or or_true true_or true_and and_true and_self decide_true decide_false Bool.false_eq_true Bool.true_eq_false Bool.not_true Bool.not_false Nat.le_refl eq_self gt_iff_lt ge_iff_le ne_eq not_true_eq_false not_false_eq_true storeOp apartOf freeze_nil refsL refs List.flatMap_cons List.flatMap_nil List.append_nil List.contains_nil List.set_cons_zero List.set_cons_succ snap snapL fill_nums flat_nums nums_length Go.V.freeze List.mapIdx_cons List.mapIdx_nil List.contains_cons Bool.or_false Bool.false_or Bool.or_true Bool.true_or
end Go.Proofs.YtcmbaabkfihdmaaGreat.I

/- Layer 7: places. -/
set_option linter.unusedVariables false
set_option linter.unusedSimpArgs false
namespace Go.Proofs.YtcmbaabkfihdmaaGreat.I
open Go Go.V
attribute [local go_sem] mNil nat0 beq_self_eq_true mSkip mRet mExit mReg mSeq mCond mTrue mFalse mBlock mLv mCodeE mCodeR mEndN mEndR mEndE mOps mSome mGuard mGtt mGff mGtf mGft mGu mCallP mCallR mCallF mCallO mCallZ mCallG mCallM mCallV loopQ_exit loopQ_ret mO_mov mO_newnil mO_pick mO_alloc mO_box mO_build mO_bsl mO_bslF mO_ldf mO_ld mO_st mO_sta mO_nilchk mO_bin mO_binb mO_binp mO_bins mO_neg mO_com mO_not mO_conv mO_mk mO_mk0 mO_s2b mO_b2s mO_cpy mO_cut mO_faddr mO_fld mO_iaddr mO_iaddrf mO_sidx mO_len mO_lenf mO_slen mO_scut mO_app mO_ext mO_mx mO_mn mO_mkfn evalOp cutOp argsE ev getE putE cellsOf adopt rowOf binV boolV nilV ar_add ar_sub ar_mul ar_quo ar_rem ar_eq ar_ne ar_lt ar_le ar_gt ar_ge ar_and ar_or ar_xor geto bound finRet finNrm ints List.length_cons List.length_nil List.length_append List.getElem?_cons_zero List.getElem?_cons_succ List.nil_append List.cons_append List.map_cons List.map_nil List.mapM_cons List.mapM_nil Option.map_some Option.map_none Option.bind_some Option.pure_def Option.bind_eq_bind List.drop_zero or_self or_false false_or or_true true_or true_and and_true and_self decide_true decide_false Bool.false_eq_true Bool.true_eq_false Bool.not_true Bool.not_false Nat.le_refl eq_self gt_iff_lt ge_iff_le ne_eq not_true_eq_false not_false_eq_true storeOp apartOf freeze_nil refsL refs List.flatMap_cons List.flatMap_nil List.append_nil List.contains_nil List.set_cons_zero List.set_cons_succ snap snapL fill_nums flat_nums nums_length Go.V.freeze List.mapIdx_cons List.mapIdx_nil List.contains_cons Bool.or_false Bool.false_or Bool.or_true Bool.true_or

def pl : Int → List Int → List Int → Option Int
  | n, d :: ds, x :: xs => if x < 0 ∨ d ≤ x then none else pl (n * d + x) ds xs
  | n, _, _ => some n
def place (s idx : List Int) : Option Int := if count s = none ∨ s.length ≠ idx.length then none else pl 0 s idx

section
variable {E : CallRel}

/-- What is known ahead of number k. -/
def PlI (s idx : List Int) (k : Nat) (n : Int) : Prop :=
  count s ≠ none → ∃ most m, count s = cnt most m (s.drop k) ∧ 1 ≤ most ∧ most ≤ 4096 ∧ 0 ≤ n ∧ n < most ∧ pl 0 s idx = pl n (s.drop k) (idx.drop k)

theorem PlI.zero {s idx : List Int} : PlI s idx 0 0 := fun h => by
  refine ⟨1, 1, ?_, by omega, by omega, by omega, by omega, by simp⟩
  unfold count at h ⊢
  split
  · rename_i h8; rw [if_pos h8] at h; exact absurd rfl h
  · simp

theorem PlI.step {s idx : List Int} {k : Nat} {n : Int} (h : PlI s idx k n) (h1 : k < s.length) (h2 : k < idx.length) (hx : ¬ idx.getD k 0 < 0) (hd : ¬ s.getD k 0 ≤ idx.getD k 0) :
    PlI s idx (k + 1) (IntKind.i64.wrap (IntKind.i64.wrap (n * s.getD k 0) + idx.getD k 0)) := by
  intro hc
  obtain ⟨most, m, g1, g2, g3, g4, g5, g6⟩ := h hc
  rw [getD_drop h1] at g1 g6
  rw [getD_drop h2] at g6
  generalize s.getD k 0 = d at *
  generalize idx.getD k 0 = x at *
  rw [cnt] at g1
  split at g1
  · exact absurd g1 hc
  · rename_i hno
    have hm : max 1 d = d := by rw [max1, if_pos (by omega)]
    rw [hm] at g1 hno
    have b1 : n * d ≤ (most - 1) * d := Int.mul_le_mul_of_nonneg_right (by omega) (by omega)
    have b2 : 0 ≤ n * d := Int.mul_nonneg g4 (by omega)
    have b3 : (most - 1) * d = most * d - d := by rw [Int.sub_mul]; omega
    have w1 : IntKind.i64.wrap (n * d) = n * d := wrap_i64 (by omega) (by omega)
    have w2 : IntKind.i64.wrap (n * d + x) = n * d + x := wrap_i64 (by omega) (by omega)
    rw [w1, w2]
    refine ⟨most * d, m * d, g1, by omega, by omega, by omega, by omega, ?_⟩
    rw [g6, pl, if_neg (by omega)]

theorem PlI.done {s idx : List Int} {k : Nat} {n : Int} (h : PlI s idx k n) (h1 : s.length ≤ k ∨ idx.length ≤ k) (hc : count s ≠ none) : 0 ≤ n ∧ pl 0 s idx = some n := by
  obtain ⟨most, m, g1, g2, g3, g4, g5, g6⟩ := h hc
  refine ⟨g4, ?_⟩
  rw [g6]
  rcases h1 with h1 | h1
  · rw [List.drop_eq_nil_of_le h1, pl]
    intro _ _ _ _ h; cases h
  · rw [List.drop_eq_nil_of_le h1, pl]
    intro _ _ _ _ _ h; cases h

end
end Go.Proofs.YtcmbaabkfihdmaaGreat.I

/- Layer 7: the index of a place. -/
set_option linter.unusedVariables false
set_option linter.unusedSimpArgs false
namespace Go.Proofs.YtcmbaabkfihdmaaGreat.I
open Go Go.V

def ix : List Int → Int → List Int × Int
  | [], a => ([], a)
  | d :: ds, a => ((ix ds a).2 % d :: (ix ds a).1, (ix ds a).2 / d)
def index (s : List Int) (a : Int) : Option (List Int) :=
  match count s with
  | none => none
  | some n => if a < 0 ∨ n ≤ a then none else some (ix s a).1
def optL : Option (List Int) → AV
  | some l => .tup [ints l, .bool true]
  | none => .tup [.sl 0 1 [], .bool false]

section
variable {E : CallRel}
end
end Go.Proofs.YtcmbaabkfihdmaaGreat.I

/- Layer 7: strides. -/
set_option linter.unusedVariables false
set_option linter.unusedSimpArgs false
namespace Go.Proofs.YtcmbaabkfihdmaaGreat.I
open Go Go.V
def prodR : List Int → Int
  | [] => 1
  | d :: ds => IntKind.i64.wrap (prodR ds * d)
def str : List Int → List Int
  | [] => []
  | _ :: ds => prodR ds :: str ds
section
variable {E : CallRel}
end
end Go.Proofs.YtcmbaabkfihdmaaGreat.I

/- Layer 7: products. -/
set_option linter.unusedVariables false
set_option linter.unusedSimpArgs false
namespace Go.Proofs.YtcmbaabkfihdmaaGreat.I
open Go Go.V
def prodW (s : List Int) : Int := s.foldl (fun n d => IntKind.i64.wrap (n * d)) 1
section
variable {E : CallRel}
end
end Go.Proofs.YtcmbaabkfihdmaaGreat.I

/- Layer 7: the document's strides. -/
set_option linter.unusedVariables false
set_option linter.unusedSimpArgs false
namespace Go.Proofs.YtcmbaabkfihdmaaGreat.I
open Go Go.V
def strW : List Int → List Int
  | [] => []
  | _ :: ds => prodW ds :: strW ds
section
variable {E : CallRel}
end
end Go.Proofs.YtcmbaabkfihdmaaGreat.I

/- Layer 7, in plain numbers: products, the index of a place and the place of an index, counting up. -/
set_option linter.unusedVariables false
set_option linter.unusedSimpArgs false
namespace Go.Proofs.YtcmbaabkfihdmaaGreat.I
open Go Go.V

def prd : List Int → Int
  | [] => 1
  | d :: ds => d * prd ds

/-- Counting up by one, the last number first; was it the last one? -/
def inc : List Int → List Int → List Int × Bool
  | d :: ds, x :: xs => if (inc ds xs).2 then (if x + 1 < d then ((x + 1) :: (inc ds xs).1, false) else (0 :: (inc ds xs).1, true)) else (x :: (inc ds xs).1, false)
  | _, _ => ([], true)
/-- All indexes, as the document makes them. -/
def allS (L : List (List Int)) (d : Nat) : List (List Int) := L.flatMap fun p => (List.range d).map fun n : Nat => p ++ [(n : Int)]
def allL (s : List Int) : List (List Int) := s.foldl (fun L d => allS L d.toNat) [[]]

end Go.Proofs.YtcmbaabkfihdmaaGreat.I

/- Layer 7: the document's list of all indexes. -/
set_option linter.unusedVariables false
set_option linter.unusedSimpArgs false
namespace Go.Proofs.YtcmbaabkfihdmaaGreat.I
open Go Go.V

def rows (L : List (List Int)) : AV := .sl L.length 1 (L.map ints)

section
variable {E : CallRel}
end
end Go.Proofs.YtcmbaabkfihdmaaGreat.I

/- Layer 7: shapes joined; lists compared. -/
set_option linter.unusedVariables false
set_option linter.unusedSimpArgs false
namespace Go.Proofs.YtcmbaabkfihdmaaGreat.I
open Go Go.V
attribute [local go_sem] mNil nat0 beq_self_eq_true mSkip mRet mExit mReg mSeq mCond mTrue mFalse mBlock mLv mCodeE mCodeR mEndN mEndR mEndE mOps mSome mGuard mGtt mGff mGtf mGft mGu mCallP mCallR mCallF mCallO mCallZ mCallG mCallM mCallV loopQ_exit loopQ_ret mO_mov mO_newnil mO_pick mO_alloc mO_box mO_build mO_bsl mO_bslF mO_ldf mO_ld mO_st mO_sta mO_nilchk mO_bin mO_binb mO_binp mO_bins mO_neg mO_com mO_not mO_conv mO_mk mO_mk0 mO_s2b mO_b2s mO_cpy mO_cut mO_faddr mO_fld mO_iaddr mO_iaddrf mO_sidx mO_len mO_lenf mO_slen mO_scut mO_app mO_ext mO_mx mO_mn mO_mkfn evalOp cutOp argsE ev getE putE cellsOf adopt rowOf binV boolV nilV ar_add ar_sub ar_mul ar_quo ar_rem ar_eq ar_ne ar_lt ar_le ar_gt ar_ge ar_and ar_or ar_xor geto bound finRet finNrm ints List.length_cons List.length_nil List.length_append List.getElem?_cons_zero List.getElem?_cons_succ List.nil_append List.cons_append List.map_cons List.map_nil List.mapM_cons List.mapM_nil Option.map_some Option.map_none Option.bind_some Option.pure_def Option.bind_eq_bind List.drop_zero or_self or_false false_or or_true true_or true_and and_true and_self decide_true decide_false Bool.false_eq_true Bool.true_eq_false Bool.not_true Bool.not_false Nat.le_refl eq_self gt_iff_lt ge_iff_le ne_eq not_true_eq_false not_false_eq_true storeOp apartOf freeze_nil refsL refs List.flatMap_cons List.flatMap_nil List.append_nil List.contains_nil List.set_cons_zero List.set_cons_succ snap snapL fill_nums flat_nums nums_length Go.V.freeze List.mapIdx_cons List.mapIdx_nil List.contains_cons Bool.or_false Bool.false_or Bool.or_true Bool.true_or
section
variable {E : CallRel}
end

def lensum (L : List (List Int)) : Nat := L.flatten.length
end Go.Proofs.YtcmbaabkfihdmaaGreat.I

/- Layers 2, 3 and 6: whole and exact numbers compared; ArraySames. -/
set_option linter.unusedVariables false
set_option linter.unusedSimpArgs false
namespace Go.Proofs.YtcmbaabkfihdmaaGreat.I
open Go Go.V
attribute [local go_sem] mNil nat0 beq_self_eq_true mSkip mRet mExit mReg mSeq mCond mTrue mFalse mBlock mLv mCodeE mCodeR mEndN mEndR mEndE mOps mSome mGuard mGtt mGff mGtf mGft mGu mCallP mCallR mCallF mCallO mCallZ mCallG mCallM mCallV loopQ_exit loopQ_ret mO_mov mO_newnil mO_pick mO_alloc mO_box mO_build mO_bsl mO_bslF mO_ldf mO_ld mO_st mO_sta mO_nilchk mO_bin mO_binb mO_binp mO_bins mO_neg mO_com mO_not mO_conv mO_mk mO_mk0 mO_s2b mO_b2s mO_cpy mO_cut mO_faddr mO_fld mO_iaddr mO_iaddrf mO_sidx mO_len mO_lenf mO_slen mO_scut mO_app mO_ext mO_mx mO_mn mO_mkfn evalOp cutOp argsE ev getE putE cellsOf adopt rowOf binV boolV nilV ar_add ar_sub ar_mul ar_quo ar_rem ar_eq ar_ne ar_lt ar_le ar_gt ar_ge ar_and ar_or ar_xor geto bound finRet finNrm ints List.length_cons List.length_nil List.length_append List.getElem?_cons_zero List.getElem?_cons_succ List.nil_append List.cons_append List.map_cons List.map_nil List.mapM_cons List.mapM_nil Option.map_some Option.map_none Option.bind_some Option.pure_def Option.bind_eq_bind List.drop_zero or_self or_false false_or or_true true_or true_and and_true and_self decide_true decide_false Bool.false_eq_true Bool.true_eq_false Bool.not_true Bool.not_false Nat.le_refl eq_self gt_iff_lt ge_iff_le ne_eq not_true_eq_false not_false_eq_true storeOp apartOf freeze_nil refsL refs List.flatMap_cons List.flatMap_nil List.append_nil List.contains_nil List.set_cons_zero List.set_cons_succ snap snapL fill_nums flat_nums nums_length Go.V.freeze List.mapIdx_cons List.mapIdx_nil List.contains_cons Bool.or_false Bool.false_or Bool.or_true Bool.true_or
/-- A whole number of the program: the sign, the size. -/
def whC (n : Bool) (p : Nat) : List AV := [us32 (limG p), .bool n]
/-- Which of two whole numbers is more. -/
def wcmp (n : Bool) (p : Nat) (m : Bool) (q : Nat) : Int := if n = true ∧ m = false then -1 else if n = false ∧ m = true then 1 else if n = true then cmpZ q p else cmpZ p q
theorem subW2 {a b : AV} : sub true 2 [a, b] 0 = some (.agg [a, b]) := rfl
theorem subW0 {a b : AV} : sub true 1 [a, b] 0 = some (.agg [a]) := rfl
theorem subW1 {a b : AV} : sub false 1 [a, b] 1 = some b := rfl
section
variable {E : CallRel}
theorem c40_ok {n : Bool} {p q : Nat} : Go.V.Call tab E 40 [.agg (ratG n p q)] [] (.agg (whC false (dn q))) [] := by
  refine Go.V.Call.mach i40 c40 rfl rfl rfl rfl ?_
  have h100 := c71_gen (E := E) (n := n) (p := p) (q := q)
  have h118 := c68_ok (E := E) (n := false) (p := dn q)
  simp only [ratG, natC, us32, Bool.false_and] at h100 h118
  simp only [c40, ratG, us32, go_sem, ↓reduceIte, Nat.reduceEqDiff, Nat.reduceAdd, Nat.reduceMul, Nat.reduceLeDiff, Nat.reduceLT, Int.reduceToNat, Int.reduceLT, Int.reduceLE, reduceCtorEq, Nat.reduceBEq, fillAll, fillIn, shiftR, shiftV, List.take_succ_cons, List.take_zero, List.drop_succ_cons, List.drop_zero, List.append_nil, Nat.zero_add, subT3]
  refine goP h100 ?_
  simp only [us32, go_sem, ↓reduceIte, Nat.reduceEqDiff, Nat.reduceAdd, Nat.reduceMul, Nat.reduceLeDiff, Nat.reduceLT, Int.reduceToNat, Int.reduceLT, Int.reduceLE, reduceCtorEq, Nat.reduceBEq, fillAll, fillIn, shiftR, shiftV, List.take_succ_cons, List.take_zero, List.drop_succ_cons, List.drop_zero, List.append_nil, Nat.zero_add]
  refine goP h118 ?_
  simp only [us32, go_sem, ↓reduceIte, Nat.reduceEqDiff, Nat.reduceAdd, Nat.reduceMul, Nat.reduceLeDiff, Nat.reduceLT, Int.reduceToNat, Int.reduceLT, Int.reduceLE, reduceCtorEq, Nat.reduceBEq, fillAll, fillIn, shiftR, shiftV, List.take_succ_cons, List.take_zero, List.drop_succ_cons, List.drop_zero, List.append_nil, Nat.zero_add]
  simp only [i40, Out, resAll, geto, ints, List.getElem?_cons_zero, List.getElem?_cons_succ, resOf, outOf, snap, snapL, ev, getE, List.mapM_cons, List.mapM_nil, Option.bind_some, Option.pure_def, Option.bind_eq_bind, Option.map_some, reduceIte, Nat.reduceEqDiff, true_and, and_true, subW2, whC, us32]
theorem c39_ok {n m : Bool} {p q : Nat} (hp : (limG p).length ≤ 1000000) (hq : (limG q).length ≤ 1000000) : Go.V.Call tab E 39 [.agg (whC n p), .sl 1 2 (whC m q)] [] (.agg (whC ((n != m) && decide (p * q ≠ 0)) (p * q))) [] := by
  refine Go.V.Call.mach i39 c39 rfl rfl rfl rfl ?_
  have h133 := c70_ok (E := E) hp hq
  have h118 := c68_ok (E := E) (n := n != m) (p := p * q)
  have hb : boolV .ne (.bool n) (.bool m) = some (.bool (n != m)) := by cases n <;> cases m <;> rfl
  simp only [natC, us32] at h133 h118
  simp only [c39, whC, us32, go_sem, ↓reduceIte, Nat.reduceEqDiff, Nat.reduceAdd, Nat.reduceMul, Nat.reduceLeDiff, Nat.reduceLT, Int.reduceToNat, Int.reduceLT, Int.reduceLE, reduceCtorEq, Nat.reduceBEq, fillAll, fillIn, shiftR, shiftV, List.take_succ_cons, List.take_zero, List.drop_succ_cons, List.drop_zero, List.append_nil, Nat.zero_add, subW2]
  refine mLoop (fun N st => ∃ (i : Nat) (b : Bool) (v : Nat), (i = 0 ∧ b = n ∧ v = p ∨ i = 1 ∧ b = ((n != m) && decide (p * q ≠ 0)) ∧ v = p * q) ∧ N = 1 - i ∧
    st = ⟨[(2, .loc 0 0 0), (4, .loc 2 0 0), (7, .sl 1 2 (whC m q)), (8, .int .i64 1), (9, .int .i64 i)], [⟨true, 60, 2, 0, 1, whC b v, false⟩, ⟨false, 107, 1, 0, 0, [], false⟩, ⟨true, 60, 2, 0, 1, [.arr 1 0, .bool false], false⟩]⟩) 1
    ⟨_, rfl, 0, n, p, .inl ⟨rfl, rfl, rfl⟩, by omega, by simp [getE, whC, us32]⟩ ?_
  rintro N s0 ⟨i, b, v, hiv, rfl, rfl⟩
  rcases hiv with ⟨rfl, rfl, rfl⟩ | ⟨rfl, rfl, rfl⟩
  · have hs2 : sub true 2 (whC m q) (0 * 2) = some (.agg (whC m q)) := rfl
    have hs2' : sub true 2 (whC m q) 0 = some (.agg (whC m q)) := rfl
    have w1 : IntKind.i64.wrap (0 + 1) = 1 := by decide
    have h01 : (0 : Int) < ((1 : Nat) : Int) := by omega
    simp only [whC, us32] at hs2 hs2'
    simp only [b39_0, whC, us32, go_sem, ↓reduceIte, Nat.reduceEqDiff, Nat.reduceAdd, Nat.reduceMul, Nat.reduceLeDiff, Nat.reduceLT, Int.reduceToNat, Int.reduceLT, Int.reduceLE, reduceCtorEq, Nat.reduceBEq, fillAll, fillIn, shiftR, shiftV, List.take_succ_cons, List.take_zero, List.drop_succ_cons, List.drop_zero, List.append_nil, Nat.zero_add, subW2, subW0, subW1, h01, hs2, hs2']
    refine goF h133 ?_
    simp only [us32, go_sem, ↓reduceIte, Nat.reduceEqDiff, Nat.reduceAdd, Nat.reduceMul, Nat.reduceLeDiff, Nat.reduceLT, Int.reduceToNat, Int.reduceLT, Int.reduceLE, reduceCtorEq, Nat.reduceBEq, fillAll, fillIn, shiftR, shiftV, List.take_succ_cons, List.take_zero, List.drop_succ_cons, List.drop_zero, List.append_nil, Nat.zero_add, subW2, subW0, subW1]
    refine goP h118 ?_
    simp only [us32, go_sem, ↓reduceIte, Nat.reduceEqDiff, Nat.reduceAdd, Nat.reduceMul, Nat.reduceLeDiff, Nat.reduceLT, Int.reduceToNat, Int.reduceLT, Int.reduceLE, reduceCtorEq, Nat.reduceBEq, fillAll, fillIn, shiftR, shiftV, List.take_succ_cons, List.take_zero, List.drop_succ_cons, List.drop_zero, List.append_nil, Nat.zero_add, subW2, subW0, subW1, w1]
    exact loopQ_go rfl 0 (by omega) ⟨1, _, _, .inr ⟨rfl, rfl, rfl⟩, by omega, rfl⟩
  · have g : ¬ ((1 : Nat) : Int) < 1 := by omega
    simp only [b39_0, k39_0, whC, us32, go_sem, ↓reduceIte, Nat.reduceEqDiff, Nat.reduceAdd, Nat.reduceMul, Nat.reduceLeDiff, Nat.reduceLT, Int.reduceToNat, Int.reduceLT, Int.reduceLE, reduceCtorEq, Nat.reduceBEq, fillAll, fillIn, shiftR, shiftV, List.take_succ_cons, List.take_zero, List.drop_succ_cons, List.drop_zero, List.append_nil, Nat.zero_add, subW2, subW0, subW1, Int.lt_irrefl, g]
    simp only [i39, Out, resAll, geto, ints, List.getElem?_cons_zero, List.getElem?_cons_succ, resOf, outOf, snap, snapL, ev, getE, List.mapM_cons, List.mapM_nil, Option.bind_some, Option.pure_def, Option.bind_eq_bind, Option.map_some, reduceIte, Nat.reduceEqDiff, true_and, and_true, subW2, whC, us32]
/-- Which of two exact numbers is more. -/
def rcmp (x y : Rt) : Int := wcmp ((x.1 != false) && decide (x.2.1 * dn y.2.2 ≠ 0)) (x.2.1 * dn y.2.2) ((y.1 != false) && decide (y.2.1 * dn x.2.2 ≠ 0)) (y.2.1 * dn x.2.2)
end
/-- Numbers without a common divisor, and no nought of a sign. -/
def RtRed (x : Rt) : Prop := RtOk x ∧ x.2.2 ≠ 0 ∧ Nat.gcd x.2.1 x.2.2 = 1 ∧ (x.1 = true → x.2.1 ≠ 0)
end Go.Proofs.YtcmbaabkfihdmaaGreat.I

/- Layer 1: the document's groups of nine digits, bits, limbs; digits in 64 bits. -/
set_option linter.unusedVariables false
set_option linter.unusedSimpArgs false
namespace Go.Proofs.YtcmbaabkfihdmaaGreat.I
open Go Go.V
attribute [local go_sem] mNil nat0 beq_self_eq_true mSkip mRet mExit mReg mSeq mCond mTrue mFalse mBlock mLv mCodeE mCodeR mEndN mEndR mEndE mOps mSome mGuard mGtt mGff mGtf mGft mGu mCallP mCallR mCallF mCallO mCallZ mCallG mCallM mCallV loopQ_exit loopQ_ret mO_mov mO_newnil mO_pick mO_alloc mO_box mO_build mO_bsl mO_bslF mO_ldf mO_ld mO_st mO_sta mO_nilchk mO_bin mO_binb mO_binp mO_bins mO_neg mO_com mO_not mO_conv mO_mk mO_mk0 mO_s2b mO_b2s mO_cpy mO_cut mO_faddr mO_fld mO_iaddr mO_iaddrf mO_sidx mO_len mO_lenf mO_slen mO_scut mO_app mO_ext mO_mx mO_mn mO_mkfn evalOp cutOp argsE ev getE putE cellsOf adopt rowOf binV boolV nilV ar_add ar_sub ar_mul ar_quo ar_rem ar_eq ar_ne ar_lt ar_le ar_gt ar_ge ar_and ar_or ar_xor geto bound finRet finNrm ints List.length_cons List.length_nil List.length_append List.getElem?_cons_zero List.getElem?_cons_succ List.nil_append List.cons_append List.map_cons List.map_nil List.mapM_cons List.mapM_nil Option.map_some Option.map_none Option.bind_some Option.pure_def Option.bind_eq_bind List.drop_zero or_self or_false false_or or_true true_or true_and and_true and_self decide_true decide_false Bool.false_eq_true Bool.true_eq_false Bool.not_true Bool.not_false Nat.le_refl eq_self gt_iff_lt ge_iff_le ne_eq not_true_eq_false not_false_eq_true storeOp apartOf freeze_nil refsL refs List.flatMap_cons List.flatMap_nil List.append_nil List.contains_nil List.set_cons_zero List.set_cons_succ snap snapL fill_nums flat_nums nums_length Go.V.freeze List.mapIdx_cons List.mapIdx_nil List.contains_cons Bool.or_false Bool.false_or Bool.or_true Bool.true_or
theorem wrap_u8 {n : Int} (h1 : 0 ≤ n) (h2 : n ≤ 255) : IntKind.u8.wrap n = n := by
  simp only [IntKind.wrap, IntKind.bits, IntKind.signed]
  simp
  omega
theorem tmodN (a b : Nat) : ((a : Nat) : Int).tmod ((b : Nat) : Int) = ((a % b : Nat) : Int) := by rw [Int.tmod_eq_emod_of_nonneg (Int.natCast_nonneg a), ← Int.natCast_emod]
theorem tdivN (a b : Nat) : ((a : Nat) : Int).tdiv ((b : Nat) : Int) = ((a / b : Nat) : Int) := by rw [Int.tdiv_eq_ediv_of_nonneg (Int.natCast_nonneg a), ← Int.natCast_ediv]
def gval (l : List Int) : Nat := l.foldl (fun a x => a * 1000000000 + x.toNat) 0
theorem gval_snoc {l : List Int} {x : Int} : gval (l ++ [x]) = gval l * 1000000000 + x.toNat := by simp [gval]
def R9 (l : List Int) : Prop := ∀ x ∈ l, 0 ≤ x ∧ x < 1000000000
theorem R9_nil : R9 [] := fun x hx => by simp at hx
theorem R9_snoc {l : List Int} {x : Int} (h : R9 l) (hx : 0 ≤ x ∧ x < 1000000000) : R9 (l ++ [x]) := fun y hy => by
  rcases List.mem_append.1 hy with h1 | h1
  · exact h y h1
  · simp at h1; subst h1; exact hx
/-- What stands in the groups after so many digits. -/
def GrI (l : List Int) (i : Nat) (g : List Int) (n : Nat) : Prop := R9 g ∧ g.length ≤ i ∧ ∃ j, n < 10 ^ j ∧ j ≤ 8 ∧ sval (l.take i) = gval g * 10 ^ j + n ∧
  ((g ≠ [] ∧ (l.length - i + j) % 9 = 0) ∨ (g = [] ∧ j = i ∧ (l.length % 9 = 0 ∨ i < l.length % 9)))
theorem GrI.zero {l : List Int} : GrI l 0 [] 0 := ⟨R9_nil, by simp, 0, by simp, by omega, by simp [sval_nil, gval], .inr ⟨rfl, rfl, by omega⟩⟩
theorem GrI.small {l g : List Int} {i n : Nat} (h : GrI l i g n) : n < 100000000 := by
  obtain ⟨_, _, j, h1, h2, _⟩ := h
  have hp : 10 ^ j ≤ 100000000 := by simpa using Nat.pow_le_pow_right (n := 10) (i := j) (j := 8) (by omega) h2
  omega
theorem GrI.cut {l g : List Int} {i n d : Nat} (h : GrI l i g n) (hi : i < l.length) (hx : l.getD i 0 = 48 + (d : Int)) (hd : d ≤ 9) (hc : (l.length - i - 1) % 9 = 0) : GrI l (i + 1) (g ++ [((n * 10 + d : Nat) : Int)]) 0 := by
  obtain ⟨h0, hgl, j, h1, h2, h3, h4⟩ := h
  have hp : 10 ^ (j + 1) ≤ 1000000000 := by simpa using Nat.pow_le_pow_right (n := 10) (i := j + 1) (j := 9) (by omega) (by omega)
  rw [Nat.pow_succ] at hp
  have hs : sval (l.take (i + 1)) = 10 * sval (l.take i) + d := by rw [take_snoc hi, sval_snoc, hx]; omega
  refine ⟨R9_snoc h0 (by omega), by rw [List.length_append]; simp; omega, 0, by simp, by omega, ?_, .inl ⟨by simp, by omega⟩⟩
  rw [hs, h3, gval_snoc]
  rcases h4 with ⟨h4, h5⟩ | ⟨h4, h5, h6⟩
  · have hj : j = 8 := by omega
    subst hj
    simp only [Int.toNat_natCast, Nat.pow_zero, Nat.reducePow]
    omega
  · subst h4
    simp only [gval, List.foldl_nil, Int.toNat_natCast, Nat.pow_zero]
    omega
theorem GrI.go {l g : List Int} {i n d : Nat} (h : GrI l i g n) (hi : i < l.length) (hx : l.getD i 0 = 48 + (d : Int)) (hd : d ≤ 9) (hc : (l.length - i - 1) % 9 ≠ 0) : GrI l (i + 1) g (n * 10 + d) := by
  obtain ⟨h0, hgl, j, h1, h2, h3, h4⟩ := h
  have hs : sval (l.take (i + 1)) = 10 * sval (l.take i) + d := by rw [take_snoc hi, sval_snoc, hx]; omega
  refine ⟨h0, by omega, j + 1, by rw [Nat.pow_succ]; omega, ?_, ?_, ?_⟩
  · rcases h4 with ⟨h4, h5⟩ | ⟨h4, h5, h6⟩
    · by_cases hj : j = 8
      · subst hj; omega
      · omega
    · by_cases hj : j = 8
      · subst hj; omega
      · omega
  · rw [hs, h3, Nat.pow_succ, Nat.mul_add, ← Nat.mul_assoc, Nat.mul_comm 10, Nat.mul_assoc, Nat.mul_comm 10]
    omega
  · rcases h4 with ⟨h4, h5⟩ | ⟨h4, h5, h6⟩
    · exact .inl ⟨h4, by omega⟩
    · exact .inr ⟨h4, by omega, by omega⟩
theorem GrI.done {l g : List Int} {n : Nat} (h : GrI l l.length g n) : gval g = sval l := by
  obtain ⟨h0, hgl, j, h1, h2, h3, h4⟩ := h
  have hj : j = 0 := by rcases h4 with ⟨h4, h5⟩ | ⟨h4, h5, h6⟩ <;> omega
  subst hj
  rw [List.take_length] at h3
  simp at h1 h3
  omega
section
variable {E : CallRel}
/-- How many bits. -/
def bl (n : Nat) : Nat := if h : n = 0 then 0 else bl (n / 2) + 1
  termination_by n
  decreasing_by exact Nat.div_lt_self (Nat.pos_of_ne_zero h) (by omega)
/-- One pass of the division by 65536. -/
def PassI (l : List Int) (k : Nat) (q : List Int) (r : Nat) : Prop := R9 q ∧ q.length ≤ k ∧ r < 65536 ∧ gval (l.take k) = 65536 * gval q + r ∧ (q ≠ [] → 0 < gval q)
theorem PassI.zero {l : List Int} : PassI l 0 [] 0 := ⟨R9_nil, by simp, by omega, by simp [gval], fun h => absurd rfl h⟩
theorem gval_take {l : List Int} {k : Nat} (h : k < l.length) : gval (l.take (k + 1)) = gval (l.take k) * 1000000000 + (l.getD k 0).toNat := by rw [take_snoc h, gval_snoc]
theorem PassI.add {l q : List Int} {k r x : Nat} (h : PassI l k q r) (hk : k < l.length) (hx : l.getD k 0 = (x : Int)) (hx9 : x < 1000000000) (hc : q ≠ [] ∨ 0 < (r * 1000000000 + x) / 65536) :
    PassI l (k + 1) (q ++ [(((r * 1000000000 + x) / 65536 : Nat) : Int)]) ((r * 1000000000 + x) % 65536) := by
  obtain ⟨h0, h1, h2, h3, h4⟩ := h
  refine ⟨R9_snoc h0 (by omega), by rw [List.length_append]; simp; omega, by omega, ?_, fun _ => ?_⟩
  · rw [gval_take hk, gval_snoc, h3, hx, Int.toNat_natCast, Int.toNat_natCast]
    omega
  · rw [gval_snoc, Int.toNat_natCast]
    by_cases hq : q = []
    · rcases hc with hc | hc
      · exact absurd hq hc
      · omega
    · have := h4 hq; omega
theorem PassI.skip {l : List Int} {k r x : Nat} (h : PassI l k [] r) (hk : k < l.length) (hx : l.getD k 0 = (x : Int)) (hc : ¬ 0 < (r * 1000000000 + x) / 65536) :
    PassI l (k + 1) [] ((r * 1000000000 + x) % 65536) := by
  obtain ⟨h0, h1, h2, h3, h4⟩ := h
  refine ⟨h0, by simp, by omega, ?_, fun h => absurd rfl h⟩
  have h0 : gval [] = 0 := rfl
  rw [h0] at h3
  rw [gval_take hk, hx, Int.toNat_natCast, h0]
  omega
/-- A bound, closed: omega takes long where powers and quotients meet. -/
def PB (v m : Nat) : Prop := v < 65536 ^ m
theorem PB.step {v m i : Nat} (h : PB v (m - i)) (hi : i < m) (hq : 0 < v / 65536) : PB (v / 65536) (m - (i + 1)) ∧ i + 1 < m := by
  unfold PB at h ⊢
  have h1 : v / 65536 < 65536 ^ (m - (i + 1)) := by
    rw [show m - i = (m - (i + 1)) + 1 by omega, Nat.pow_succ] at h
    rw [Nat.div_lt_iff_lt_mul (by omega)]
    exact h
  refine ⟨h1, ?_⟩
  by_cases hc : i + 1 < m
  · exact hc
  · rw [show m - (i + 1) = 0 by omega, Nat.pow_zero] at h1
    clear h
    omega
end
theorem sval_take_le {l : List Int} {i : Nat} : sval (l.take i) ≤ sval l := by
  have h := sval_append (a := l.take i) (b := l.drop i)
  rw [List.take_append_drop] at h
  have hp : 0 < 10 ^ (l.drop i).length := Nat.pow_pos (by omega)
  rw [h]
  exact Nat.le_trans (Nat.le_mul_of_pos_right _ hp) (Nat.le_add_right _ _)
theorem dec_big : dec 18446744073709551615 = ⟨#[49, 56, 52, 52, 54, 55, 52, 52, 48, 55, 51, 55, 48, 57, 53, 53, 49, 54, 49, 53]⟩ := by
  have h := decL_of (n := 20) (l := [49, 56, 52, 52, 54, 55, 52, 52, 48, 55, 51, 55, 48, 57, 53, 53, 49, 54, 49, 53]) rfl (by intro x hx; simp at hx; omega) ⟨by simp, fun _ => by decide⟩
  rw [dec_eq]
  rw [show sval [49, 56, 52, 52, 54, 55, 52, 52, 48, 55, 51, 55, 48, 57, 53, 53, 49, 54, 49, 53] = 18446744073709551615 from by decide +kernel] at h
  rw [← h]
  rfl
section
variable {E : CallRel}
theorem c94_ok {n : Nat} (hn : (decL n).length ≤ 1000000000) : Go.V.Call tab E 94 [.str (dec n)] [] (if n < 18446744073709551616 then .tup [.int .u64 n, .bool true] else .tup [.int .u64 0, .bool false]) [] := by
  have h146 := c80_ok (E := E) (a := n) (b := 18446744073709551615)
  rw [dec_big] at h146
  refine Go.V.Call.mach i94 c94 rfl rfl rfl rfl ?_
  simp only [c94, go_sem, ↓reduceIte, Nat.reduceEqDiff, Nat.reduceAdd, Nat.reduceMul, Nat.reduceLeDiff, Nat.reduceLT, Int.reduceToNat, Int.reduceLT, Int.reduceLE, reduceCtorEq, Nat.reduceBEq]
  refine goP h146 ?_
  by_cases hb : n < 18446744073709551616
  · have hc : ¬ (0 : Int) < cmpZ n 18446744073709551615 := by
      unfold cmpZ
      split
      · omega
      · split <;> omega
    have hd := decL_dig n
    have hv := sval_decL n
    rw [dec_eq]
    generalize hL : decL n = L at *
    simp only [go_sem, ↓reduceIte, Nat.reduceEqDiff, Nat.reduceAdd, Nat.reduceMul, Nat.reduceLeDiff, Nat.reduceLT, Int.reduceToNat, Int.reduceLT, Int.reduceLE, reduceCtorEq, Nat.reduceBEq, hc, hb]
    refine mLoop (fun N st => ∃ i : Nat, i ≤ L.length ∧ N = L.length - i ∧ st = ⟨[(0, .str (bs L)), (4, .int .u64 ((sval (L.take i) : Nat) : Int)), (5, .int .i64 i)], []⟩) L.length ⟨_, rfl, 0, by omega, by omega, by simp [getE, sval_nil]⟩ ?_
    rintro N s0 ⟨i, hi, rfl, rfl⟩
    by_cases hlt : i < L.length
    · have hlt' : (i : Int) < (L.length : Int) := by omega
      have hi0 : (0 : Int) ≤ (i : Int) := by omega
      have hi1 : IntKind.i64.wrap ((i : Int) + 1) = ((i + 1 : Nat) : Int) := by rw [wrap_i64 (by omega) (by omega)]; omega
      have hgb := bs_getK hlt
      have hx := hd _ (show L.getD i 0 ∈ L by simp [List.getD, hlt])
      obtain ⟨d, hxd, hd9⟩ : ∃ d : Nat, L.getD i 0 = 48 + (d : Int) ∧ d ≤ 9 := ⟨(L.getD i 0 - 48).toNat, by omega, by omega⟩
      have hu8 := u8n (x := 48 + (d : Int)) (by omega)
      rw [hxd] at hgb
      have hs : sval (L.take (i + 1)) = 10 * sval (L.take i) + d := by rw [take_snoc hlt, sval_snoc, hxd]; omega
      have hle := sval_take_le (l := L) (i := i + 1)
      have w1 : IntKind.u64.wrap (((sval (L.take i) : Nat) : Int) * 10) = ((sval (L.take i) : Nat) : Int) * 10 := wrap_u64 (by omega) (by omega)
      have w2 : IntKind.u8.wrap (48 + (d : Int) - 48) = (d : Int) := by rw [wrap_u8 (by omega) (by omega)]; omega
      have w3 : IntKind.u64.wrap (d : Int) = (d : Int) := wrap_u64 (by omega) (by omega)
      have w4 : IntKind.u64.wrap (((sval (L.take i) : Nat) : Int) * 10 + (d : Int)) = ((sval (L.take (i + 1)) : Nat) : Int) := by rw [wrap_u64 (by omega) (by omega)]; omega
      simp only [b94_0, go_sem, ↓reduceIte, Nat.reduceEqDiff, Nat.reduceAdd, Nat.reduceMul, Nat.reduceLeDiff, Nat.reduceLT, Int.reduceToNat, Int.reduceLT, Int.reduceLE, reduceCtorEq, Nat.reduceBEq, bs_size, hlt', hi0, Int.toNat_natCast, hgb, hu8, hxd, hi1, w1, w2, w3, w4]
      exact loopQ_go rfl (L.length - (i + 1)) (by omega) ⟨i + 1, by omega, rfl, rfl⟩
    · have hlt' : ¬ (i : Int) < (L.length : Int) := by omega
      obtain rfl : i = L.length := by omega
      simp only [b94_0, k94_0, go_sem, ↓reduceIte, Nat.reduceEqDiff, Nat.reduceAdd, Nat.reduceMul, Nat.reduceLeDiff, Nat.reduceLT, Int.reduceToNat, Int.reduceLT, Int.reduceLE, reduceCtorEq, Nat.reduceBEq, bs_size, hlt', Int.lt_irrefl, List.take_length, hv]
      simp only [i94, Out, resAll, geto, ints, List.getElem?_cons_zero, List.getElem?_cons_succ, resOf, outOf, snap, snapL, ev, getE, List.mapM_cons, List.mapM_nil, Option.bind_some, Option.pure_def, Option.bind_eq_bind, Option.map_some, reduceIte, Nat.reduceEqDiff, true_and, and_true, if_pos hb]
  · have hc : (0 : Int) < cmpZ n 18446744073709551615 := by
      unfold cmpZ
      split
      · omega
      · split <;> omega
    simp only [go_sem, ↓reduceIte, Nat.reduceEqDiff, Nat.reduceAdd, Nat.reduceMul, Nat.reduceLeDiff, Nat.reduceLT, Int.reduceToNat, Int.reduceLT, Int.reduceLE, reduceCtorEq, Nat.reduceBEq, hc]
    simp only [i94, Out, resAll, geto, ints, List.getElem?_cons_zero, List.getElem?_cons_succ, resOf, outOf, snap, snapL, ev, getE, List.mapM_cons, List.mapM_nil, Option.bind_some, Option.pure_def, Option.bind_eq_bind, Option.map_some, reduceIte, Nat.reduceEqDiff, true_and, and_true, if_neg hb]
end
end Go.Proofs.YtcmbaabkfihdmaaGreat.I

/- Layer 3: exact numbers in 64 bits, and how long they are. -/
set_option linter.unusedVariables false
set_option linter.unusedSimpArgs false
namespace Go.Proofs.YtcmbaabkfihdmaaGreat.I
open Go Go.V
attribute [local go_sem] mNil nat0 beq_self_eq_true mSkip mRet mExit mReg mSeq mCond mTrue mFalse mBlock mLv mCodeE mCodeR mEndN mEndR mEndE mOps mSome mGuard mGtt mGff mGtf mGft mGu mCallP mCallR mCallF mCallO mCallZ mCallG mCallM mCallV loopQ_exit loopQ_ret mO_mov mO_newnil mO_pick mO_alloc mO_box mO_build mO_bsl mO_bslF mO_ldf mO_ld mO_st mO_sta mO_nilchk mO_bin mO_binb mO_binp mO_bins mO_neg mO_com mO_not mO_conv mO_mk mO_mk0 mO_s2b mO_b2s mO_cpy mO_cut mO_faddr mO_fld mO_iaddr mO_iaddrf mO_sidx mO_len mO_lenf mO_slen mO_scut mO_app mO_ext mO_mx mO_mn mO_mkfn evalOp cutOp argsE ev getE putE cellsOf adopt rowOf binV boolV nilV ar_add ar_sub ar_mul ar_quo ar_rem ar_eq ar_ne ar_lt ar_le ar_gt ar_ge ar_and ar_or ar_xor geto bound finRet finNrm ints List.length_cons List.length_nil List.length_append List.getElem?_cons_zero List.getElem?_cons_succ List.nil_append List.cons_append List.map_cons List.map_nil List.mapM_cons List.mapM_nil Option.map_some Option.map_none Option.bind_some Option.pure_def Option.bind_eq_bind List.drop_zero or_self or_false false_or or_true true_or true_and and_true and_self decide_true decide_false Bool.false_eq_true Bool.true_eq_false Bool.not_true Bool.not_false Nat.le_refl eq_self gt_iff_lt ge_iff_le ne_eq not_true_eq_false not_false_eq_true storeOp apartOf freeze_nil refsL refs List.flatMap_cons List.flatMap_nil List.append_nil List.contains_nil List.set_cons_zero List.set_cons_succ snap snapL fill_nums flat_nums nums_length Go.V.freeze List.mapIdx_cons List.mapIdx_nil List.contains_cons Bool.or_false Bool.false_or Bool.or_true Bool.true_or
theorem subT2 {a b c : AV} : sub true 2 [a, b, c] 0 = some (.agg [a, b]) := rfl
def wint (n : Bool) (p : Nat) : Option Int := if n = true then (if p ≤ 9223372036854775808 then some (-(p : Int)) else none) else if p < 9223372036854775808 then some (p : Int) else none
def rint (x : Rt) : Option Int := if dn x.2.2 = 1 then wint x.1 x.2.1 else none
section
variable {E : CallRel}
theorem c87_ok {n : Nat} : Go.V.Call tab E 87 [natC n] [] (.bool (decide (n = 1))) [] := by
  refine Go.V.Call.mach i87 c87 rfl rfl rfl rfl ?_
  by_cases h0 : n = 0
  · subst h0
    simp only [c87, natC, us32, limG_zero, nums, go_sem, ↓reduceIte, Nat.reduceEqDiff, Nat.reduceAdd, Nat.reduceMul, Nat.reduceLeDiff, Nat.reduceLT, Int.reduceToNat, Int.reduceLT, Int.reduceLE, reduceCtorEq, Nat.reduceBEq, sub, fillAll, fillIn, shiftR, shiftV, List.take_succ_cons, List.take_zero, List.drop_succ_cons, List.drop_zero, List.append_nil, Nat.zero_add, show (((0 : Nat) : Int) == 1) = false from rfl, show ((0 : Int) == 1) = false from rfl]
    simp only [i87, Out, resAll, geto, ints, List.getElem?_cons_zero, List.getElem?_cons_succ, resOf, outOf, snap, snapL, ev, getE, List.mapM_cons, List.mapM_nil, Option.bind_some, Option.pure_def, Option.bind_eq_bind, Option.map_some, reduceIte, Nat.reduceEqDiff, true_and, and_true, show decide ((0 : Nat) = 1) = false from rfl]
  · by_cases h1 : n < 4294967296
    · have hl : limG n = [(n : Int)] := by rw [limG_pos h0, show n / 4294967296 = 0 by omega, limG_zero, Nat.mod_eq_of_lt h1]
      have hb : ((n : Int) == 1) = decide (n = 1) := by
        by_cases h : n = 1
        · subst h; rfl
        · rw [decide_eq_false h, beq_eq_false_iff_ne]; omega
      have e0 : ((1 : Int) == 1) = true := rfl
      simp only [c87, natC, us32, hl, nums, go_sem, ↓reduceIte, Nat.reduceEqDiff, Nat.reduceAdd, Nat.reduceMul, Nat.reduceLeDiff, Nat.reduceLT, Int.reduceToNat, Int.reduceLT, Int.reduceLE, reduceCtorEq, Nat.reduceBEq, sub, fillAll, fillIn, shiftR, shiftV, List.take_succ_cons, List.take_zero, List.drop_succ_cons, List.drop_zero, List.append_nil, Nat.zero_add, e0, hb, show (0 : Int) < ((1 : Nat) : Int) from by decide, show (((1 : Nat) : Int) == 1) = true from rfl, show ((0 : Nat) + 1) = 1 from rfl, List.length_singleton]
      simp only [i87, Out, resAll, geto, ints, List.getElem?_cons_zero, List.getElem?_cons_succ, resOf, outOf, snap, snapL, ev, getE, List.mapM_cons, List.mapM_nil, Option.bind_some, Option.pure_def, Option.bind_eq_bind, Option.map_some, reduceIte, Nat.reduceEqDiff, true_and, and_true]
    · have hne : limG n ≠ [] := fun h => h0 (limG_len0 (by rw [h]; rfl))
      have hl : (((limG n).length : Int) == 1) = false := by
        rw [limG_pos h0, List.length_cons, beq_eq_false_iff_ne]
        intro h
        have : limG (n / 4294967296) = [] := List.length_eq_zero_iff.1 (by omega)
        have := limG_len0 (n := n / 4294967296) (by rw [this]; rfl)
        omega
      simp only [c87, natC, us32, go_sem, ↓reduceIte, Nat.reduceEqDiff, Nat.reduceAdd, Nat.reduceMul, Nat.reduceLeDiff, Nat.reduceLT, Int.reduceToNat, Int.reduceLT, Int.reduceLE, reduceCtorEq, Nat.reduceBEq, sub, fillAll, fillIn, shiftR, shiftV, List.take_succ_cons, List.take_zero, List.drop_succ_cons, List.drop_zero, List.append_nil, Nat.zero_add, hl]
      simp only [i87, Out, resAll, geto, ints, List.getElem?_cons_zero, List.getElem?_cons_succ, resOf, outOf, snap, snapL, ev, getE, List.mapM_cons, List.mapM_nil, Option.bind_some, Option.pure_def, Option.bind_eq_bind, Option.map_some, reduceIte, Nat.reduceEqDiff, true_and, and_true, show decide (n = 1) = false from decide_eq_false (by omega)]
theorem c61_gen {n : Bool} {p q : Nat} : Go.V.Call tab E 61 [.agg (ratG n p q)] [] (.bool (decide (dn q = 1))) [] := by
  refine Go.V.Call.mach i61 c61 rfl rfl rfl rfl ?_
  have h100 := c71_gen (E := E) (n := n) (p := p) (q := q)
  have h130 := c87_ok (E := E) (n := dn q)
  simp only [natC, ratG, us32] at h100 h130
  simp only [c61, ratG, us32, go_sem, ↓reduceIte, Nat.reduceEqDiff, Nat.reduceAdd, Nat.reduceMul, Nat.reduceLeDiff, Nat.reduceLT, Int.reduceToNat, Int.reduceLT, Int.reduceLE, reduceCtorEq, Nat.reduceBEq, subT3, fillAll, fillIn, shiftR, shiftV, List.take_succ_cons, List.take_zero, List.drop_succ_cons, List.drop_zero, List.append_nil, Nat.zero_add]
  refine goP h100 ?_
  simp only [go_sem, ↓reduceIte, Nat.reduceEqDiff, Nat.reduceAdd, Nat.reduceMul, Nat.reduceLeDiff, Nat.reduceLT, Int.reduceToNat, Int.reduceLT, Int.reduceLE, reduceCtorEq, Nat.reduceBEq]
  refine goP h130 ?_
  simp only [go_sem, ↓reduceIte, Nat.reduceEqDiff, Nat.reduceAdd, Nat.reduceMul, Nat.reduceLeDiff, Nat.reduceLT, Int.reduceToNat, Int.reduceLT, Int.reduceLE, reduceCtorEq, Nat.reduceBEq]
  simp only [i61, Out, resAll, geto, ints, List.getElem?_cons_zero, List.getElem?_cons_succ, resOf, outOf, snap, snapL, ev, getE, List.mapM_cons, List.mapM_nil, Option.bind_some, Option.pure_def, Option.bind_eq_bind, Option.map_some, reduceIte, Nat.reduceEqDiff, true_and, and_true]
theorem c62_gen {n : Bool} {p : Nat} : Go.V.Call tab E 62 [.agg (whC n p)] [] (optP (wint n p)) [] := by
  refine Go.V.Call.mach i62 c62 rfl rfl rfl rfl ?_
  by_cases hp : p < 18446744073709551616
  · have h131 := c88_nat (E := E) hp
    simp only [natC, us32] at h131
    simp only [c62, whC, us32, go_sem, ↓reduceIte, Nat.reduceEqDiff, Nat.reduceAdd, Nat.reduceMul, Nat.reduceLeDiff, Nat.reduceLT, Int.reduceToNat, Int.reduceLT, Int.reduceLE, reduceCtorEq, Nat.reduceBEq, subW0, fillAll, fillIn, shiftR, shiftV, List.take_succ_cons, List.take_zero, List.drop_succ_cons, List.drop_zero, List.append_nil, Nat.zero_add]
    refine goP h131 ?_
    by_cases h1 : 9223372036854775808 < p
    · have h1' : (9223372036854775808 : Int) < (p : Int) := by omega
      have hw : wint n p = none := by unfold wint; split <;> rw [if_neg (by omega)]
      simp only [go_sem, ↓reduceIte, Nat.reduceEqDiff, Nat.reduceAdd, Nat.reduceMul, Nat.reduceLeDiff, Nat.reduceLT, Int.reduceToNat, Int.reduceLT, Int.reduceLE, reduceCtorEq, Nat.reduceBEq, h1']
      simp only [i62, Out, resAll, geto, ints, List.getElem?_cons_zero, List.getElem?_cons_succ, resOf, outOf, snap, snapL, ev, getE, List.mapM_cons, List.mapM_nil, Option.bind_some, Option.pure_def, Option.bind_eq_bind, Option.map_some, reduceIte, Nat.reduceEqDiff, true_and, and_true, hw, optP]
    · have h1' : ¬ (9223372036854775808 : Int) < (p : Int) := by omega
      cases n with
      | true =>
        have hw : wint true p = some (-(p : Int)) := by unfold wint; rw [if_pos rfl, if_pos (by omega)]
        have e : ((p : Int) == 9223372036854775808) = true ∨ ((p : Int) == 9223372036854775808) = false := by cases h : ((p : Int) == 9223372036854775808) <;> simp
        by_cases h0 : p = 0
        · subst h0
          have e1 : IntKind.u64.wrap (0 - 1) = 18446744073709551615 := by decide
          have e2 : IntKind.i64.wrap 18446744073709551615 = -1 := by decide
          have e3 : IntKind.i64.wrap (0 - (-1)) = 1 := by decide
          have e4 : IntKind.i64.wrap (1 - 1) = 0 := by decide
          have e5 : ((0 : Int) == 9223372036854775808) = false := rfl
          have e6 : ((0 : Nat) : Int) = 0 := rfl
          simp only [go_sem, ↓reduceIte, Nat.reduceEqDiff, Nat.reduceAdd, Nat.reduceMul, Nat.reduceLeDiff, Nat.reduceLT, Int.reduceToNat, Int.reduceLT, Int.reduceLE, reduceCtorEq, Nat.reduceBEq, subW1, h1', e1, e2, e3, e4, e5, e6]
          simp only [i62, Out, resAll, geto, ints, List.getElem?_cons_zero, List.getElem?_cons_succ, resOf, outOf, snap, snapL, ev, getE, List.mapM_cons, List.mapM_nil, Option.bind_some, Option.pure_def, Option.bind_eq_bind, Option.map_some, reduceIte, Nat.reduceEqDiff, true_and, and_true, hw, optP]
          rfl
        · have e1 : IntKind.u64.wrap ((p : Int) - 1) = (p : Int) - 1 := wrap_u64 (by omega) (by omega)
          have e2 : IntKind.i64.wrap ((p : Int) - 1) = (p : Int) - 1 := wrap_i64 (by omega) (by omega)
          have e3 : IntKind.i64.wrap (0 - ((p : Int) - 1)) = 1 - (p : Int) := by rw [wrap_i64 (by omega) (by omega)]; omega
          have e4 : IntKind.i64.wrap (1 - (p : Int) - 1) = -(p : Int) := by rw [wrap_i64 (by omega) (by omega)]; omega
          rcases e with e | e
          · simp only [go_sem, ↓reduceIte, Nat.reduceEqDiff, Nat.reduceAdd, Nat.reduceMul, Nat.reduceLeDiff, Nat.reduceLT, Int.reduceToNat, Int.reduceLT, Int.reduceLE, reduceCtorEq, Nat.reduceBEq, subW1, h1', e, e1, e2, e3, e4]
            simp only [i62, Out, resAll, geto, ints, List.getElem?_cons_zero, List.getElem?_cons_succ, resOf, outOf, snap, snapL, ev, getE, List.mapM_cons, List.mapM_nil, Option.bind_some, Option.pure_def, Option.bind_eq_bind, Option.map_some, reduceIte, Nat.reduceEqDiff, true_and, and_true, hw, optP]
          · simp only [go_sem, ↓reduceIte, Nat.reduceEqDiff, Nat.reduceAdd, Nat.reduceMul, Nat.reduceLeDiff, Nat.reduceLT, Int.reduceToNat, Int.reduceLT, Int.reduceLE, reduceCtorEq, Nat.reduceBEq, subW1, h1', e, e1, e2, e3, e4]
            simp only [i62, Out, resAll, geto, ints, List.getElem?_cons_zero, List.getElem?_cons_succ, resOf, outOf, snap, snapL, ev, getE, List.mapM_cons, List.mapM_nil, Option.bind_some, Option.pure_def, Option.bind_eq_bind, Option.map_some, reduceIte, Nat.reduceEqDiff, true_and, and_true, hw, optP]
      | false =>
        by_cases h2 : p = 9223372036854775808
        · subst h2
          have e : (((9223372036854775808 : Nat) : Int) == 9223372036854775808) = true := rfl
          have hw : wint false 9223372036854775808 = none := rfl
          simp only [go_sem, ↓reduceIte, Nat.reduceEqDiff, Nat.reduceAdd, Nat.reduceMul, Nat.reduceLeDiff, Nat.reduceLT, Int.reduceToNat, Int.reduceLT, Int.reduceLE, reduceCtorEq, Nat.reduceBEq, subW1, h1', e]
          simp only [i62, Out, resAll, geto, ints, List.getElem?_cons_zero, List.getElem?_cons_succ, resOf, outOf, snap, snapL, ev, getE, List.mapM_cons, List.mapM_nil, Option.bind_some, Option.pure_def, Option.bind_eq_bind, Option.map_some, reduceIte, Nat.reduceEqDiff, true_and, and_true, hw, optP]
        · have e : ((p : Int) == 9223372036854775808) = false := by rw [beq_eq_false_iff_ne]; omega
          have hw : wint false p = some (p : Int) := by unfold wint; rw [if_neg (by simp), if_pos (by omega)]
          have e1 : IntKind.i64.wrap (p : Int) = (p : Int) := wrap_i64 (by omega) (by omega)
          simp only [go_sem, ↓reduceIte, Nat.reduceEqDiff, Nat.reduceAdd, Nat.reduceMul, Nat.reduceLeDiff, Nat.reduceLT, Int.reduceToNat, Int.reduceLT, Int.reduceLE, reduceCtorEq, Nat.reduceBEq, subW1, h1', e, e1]
          simp only [i62, Out, resAll, geto, ints, List.getElem?_cons_zero, List.getElem?_cons_succ, resOf, outOf, snap, snapL, ev, getE, List.mapM_cons, List.mapM_nil, Option.bind_some, Option.pure_def, Option.bind_eq_bind, Option.map_some, reduceIte, Nat.reduceEqDiff, true_and, and_true, hw, optP]
  · have h131 := c88_big (E := E) (n := p) (by omega)
    have hw : wint n p = none := by unfold wint; split <;> rw [if_neg (by omega)]
    simp only [natC, us32] at h131
    simp only [c62, whC, us32, go_sem, ↓reduceIte, Nat.reduceEqDiff, Nat.reduceAdd, Nat.reduceMul, Nat.reduceLeDiff, Nat.reduceLT, Int.reduceToNat, Int.reduceLT, Int.reduceLE, reduceCtorEq, Nat.reduceBEq, subW0, fillAll, fillIn, shiftR, shiftV, List.take_succ_cons, List.take_zero, List.drop_succ_cons, List.drop_zero, List.append_nil, Nat.zero_add]
    refine goP h131 ?_
    simp only [go_sem, ↓reduceIte, Nat.reduceEqDiff, Nat.reduceAdd, Nat.reduceMul, Nat.reduceLeDiff, Nat.reduceLT, Int.reduceToNat, Int.reduceLT, Int.reduceLE, reduceCtorEq, Nat.reduceBEq]
    simp only [i62, Out, resAll, geto, ints, List.getElem?_cons_zero, List.getElem?_cons_succ, resOf, outOf, snap, snapL, ev, getE, List.mapM_cons, List.mapM_nil, Option.bind_some, Option.pure_def, Option.bind_eq_bind, Option.map_some, reduceIte, Nat.reduceEqDiff, true_and, and_true, hw, optP]
theorem c35_gen {x : Rt} : Go.V.Call tab E 35 [.agg (rtC x)] [] (optP (rint x)) [] := by
  obtain ⟨n, p, q⟩ := x
  refine Go.V.Call.mach i35 c35 rfl rfl rfl rfl ?_
  have h112 := c61_gen (E := E) (n := n) (p := p) (q := q)
  have h113 := c62_gen (E := E) (n := n) (p := p)
  simp only [ratG, whC, us32] at h112 h113
  by_cases h : dn q = 1
  · rw [decide_eq_true h] at h112
    simp only [c35, rtC, ratG, us32, go_sem, ↓reduceIte, Nat.reduceEqDiff, Nat.reduceAdd, Nat.reduceMul, Nat.reduceLeDiff, Nat.reduceLT, Int.reduceToNat, Int.reduceLT, Int.reduceLE, reduceCtorEq, Nat.reduceBEq, subT3, fillAll, fillIn, shiftR, shiftV, List.take_succ_cons, List.take_zero, List.drop_succ_cons, List.drop_zero, List.append_nil, Nat.zero_add]
    refine goP h112 ?_
    simp only [go_sem, ↓reduceIte, Nat.reduceEqDiff, Nat.reduceAdd, Nat.reduceMul, Nat.reduceLeDiff, Nat.reduceLT, Int.reduceToNat, Int.reduceLT, Int.reduceLE, reduceCtorEq, Nat.reduceBEq, subT2]
    refine goP h113 ?_
    cases hw : wint n p with
    | none =>
      simp only [optP, go_sem, ↓reduceIte, Nat.reduceEqDiff, Nat.reduceAdd, Nat.reduceMul, Nat.reduceLeDiff, Nat.reduceLT, Int.reduceToNat, Int.reduceLT, Int.reduceLE, reduceCtorEq, Nat.reduceBEq]
      simp only [i35, Out, resAll, geto, ints, List.getElem?_cons_zero, List.getElem?_cons_succ, resOf, outOf, snap, snapL, ev, getE, List.mapM_cons, List.mapM_nil, Option.bind_some, Option.pure_def, Option.bind_eq_bind, Option.map_some, reduceIte, Nat.reduceEqDiff, true_and, and_true, rint, h, hw, optP, if_true]
    | some z =>
      simp only [optP, go_sem, ↓reduceIte, Nat.reduceEqDiff, Nat.reduceAdd, Nat.reduceMul, Nat.reduceLeDiff, Nat.reduceLT, Int.reduceToNat, Int.reduceLT, Int.reduceLE, reduceCtorEq, Nat.reduceBEq]
      simp only [i35, Out, resAll, geto, ints, List.getElem?_cons_zero, List.getElem?_cons_succ, resOf, outOf, snap, snapL, ev, getE, List.mapM_cons, List.mapM_nil, Option.bind_some, Option.pure_def, Option.bind_eq_bind, Option.map_some, reduceIte, Nat.reduceEqDiff, true_and, and_true, rint, h, hw, optP, if_true]
  · rw [decide_eq_false h] at h112
    simp only [c35, rtC, ratG, us32, go_sem, ↓reduceIte, Nat.reduceEqDiff, Nat.reduceAdd, Nat.reduceMul, Nat.reduceLeDiff, Nat.reduceLT, Int.reduceToNat, Int.reduceLT, Int.reduceLE, reduceCtorEq, Nat.reduceBEq, subT3, fillAll, fillIn, shiftR, shiftV, List.take_succ_cons, List.take_zero, List.drop_succ_cons, List.drop_zero, List.append_nil, Nat.zero_add]
    refine goP h112 ?_
    simp only [go_sem, ↓reduceIte, Nat.reduceEqDiff, Nat.reduceAdd, Nat.reduceMul, Nat.reduceLeDiff, Nat.reduceLT, Int.reduceToNat, Int.reduceLT, Int.reduceLE, reduceCtorEq, Nat.reduceBEq]
    simp only [i35, Out, resAll, geto, ints, List.getElem?_cons_zero, List.getElem?_cons_succ, resOf, outOf, snap, snapL, ev, getE, List.mapM_cons, List.mapM_nil, Option.bind_some, Option.pure_def, Option.bind_eq_bind, Option.map_some, reduceIte, Nat.reduceEqDiff, true_and, and_true, rint, h, optP, if_false]
/-- How many limbs, above or below the line. -/
def rlimbs (x : Rt) : Nat := max (limG x.2.1).length (limG (dn x.2.2)).length
/-- Digits with a sign, on the page. -/
def wdC (n : Bool) (p : Nat) : List AV := [.bool n, .str (dec p)]
theorem subD2 {a b : AV} : sub true 2 [a, b] 0 = some (.agg [a, b]) := rfl
theorem subD0 {a b : AV} : sub false 1 [a, b] 0 = some a := rfl
theorem subD1 {a b : AV} : sub false 1 [a, b] 1 = some b := rfl
theorem subN0 {a b c : AV} : sub false 1 [a, b, c] 0 = some a := rfl
theorem subN1 {a b c : AV} : sub false 1 [a, b, c] 1 = some b := rfl
theorem subN2 {a b c : AV} : sub false 1 [a, b, c] 2 = some c := rfl
theorem dec_zero : dec 0 = ⟨#[48]⟩ := rfl
theorem dec_one : dec 1 = ⟨#[49]⟩ := by rw [dec_eq, decL_digit (by omega)]; rfl
theorem dec_ne {a b : Nat} : strOp .ne (dec a) (dec b) = some (.bool (!decide (a = b))) := by
  rw [dec_eq, dec_eq]
  simp only [strOp, str_eq (decL_dig a).u8 (decL_dig b).u8]
  congr 3
  by_cases h : a = b
  · subst h; simp
  · rw [decide_eq_false h, decide_eq_false]
    intro hh
    exact h (by rw [← sval_decL a, hh, sval_decL])
theorem c78_ok {n : Bool} {p : Nat} (hp : (decL p).length ≤ 1000000000) : Go.V.Call tab E 78 [.bool n, .str (dec p)] [] (.agg (wdC (n && decide (p ≠ 0)) p)) [] := by
  refine Go.V.Call.mach i78 c78 rfl rfl rfl rfl ?_
  have h120 := c86_dig (E := E) (decL_dig p) (decL_ne p) hp
  rw [sval_decL, ← dec_eq] at h120
  have hne := dec_ne (a := p) (b := 0)
  rw [dec_zero] at hne
  have hd : (!decide (p = 0)) = decide (p ≠ 0) := by simp
  simp only [c78, go_sem, ↓reduceIte, Nat.reduceEqDiff, Nat.reduceAdd, Nat.reduceMul, Nat.reduceLeDiff, Nat.reduceLT, Int.reduceToNat, Int.reduceLT, Int.reduceLE, reduceCtorEq, Nat.reduceBEq, fillAll, fillIn, shiftR, shiftV, List.take_succ_cons, List.take_zero, List.drop_succ_cons, List.drop_zero, List.append_nil, Nat.zero_add]
  refine goP h120 ?_
  cases n with
  | true =>
    simp only [go_sem, ↓reduceIte, Nat.reduceEqDiff, Nat.reduceAdd, Nat.reduceMul, Nat.reduceLeDiff, Nat.reduceLT, Int.reduceToNat, Int.reduceLT, Int.reduceLE, reduceCtorEq, Nat.reduceBEq, fillAll, fillIn, shiftR, shiftV, List.take_succ_cons, List.take_zero, List.drop_succ_cons, List.drop_zero, List.append_nil, Nat.zero_add, hne, hd]
    simp only [i78, Out, resAll, geto, ints, List.getElem?_cons_zero, List.getElem?_cons_succ, resOf, outOf, snap, snapL, ev, getE, List.mapM_cons, List.mapM_nil, Option.bind_some, Option.pure_def, Option.bind_eq_bind, Option.map_some, reduceIte, Nat.reduceEqDiff, true_and, and_true, subD2, wdC, Bool.true_and]
  | false =>
    simp only [go_sem, ↓reduceIte, Nat.reduceEqDiff, Nat.reduceAdd, Nat.reduceMul, Nat.reduceLeDiff, Nat.reduceLT, Int.reduceToNat, Int.reduceLT, Int.reduceLE, reduceCtorEq, Nat.reduceBEq, fillAll, fillIn, shiftR, shiftV, List.take_succ_cons, List.take_zero, List.drop_succ_cons, List.drop_zero, List.append_nil, Nat.zero_add]
    simp only [i78, Out, resAll, geto, ints, List.getElem?_cons_zero, List.getElem?_cons_succ, resOf, outOf, snap, snapL, ev, getE, List.mapM_cons, List.mapM_nil, Option.bind_some, Option.pure_def, Option.bind_eq_bind, Option.map_some, reduceIte, Nat.reduceEqDiff, true_and, and_true, subD2, wdC, Bool.false_and]
theorem c51_ok {x : Rt} (hp : (decL x.2.1).length ≤ 1000000000) : Go.V.Call tab E 51 [.agg (numG x.1 x.2.1 (dn x.2.2))] [] (.agg (wdC (x.1 && decide (x.2.1 ≠ 0)) x.2.1)) [] := by
  refine Go.V.Call.mach i51 c51 rfl rfl rfl rfl ?_
  have h := c78_ok (E := E) (n := x.1) hp
  simp only [c51, numG, go_sem, ↓reduceIte, Nat.reduceEqDiff, Nat.reduceAdd, Nat.reduceMul, Nat.reduceLeDiff, Nat.reduceLT, Int.reduceToNat, Int.reduceLT, Int.reduceLE, reduceCtorEq, Nat.reduceBEq, fillAll, fillIn, shiftR, shiftV, List.take_succ_cons, List.take_zero, List.drop_succ_cons, List.drop_zero, List.append_nil, Nat.zero_add, subN0, subN1]
  refine goP h ?_
  simp only [wdC, go_sem, ↓reduceIte, Nat.reduceEqDiff, Nat.reduceAdd, Nat.reduceMul, Nat.reduceLeDiff, Nat.reduceLT, Int.reduceToNat, Int.reduceLT, Int.reduceLE, reduceCtorEq, Nat.reduceBEq, fillAll, fillIn, shiftR, shiftV, List.take_succ_cons, List.take_zero, List.drop_succ_cons, List.drop_zero, List.append_nil, Nat.zero_add]
  simp only [i51, Out, resAll, geto, ints, List.getElem?_cons_zero, List.getElem?_cons_succ, resOf, outOf, snap, snapL, ev, getE, List.mapM_cons, List.mapM_nil, Option.bind_some, Option.pure_def, Option.bind_eq_bind, Option.map_some, reduceIte, Nat.reduceEqDiff, true_and, and_true, subD2, wdC]
theorem c74_ok {n : Bool} {p : Nat} (hp : (decL p).length ≤ 1000000000) (h0 : n = true → p ≠ 0) : Go.V.Call tab E 74 [.agg (wdC n p)] [] (optP (wint n p)) [] := by
  refine Go.V.Call.mach i74 c74 rfl rfl rfl rfl ?_
  have h139 := c94_ok (E := E) hp
  simp only [c74, wdC, go_sem, ↓reduceIte, Nat.reduceEqDiff, Nat.reduceAdd, Nat.reduceMul, Nat.reduceLeDiff, Nat.reduceLT, Int.reduceToNat, Int.reduceLT, Int.reduceLE, reduceCtorEq, Nat.reduceBEq, fillAll, fillIn, shiftR, shiftV, List.take_succ_cons, List.take_zero, List.drop_succ_cons, List.drop_zero, List.append_nil, Nat.zero_add, subD1, subD0]
  by_cases hb : p < 18446744073709551616
  · rw [if_pos hb] at h139
    refine goP h139 ?_
    cases n with
    | true =>
      have h0' := h0 rfl
      by_cases h1 : 9223372036854775808 < p
      · have h1' : (9223372036854775808 : Int) < (p : Int) := by omega
        have hw : wint true p = none := by unfold wint; rw [if_pos rfl, if_neg (by omega)]
        simp only [go_sem, ↓reduceIte, Nat.reduceEqDiff, Nat.reduceAdd, Nat.reduceMul, Nat.reduceLeDiff, Nat.reduceLT, Int.reduceToNat, Int.reduceLT, Int.reduceLE, reduceCtorEq, Nat.reduceBEq, subD1, subD0, h1']
        simp only [i74, Out, resAll, geto, ints, List.getElem?_cons_zero, List.getElem?_cons_succ, resOf, outOf, snap, snapL, ev, getE, List.mapM_cons, List.mapM_nil, Option.bind_some, Option.pure_def, Option.bind_eq_bind, Option.map_some, reduceIte, Nat.reduceEqDiff, true_and, and_true, hw, optP]
      · have h1' : ¬ (9223372036854775808 : Int) < (p : Int) := by omega
        have hw : wint true p = some (-(p : Int)) := by unfold wint; rw [if_pos rfl, if_pos (by omega)]
        have e1 : IntKind.u64.wrap ((p : Int) - 1) = (p : Int) - 1 := wrap_u64 (by omega) (by omega)
        have e2 : IntKind.i64.wrap ((p : Int) - 1) = (p : Int) - 1 := wrap_i64 (by omega) (by omega)
        have e3 : IntKind.i64.wrap (0 - ((p : Int) - 1)) = 1 - (p : Int) := by rw [wrap_i64 (by omega) (by omega)]; omega
        have e4 : IntKind.i64.wrap (1 - (p : Int) - 1) = -(p : Int) := by rw [wrap_i64 (by omega) (by omega)]; omega
        simp only [go_sem, ↓reduceIte, Nat.reduceEqDiff, Nat.reduceAdd, Nat.reduceMul, Nat.reduceLeDiff, Nat.reduceLT, Int.reduceToNat, Int.reduceLT, Int.reduceLE, reduceCtorEq, Nat.reduceBEq, subD1, subD0, h1', e1, e2, e3, e4]
        simp only [i74, Out, resAll, geto, ints, List.getElem?_cons_zero, List.getElem?_cons_succ, resOf, outOf, snap, snapL, ev, getE, List.mapM_cons, List.mapM_nil, Option.bind_some, Option.pure_def, Option.bind_eq_bind, Option.map_some, reduceIte, Nat.reduceEqDiff, true_and, and_true, hw, optP]
    | false =>
      by_cases h1 : 9223372036854775807 < p
      · have h1' : (9223372036854775807 : Int) < (p : Int) := by omega
        have hw : wint false p = none := by unfold wint; rw [if_neg (by simp), if_neg (by omega)]
        simp only [go_sem, ↓reduceIte, Nat.reduceEqDiff, Nat.reduceAdd, Nat.reduceMul, Nat.reduceLeDiff, Nat.reduceLT, Int.reduceToNat, Int.reduceLT, Int.reduceLE, reduceCtorEq, Nat.reduceBEq, subD1, subD0, h1']
        simp only [i74, Out, resAll, geto, ints, List.getElem?_cons_zero, List.getElem?_cons_succ, resOf, outOf, snap, snapL, ev, getE, List.mapM_cons, List.mapM_nil, Option.bind_some, Option.pure_def, Option.bind_eq_bind, Option.map_some, reduceIte, Nat.reduceEqDiff, true_and, and_true, hw, optP]
      · have h1' : ¬ (9223372036854775807 : Int) < (p : Int) := by omega
        have hw : wint false p = some (p : Int) := by unfold wint; rw [if_neg (by simp), if_pos (by omega)]
        have e1 : IntKind.i64.wrap (p : Int) = (p : Int) := wrap_i64 (by omega) (by omega)
        simp only [go_sem, ↓reduceIte, Nat.reduceEqDiff, Nat.reduceAdd, Nat.reduceMul, Nat.reduceLeDiff, Nat.reduceLT, Int.reduceToNat, Int.reduceLT, Int.reduceLE, reduceCtorEq, Nat.reduceBEq, subD1, subD0, h1', e1]
        simp only [i74, Out, resAll, geto, ints, List.getElem?_cons_zero, List.getElem?_cons_succ, resOf, outOf, snap, snapL, ev, getE, List.mapM_cons, List.mapM_nil, Option.bind_some, Option.pure_def, Option.bind_eq_bind, Option.map_some, reduceIte, Nat.reduceEqDiff, true_and, and_true, hw, optP]
  · rw [if_neg hb] at h139
    refine goP h139 ?_
    have hw : wint n p = none := by unfold wint; split <;> rw [if_neg (by omega)]
    simp only [go_sem, ↓reduceIte, Nat.reduceEqDiff, Nat.reduceAdd, Nat.reduceMul, Nat.reduceLeDiff, Nat.reduceLT, Int.reduceToNat, Int.reduceLT, Int.reduceLE, reduceCtorEq, Nat.reduceBEq, subD1, subD0]
    simp only [i74, Out, resAll, geto, ints, List.getElem?_cons_zero, List.getElem?_cons_succ, resOf, outOf, snap, snapL, ev, getE, List.mapM_cons, List.mapM_nil, Option.bind_some, Option.pure_def, Option.bind_eq_bind, Option.map_some, reduceIte, Nat.reduceEqDiff, true_and, and_true, hw, optP]
theorem rint_norm {n : Bool} {p : Nat} : wint (n && decide (p ≠ 0)) p = wint n p := by
  by_cases h : p = 0
  · subst h; cases n <;> rfl
  · simp [h]
theorem c47_ok {x : Rt} (hp : (decL x.2.1).length ≤ 1000000000) : Go.V.Call tab E 47 [.agg (numG x.1 x.2.1 (dn x.2.2))] [] (optP (rint x)) [] := by
  refine Go.V.Call.mach i47 c47 rfl rfl rfl rfl ?_
  have hne := dec_ne (a := dn x.2.2) (b := 1)
  rw [dec_one] at hne
  have h123 := c51_ok (E := E) hp
  have h122 := c74_ok (E := E) (n := x.1 && decide (x.2.1 ≠ 0)) hp (by intro h; simp at h; exact h.2)
  rw [rint_norm] at h122
  simp only [numG, wdC] at h123 h122
  by_cases h : dn x.2.2 = 1
  · rw [decide_eq_true h] at hne
    simp only [c47, numG, go_sem, ↓reduceIte, Nat.reduceEqDiff, Nat.reduceAdd, Nat.reduceMul, Nat.reduceLeDiff, Nat.reduceLT, Int.reduceToNat, Int.reduceLT, Int.reduceLE, reduceCtorEq, Nat.reduceBEq, fillAll, fillIn, shiftR, shiftV, List.take_succ_cons, List.take_zero, List.drop_succ_cons, List.drop_zero, List.append_nil, Nat.zero_add, subN2, hne, subT3]
    refine goP h123 ?_
    simp only [go_sem, ↓reduceIte, Nat.reduceEqDiff, Nat.reduceAdd, Nat.reduceMul, Nat.reduceLeDiff, Nat.reduceLT, Int.reduceToNat, Int.reduceLT, Int.reduceLE, reduceCtorEq, Nat.reduceBEq]
    refine goP h122 ?_
    have hri : rint x = wint x.1 x.2.1 := by rw [rint, if_pos h]
    clear h hne
    cases hw : wint x.1 x.2.1 with
    | none =>
      simp only [optP, go_sem, ↓reduceIte, Nat.reduceEqDiff, Nat.reduceAdd, Nat.reduceMul, Nat.reduceLeDiff, Nat.reduceLT, Int.reduceToNat, Int.reduceLT, Int.reduceLE, reduceCtorEq, Nat.reduceBEq]
      simp only [i47, Out, resAll, geto, ints, List.getElem?_cons_zero, List.getElem?_cons_succ, resOf, outOf, snap, snapL, ev, getE, List.mapM_cons, List.mapM_nil, Option.bind_some, Option.pure_def, Option.bind_eq_bind, Option.map_some, reduceIte, Nat.reduceEqDiff, true_and, and_true, hri, hw, optP]
    | some z =>
      simp only [optP, go_sem, ↓reduceIte, Nat.reduceEqDiff, Nat.reduceAdd, Nat.reduceMul, Nat.reduceLeDiff, Nat.reduceLT, Int.reduceToNat, Int.reduceLT, Int.reduceLE, reduceCtorEq, Nat.reduceBEq]
      simp only [i47, Out, resAll, geto, ints, List.getElem?_cons_zero, List.getElem?_cons_succ, resOf, outOf, snap, snapL, ev, getE, List.mapM_cons, List.mapM_nil, Option.bind_some, Option.pure_def, Option.bind_eq_bind, Option.map_some, reduceIte, Nat.reduceEqDiff, true_and, and_true, hri, hw, optP]
  · rw [decide_eq_false h] at hne
    simp only [c47, numG, go_sem, ↓reduceIte, Nat.reduceEqDiff, Nat.reduceAdd, Nat.reduceMul, Nat.reduceLeDiff, Nat.reduceLT, Int.reduceToNat, Int.reduceLT, Int.reduceLE, reduceCtorEq, Nat.reduceBEq, fillAll, fillIn, shiftR, shiftV, List.take_succ_cons, List.take_zero, List.drop_succ_cons, List.drop_zero, List.append_nil, Nat.zero_add, subN2, hne, subT3]
    have hri : rint x = none := by rw [rint, if_neg h]
    simp only [i47, Out, resAll, geto, ints, List.getElem?_cons_zero, List.getElem?_cons_succ, resOf, outOf, snap, snapL, ev, getE, List.mapM_cons, List.mapM_nil, Option.bind_some, Option.pure_def, Option.bind_eq_bind, Option.map_some, reduceIte, Nat.reduceEqDiff, true_and, and_true, hri, optP]
end
end Go.Proofs.YtcmbaabkfihdmaaGreat.I

/- Layer 6: arrays as whole numbers, their elements, limbs and bytes. -/
set_option linter.unusedVariables false
set_option linter.unusedSimpArgs false
namespace Go.Proofs.YtcmbaabkfihdmaaGreat.I
open Go Go.V
attribute [local go_sem] mNil nat0 beq_self_eq_true mSkip mRet mExit mReg mSeq mCond mTrue mFalse mBlock mLv mCodeE mCodeR mEndN mEndR mEndE mOps mSome mGuard mGtt mGff mGtf mGft mGu mCallP mCallR mCallF mCallO mCallZ mCallG mCallM mCallV loopQ_exit loopQ_ret mO_mov mO_newnil mO_pick mO_alloc mO_box mO_build mO_bsl mO_bslF mO_ldf mO_ld mO_st mO_sta mO_nilchk mO_bin mO_binb mO_binp mO_bins mO_neg mO_com mO_not mO_conv mO_mk mO_mk0 mO_s2b mO_b2s mO_cpy mO_cut mO_faddr mO_fld mO_iaddr mO_iaddrf mO_sidx mO_len mO_lenf mO_slen mO_scut mO_app mO_ext mO_mx mO_mn mO_mkfn evalOp cutOp argsE ev getE putE cellsOf adopt rowOf binV boolV nilV ar_add ar_sub ar_mul ar_quo ar_rem ar_eq ar_ne ar_lt ar_le ar_gt ar_ge ar_and ar_or ar_xor geto bound finRet finNrm ints List.length_cons List.length_nil List.length_append List.getElem?_cons_zero List.getElem?_cons_succ List.nil_append List.cons_append List.map_cons List.map_nil List.mapM_cons List.mapM_nil Option.map_some Option.map_none Option.bind_some Option.pure_def Option.bind_eq_bind List.drop_zero or_self or_false false_or or_true true_or true_and and_true and_self decide_true decide_false Bool.false_eq_true Bool.true_eq_false Bool.not_true Bool.not_false Nat.le_refl eq_self gt_iff_lt ge_iff_le ne_eq not_true_eq_false not_false_eq_true storeOp apartOf freeze_nil refsL refs List.flatMap_cons List.flatMap_nil List.append_nil List.contains_nil List.set_cons_zero List.set_cons_succ snap snapL fill_nums flat_nums nums_length Go.V.freeze List.mapIdx_cons List.mapIdx_nil List.contains_cons Bool.or_false Bool.false_or Bool.or_true Bool.true_or
def rv (x : Rt) : Int := (rint x).getD 0
def WhO (l : List Rt) : Prop := ∀ x ∈ l, (rint x).isSome = true
theorem WhO_take {l : List Rt} {i : Nat} (h : i < l.length) : WhO (l.take (i + 1)) ↔ WhO (l.take i) ∧ (rint (rtAt l i)).isSome = true := by
  have : l.take (i + 1) = l.take i ++ [rtAt l i] := takeAt h
  rw [this]
  unfold WhO
  simp only [List.mem_append, List.mem_singleton]
  exact ⟨fun h => ⟨fun x hx => h x (.inl hx), h _ (.inr rfl)⟩, fun h x hx => hx.elim (h.1 x) (fun e => e ▸ h.2)⟩
theorem rtAt_mem {l : List Rt} {i : Nat} (h : i < l.length) : rtAt l i ∈ l := by simp [rtAt, List.getD, h]
theorem nmAt_map {l : List Rt} {i : Nat} (h : i < l.length) : nmAt (l.map toNm) i = toNm (rtAt l i) := by simp [nmAt, rtAt, List.getD, h]
theorem rv_of {x : Rt} {z : Int} (h : rint x = some z) : rv x = z := by rw [rv, h]; rfl
theorem RtOk.len {x : Rt} (h : RtOk x) : (decL x.2.1).length ≤ 1000000000 ∧ (decL (dn x.2.2)).length ≤ 1000000000 := ⟨Nat.le_trans (lim2000_len h.1) (by omega), Nat.le_trans (lim2000_len h.2) (by omega)⟩
/-- The most limbs of a list. -/
def lmax (l : List Rt) : Nat := l.foldl (fun a x => max a (rlimbs x)) 0
def rbytes (x : Rt) : Nat := 8 + 4 * ((limG x.2.1).length + (limG (dn x.2.2)).length)
def bsum (l : List Rt) : Nat := l.foldl (fun a x => a + rbytes x) 0
def runeAt (t : List Int) (k : Int) : Int := if 0 ≤ k ∧ k < t.length then t.getD k.toNat 0 else 0
theorem subX3 {a b c d e : AV} : sub false 1 [a, b, c, d, e] 3 = some d := rfl
theorem c19_X {s t : List Int} {l : List Rt} {ch ok : Bool} (ht : (t.length : Int) ≤ 1000000000000) (hl : (l.length : Int) ≤ 1000000000000) (hok : ok = true ↔ ¬ (ch = true ∧ 0 < t.length + l.length) ∧ WhO l) :
    Go.V.Call tab E 19 [.agg (arrX s ch t l)] [] (.tup [.arr 0 0, .bool ok]) [rowI (if ok then l.map rv else [])] := by
  refine Go.V.Call.mach i19 c19 rfl rfl rfl rfl ?_
  have hfalse : ¬ (¬ (ch = true ∧ 0 < t.length + l.length) ∧ WhO l) → ok = false := fun h => by rw [← Bool.not_eq_true, hok]; exact h
  have h54 := c28_X (s := s) (ch := ch) ht hl
  simp only [arrX, runes, ints] at h54
  have main : ¬ (ch = true ∧ 0 < t.length + l.length) → Mach (Go.V.Call tab E) (Fin i19 [] (.tup [.arr 0 0, .bool ok]) [rowI (if ok then l.map rv else [])]) [.code (.seq (.seq (.reg none [⟨some 16, .faddr 3 (.t 1), none⟩,
      ⟨some 17, .ld false 1 (.t 16), none⟩, ⟨some 18, .lenf (.t 17), none⟩, ⟨some 19, .mov (.k (.int .i64 0)), none⟩]) (.lv [4, 17, 18, 19] (.block 0 (.loop [4, 17, 18, 19] (some (3, [])) b19_0)))) k19_0)] .nrm
      ⟨[(1, .loc 0 0 0), (4, .arr 2 0)], [⟨true, 36, 5, 0, 1, arrX s ch t l, false⟩, ⟨false, 3, 1, 0, 0, [], false⟩, ⟨false, 3, 1, 0, 0, [], false⟩]⟩ := fun hch => by
    simp only [arrX, runes, ints, go_sem, ↓reduceIte, Nat.reduceEqDiff, Nat.reduceAdd, Nat.reduceMul, Nat.reduceLeDiff, Nat.reduceLT, Int.reduceToNat, Int.reduceLT, Int.reduceLE, reduceCtorEq, Nat.reduceBEq, subX3, fillAll, fillIn, shiftR, shiftV, List.take_succ_cons, List.take_zero, List.drop_succ_cons, List.drop_zero, List.append_nil, Nat.zero_add]
    refine mLoop (fun N st => ∃ (i : Nat), i ≤ l.length ∧ N = l.length - i ∧ WhO (l.take i) ∧
      st = ⟨[(4, .arr 2 i), (17, .sl l.length 3 (rtsC l)), (18, .int .i64 l.length), (19, .int .i64 i)],
        [⟨true, 36, 5, 0, 1, arrX s ch t l, false⟩, ⟨false, 3, 1, 0, 0, [], false⟩, ⟨false, 3, 1, i, i, nums .i64 ((l.take i).map rv), false⟩]⟩) l.length
      ⟨_, rfl, 0, by omega, by omega, fun x hx => by simp at hx, by simp [nums, getE, ints, arrX, runes]⟩ ?_
    rintro N s0 ⟨i, hi, rfl, hw, rfl⟩
    by_cases hlt : i < l.length
    · have hlt' : (i : Int) < (l.length : Int) := by omega
      have hi0 : (0 : Int) ≤ (i : Int) := by omega
      have hi1 : IntKind.i64.wrap ((i : Int) + 1) = ((i + 1 : Nat) : Int) := by rw [wrap_i64 (by omega) (by omega)]; omega
      have hsub := sub_rts hlt
      have htk : l.take (i + 1) = l.take i ++ [rtAt l i] := takeAt hlt
      have hwt := WhO_take hlt
      have e1 : (i + 1) * 8 ≤ 140737488355328 := by omega
      have e2 : i + 1 ≤ 140737488355328 := by omega
      have h88 := c35_gen (E := E) (x := rtAt l i)
      cases hr : rint (rtAt l i) with
      | none =>
        have := hfalse (fun h => by have := h.2 _ (rtAt_mem hlt); rw [hr] at this; cases this)
        subst this
        rw [hr] at h88
        simp only [optP, rtC, ratG, us32] at h88
        simp only [b19_0, arrX, runes, ints, go_sem, ↓reduceIte, Nat.reduceEqDiff, Nat.reduceAdd, Nat.reduceMul, Nat.reduceLeDiff, Nat.reduceLT, Int.reduceToNat, Int.reduceLT, Int.reduceLE, reduceCtorEq, Nat.reduceBEq, hlt', hi0, Int.toNat_natCast, hsub, rtC, ratG, us32, subT3, fillAll, fillIn, shiftR, shiftV, List.take_succ_cons, List.take_zero, List.drop_succ_cons, List.drop_zero, List.append_nil, Nat.zero_add]
        refine goR h88 rfl ?_
        simp only [go_sem, ↓reduceIte, Nat.reduceEqDiff, Nat.reduceAdd, Nat.reduceMul, Nat.reduceLeDiff, Nat.reduceLT, Int.reduceToNat, Int.reduceLT, Int.reduceLE, reduceCtorEq, Nat.reduceBEq, fillAll, fillIn, shiftR, shiftV, List.take_succ_cons, List.take_zero, List.drop_succ_cons, List.drop_zero, List.append_nil, Nat.zero_add]
        simp only [i19, Out, resAll, geto, ints, List.getElem?_cons_zero, List.getElem?_cons_succ, resOf, outOf, snap, snapL, ev, getE, List.mapM_cons, List.mapM_nil, Option.bind_some, Option.pure_def, Option.bind_eq_bind, Option.map_some, reduceIte, Nat.reduceEqDiff, true_and, and_true, ownOut, ownL, ownV, scalar, List.contains_nil, List.length_nil, List.length_cons, List.nil_append, List.cons_append, storeOp, apartOf, freeze_nil, refsL, refs, List.flatMap_cons, List.flatMap_nil, List.append_nil, List.contains_nil, List.set_cons_zero, List.set_cons_succ, snap, snapL, fill_nums, flat_nums, nums_length, reduceCtorEq, Bool.false_eq_true, and_self, not_false_eq_true, beq_self_eq_true, Nat.zero_add]
        rfl
      | some z =>
        have hz : rv (rtAt l i) = z := rv_of hr
        rw [hr] at h88 hwt
        simp only [optP, rtC, ratG, us32] at h88
        simp only [b19_0, arrX, runes, ints, go_sem, ↓reduceIte, Nat.reduceEqDiff, Nat.reduceAdd, Nat.reduceMul, Nat.reduceLeDiff, Nat.reduceLT, Int.reduceToNat, Int.reduceLT, Int.reduceLE, reduceCtorEq, Nat.reduceBEq, hlt', hi0, Int.toNat_natCast, hsub, rtC, ratG, us32, subT3, fillAll, fillIn, shiftR, shiftV, List.take_succ_cons, List.take_zero, List.drop_succ_cons, List.drop_zero, List.append_nil, Nat.zero_add]
        refine goR h88 rfl ?_
        simp only [go_sem, ↓reduceIte, Nat.reduceEqDiff, Nat.reduceAdd, Nat.reduceMul, Nat.reduceLeDiff, Nat.reduceLT, Int.reduceToNat, Int.reduceLT, Int.reduceLE, reduceCtorEq, Nat.reduceBEq, fillAll, fillIn, shiftR, shiftV, List.take_succ_cons, List.take_zero, List.drop_succ_cons, List.drop_zero, List.append_nil, Nat.zero_add, hi1, e1, e2, List.flatten_cons, List.flatten_nil, Option.getD_some]
        refine loopQ_go rfl (l.length - (i + 1)) (by omega) ⟨i + 1, by omega, rfl, hwt.2 ⟨hw, rfl⟩, ?_⟩
        rw [htk]
        simp only [nums, List.map_append, List.map_cons, List.map_nil, hz, arrX, runes, ints]
        rfl
    · have hlt' : ¬ (i : Int) < (l.length : Int) := by omega
      obtain rfl : i = l.length := by omega
      rw [List.take_length] at hw
      have := hok.2 ⟨hch, hw⟩
      subst this
      simp only [b19_0, k19_0, arrX, runes, ints, go_sem, ↓reduceIte, Nat.reduceEqDiff, Nat.reduceAdd, Nat.reduceMul, Nat.reduceLeDiff, Nat.reduceLT, Int.reduceToNat, Int.reduceLT, Int.reduceLE, reduceCtorEq, Nat.reduceBEq, hlt', List.take_length, Int.lt_irrefl]
      simp only [i19, Out, resAll, geto, ints, List.getElem?_cons_zero, List.getElem?_cons_succ, resOf, outOf, snap, snapL, ev, getE, List.mapM_cons, List.mapM_nil, Option.bind_some, Option.pure_def, Option.bind_eq_bind, Option.map_some, reduceIte, Nat.reduceEqDiff, true_and, and_true, ownOut, ownL, ownV, scalar, List.contains_nil, List.length_nil, List.length_cons, List.nil_append, List.cons_append, storeOp, apartOf, freeze_nil, refsL, refs, List.flatMap_cons, List.flatMap_nil, List.append_nil, List.contains_nil, List.set_cons_zero, List.set_cons_succ, snap, snapL, fill_nums, flat_nums, nums_length, reduceCtorEq, Bool.false_eq_true, and_self, not_false_eq_true, beq_self_eq_true, Nat.zero_add]
      simp [rowI]
  cases ch with
  | true =>
    simp only [c19, arrX, runes, ints, go_sem, ↓reduceIte, Nat.reduceEqDiff, Nat.reduceAdd, Nat.reduceMul, Nat.reduceLeDiff, Nat.reduceLT, Int.reduceToNat, Int.reduceLT, Int.reduceLE, reduceCtorEq, Nat.reduceBEq, subX1, subA5, fillAll, fillIn, shiftR, shiftV, List.take_succ_cons, List.take_zero, List.drop_succ_cons, List.drop_zero, List.append_nil, Nat.zero_add]
    refine goP h54 ?_
    by_cases h0 : 0 < t.length + l.length
    · have h0' : (0 : Int) < ((t.length + l.length : Nat) : Int) := by omega
      have := hfalse (fun h => h.1 ⟨rfl, h0⟩)
      subst this
      simp only [go_sem, ↓reduceIte, Nat.reduceEqDiff, Nat.reduceAdd, Nat.reduceMul, Nat.reduceLeDiff, Nat.reduceLT, Int.reduceToNat, Int.reduceLT, Int.reduceLE, reduceCtorEq, Nat.reduceBEq, h0']
      simp only [i19, Out, resAll, geto, ints, List.getElem?_cons_zero, List.getElem?_cons_succ, resOf, outOf, snap, snapL, ev, getE, List.mapM_cons, List.mapM_nil, Option.bind_some, Option.pure_def, Option.bind_eq_bind, Option.map_some, reduceIte, Nat.reduceEqDiff, true_and, and_true, ownOut, ownL, ownV, scalar, List.contains_nil, List.length_nil, List.length_cons, List.nil_append, List.cons_append, storeOp, apartOf, freeze_nil, refsL, refs, List.flatMap_cons, List.flatMap_nil, List.append_nil, List.contains_nil, List.set_cons_zero, List.set_cons_succ, snap, snapL, fill_nums, flat_nums, nums_length, reduceCtorEq, Bool.false_eq_true, and_self, not_false_eq_true, beq_self_eq_true, Nat.zero_add]
      rfl
    · have h0' : ¬ (0 : Int) < ((t.length + l.length : Nat) : Int) := by omega
      have hm := main (fun h => h0 h.2)
      simp only [arrX, runes, ints, go_sem, ↓reduceIte, Nat.reduceEqDiff, Nat.reduceAdd, Nat.reduceMul, Nat.reduceLeDiff, Nat.reduceLT, Int.reduceToNat, Int.reduceLT, Int.reduceLE, reduceCtorEq, Nat.reduceBEq, subX3, fillAll, fillIn, shiftR, shiftV, List.take_succ_cons, List.take_zero, List.drop_succ_cons, List.drop_zero, List.append_nil, Nat.zero_add] at hm
      simp only [go_sem, ↓reduceIte, Nat.reduceEqDiff, Nat.reduceAdd, Nat.reduceMul, Nat.reduceLeDiff, Nat.reduceLT, Int.reduceToNat, Int.reduceLT, Int.reduceLE, reduceCtorEq, Nat.reduceBEq, h0', subX3]
      exact hm
  | false =>
    have hm := main (fun h => by cases h.1)
    simp only [arrX, runes, ints, go_sem, ↓reduceIte, Nat.reduceEqDiff, Nat.reduceAdd, Nat.reduceMul, Nat.reduceLeDiff, Nat.reduceLT, Int.reduceToNat, Int.reduceLT, Int.reduceLE, reduceCtorEq, Nat.reduceBEq, subX3, fillAll, fillIn, shiftR, shiftV, List.take_succ_cons, List.take_zero, List.drop_succ_cons, List.drop_zero, List.append_nil, Nat.zero_add] at hm
    simp only [c19, arrX, runes, ints, go_sem, ↓reduceIte, Nat.reduceEqDiff, Nat.reduceAdd, Nat.reduceMul, Nat.reduceLeDiff, Nat.reduceLT, Int.reduceToNat, Int.reduceLT, Int.reduceLE, reduceCtorEq, Nat.reduceBEq, subX1, subX3, subA5, fillAll, fillIn, shiftR, shiftV, List.take_succ_cons, List.take_zero, List.drop_succ_cons, List.drop_zero, List.append_nil, Nat.zero_add]
    exact hm
theorem subP3n {a b c d : AV} : sub false 1 [a, b, c, d] 3 = some d := rfl
theorem c25_ok {s t : List Int} {l : List Rt} {ch ok : Bool} (ht : (t.length : Int) ≤ 1000000000000) (hl : (l.length : Int) ≤ 1000000000000) (hlk : ∀ x ∈ l, RtOk x) (hok : ok = true ↔ t.length = 0 ∧ WhO l) :
    Go.V.Call tab E 25 [.agg (plX s ch t (l.map toNm))] [] (.tup [.arr 0 0, .bool ok]) [rowI (if ok then l.map rv else [])] := by
  refine Go.V.Call.mach i25 c25 rfl rfl rfl rfl ?_
  have hfalse : ¬ (t.length = 0 ∧ WhO l) → ok = false := fun h => by rw [← Bool.not_eq_true, hok]; exact h
  by_cases h0 : 0 < t.length
  · have h0' : (0 : Int) < (t.length : Int) := by omega
    have := hfalse (fun h => by omega)
    subst this
    simp only [c25, plX, runes, ints, go_sem, ↓reduceIte, Nat.reduceEqDiff, Nat.reduceAdd, Nat.reduceMul, Nat.reduceLeDiff, Nat.reduceLT, Int.reduceToNat, Int.reduceLT, Int.reduceLE, reduceCtorEq, Nat.reduceBEq, subP4c, fillAll, fillIn, shiftR, shiftV, List.take_succ_cons, List.take_zero, List.drop_succ_cons, List.drop_zero, List.append_nil, Nat.zero_add, h0']
    simp only [i25, Out, resAll, geto, ints, List.getElem?_cons_zero, List.getElem?_cons_succ, resOf, outOf, snap, snapL, ev, getE, List.mapM_cons, List.mapM_nil, Option.bind_some, Option.pure_def, Option.bind_eq_bind, Option.map_some, reduceIte, Nat.reduceEqDiff, true_and, and_true, ownOut, ownL, ownV, scalar, List.contains_nil, List.length_nil, List.length_cons, List.nil_append, List.cons_append, storeOp, apartOf, freeze_nil, refsL, refs, List.flatMap_cons, List.flatMap_nil, List.append_nil, List.contains_nil, List.set_cons_zero, List.set_cons_succ, snap, snapL, fill_nums, flat_nums, nums_length, reduceCtorEq, Bool.false_eq_true, and_self, not_false_eq_true, beq_self_eq_true, Nat.zero_add]
    rfl
  · have h0' : ¬ (0 : Int) < (t.length : Int) := by omega
    have hlm : (l.map toNm).length = l.length := by simp
    simp only [c25, plX, runes, ints, go_sem, ↓reduceIte, Nat.reduceEqDiff, Nat.reduceAdd, Nat.reduceMul, Nat.reduceLeDiff, Nat.reduceLT, Int.reduceToNat, Int.reduceLT, Int.reduceLE, reduceCtorEq, Nat.reduceBEq, subP4c, fillAll, fillIn, shiftR, shiftV, List.take_succ_cons, List.take_zero, List.drop_succ_cons, List.drop_zero, List.append_nil, Nat.zero_add, h0', hlm]
    refine mLoop (fun N st => ∃ (i : Nat), i ≤ l.length ∧ N = l.length - i ∧ WhO (l.take i) ∧
      st = ⟨[(1, .loc 0 0 0), (4, .arr 2 i), (5, .int .i64 i)],
        [⟨true, 26, 4, 0, 1, plX s ch t (l.map toNm), false⟩, ⟨false, 3, 1, 0, 0, [], false⟩, ⟨false, 3, 1, i, i, nums .i64 ((l.take i).map rv), false⟩]⟩) l.length
      ⟨_, rfl, 0, by omega, by omega, fun x hx => by simp at hx, by simp [nums, getE, ints, plX, runes]⟩ ?_
    rintro N s0 ⟨i, hi, rfl, hw, rfl⟩
    by_cases hlt : i < l.length
    · have hlt' : (i : Int) < (l.length : Int) := by omega
      have hi0 : (0 : Int) ≤ (i : Int) := by omega
      have hi1 : IntKind.i64.wrap ((i : Int) + 1) = ((i + 1 : Nat) : Int) := by rw [wrap_i64 (by omega) (by omega)]; omega
      have hsub := sub_nms (l := l.map toNm) (i := i) (by rw [hlm]; exact hlt)
      rw [nmAt_map hlt, ← nmC_dec] at hsub
      have htk : l.take (i + 1) = l.take i ++ [rtAt l i] := takeAt hlt
      have hwt := WhO_take hlt
      have e1 : (i + 1) * 8 ≤ 140737488355328 := by omega
      have e2 : i + 1 ≤ 140737488355328 := by omega
      have h97 := c47_ok (E := E) (x := rtAt l i) (hlk _ (rtAt_mem hlt)).len.1
      cases hr : rint (rtAt l i) with
      | none =>
        have := hfalse (fun h => by have := h.2 _ (rtAt_mem hlt); rw [hr] at this; cases this)
        subst this
        rw [hr] at h97
        simp only [optP, numG] at h97
        simp only [b25_0, plX, runes, ints, go_sem, ↓reduceIte, Nat.reduceEqDiff, Nat.reduceAdd, Nat.reduceMul, Nat.reduceLeDiff, Nat.reduceLT, Int.reduceToNat, Int.reduceLT, Int.reduceLE, reduceCtorEq, Nat.reduceBEq, subP3n, subP3, hlt', hi0, hlm, Int.toNat_natCast, hsub, numG, fillAll, fillIn, shiftR, shiftV, List.take_succ_cons, List.take_zero, List.drop_succ_cons, List.drop_zero, List.append_nil, Nat.zero_add]
        refine goP h97 ?_
        simp only [go_sem, ↓reduceIte, Nat.reduceEqDiff, Nat.reduceAdd, Nat.reduceMul, Nat.reduceLeDiff, Nat.reduceLT, Int.reduceToNat, Int.reduceLT, Int.reduceLE, reduceCtorEq, Nat.reduceBEq, fillAll, fillIn, shiftR, shiftV, List.take_succ_cons, List.take_zero, List.drop_succ_cons, List.drop_zero, List.append_nil, Nat.zero_add]
        simp only [i25, Out, resAll, geto, ints, List.getElem?_cons_zero, List.getElem?_cons_succ, resOf, outOf, snap, snapL, ev, getE, List.mapM_cons, List.mapM_nil, Option.bind_some, Option.pure_def, Option.bind_eq_bind, Option.map_some, reduceIte, Nat.reduceEqDiff, true_and, and_true, ownOut, ownL, ownV, scalar, List.contains_nil, List.length_nil, List.length_cons, List.nil_append, List.cons_append, storeOp, apartOf, freeze_nil, refsL, refs, List.flatMap_cons, List.flatMap_nil, List.append_nil, List.contains_nil, List.set_cons_zero, List.set_cons_succ, snap, snapL, fill_nums, flat_nums, nums_length, reduceCtorEq, Bool.false_eq_true, and_self, not_false_eq_true, beq_self_eq_true, Nat.zero_add]
        rfl
      | some z =>
        have hz : rv (rtAt l i) = z := rv_of hr
        rw [hr] at h97 hwt
        simp only [optP, numG] at h97
        simp only [b25_0, plX, runes, ints, go_sem, ↓reduceIte, Nat.reduceEqDiff, Nat.reduceAdd, Nat.reduceMul, Nat.reduceLeDiff, Nat.reduceLT, Int.reduceToNat, Int.reduceLT, Int.reduceLE, reduceCtorEq, Nat.reduceBEq, subP3n, subP3, hlt', hi0, hlm, Int.toNat_natCast, hsub, numG, fillAll, fillIn, shiftR, shiftV, List.take_succ_cons, List.take_zero, List.drop_succ_cons, List.drop_zero, List.append_nil, Nat.zero_add]
        refine goP h97 ?_
        simp only [go_sem, ↓reduceIte, Nat.reduceEqDiff, Nat.reduceAdd, Nat.reduceMul, Nat.reduceLeDiff, Nat.reduceLT, Int.reduceToNat, Int.reduceLT, Int.reduceLE, reduceCtorEq, Nat.reduceBEq, fillAll, fillIn, shiftR, shiftV, List.take_succ_cons, List.take_zero, List.drop_succ_cons, List.drop_zero, List.append_nil, Nat.zero_add, hi1, e1, e2, List.flatten_cons, List.flatten_nil, Option.getD_some]
        refine loopQ_go rfl (l.length - (i + 1)) (by omega) ⟨i + 1, by omega, rfl, hwt.2 ⟨hw, rfl⟩, ?_⟩
        rw [htk]
        simp only [nums, List.map_append, List.map_cons, List.map_nil, hz, plX, runes, ints]
        rfl
    · have hlt' : ¬ (i : Int) < (l.length : Int) := by omega
      obtain rfl : i = l.length := by omega
      rw [List.take_length] at hw
      have := hok.2 ⟨by omega, hw⟩
      subst this
      simp only [b25_0, k25_0, plX, runes, ints, go_sem, ↓reduceIte, Nat.reduceEqDiff, Nat.reduceAdd, Nat.reduceMul, Nat.reduceLeDiff, Nat.reduceLT, Int.reduceToNat, Int.reduceLT, Int.reduceLE, reduceCtorEq, Nat.reduceBEq, subP3n, subP3, hlm, hlt', List.take_length, Int.lt_irrefl]
      simp only [i25, Out, resAll, geto, ints, List.getElem?_cons_zero, List.getElem?_cons_succ, resOf, outOf, snap, snapL, ev, getE, List.mapM_cons, List.mapM_nil, Option.bind_some, Option.pure_def, Option.bind_eq_bind, Option.map_some, reduceIte, Nat.reduceEqDiff, true_and, and_true, ownOut, ownL, ownV, scalar, List.contains_nil, List.length_nil, List.length_cons, List.nil_append, List.cons_append, storeOp, apartOf, freeze_nil, refsL, refs, List.flatMap_cons, List.flatMap_nil, List.append_nil, List.contains_nil, List.set_cons_zero, List.set_cons_succ, snap, snapL, fill_nums, flat_nums, nums_length, reduceCtorEq, Bool.false_eq_true, and_self, not_false_eq_true, beq_self_eq_true, Nat.zero_add]
      simp [rowI]
/-- How much room an array takes. -/
def roomX (s t : List Int) (l : List Rt) : Nat := 16 + 4 * s.length + t.length + bsum l
end Go.Proofs.YtcmbaabkfihdmaaGreat.I

/- Exact numbers, as Lean's own: sums, products, quotients, how long they become. -/
set_option linter.unusedVariables false
set_option linter.unusedSimpArgs false
namespace Go.Proofs.YtcmbaabkfihdmaaGreat.I
open Go Go.V
theorem sgn_mul {a b : Int} : decide (a * b < 0) = ((decide (a < 0) != decide (b < 0)) && decide (a.natAbs * b.natAbs ≠ 0)) := by
  by_cases ha : a < 0
  · by_cases hb : b < 0
    · have h1 := Int.mul_pos_of_neg_of_neg ha hb
      rw [decide_eq_true ha, decide_eq_true hb, decide_eq_false (show ¬ a * b < 0 by omega)]
      rfl
    · rw [decide_eq_true ha, decide_eq_false hb]
      by_cases h0 : b = 0
      · subst h0; simp
      · have h1 := Int.mul_neg_of_neg_of_pos ha (show 0 < b by omega)
        rw [decide_eq_true h1, decide_eq_true (Nat.mul_ne_zero (by omega) (by omega))]
        rfl
  · rw [decide_eq_false ha]
    by_cases hb : b < 0
    · rw [decide_eq_true hb]
      by_cases h0 : a = 0
      · subst h0; simp
      · have h1 := Int.mul_neg_of_pos_of_neg (show 0 < a by omega) hb
        rw [decide_eq_true h1, decide_eq_true (Nat.mul_ne_zero (by omega) (by omega))]
        rfl
    · have h1 := Int.mul_nonneg (show 0 ≤ a by omega) (show 0 ≤ b by omega)
      rw [decide_eq_false hb, decide_eq_false (show ¬ a * b < 0 by omega)]
      rfl
theorem divInt_parts {a b : Int} (hb : b ≠ 0) : (Rat.divInt a b).num.natAbs = a.natAbs / Nat.gcd a.natAbs b.natAbs ∧ (Rat.divInt a b).den = b.natAbs / Nat.gcd a.natAbs b.natAbs ∧
    (decide ((Rat.divInt a b).num < 0)) = ((decide (a < 0) != decide (b < 0)) && decide (a.natAbs / Nat.gcd a.natAbs b.natAbs ≠ 0)) := by
  have hg : Int.gcd b a = Nat.gcd a.natAbs b.natAbs := by rw [Int.gcd_comm]; rfl
  have hgp : 0 < Nat.gcd a.natAbs b.natAbs := Nat.gcd_pos_of_pos_right _ (by omega)
  have hd1 : Nat.gcd a.natAbs b.natAbs ∣ a.natAbs := Nat.gcd_dvd_left _ _
  rw [Rat.num_divInt, Rat.den_divInt, if_neg hb, hg]
  generalize Nat.gcd a.natAbs b.natAbs = g at *
  have hdi : (g : Int) ∣ a := Int.dvd_natAbs.1 (Int.natCast_dvd_natCast.2 hd1)
  obtain ⟨k, hk⟩ := hdi
  have hgz : (g : Int) ≠ 0 := by omega
  have hq : b.sign * a / (g : Int) = b.sign * k := by
    rw [hk, ← Int.mul_assoc, Int.mul_comm b.sign, Int.mul_assoc]
    exact Int.mul_ediv_cancel_left _ hgz
  have hka : a.natAbs / g = k.natAbs := by
    rw [hk, Int.natAbs_mul, Int.natAbs_natCast]
    exact Nat.mul_div_cancel_left _ hgp
  have hs : (b.sign).natAbs = 1 := Int.natAbs_sign_of_ne_zero hb
  rw [hq, hka]
  refine ⟨by rw [Int.natAbs_mul, hs, Nat.one_mul], rfl, ?_⟩
  have hak : decide (a < 0) = decide (k < 0) := by
    by_cases h : k < 0
    · have := Int.mul_neg_of_pos_of_neg (show (0 : Int) < g by omega) h
      rw [decide_eq_true h, decide_eq_true (show a < 0 by omega)]
    · have := Int.mul_nonneg (show (0 : Int) ≤ g by omega) (show 0 ≤ k by omega)
      rw [decide_eq_false h, decide_eq_false (show ¬ a < 0 by omega)]
  rw [hak, sgn_mul]
  have hsb : decide (b.sign < 0) = decide (b < 0) := by
    rcases Int.lt_trichotomy b 0 with h | h | h
    · rw [Int.sign_eq_neg_one_of_neg h]; simp [h]
    · exact absurd h hb
    · rw [Int.sign_eq_one_of_pos h]; simp; omega
  rw [hsb, hs, Nat.one_mul]
  cases decide (b < 0) <;> cases decide (k < 0) <;> rfl
theorem add_divInt (a b : Rat) : Rat.divInt (a.num * b.den + b.num * a.den) ((a.den : Int) * b.den) = a + b := by
  rw [Rat.add_def', ← Rat.divInt_ofNat]; rfl
theorem mul_divInt (a b : Rat) : Rat.divInt (a.num * b.num) ((a.den : Int) * b.den) = a * b := by
  rw [Rat.mul_def', ← Rat.divInt_ofNat]; rfl
def Sz (k : Nat) (r : Rat) : Prop := r.num.natAbs < 2 ^ k ∧ r.den < 2 ^ k
theorem Sz.mono {i j : Nat} {r : Rat} (h : Sz i r) (hij : i ≤ j) : Sz j r := ⟨Nat.lt_of_lt_of_le h.1 (Nat.pow_le_pow_right (by omega) hij), Nat.lt_of_lt_of_le h.2 (Nat.pow_le_pow_right (by omega) hij)⟩
theorem lt_mul_pow {a b i j : Nat} (ha : a < 2 ^ i) (hb : b < 2 ^ j) : a * b < 2 ^ (i + j) := by
  rw [Nat.pow_add]
  exact Nat.mul_lt_mul'' ha hb
theorem add_num_lt {a b : Rat} {i j : Nat} (ha : Sz i a) (hb : Sz j b) : (a.num * b.den + b.num * a.den).natAbs < 2 ^ (i + j + 1) ∧ ((a.den : Int) * b.den).natAbs < 2 ^ (i + j) := by
  have h1 := lt_mul_pow ha.1 hb.2
  have h2 := lt_mul_pow hb.1 ha.2
  have h3 := lt_mul_pow ha.2 hb.2
  rw [Nat.add_comm j i] at h2
  have e1 : (a.num * b.den).natAbs = a.num.natAbs * b.den := by rw [Int.natAbs_mul, Int.natAbs_natCast]
  have e2 : (b.num * a.den).natAbs = b.num.natAbs * a.den := by rw [Int.natAbs_mul, Int.natAbs_natCast]
  refine ⟨?_, by rw [Int.natAbs_mul, Int.natAbs_natCast, Int.natAbs_natCast]; exact h3⟩
  rw [Nat.pow_succ]
  have := Int.natAbs_add_le (a.num * b.den) (b.num * a.den)
  omega
theorem Sz.of_divInt {a b : Int} {k : Nat} (h1 : a.natAbs < 2 ^ k) (h2 : b.natAbs < 2 ^ k) (hb : b ≠ 0) : Sz k (Rat.divInt a b) := by
  obtain ⟨p1, p2, _⟩ := divInt_parts (a := a) hb
  exact ⟨by rw [p1]; exact Nat.lt_of_le_of_lt (Nat.div_le_self _ _) h1, by rw [p2]; exact Nat.lt_of_le_of_lt (Nat.div_le_self _ _) h2⟩
theorem den_mul_ne {a b : Rat} : ((a.den : Int) * b.den) ≠ 0 := by
  have := a.den_nz; have := b.den_nz
  exact Int.mul_ne_zero (by omega) (by omega)
theorem Sz.add {a b : Rat} {i j : Nat} (ha : Sz i a) (hb : Sz j b) : Sz (i + j + 1) (a + b) := by
  obtain ⟨h1, h2⟩ := add_num_lt ha hb
  rw [← add_divInt]
  exact Sz.of_divInt h1 (Nat.lt_trans h2 (Nat.pow_lt_pow_right (by omega) (by omega))) den_mul_ne
theorem mul_num_lt {a b : Rat} {i j : Nat} (ha : Sz i a) (hb : Sz j b) : (a.num * b.num).natAbs < 2 ^ (i + j) ∧ ((a.den : Int) * b.den).natAbs < 2 ^ (i + j) :=
  ⟨by rw [Int.natAbs_mul]; exact lt_mul_pow ha.1 hb.1, by rw [Int.natAbs_mul, Int.natAbs_natCast, Int.natAbs_natCast]; exact lt_mul_pow ha.2 hb.2⟩
theorem Sz.mul {a b : Rat} {i j : Nat} (ha : Sz i a) (hb : Sz j b) : Sz (i + j) (a * b) := by
  obtain ⟨h1, h2⟩ := mul_num_lt ha hb
  rw [← mul_divInt]
  exact Sz.of_divInt h1 h2 den_mul_ne
theorem Sz.neg {a : Rat} {i : Nat} (ha : Sz i a) : Sz i (-a) := by
  unfold Sz
  rw [Rat.neg_num, Rat.neg_den, Int.natAbs_neg]
  exact ha
/-- The program's number, in lowest terms. -/
def rR (r : Rat) : Rt := (decide (r.num < 0), r.num.natAbs, r.den)
/-- Does it stand for this number? Nothing below the line: 1. -/
def RV (x : Rt) (r : Rat) : Prop := x.1 = decide (r.num < 0) ∧ x.2.1 = r.num.natAbs ∧ dn x.2.2 = r.den
theorem RV.self {r : Rat} : RV (rR r) r := ⟨rfl, rfl, if_neg r.den_nz⟩
theorem RV.zero : RV (false, 0, 0) 0 := ⟨rfl, rfl, rfl⟩
/-- A whole number. -/
def wI (z : Int) : List AV := whC (decide (z < 0)) z.natAbs
theorem wI_mul {a b : Int} : whC ((decide (a < 0) != decide (b < 0)) && decide (a.natAbs * b.natAbs ≠ 0)) (a.natAbs * b.natAbs) = wI (a * b) := by
  rw [← sgn_mul, ← Int.natAbs_mul]
  rfl
theorem rR_divInt {a b : Int} (hb : b ≠ 0) : ratG ((decide (a < 0) != decide (b < 0)) && decide (a.natAbs / Nat.gcd a.natAbs b.natAbs ≠ 0)) (a.natAbs / Nat.gcd a.natAbs b.natAbs) (b.natAbs / Nat.gcd a.natAbs b.natAbs) = rtC (rR (Rat.divInt a b)) := by
  obtain ⟨h1, h2, h3⟩ := divInt_parts (a := a) hb
  rw [← h3, ← h1, ← h2]
  rfl
theorem limG_two {n k : Nat} (h : n < 2 ^ (32 * k)) : (limG n).length ≤ k := limG_len (by rw [Nat.pow_mul] at h; exact h)
theorem limG_szB {n k : Nat} (B : Nat) (h : n < 2 ^ k) (hk : k ≤ 32 * B) : (limG n).length ≤ B := limG_two (Nat.lt_of_lt_of_le h (Nat.pow_le_pow_right (by omega) hk))
theorem limG_sz {n k : Nat} (h : n < 2 ^ k) (hk : k ≤ 32000000) : (limG n).length ≤ 1000000 := limG_szB _ h (by omega)
/-- A number of the page, which is right, is a number. -/
def ofN (x : Rt) : Rat := mkRat (if x.1 then -(x.2.1 : Int) else x.2.1) x.2.2
end Go.Proofs.YtcmbaabkfihdmaaGreat.I

/- SEAT YtcmbaabkfihdmaaGreat. Layers 1 and 2: differences of natural numbers, sums of whole numbers. -/
set_option linter.unusedVariables false
set_option linter.unusedSimpArgs false
namespace Go.Proofs.YtcmbaabkfihdmaaGreat.I
open Go Go.V
attribute [local go_sem] mNil nat0 beq_self_eq_true mSkip mRet mExit mReg mSeq mCond mTrue mFalse mBlock mLv mCodeE mCodeR mEndN mEndR mEndE mOps mSome mGuard mGtt mGff mGtf mGft mGu mCallP mCallR mCallF mCallO mCallZ mCallG mCallM mCallV loopQ_exit loopQ_ret mO_mov mO_newnil mO_pick mO_alloc mO_box mO_build mO_bsl mO_bslF mO_ldf mO_ld mO_st mO_sta mO_nilchk mO_bin mO_binb mO_binp mO_bins mO_neg mO_com mO_not mO_conv mO_mk mO_mk0 mO_s2b mO_b2s mO_cpy mO_cut mO_faddr mO_fld mO_iaddr mO_iaddrf mO_sidx mO_len mO_lenf mO_slen mO_scut mO_app mO_ext mO_mx mO_mn mO_mkfn evalOp cutOp argsE ev getE putE cellsOf adopt rowOf binV boolV nilV ar_add ar_sub ar_mul ar_quo ar_rem ar_eq ar_ne ar_lt ar_le ar_gt ar_ge ar_and ar_or ar_xor geto bound finRet finNrm ints List.length_cons List.length_nil List.length_append List.getElem?_cons_zero List.getElem?_cons_succ List.nil_append List.cons_append List.map_cons List.map_nil List.mapM_cons List.mapM_nil Option.map_some Option.map_none Option.bind_some Option.pure_def Option.bind_eq_bind List.drop_zero or_self or_false false_or or_true true_or true_and and_true and_self decide_true decide_false Bool.false_eq_true Bool.true_eq_false Bool.not_true Bool.not_false Nat.le_refl eq_self gt_iff_lt ge_iff_le ne_eq not_true_eq_false not_false_eq_true storeOp apartOf freeze_nil refsL refs List.flatMap_cons List.flatMap_nil List.append_nil List.contains_nil List.set_cons_zero List.set_cons_succ snap snapL fill_nums flat_nums nums_length Go.V.freeze List.mapIdx_cons List.mapIdx_nil List.contains_cons Bool.or_false Bool.false_or Bool.or_true Bool.true_or
section
variable {E : CallRel}
theorem sub_step {x y c : Nat} (hx : x < 4294967296) (hy : y < 4294967296) (hc : c ≤ 1) : ∃ d c' : Nat, d < 4294967296 ∧ c' ≤ 1 ∧ x + 4294967296 * c' = y + c + d ∧
    (x + 4294967296 - y + 4294967296 - c) % 4294967296 = d ∧ (if x < y + c then 1 else 0) = c' := by
  by_cases h : x < y + c
  · exact ⟨x + 4294967296 - y - c, 1, by omega, by omega, by omega, by omega, if_pos h⟩
  · exact ⟨x - y - c, 0, by omega, by omega, by omega, by omega, if_neg h⟩
theorem c93_ok {a b : Nat} (ha : (limG a).length ≤ 1000000) (hb : (limG b).length ≤ 1000000) : Go.V.Call tab E 93 [natC a, natC b] [] (.tup [natC (if b ≤ a then a - b else 0), .bool (decide (b ≤ a))]) [] := by
  refine Go.V.Call.mach i93 c93 rfl rfl rfl rfl ?_
  have hcmp := c89_ok (E := E) (a := a) (b := b) ha hb
  have hmono := fun h : b ≤ a => limG_mono (a := b) (b := a) h
  have hRa := R32_limG (n := a)
  have hRb := R32_limG (n := b)
  have ea := nval_limG (n := a)
  have eb := nval_limG (n := b)
  by_cases hab : b ≤ a
  · have hc : ¬ cmpZ a b < 0 := by
      unfold cmpZ
      rw [if_neg (by omega)]
      split <;> omega
    rw [if_pos hab, decide_eq_true hab]
    have hCA := hmono hab
    have htrim : ∀ l : List Int, R32 l → (l.length : Int) ≤ 1000000000000 → nval l = a - b → Go.V.Call tab E 63 [us32 l] [] (natC (a - b)) [] := fun l h1 h2 h3 => by
      have h := c63_ok (E := E) (l := l) h2
      rwa [trimL_limG h1, h3] at h
    simp only [natC, us32] at hcmp htrim ⊢
    clear hmono
    generalize hA : limG a = A at *
    generalize hC : limG b = C at *
    have b1 : (0 : Int) ≤ (A.length : Int) := by omega
    have b2 : 4 * A.length ≤ 140737488355328 := by omega
    have b3 : (A.length : Int) ≤ 140737488355328 := by omega
    simp only [c93, us32, go_sem, ↓reduceIte, Nat.reduceEqDiff, Nat.reduceAdd, Nat.reduceMul, Nat.reduceLeDiff, Nat.reduceLT, Int.reduceToNat, Int.reduceLT, Int.reduceLE, reduceCtorEq, Nat.reduceBEq, subB1, subT1, fillAll, fillIn, shiftR, shiftV, List.take_succ_cons, List.take_zero, List.drop_succ_cons, List.drop_zero, List.append_nil, Nat.zero_add]
    refine goP hcmp ?_
    simp only [us32, go_sem, ↓reduceIte, Nat.reduceEqDiff, Nat.reduceAdd, Nat.reduceMul, Nat.reduceLeDiff, Nat.reduceLT, Int.reduceToNat, Int.reduceLT, Int.reduceLE, reduceCtorEq, Nat.reduceBEq, subB1, subT1, fillAll, fillIn, shiftR, shiftV, List.take_succ_cons, List.take_zero, List.drop_succ_cons, List.drop_zero, List.append_nil, Nat.zero_add, hc, b1, b2, b3, Int.toNat_natCast, flat_nums]
    refine mLoop (fun N st => ∃ (i : Nat) (L : List Int) (c : Nat), i ≤ A.length ∧ N = A.length - i ∧ L.length = A.length ∧ R32 L ∧ c ≤ 1 ∧ (∀ j, i ≤ j → L.getD j 0 = 0) ∧ nval (A.take i) + 4294967296 ^ i * c = nval (C.take i) + nval L ∧
      st = ⟨[(2, .loc 0 0 0), (3, .loc 1 0 0), (4, .loc 3 0 0), (6, .arr 4 0), (7, .int .u32 c), (21, .int .i64 A.length), (22, .int .i64 i)],
        [⟨true, 58, 1, 0, 1, [us32 A], false⟩, ⟨true, 58, 1, 0, 1, [us32 C], false⟩, ⟨false, 107, 1, 0, 0, [], false⟩, ⟨true, 58, 1, 0, 1, [.arr 2 0], false⟩, ⟨false, 107, 1, 0, A.length, nums .u32 L, false⟩]⟩) A.length
      ⟨_, rfl, 0, List.replicate A.length 0, 0, by omega, by omega, by simp, R32_zeros, by omega, fun j _ => zeros_get, by rw [nval_zeros]; simp [nval], by simp [getE, us32]⟩ ?_
    rintro N s0 ⟨i, L, c, hi, rfl, hL, hR', hc1, hz, hv, rfl⟩
    by_cases hiX : i < A.length
    · have hi' : (i : Int) < (A.length : Int) := by omega
      have hi0 : (0 : Int) ≤ (i : Int) := by omega
      have hi1 : IntKind.i64.wrap ((i : Int) + 1) = ((i + 1 : Nat) : Int) := by rw [wrap_i64 (by omega) (by omega)]; omega
      have hsx := sub_nums (k := .u32) hiX
      have hxr := R32_get hRa i
      have hyr := R32_get hRb i
      have htx := nval_take_succ' (l := A) (k := i)
      have hty := nval_take_succ' (l := C) (k := i)
      obtain ⟨x, hx⟩ := Int.eq_ofNat_of_zero_le hxr.1
      obtain ⟨y, hy⟩ := Int.eq_ofNat_of_zero_le hyr.1
      rw [hx] at hsx hxr htx
      rw [hy] at hyr hty
      simp only [Int.toNat_natCast] at htx hty
      have h103 := c103_ok (E := E) (x := x) (y := y) (b := c) (by omega) (by omega) hc1
      obtain ⟨d, c', hdl, hc'1, hst, hd, hc'⟩ := sub_step (x := x) (y := y) (c := c) (by omega) (by omega) hc1
      rw [hd, hc'] at h103
      clear hd hc'
      have t1 : i * 1 + 1 ≤ L.length := by omega
      have p1 := put_nval (l := L) (k := i) (v := (d : Int)) (by omega)
      rw [hz i (by omega)] at p1
      simp only [Int.toNat_natCast, Int.toNat_zero, Nat.mul_zero, Nat.add_zero] at p1
      have inv : nval (A.take (i + 1)) + 4294967296 ^ (i + 1) * c' = nval (C.take (i + 1)) + nval (put L i (d : Int)) := by
        rw [p1, htx, hty, Nat.pow_succ, Nat.mul_assoc]
        generalize 4294967296 ^ i = P at *
        have e1 : P * (x + 4294967296 * c') = P * (y + c + d) := by rw [hst]
        simp only [Nat.mul_add] at e1
        omega
      have fin : (put L i (d : Int)).length = A.length ∧ R32 (put L i (d : Int)) ∧ (∀ j, i + 1 ≤ j → (put L i (d : Int)).getD j 0 = 0) := by
        refine ⟨by rw [put_len (by omega), hL], put_R32 hR' (by omega), fun j hj => ?_⟩
        rw [put_get (by omega), if_neg (by omega)]
        exact hz j (by omega)
      obtain ⟨f1, f2, f3⟩ := fin
      by_cases hiY : i < C.length
      · have hiY' : (i : Int) < (C.length : Int) := by omega
        have hsy := sub_nums (k := .u32) hiY
        rw [hy] at hsy
        simp only [b93_0, us32, go_sem, ↓reduceIte, Nat.reduceEqDiff, Nat.reduceAdd, Nat.reduceMul, Nat.reduceLeDiff, Nat.reduceLT, Int.reduceToNat, Int.reduceLT, Int.reduceLE, reduceCtorEq, Nat.reduceBEq, subB1, hi', hi0, hiY', hsx, hsy, Int.toNat_natCast]
        refine goP h103 ?_
        simp only [us32, go_sem, ↓reduceIte, Nat.reduceEqDiff, Nat.reduceAdd, Nat.reduceMul, Nat.reduceLeDiff, Nat.reduceLT, Int.reduceToNat, Int.reduceLT, Int.reduceLE, reduceCtorEq, Nat.reduceBEq, hi', hi0, Int.toNat_natCast, t1, hi1]
        exact loopQ_go rfl (A.length - (i + 1)) (by omega) ⟨i + 1, put L i (d : Int), c', by omega, rfl, f1, f2, hc'1, f3, inv, rfl⟩
      · have hiY' : ¬ (i : Int) < (C.length : Int) := by omega
        have hy0 : y = 0 := by
          have := getD_big (l := C) (k := i) (by omega)
          omega
        subst hy0
        simp only [b93_0, us32, go_sem, ↓reduceIte, Nat.reduceEqDiff, Nat.reduceAdd, Nat.reduceMul, Nat.reduceLeDiff, Nat.reduceLT, Int.reduceToNat, Int.reduceLT, Int.reduceLE, reduceCtorEq, Nat.reduceBEq, subB1, hi', hi0, hiY', hsx, Int.toNat_natCast]
        refine goP h103 ?_
        simp only [us32, go_sem, ↓reduceIte, Nat.reduceEqDiff, Nat.reduceAdd, Nat.reduceMul, Nat.reduceLeDiff, Nat.reduceLT, Int.reduceToNat, Int.reduceLT, Int.reduceLE, reduceCtorEq, Nat.reduceBEq, hi', hi0, Int.toNat_natCast, t1, hi1]
        exact loopQ_go rfl (A.length - (i + 1)) (by omega) ⟨i + 1, put L i (d : Int), c', by omega, rfl, f1, f2, hc'1, f3, inv, rfl⟩
    · have hn' : ¬ (i : Int) < (A.length : Int) := by omega
      obtain rfl : i = A.length := by omega
      rw [List.take_length, List.take_of_length_le hCA, ea, eb] at hv
      have hlt := nval_lt hR'
      rw [hL] at hlt
      have hc0 : c = 0 := by
        by_cases h : c = 0
        · exact h
        · have : c = 1 := by omega
          subst this
          omega
      have hval : nval L = a - b := by subst hc0; omega
      have h63 := htrim L hR' (by omega) hval
      rw [hL] at h63
      simp only [b93_0, k93_0, us32, go_sem, ↓reduceIte, Nat.reduceEqDiff, Nat.reduceAdd, Nat.reduceMul, Nat.reduceLeDiff, Nat.reduceLT, Int.reduceToNat, Int.reduceLT, Int.reduceLE, reduceCtorEq, Nat.reduceBEq, hn', Int.lt_irrefl]
      refine goF h63 ?_
      simp only [us32, go_sem, ↓reduceIte, Nat.reduceEqDiff, Nat.reduceAdd, Nat.reduceMul, Nat.reduceLeDiff, Nat.reduceLT, Int.reduceToNat, Int.reduceLT, Int.reduceLE, reduceCtorEq, Nat.reduceBEq, fillAll, fillIn, shiftR, shiftV, List.take_succ_cons, List.take_zero, List.drop_succ_cons, List.drop_zero, List.append_nil, Nat.zero_add]
      simp only [i93, Out, resAll, geto, ints, List.getElem?_cons_zero, List.getElem?_cons_succ, resOf, outOf, snap, snapL, ev, getE, List.mapM_cons, List.mapM_nil, Option.bind_some, Option.pure_def, Option.bind_eq_bind, Option.map_some, reduceIte, Nat.reduceEqDiff, true_and, and_true, sub, fillAll, fillIn, shiftR, shiftV, List.take_succ_cons, List.take_zero, List.drop_succ_cons, List.drop_zero, List.append_nil, Nat.zero_add, List.length_cons, List.length_nil, Nat.le_refl, us32]
  · have hc : cmpZ a b < 0 := by
      unfold cmpZ
      rw [if_pos (by omega)]
      omega
    rw [if_neg hab, decide_eq_false hab]
    simp only [natC, us32, limG_zero] at hcmp ⊢
    simp only [c93, us32, go_sem, ↓reduceIte, Nat.reduceEqDiff, Nat.reduceAdd, Nat.reduceMul, Nat.reduceLeDiff, Nat.reduceLT, Int.reduceToNat, Int.reduceLT, Int.reduceLE, reduceCtorEq, Nat.reduceBEq, subB1, subT1, fillAll, fillIn, shiftR, shiftV, List.take_succ_cons, List.take_zero, List.drop_succ_cons, List.drop_zero, List.append_nil, Nat.zero_add]
    refine goP hcmp ?_
    simp only [us32, go_sem, ↓reduceIte, Nat.reduceEqDiff, Nat.reduceAdd, Nat.reduceMul, Nat.reduceLeDiff, Nat.reduceLT, Int.reduceToNat, Int.reduceLT, Int.reduceLE, reduceCtorEq, Nat.reduceBEq, subB1, subT1, fillAll, fillIn, shiftR, shiftV, List.take_succ_cons, List.take_zero, List.drop_succ_cons, List.drop_zero, List.append_nil, Nat.zero_add, hc]
    simp only [i93, Out, resAll, geto, ints, List.getElem?_cons_zero, List.getElem?_cons_succ, resOf, outOf, snap, snapL, ev, getE, List.mapM_cons, List.mapM_nil, Option.bind_some, Option.pure_def, Option.bind_eq_bind, Option.map_some, reduceIte, Nat.reduceEqDiff, true_and, and_true, sub, fillAll, fillIn, shiftR, shiftV, List.take_succ_cons, List.take_zero, List.drop_succ_cons, List.drop_zero, List.append_nil, Nat.zero_add, List.length_cons, List.length_nil, Nat.le_refl]
    rfl
end
theorem sgn_zero {z : Int} : (decide (z < 0) && decide (z.natAbs ≠ 0)) = decide (z < 0) := by
  by_cases h : z < 0
  · rw [decide_eq_true h, decide_eq_true (by omega)]; rfl
  · rw [decide_eq_false h]; rfl
theorem wI_neg {p : Nat} : whC (true && decide (p ≠ 0)) p = wI (-(p : Int)) := by
  have h1 : (-(p : Int)).natAbs = p := by omega
  rw [wI, h1]
  congr 1
  by_cases h : p = 0
  · subst h; rfl
  · rw [decide_eq_true h, decide_eq_true (show -(p : Int) < 0 by omega)]; rfl
theorem wI_pos {p : Nat} : whC (false && decide (p ≠ 0)) p = wI (p : Int) := by
  have h1 : ((p : Int)).natAbs = p := by omega
  rw [wI, h1, decide_eq_false (show ¬ (p : Int) < 0 by omega)]
  rfl
section
variable {E : CallRel}
theorem c72_ok {x y : Int} (hx : (limG x.natAbs).length ≤ 1000000) (hy : (limG y.natAbs).length ≤ 1000000) : Go.V.Call tab E 72 [.agg (wI x), .agg (wI y)] [] (.agg (wI (x + y))) [] := by
  refine Go.V.Call.mach i72 c72 rfl rfl rfl rfl ?_
  have h92 := c92_ok (E := E) hx hy
  have h93 := c93_ok (E := E) hx hy
  have h93' := c93_ok (E := E) hy hx
  have h68 := fun n p => c68_ok (E := E) (n := n) (p := p)
  simp only [natC, us32] at h92 h93 h93' h68
  by_cases hs : decide (x < 0) = decide (y < 0)
  · have hb : (decide (x < 0) == decide (y < 0)) = true := by rw [hs]; cases decide (y < 0) <;> rfl
    have hr : whC (decide (x < 0) && decide (x.natAbs + y.natAbs ≠ 0)) (x.natAbs + y.natAbs) = wI (x + y) := by
      by_cases h : x < 0
      · have hy0 : y < 0 := by rw [decide_eq_true h] at hs; simpa using hs.symm
        rw [decide_eq_true h, wI_neg]
        congr 1; omega
      · have hy0 : ¬ y < 0 := by rw [decide_eq_false h] at hs; simpa using hs.symm
        rw [decide_eq_false h, wI_pos]
        congr 1; omega
    rw [← hr]
    simp only [c72, wI, whC, us32, go_sem, ↓reduceIte, Nat.reduceEqDiff, Nat.reduceAdd, Nat.reduceMul, Nat.reduceLeDiff, Nat.reduceLT, Int.reduceToNat, Int.reduceLT, Int.reduceLE, reduceCtorEq, Nat.reduceBEq, fillAll, fillIn, shiftR, shiftV, List.take_succ_cons, List.take_zero, List.drop_succ_cons, List.drop_zero, List.append_nil, Nat.zero_add, subW0, subW1, hb]
    refine goP h92 ?_
    simp only [us32, go_sem, ↓reduceIte, Nat.reduceEqDiff, Nat.reduceAdd, Nat.reduceMul, Nat.reduceLeDiff, Nat.reduceLT, Int.reduceToNat, Int.reduceLT, Int.reduceLE, reduceCtorEq, Nat.reduceBEq, fillAll, fillIn, shiftR, shiftV, List.take_succ_cons, List.take_zero, List.drop_succ_cons, List.drop_zero, List.append_nil, Nat.zero_add]
    refine goP (h68 _ _) ?_
    simp only [us32, go_sem, ↓reduceIte, Nat.reduceEqDiff, Nat.reduceAdd, Nat.reduceMul, Nat.reduceLeDiff, Nat.reduceLT, Int.reduceToNat, Int.reduceLT, Int.reduceLE, reduceCtorEq, Nat.reduceBEq, fillAll, fillIn, shiftR, shiftV, List.take_succ_cons, List.take_zero, List.drop_succ_cons, List.drop_zero, List.append_nil, Nat.zero_add]
    simp only [i72, Out, resAll, geto, ints, List.getElem?_cons_zero, List.getElem?_cons_succ, resOf, outOf, snap, snapL, ev, getE, List.mapM_cons, List.mapM_nil, Option.bind_some, Option.pure_def, Option.bind_eq_bind, Option.map_some, reduceIte, Nat.reduceEqDiff, true_and, and_true, subW2, whC, us32]
  · have hb : (decide (x < 0) == decide (y < 0)) = false := by
      revert hs; cases decide (x < 0) <;> cases decide (y < 0) <;> intro hs <;> first | rfl | exact absurd rfl hs
    by_cases hle : y.natAbs ≤ x.natAbs
    · rw [if_pos hle, decide_eq_true hle] at h93
      have hr : whC (decide (x < 0) && decide (x.natAbs - y.natAbs ≠ 0)) (x.natAbs - y.natAbs) = wI (x + y) := by
        by_cases h : x < 0
        · have hy0 : ¬ y < 0 := fun h2 => hs (by rw [decide_eq_true h, decide_eq_true h2])
          rw [decide_eq_true h, wI_neg]
          congr 1; omega
        · have hy0 : y < 0 := by
            by_cases h2 : y < 0
            · exact h2
            · exact absurd (by rw [decide_eq_false h, decide_eq_false h2]) hs
          rw [decide_eq_false h, wI_pos]
          congr 1; omega
      rw [← hr]
      simp only [c72, wI, whC, us32, go_sem, ↓reduceIte, Nat.reduceEqDiff, Nat.reduceAdd, Nat.reduceMul, Nat.reduceLeDiff, Nat.reduceLT, Int.reduceToNat, Int.reduceLT, Int.reduceLE, reduceCtorEq, Nat.reduceBEq, fillAll, fillIn, shiftR, shiftV, List.take_succ_cons, List.take_zero, List.drop_succ_cons, List.drop_zero, List.append_nil, Nat.zero_add, subW0, subW1, hb]
      refine goP h93 ?_
      simp only [us32, go_sem, ↓reduceIte, Nat.reduceEqDiff, Nat.reduceAdd, Nat.reduceMul, Nat.reduceLeDiff, Nat.reduceLT, Int.reduceToNat, Int.reduceLT, Int.reduceLE, reduceCtorEq, Nat.reduceBEq, fillAll, fillIn, shiftR, shiftV, List.take_succ_cons, List.take_zero, List.drop_succ_cons, List.drop_zero, List.append_nil, Nat.zero_add, subW0, subW1, subT1]
      refine goF (h68 _ _) ?_
      simp only [us32, go_sem, ↓reduceIte, Nat.reduceEqDiff, Nat.reduceAdd, Nat.reduceMul, Nat.reduceLeDiff, Nat.reduceLT, Int.reduceToNat, Int.reduceLT, Int.reduceLE, reduceCtorEq, Nat.reduceBEq, fillAll, fillIn, shiftR, shiftV, List.take_succ_cons, List.take_zero, List.drop_succ_cons, List.drop_zero, List.append_nil, Nat.zero_add]
      simp only [i72, Out, resAll, geto, ints, List.getElem?_cons_zero, List.getElem?_cons_succ, resOf, outOf, snap, snapL, ev, getE, List.mapM_cons, List.mapM_nil, Option.bind_some, Option.pure_def, Option.bind_eq_bind, Option.map_some, reduceIte, Nat.reduceEqDiff, true_and, and_true, subW2, whC, us32]
    · rw [if_neg hle, decide_eq_false hle, limG_zero] at h93
      rw [if_pos (by omega), decide_eq_true (show x.natAbs ≤ y.natAbs by omega)] at h93'
      have hr : whC (decide (y < 0) && decide (y.natAbs - x.natAbs ≠ 0)) (y.natAbs - x.natAbs) = wI (x + y) := by
        by_cases h : y < 0
        · have hy0 : ¬ x < 0 := fun h2 => hs (by rw [decide_eq_true h, decide_eq_true h2])
          rw [decide_eq_true h, wI_neg]
          congr 1; omega
        · have hy0 : x < 0 := by
            by_cases h2 : x < 0
            · exact h2
            · exact absurd (by rw [decide_eq_false h, decide_eq_false h2]) hs
          rw [decide_eq_false h, wI_pos]
          congr 1; omega
      rw [← hr]
      simp only [c72, wI, whC, us32, go_sem, ↓reduceIte, Nat.reduceEqDiff, Nat.reduceAdd, Nat.reduceMul, Nat.reduceLeDiff, Nat.reduceLT, Int.reduceToNat, Int.reduceLT, Int.reduceLE, reduceCtorEq, Nat.reduceBEq, fillAll, fillIn, shiftR, shiftV, List.take_succ_cons, List.take_zero, List.drop_succ_cons, List.drop_zero, List.append_nil, Nat.zero_add, subW0, subW1, hb]
      refine goP h93 ?_
      simp only [us32, go_sem, ↓reduceIte, Nat.reduceEqDiff, Nat.reduceAdd, Nat.reduceMul, Nat.reduceLeDiff, Nat.reduceLT, Int.reduceToNat, Int.reduceLT, Int.reduceLE, reduceCtorEq, Nat.reduceBEq, fillAll, fillIn, shiftR, shiftV, List.take_succ_cons, List.take_zero, List.drop_succ_cons, List.drop_zero, List.append_nil, Nat.zero_add, subW0, subW1, subT1]
      refine goP h93' ?_
      simp only [us32, go_sem, ↓reduceIte, Nat.reduceEqDiff, Nat.reduceAdd, Nat.reduceMul, Nat.reduceLeDiff, Nat.reduceLT, Int.reduceToNat, Int.reduceLT, Int.reduceLE, reduceCtorEq, Nat.reduceBEq, fillAll, fillIn, shiftR, shiftV, List.take_succ_cons, List.take_zero, List.drop_succ_cons, List.drop_zero, List.append_nil, Nat.zero_add, subW0, subW1, subT1]
      refine goF (h68 _ _) ?_
      simp only [us32, go_sem, ↓reduceIte, Nat.reduceEqDiff, Nat.reduceAdd, Nat.reduceMul, Nat.reduceLeDiff, Nat.reduceLT, Int.reduceToNat, Int.reduceLT, Int.reduceLE, reduceCtorEq, Nat.reduceBEq, fillAll, fillIn, shiftR, shiftV, List.take_succ_cons, List.take_zero, List.drop_succ_cons, List.drop_zero, List.append_nil, Nat.zero_add]
      simp only [i72, Out, resAll, geto, ints, List.getElem?_cons_zero, List.getElem?_cons_succ, resOf, outOf, snap, snapL, ev, getE, List.mapM_cons, List.mapM_nil, Option.bind_some, Option.pure_def, Option.bind_eq_bind, Option.map_some, reduceIte, Nat.reduceEqDiff, true_and, and_true, subW2, whC, us32]
theorem c41_ok {x y : Int} (hx : (limG x.natAbs).length ≤ 1000000) (hy : (limG y.natAbs).length ≤ 1000000) : Go.V.Call tab E 41 [.agg (wI x), .sl 1 2 (wI y)] [] (.agg (wI (x + y))) [] := by
  refine Go.V.Call.mach i41 c41 rfl rfl rfl rfl ?_
  have h72 := c72_ok (E := E) hx hy
  simp only [wI, whC, us32] at h72
  simp only [c41, wI, whC, us32, go_sem, ↓reduceIte, Nat.reduceEqDiff, Nat.reduceAdd, Nat.reduceMul, Nat.reduceLeDiff, Nat.reduceLT, Int.reduceToNat, Int.reduceLT, Int.reduceLE, reduceCtorEq, Nat.reduceBEq, fillAll, fillIn, shiftR, shiftV, List.take_succ_cons, List.take_zero, List.drop_succ_cons, List.drop_zero, List.append_nil, Nat.zero_add, subW2]
  refine mLoop (fun N st => ∃ (i : Nat) (z : Int), (i = 0 ∧ z = x ∨ i = 1 ∧ z = x + y) ∧ N = 1 - i ∧
    st = ⟨[(2, .loc 0 0 0), (4, .loc 2 0 0), (7, .sl 1 2 (wI y)), (8, .int .i64 1), (9, .int .i64 i)], [⟨true, 60, 2, 0, 1, wI z, false⟩, ⟨false, 107, 1, 0, 0, [], false⟩, ⟨true, 60, 2, 0, 1, [.arr 1 0, .bool false], false⟩]⟩) 1
    ⟨_, rfl, 0, x, .inl ⟨rfl, rfl⟩, by omega, by simp [getE, wI, whC, us32]⟩ ?_
  rintro N s0 ⟨i, z, hiv, rfl, rfl⟩
  rcases hiv with ⟨rfl, rfl⟩ | ⟨rfl, rfl⟩
  · have hs2 : sub true 2 (wI y) (0 * 2) = some (.agg (wI y)) := rfl
    have hs2' : sub true 2 (wI y) 0 = some (.agg (wI y)) := rfl
    have w1 : IntKind.i64.wrap (0 + 1) = 1 := by decide
    have h01 : (0 : Int) < ((1 : Nat) : Int) := by omega
    simp only [wI, whC, us32] at hs2 hs2'
    simp only [b41_0, wI, whC, us32, go_sem, ↓reduceIte, Nat.reduceEqDiff, Nat.reduceAdd, Nat.reduceMul, Nat.reduceLeDiff, Nat.reduceLT, Int.reduceToNat, Int.reduceLT, Int.reduceLE, reduceCtorEq, Nat.reduceBEq, fillAll, fillIn, shiftR, shiftV, List.take_succ_cons, List.take_zero, List.drop_succ_cons, List.drop_zero, List.append_nil, Nat.zero_add, subW2, subW0, subW1, h01, hs2, hs2']
    refine goF h72 ?_
    simp only [us32, go_sem, ↓reduceIte, Nat.reduceEqDiff, Nat.reduceAdd, Nat.reduceMul, Nat.reduceLeDiff, Nat.reduceLT, Int.reduceToNat, Int.reduceLT, Int.reduceLE, reduceCtorEq, Nat.reduceBEq, fillAll, fillIn, shiftR, shiftV, List.take_succ_cons, List.take_zero, List.drop_succ_cons, List.drop_zero, List.append_nil, Nat.zero_add, subW2, subW0, subW1, w1]
    exact loopQ_go rfl 0 (by omega) ⟨1, _, .inr ⟨rfl, rfl⟩, by omega, rfl⟩
  · have g : ¬ ((1 : Nat) : Int) < 1 := by omega
    simp only [b41_0, k41_0, wI, whC, us32, go_sem, ↓reduceIte, Nat.reduceEqDiff, Nat.reduceAdd, Nat.reduceMul, Nat.reduceLeDiff, Nat.reduceLT, Int.reduceToNat, Int.reduceLT, Int.reduceLE, reduceCtorEq, Nat.reduceBEq, fillAll, fillIn, shiftR, shiftV, List.take_succ_cons, List.take_zero, List.drop_succ_cons, List.drop_zero, List.append_nil, Nat.zero_add, subW2, subW0, subW1, Int.lt_irrefl, g]
    simp only [i41, Out, resAll, geto, ints, List.getElem?_cons_zero, List.getElem?_cons_succ, resOf, outOf, snap, snapL, ev, getE, List.mapM_cons, List.mapM_nil, Option.bind_some, Option.pure_def, Option.bind_eq_bind, Option.map_some, reduceIte, Nat.reduceEqDiff, true_and, and_true, subW2, wI, whC, us32]
end
end Go.Proofs.YtcmbaabkfihdmaaGreat.I

/- SEAT YtcmbaabkfihdmaaGreat. Layer 1: the document's sums and products, its greatest common divisor without a bound of right rows. -/
set_option linter.unusedVariables false
set_option linter.unusedSimpArgs false
namespace Go.Proofs.YtcmbaabkfihdmaaGreat.I
open Go Go.V
attribute [local go_sem] mNil nat0 beq_self_eq_true mSkip mRet mExit mReg mSeq mCond mTrue mFalse mBlock mLv mCodeE mCodeR mEndN mEndR mEndE mOps mSome mGuard mGtt mGff mGtf mGft mGu mCallP mCallR mCallF mCallO mCallZ mCallG mCallM mCallV loopQ_exit loopQ_ret mO_mov mO_newnil mO_pick mO_alloc mO_box mO_build mO_bsl mO_bslF mO_ldf mO_ld mO_st mO_sta mO_nilchk mO_bin mO_binb mO_binp mO_bins mO_neg mO_com mO_not mO_conv mO_mk mO_mk0 mO_s2b mO_b2s mO_cpy mO_cut mO_faddr mO_fld mO_iaddr mO_iaddrf mO_sidx mO_len mO_lenf mO_slen mO_scut mO_app mO_ext mO_mx mO_mn mO_mkfn evalOp cutOp argsE ev getE putE cellsOf adopt rowOf binV boolV nilV ar_add ar_sub ar_mul ar_quo ar_rem ar_eq ar_ne ar_lt ar_le ar_gt ar_ge ar_and ar_or ar_xor geto bound finRet finNrm ints List.length_cons List.length_nil List.length_append List.getElem?_cons_zero List.getElem?_cons_succ List.nil_append List.cons_append List.map_cons List.map_nil List.mapM_cons List.mapM_nil Option.map_some Option.map_none Option.bind_some Option.pure_def Option.bind_eq_bind List.drop_zero or_self or_false false_or or_true true_or true_and and_true and_self decide_true decide_false Bool.false_eq_true Bool.true_eq_false Bool.not_true Bool.not_false Nat.le_refl eq_self gt_iff_lt ge_iff_le ne_eq not_true_eq_false not_false_eq_true storeOp apartOf freeze_nil refsL refs List.flatMap_cons List.flatMap_nil List.append_nil List.contains_nil List.set_cons_zero List.set_cons_succ snap snapL fill_nums flat_nums nums_length Go.V.freeze List.mapIdx_cons List.mapIdx_nil List.contains_cons Bool.or_false Bool.false_or Bool.or_true Bool.true_or
theorem decL_two {n k : Nat} (h : n < 2 ^ k) (hk : 1 ≤ k) : (decL n).length ≤ k := by
  by_cases h0 : n = 0
  · subst h0
    have : (decL 0).length = 1 := rfl
    omega
  · have h1 := decL_len h0
    have h2 : 2 ^ k ≤ 10 ^ k := Nat.pow_le_pow_left (by omega) k
    have h3 : 10 ^ ((decL n).length - 1) < 10 ^ k := by omega
    have := (Nat.pow_lt_pow_iff_right (a := 10) (by omega)).1 h3
    omega
theorem dgs_digit {n i : Nat} : ∃ d : Nat, (dgs n).getD i 0 = (d : Int) ∧ d ≤ 9 ∧ n % 10 ^ (i + 1) = n % 10 ^ i + 10 ^ i * d := by
  refine ⟨n / 10 ^ i % 10, dgs_get, by omega, ?_⟩
  rw [Nat.mod_pow_succ]
def R9d (l : List Int) : Prop := ∀ x ∈ l, 0 ≤ x ∧ x ≤ 9
theorem R9d_snoc {l : List Int} {d : Nat} (h : R9d l) (hd : d ≤ 9) : R9d (l ++ [(d : Int)]) := fun y hy => by
  rcases List.mem_append.1 hy with h1 | h1
  · exact h y h1
  · simp at h1; subst h1; omega
theorem R9d_put {l : List Int} {k d : Nat} (h : R9d l) (hd : d ≤ 9) : R9d (put l k (d : Int)) := fun y hy => by
  unfold put at hy
  rcases List.mem_append.1 hy with h1 | h1
  · exact h y (List.mem_of_mem_take h1)
  · rcases List.mem_cons.1 h1 with h1 | h1
    · subst h1; omega
    · exact h y (List.mem_of_mem_drop h1)
theorem dval_append : ∀ {a b : List Int}, dval (a ++ b) = dval a + 10 ^ a.length * dval b
  | [], b => by simp [dval]
  | x :: a, b => by
    rw [List.cons_append, dval, dval_append, dval, List.length_cons, Nat.pow_succ, Nat.mul_add, ← Nat.mul_assoc, Nat.mul_comm 10 (10 ^ a.length)]
    omega
theorem put_dval {l : List Int} {k : Nat} {v : Int} (h : k < l.length) : dval (put l k v) + 10 ^ k * (l.getD k 0).toNat = dval l + 10 ^ k * v.toNat := by
  have e1 : l = l.take k ++ l.getD k 0 :: l.drop (k + 1) := by
    conv => lhs; rw [← List.take_append_drop k l]
    congr 1
    rw [List.drop_eq_getElem_cons h]
    simp [List.getD, h]
  have hl : (l.take k).length = k := by rw [List.length_take]; omega
  have e2 : dval l = dval (l.take k) + 10 ^ k * ((l.getD k 0).toNat + 10 * dval (l.drop (k + 1))) := by
    conv => lhs; rw [e1]
    rw [dval_append, hl, dval]
  have e3 : dval (put l k v) = dval (l.take k) + 10 ^ k * (v.toNat + 10 * dval (l.drop (k + 1))) := by
    rw [put, dval_append, hl, dval]
  rw [e2, e3, Nat.mul_add, Nat.mul_add]
  omega
theorem dval_zeros : ∀ {n : Nat}, dval (List.replicate n 0) = 0
  | 0 => rfl
  | n + 1 => by rw [List.replicate_succ, dval, dval_zeros]; rfl
theorem add_facts {x y c : Nat} (hx : x ≤ 9) (hy : y ≤ 9) (hc : c ≤ 1) : ∃ d c' : Nat, d ≤ 9 ∧ c' ≤ 1 ∧ x + y + c = d + 10 * c' ∧ (x = 0 → y = 0 → c' = 0) ∧
    IntKind.i64.wrap ((x : Int) + (y : Int)) = ((x + y : Nat) : Int) ∧ IntKind.i64.wrap (((x + y : Nat) : Int) + (c : Int)) = ((x + y + c : Nat) : Int) ∧
    (((x + y + c : Nat) : Int)).tmod 10 = (d : Int) ∧ (((x + y + c : Nat) : Int)).tdiv 10 = (c' : Int) ∧ IntKind.i64.wrap (c' : Int) = (c' : Int) := by
  refine ⟨(x + y + c) % 10, (x + y + c) / 10, by omega, by omega, by omega, fun h1 h2 => by omega, by rw [wrap_i64 (by omega) (by omega)]; omega, by rw [wrap_i64 (by omega) (by omega)]; omega, tmodN _ 10, tdivN _ 10, wrap_i64 (by omega) (by omega)⟩
section
variable {E : CallRel}
theorem c79_ok {a b : Nat} (ha : (decL a).length ≤ 1000000) (hb : (decL b).length ≤ 1000000) : Go.V.Call tab E 79 [.str (dec a), .str (dec b)] [] (.str (dec (a + b))) [] := by
  refine Go.V.Call.mach i79 c79 rfl rfl rfl rfl ?_
  have hak := dgs_len (n := a)
  have hbk := dgs_len (n := b)
  have hna := decL_ne a
  have hda := fun i h => c95_ok (E := E) (n := a) (i := i) (by omega) h
  have hdb := fun i h => c95_ok (E := E) (n := b) (i := i) (by omega) h
  have hsa : (dec a).size = (decL a).length := by rw [dec_eq, bs_size]
  have hsb : (dec b).size = (decL b).length := by rw [dec_eq, bs_size]
  obtain ⟨la, hla⟩ : ∃ la, la = (decL a).length := ⟨_, rfl⟩
  obtain ⟨lb, hlb⟩ : ∃ lb, lb = (decL b).length := ⟨_, rfl⟩
  have hla0 : la ≠ 0 := fun h => hna (List.length_eq_zero_iff.1 (by omega))
  rw [← hla] at hak hsa ha
  rw [← hlb] at hbk hsb hb
  clear hna hla hlb
  have q10 : ¬ ((10 : Int) = 0) := by decide
  simp only [c79, go_sem, ↓reduceIte, Nat.reduceEqDiff, Nat.reduceAdd, Nat.reduceMul, Nat.reduceLeDiff, Nat.reduceLT, Int.reduceToNat, Int.reduceLT, Int.reduceLE, reduceCtorEq, Nat.reduceBEq]
  refine mLoop (fun N st => ∃ (i : Nat) (L : List Int) (c : Nat), N = max la lb + 1 - i ∧ i ≤ max la lb + 1 ∧ L.length = i ∧ R9d L ∧ c ≤ 1 ∧ (max la lb < i → c = 0) ∧ dval L + 10 ^ i * c = a % 10 ^ i + b % 10 ^ i ∧
    st = ⟨[(0, .str (dec a)), (1, .str (dec b)), (5, .arr 0 i), (6, .int .i64 c), (7, .int .i64 i)], [⟨false, 3, 1, i, i, nums .i64 L, false⟩]⟩) (max la lb + 1)
    ⟨_, rfl, 0, [], 0, by omega, by omega, rfl, fun x hx => by simp at hx, by omega, fun _ => rfl, by simp [dval, Nat.mod_one], by simp [getE, nums]⟩ ?_
  rintro N s0 ⟨i, L, c, rfl, hi, hL, hR, hc, hcm, hv, rfl⟩
  obtain ⟨x, hx, hx9, hax⟩ := dgs_digit (n := a) (i := i)
  obtain ⟨y, hy, hy9, hby⟩ := dgs_digit (n := b) (i := i)
  have h1 := hda i (by omega)
  have h2 := hdb i (by omega)
  rw [hx] at h1
  rw [hy] at h2
  have hi1 : IntKind.i64.wrap ((i : Int) + 1) = ((i + 1 : Nat) : Int) := by rw [wrap_i64 (by omega) (by omega)]; omega
  have e1 : (i + 1) * 8 ≤ 140737488355328 := by omega
  have e2 : i + 1 ≤ 140737488355328 := by omega
  have x0 : la ≤ i → x = 0 := fun h => by
    have h3 : a < 10 ^ i := Nat.lt_of_lt_of_le hak (Nat.pow_le_pow_right (by omega) h)
    have h4 : a < 10 ^ (i + 1) := Nat.lt_of_lt_of_le h3 (Nat.pow_le_pow_right (by omega) (by omega))
    rw [Nat.mod_eq_of_lt h3, Nat.mod_eq_of_lt h4] at hax
    have hp : 0 < 10 ^ i := Nat.pow_pos (by omega)
    rcases Nat.eq_zero_or_pos x with h5 | h5
    · exact h5
    · have := Nat.mul_pos hp h5; omega
  have y0 : lb ≤ i → y = 0 := fun h => by
    have h3 : b < 10 ^ i := Nat.lt_of_lt_of_le hbk (Nat.pow_le_pow_right (by omega) h)
    have h4 : b < 10 ^ (i + 1) := Nat.lt_of_lt_of_le h3 (Nat.pow_le_pow_right (by omega) (by omega))
    rw [Nat.mod_eq_of_lt h3, Nat.mod_eq_of_lt h4] at hby
    have hp : 0 < 10 ^ i := Nat.pow_pos (by omega)
    rcases Nat.eq_zero_or_pos y with h5 | h5
    · exact h5
    · have := Nat.mul_pos hp h5; omega
  obtain ⟨d, c', hd, hc', hst, hz, w1, w2, w3, w4, w5⟩ := add_facts hx9 hy9 hc
  have goOn : (i < la ∨ i < lb ∨ 0 < c) → ∃ m, m < max la lb + 1 - i ∧ ∃ (i' : Nat) (L' : List Int) (cc : Nat), m = max la lb + 1 - i' ∧ i' ≤ max la lb + 1 ∧ L'.length = i' ∧ R9d L' ∧ cc ≤ 1 ∧ (max la lb < i' → cc = 0) ∧ dval L' + 10 ^ i' * cc = a % 10 ^ i' + b % 10 ^ i' ∧
      (⟨[(0, .str (dec a)), (1, .str (dec b)), (5, .arr 0 (i + 1)), (6, .int .i64 c'), (7, .int .i64 ((i + 1 : Nat) : Int))], [⟨false, 3, 1, i + 1, i + 1, nums .i64 L ++ [.int .i64 (d : Int)], false⟩]⟩ : St) =
       ⟨[(0, .str (dec a)), (1, .str (dec b)), (5, .arr 0 i'), (6, .int .i64 cc), (7, .int .i64 i')], [⟨false, 3, 1, i', i', nums .i64 L', false⟩]⟩ := fun h => by
    have him : i ≤ max la lb := by
      by_cases hh : max la lb < i
      · have := hcm hh; omega
      · omega
    refine ⟨max la lb + 1 - (i + 1), by omega, i + 1, L ++ [(d : Int)], c', rfl, by omega, by simp [hL], R9d_snoc hR hd, hc', fun h => hz (x0 (by omega)) (y0 (by omega)), ?_, ?_⟩
    · rw [dval_snoc, hL, Int.toNat_natCast, hax, hby, Nat.pow_succ, Nat.mul_assoc]
      generalize 10 ^ i = P at *
      have e3 : P * (x + y + c) = P * (d + 10 * c') := by rw [hst]
      simp only [Nat.mul_add] at e3
      omega
    · simp only [nums, List.map_append, List.map_cons, List.map_nil]
  clear hax hby x0 y0 hst hz hda hdb
  by_cases h1a : i < la
  · have h1a' : (i : Int) < (la : Int) := by omega
    obtain ⟨m, hm, hI⟩ := goOn (.inl h1a)
    clear goOn
    simp only [b79_0, go_sem, ↓reduceIte, Nat.reduceEqDiff, Nat.reduceAdd, Nat.reduceMul, Nat.reduceLeDiff, Nat.reduceLT, Int.reduceToNat, Int.reduceLT, Int.reduceLE, reduceCtorEq, Nat.reduceBEq, hsa, hsb, h1a']
    refine goP h1 ?_
    simp only [go_sem, ↓reduceIte, Nat.reduceEqDiff, Nat.reduceAdd, Nat.reduceMul, Nat.reduceLeDiff, Nat.reduceLT, Int.reduceToNat, Int.reduceLT, Int.reduceLE, reduceCtorEq, Nat.reduceBEq]
    refine goP h2 ?_
    simp only [go_sem, ↓reduceIte, Nat.reduceEqDiff, Nat.reduceAdd, Nat.reduceMul, Nat.reduceLeDiff, Nat.reduceLT, Int.reduceToNat, Int.reduceLT, Int.reduceLE, reduceCtorEq, Nat.reduceBEq, w1, w2, w3, w4, w5, q10, e1, e2, hi1, List.flatten_cons, List.flatten_nil, Option.getD_some]
    exact loopQ_go rfl m hm hI
  · have h1a' : ¬ (i : Int) < (la : Int) := by omega
    by_cases h1b : i < lb
    · have h1b' : (i : Int) < (lb : Int) := by omega
      obtain ⟨m, hm, hI⟩ := goOn (.inr (.inl h1b))
      clear goOn
      simp only [b79_0, go_sem, ↓reduceIte, Nat.reduceEqDiff, Nat.reduceAdd, Nat.reduceMul, Nat.reduceLeDiff, Nat.reduceLT, Int.reduceToNat, Int.reduceLT, Int.reduceLE, reduceCtorEq, Nat.reduceBEq, hsa, hsb, h1a', h1b']
      refine goP h1 ?_
      simp only [go_sem, ↓reduceIte, Nat.reduceEqDiff, Nat.reduceAdd, Nat.reduceMul, Nat.reduceLeDiff, Nat.reduceLT, Int.reduceToNat, Int.reduceLT, Int.reduceLE, reduceCtorEq, Nat.reduceBEq]
      refine goP h2 ?_
      simp only [go_sem, ↓reduceIte, Nat.reduceEqDiff, Nat.reduceAdd, Nat.reduceMul, Nat.reduceLeDiff, Nat.reduceLT, Int.reduceToNat, Int.reduceLT, Int.reduceLE, reduceCtorEq, Nat.reduceBEq, w1, w2, w3, w4, w5, q10, e1, e2, hi1, List.flatten_cons, List.flatten_nil, Option.getD_some]
      exact loopQ_go rfl m hm hI
    · have h1b' : ¬ (i : Int) < (lb : Int) := by omega
      by_cases h1c : 0 < c
      · have h1c' : (0 : Int) < (c : Int) := by omega
        obtain ⟨m, hm, hI⟩ := goOn (.inr (.inr h1c))
        clear goOn
        simp only [b79_0, go_sem, ↓reduceIte, Nat.reduceEqDiff, Nat.reduceAdd, Nat.reduceMul, Nat.reduceLeDiff, Nat.reduceLT, Int.reduceToNat, Int.reduceLT, Int.reduceLE, reduceCtorEq, Nat.reduceBEq, hsa, hsb, h1a', h1b', h1c']
        refine goP h1 ?_
        simp only [go_sem, ↓reduceIte, Nat.reduceEqDiff, Nat.reduceAdd, Nat.reduceMul, Nat.reduceLeDiff, Nat.reduceLT, Int.reduceToNat, Int.reduceLT, Int.reduceLE, reduceCtorEq, Nat.reduceBEq]
        refine goP h2 ?_
        simp only [go_sem, ↓reduceIte, Nat.reduceEqDiff, Nat.reduceAdd, Nat.reduceMul, Nat.reduceLeDiff, Nat.reduceLT, Int.reduceToNat, Int.reduceLT, Int.reduceLE, reduceCtorEq, Nat.reduceBEq, w1, w2, w3, w4, w5, q10, e1, e2, hi1, List.flatten_cons, List.flatten_nil, Option.getD_some]
        exact loopQ_go rfl m hm hI
      · have h1c' : ¬ (0 : Int) < (c : Int) := by omega
        clear goOn
        have hc0 : c = 0 := by omega
        have h3 : a < 10 ^ i := Nat.lt_of_lt_of_le hak (Nat.pow_le_pow_right (by omega) (by omega))
        have h4 : b < 10 ^ i := Nat.lt_of_lt_of_le hbk (Nat.pow_le_pow_right (by omega) (by omega))
        rw [hc0, Nat.mul_zero, Nat.add_zero, Nat.mod_eq_of_lt h3, Nat.mod_eq_of_lt h4] at hv
        have h96 := c96_gen (E := E) (L := L) (by omega) (fun h => by rw [h] at hL; simp at hL; omega) hR
        rw [hv, ints, hL] at h96
        clear h3 h4 hak hbk
        simp only [b79_0, k79_0, go_sem, ↓reduceIte, Nat.reduceEqDiff, Nat.reduceAdd, Nat.reduceMul, Nat.reduceLeDiff, Nat.reduceLT, Int.reduceToNat, Int.reduceLT, Int.reduceLE, reduceCtorEq, Nat.reduceBEq, hsa, hsb, h1a', h1b', h1c']
        refine goR h96 rfl ?_
        simp only [go_sem, ↓reduceIte, Nat.reduceEqDiff, Nat.reduceAdd, Nat.reduceMul, Nat.reduceLeDiff, Nat.reduceLT, Int.reduceToNat, Int.reduceLT, Int.reduceLE, reduceCtorEq, Nat.reduceBEq]
        simp only [i79, Out, resAll, geto, ints, List.getElem?_cons_zero, List.getElem?_cons_succ, resOf, outOf, snap, snapL, ev, getE, List.mapM_cons, List.mapM_nil, Option.bind_some, Option.pure_def, Option.bind_eq_bind, Option.map_some, reduceIte, Nat.reduceEqDiff, true_and, and_true]
end
theorem mul_facts {o x y c : Nat} (ho : o ≤ 9) (hx : x ≤ 9) (hy : y ≤ 9) (hc : c ≤ 9) : ∃ d c' : Nat, d ≤ 9 ∧ c' ≤ 9 ∧ o + x * y + c = d + 10 * c' ∧
    IntKind.i64.wrap ((x : Int) * (y : Int)) = ((x * y : Nat) : Int) ∧ IntKind.i64.wrap ((o : Int) + ((x * y : Nat) : Int)) = ((o + x * y : Nat) : Int) ∧ IntKind.i64.wrap (((o + x * y : Nat) : Int) + (c : Int)) = ((o + x * y + c : Nat) : Int) ∧
    (((o + x * y + c : Nat) : Int)).tmod 10 = (d : Int) ∧ (((o + x * y + c : Nat) : Int)).tdiv 10 = (c' : Int) ∧ IntKind.i64.wrap (c' : Int) = (c' : Int) := by
  have hxy : x * y ≤ 81 := Nat.le_trans (Nat.mul_le_mul hx hy) (by omega)
  have hcast : (x : Int) * (y : Int) = ((x * y : Nat) : Int) := by omega
  rw [hcast]
  generalize x * y = z at *
  refine ⟨(o + z + c) % 10, (o + z + c) / 10, by omega, by omega, by omega, wrap_i64 (by omega) (by omega), by rw [wrap_i64 (by omega) (by omega)]; omega, by rw [wrap_i64 (by omega) (by omega)]; omega, tmodN _ 10, tdivN _ 10, wrap_i64 (by omega) (by omega)⟩
section
variable {E : CallRel}
theorem c82_ok {a b : Nat} (ha : (decL a).length ≤ 1000000) (hb : (decL b).length ≤ 1000000) : Go.V.Call tab E 82 [.str (dec a), .str (dec b)] [] (.str (dec (a * b))) [] := by
  refine Go.V.Call.mach i82 c82 rfl rfl rfl rfl ?_
  have hak := dgs_len (n := a)
  have hbk := dgs_len (n := b)
  have hda := fun i h => c95_ok (E := E) (n := a) (i := i) (by omega) h
  have hdb := fun i h => c95_ok (E := E) (n := b) (i := i) (by omega) h
  have hsa : (dec a).size = (decL a).length := by rw [dec_eq, bs_size]
  have hsb : (dec b).size = (decL b).length := by rw [dec_eq, bs_size]
  obtain ⟨la, hla⟩ : ∃ la, la = (decL a).length := ⟨_, rfl⟩
  obtain ⟨lb, hlb⟩ : ∃ lb, lb = (decL b).length := ⟨_, rfl⟩
  rw [← hla] at hak hsa ha
  rw [← hlb] at hbk hsb hb
  clear hla hlb
  obtain ⟨n, hn⟩ : ∃ n, n = la + lb + 1 := ⟨_, rfl⟩
  have v1 : IntKind.i64.wrap ((la : Int) + (lb : Int)) = (la : Int) + (lb : Int) := wrap_i64 (by omega) (by omega)
  have v2 : IntKind.i64.wrap ((la : Int) + (lb : Int) + 1) = (n : Int) := by rw [wrap_i64 (by omega) (by omega)]; omega
  have b1 : (0 : Int) ≤ (n : Int) := by omega
  have b2 : 8 * n ≤ 140737488355328 := by omega
  have b3 : (n : Int) ≤ 140737488355328 := by omega
  have q10 : ¬ ((10 : Int) = 0) := by decide
  simp only [c82, go_sem, ↓reduceIte, Nat.reduceEqDiff, Nat.reduceAdd, Nat.reduceMul, Nat.reduceLeDiff, Nat.reduceLT, Int.reduceToNat, Int.reduceLT, Int.reduceLE, reduceCtorEq, Nat.reduceBEq, hsa, hsb, v1, v2, b1, b2, b3, Int.toNat_natCast, flat_nums]
  refine mLoop (fun N st => ∃ (i : Nat) (L : List Int), N = la - i ∧ i ≤ la ∧ L.length = n ∧ R9d L ∧ dval L = a % 10 ^ i * b ∧
    st = ⟨[(0, .str (dec a)), (1, .str (dec b)), (5, .arr 0 0), (6, .int .i64 i)], [⟨false, 3, 1, 0, n, nums .i64 L, false⟩]⟩) la
    ⟨_, rfl, 0, List.replicate n 0, by omega, by omega, by simp, fun x hx => by have := List.eq_of_mem_replicate hx; omega, by rw [dval_zeros]; simp [Nat.mod_one], by simp [getE]⟩ ?_
  rintro N s0 ⟨i, L, rfl, hi, hL, hR, hv, rfl⟩
  by_cases hil : i < la
  · have hil' : (i : Int) < (la : Int) := by omega
    have hi1 : IntKind.i64.wrap ((i : Int) + 1) = ((i + 1 : Nat) : Int) := by rw [wrap_i64 (by omega) (by omega)]; omega
    obtain ⟨x, hx, hx9, hax⟩ := dgs_digit (n := a) (i := i)
    have h1 := hda i (by omega)
    rw [hx] at h1
    have hub : a % 10 ^ (i + 1) * b < 10 ^ (i + 1) * 10 ^ lb := by
      have h3 : a % 10 ^ (i + 1) < 10 ^ (i + 1) := Nat.mod_lt _ (Nat.pow_pos (by omega))
      exact Nat.mul_lt_mul'' h3 hbk
    have hax2 : a % 10 ^ (i + 1) * b = a % 10 ^ i * b + 10 ^ i * (x * b) := by rw [hax, Nat.add_mul, Nat.mul_assoc]
    simp only [b82_0, go_sem, ↓reduceIte, Nat.reduceEqDiff, Nat.reduceAdd, Nat.reduceMul, Nat.reduceLeDiff, Nat.reduceLT, Int.reduceToNat, Int.reduceLT, Int.reduceLE, reduceCtorEq, Nat.reduceBEq, hsa, hsb, hil']
    refine mLoop (fun N st => ∃ (j : Nat) (L : List Int) (c : Nat), N = lb + 1 - j ∧ j ≤ lb + 1 ∧ L.length = n ∧ R9d L ∧ c ≤ 9 ∧ (0 < c → j ≤ lb) ∧ dval L + 10 ^ (i + j) * c = a % 10 ^ i * b + 10 ^ i * (x * (b % 10 ^ j)) ∧
      st = ⟨[(0, .str (dec a)), (1, .str (dec b)), (5, .arr 0 0), (6, .int .i64 i), (7, .int .i64 c), (8, .int .i64 j)], [⟨false, 3, 1, 0, n, nums .i64 L, false⟩]⟩) (lb + 1)
      ⟨_, rfl, 0, L, 0, by omega, by omega, hL, hR, by omega, fun h => by omega, by rw [hv]; simp [Nat.mod_one], by simp [getE]⟩ ?_
    clear hv hR hL
    rintro N s0 ⟨j, L, c, rfl, hj, hL, hR, hc, hcj, hv, rfl⟩
    obtain ⟨y, hy, hy9, hby⟩ := dgs_digit (n := b) (i := j)
    have h2 := hdb j (by omega)
    rw [hy] at h2
    have hj1 : IntKind.i64.wrap ((j : Int) + 1) = ((j + 1 : Nat) : Int) := by rw [wrap_i64 (by omega) (by omega)]; omega
    have goOn : j ≤ lb → i + j < L.length ∧ ∃ o : Nat, L.getD (i + j) 0 = (o : Int) ∧ o ≤ 9 ∧ ∀ d c', d ≤ 9 → c' ≤ 9 → o + x * y + c = d + 10 * c' →
        ∃ m, m < lb + 1 - j ∧ ∃ (j' : Nat) (L' : List Int) (cc : Nat), m = lb + 1 - j' ∧ j' ≤ lb + 1 ∧ L'.length = n ∧ R9d L' ∧ cc ≤ 9 ∧ (0 < cc → j' ≤ lb) ∧ dval L' + 10 ^ (i + j') * cc = a % 10 ^ i * b + 10 ^ i * (x * (b % 10 ^ j')) ∧
        (⟨[(0, .str (dec a)), (1, .str (dec b)), (5, .arr 0 0), (6, .int .i64 i), (7, .int .i64 c'), (8, .int .i64 ((j + 1 : Nat) : Int))], [⟨false, 3, 1, 0, n, nums .i64 (put L (i + j) (d : Int)), false⟩]⟩ : St) =
         ⟨[(0, .str (dec a)), (1, .str (dec b)), (5, .arr 0 0), (6, .int .i64 i), (7, .int .i64 cc), (8, .int .i64 j')], [⟨false, 3, 1, 0, n, nums .i64 L', false⟩]⟩ := fun hjl => by
      have hlt : i + j < L.length := by omega
      have ho := hR (L.getD (i + j) 0) (by simp [List.getD, hlt])
      refine ⟨hlt, (L.getD (i + j) 0).toNat, by omega, by omega, fun d c' hd hc' hst => ?_⟩
      have hpd := put_dval (l := L) (k := i + j) (v := (d : Int)) hlt
      rw [Int.toNat_natCast] at hpd
      have hinv : dval (put L (i + j) (d : Int)) + 10 ^ (i + (j + 1)) * c' = a % 10 ^ i * b + 10 ^ i * (x * (b % 10 ^ (j + 1))) := by
        have e4 : 10 ^ i * (x * (b % 10 ^ (j + 1))) = 10 ^ i * (x * (b % 10 ^ j)) + 10 ^ (i + j) * (x * y) := by
          rw [hby, Nat.mul_add, Nat.mul_add, Nat.pow_add, Nat.mul_assoc (10 ^ i) (10 ^ j)]
          congr 2
          rw [← Nat.mul_assoc, ← Nat.mul_assoc, Nat.mul_comm x]
        rw [e4, show i + (j + 1) = (i + j) + 1 by omega, Nat.pow_succ, Nat.mul_assoc]
        generalize 10 ^ (i + j) = P at *
        have e3 : P * ((L.getD (i + j) 0).toNat + x * y + c) = P * (d + 10 * c') := by rw [hst]
        simp only [Nat.mul_add] at e3
        omega
      refine ⟨lb + 1 - (j + 1), by omega, j + 1, put L (i + j) (d : Int), c', rfl, by omega, by rw [put_len hlt, hL], R9d_put hR hd, hc', fun hcp => ?_, hinv, rfl⟩
      by_cases hjb : j + 1 ≤ lb
      · exact hjb
      · exfalso
        have hjb2 : j = lb := by omega
        subst hjb2
        have hbm : b % 10 ^ (j + 1) = b := Nat.mod_eq_of_lt (Nat.lt_of_lt_of_le hbk (Nat.pow_le_pow_right (by omega) (by omega)))
        rw [hbm, ← hax2] at hinv
        have h5 : 10 ^ (i + (j + 1)) ≤ 10 ^ (i + (j + 1)) * c' := Nat.le_mul_of_pos_right _ hcp
        have h6 : 10 ^ (i + (j + 1)) = 10 ^ (i + 1) * 10 ^ j := by rw [← Nat.pow_add]; congr 1; omega
        omega
    by_cases hjb : j < lb
    · have hjb' : (j : Int) < (lb : Int) := by omega
      obtain ⟨hlt, o, ho, ho9, hgo⟩ := goOn (by omega)
      obtain ⟨d, c', hd, hc', hst, w1, w2, w3, w4, w5, w6⟩ := mul_facts ho9 hx9 hy9 hc
      obtain ⟨m, hm, hI⟩ := hgo d c' hd hc' hst
      have hij : IntKind.i64.wrap ((i : Int) + (j : Int)) = ((i + j : Nat) : Int) := by rw [wrap_i64 (by omega) (by omega)]; omega
      have hij0 : (0 : Int) ≤ ((i + j : Nat) : Int) := by omega
      have hijn : ((i + j : Nat) : Int) < (n : Int) := by omega
      have hsub := sub_nums (k := .i64) hlt
      rw [ho] at hsub
      have t1 : (i + j) * 1 + 1 ≤ L.length := by omega
      clear goOn hgo hst hv hub hax hax2 hby hak hbk hda hdb hR hcj
      simp only [b82_1, go_sem, ↓reduceIte, Nat.reduceEqDiff, Nat.reduceAdd, Nat.reduceMul, Nat.reduceLeDiff, Nat.reduceLT, Int.reduceToNat, Int.reduceLT, Int.reduceLE, reduceCtorEq, Nat.reduceBEq, hsa, hsb, hjb', hij, hij0, hijn, Int.toNat_natCast, hsub]
      refine goP h1 ?_
      simp only [go_sem, ↓reduceIte, Nat.reduceEqDiff, Nat.reduceAdd, Nat.reduceMul, Nat.reduceLeDiff, Nat.reduceLT, Int.reduceToNat, Int.reduceLT, Int.reduceLE, reduceCtorEq, Nat.reduceBEq]
      refine goP h2 ?_
      simp only [go_sem, ↓reduceIte, Nat.reduceEqDiff, Nat.reduceAdd, Nat.reduceMul, Nat.reduceLeDiff, Nat.reduceLT, Int.reduceToNat, Int.reduceLT, Int.reduceLE, reduceCtorEq, Nat.reduceBEq, w1, w2, w3, w4, w5, w6, q10, hij, hij0, hijn, Int.toNat_natCast, t1, hj1]
      exact loopQ_go rfl m hm hI
    · have hjb' : ¬ (j : Int) < (lb : Int) := by omega
      by_cases hcp : 0 < c
      · have hcp' : (0 : Int) < (c : Int) := by omega
        obtain ⟨hlt, o, ho, ho9, hgo⟩ := goOn (hcj hcp)
        obtain ⟨d, c', hd, hc', hst, w1, w2, w3, w4, w5, w6⟩ := mul_facts ho9 hx9 hy9 hc
        obtain ⟨m, hm, hI⟩ := hgo d c' hd hc' hst
        have hij : IntKind.i64.wrap ((i : Int) + (j : Int)) = ((i + j : Nat) : Int) := by rw [wrap_i64 (by omega) (by omega)]; omega
        have hij0 : (0 : Int) ≤ ((i + j : Nat) : Int) := by omega
        have hijn : ((i + j : Nat) : Int) < (n : Int) := by omega
        have hsub := sub_nums (k := .i64) hlt
        rw [ho] at hsub
        have t1 : (i + j) * 1 + 1 ≤ L.length := by omega
        clear goOn hgo hst hv hub hax hax2 hby hak hbk hda hdb hR hcj
        simp only [b82_1, go_sem, ↓reduceIte, Nat.reduceEqDiff, Nat.reduceAdd, Nat.reduceMul, Nat.reduceLeDiff, Nat.reduceLT, Int.reduceToNat, Int.reduceLT, Int.reduceLE, reduceCtorEq, Nat.reduceBEq, hsa, hsb, hjb', hcp', hij, hij0, hijn, Int.toNat_natCast, hsub]
        refine goP h1 ?_
        simp only [go_sem, ↓reduceIte, Nat.reduceEqDiff, Nat.reduceAdd, Nat.reduceMul, Nat.reduceLeDiff, Nat.reduceLT, Int.reduceToNat, Int.reduceLT, Int.reduceLE, reduceCtorEq, Nat.reduceBEq]
        refine goP h2 ?_
        simp only [go_sem, ↓reduceIte, Nat.reduceEqDiff, Nat.reduceAdd, Nat.reduceMul, Nat.reduceLeDiff, Nat.reduceLT, Int.reduceToNat, Int.reduceLT, Int.reduceLE, reduceCtorEq, Nat.reduceBEq, w1, w2, w3, w4, w5, w6, q10, hij, hij0, hijn, Int.toNat_natCast, t1, hj1]
        exact loopQ_go rfl m hm hI
      · have hcp' : ¬ (0 : Int) < (c : Int) := by omega
        have hc0 : c = 0 := by omega
        have hbm : b % 10 ^ j = b := Nat.mod_eq_of_lt (Nat.lt_of_lt_of_le hbk (Nat.pow_le_pow_right (by omega) (by omega)))
        rw [hc0, Nat.mul_zero, Nat.add_zero, hbm, ← hax2] at hv
        clear goOn hub hax hax2 hby hak hbk hda hdb hcj hbm
        simp only [b82_1, k82_0, go_sem, ↓reduceIte, Nat.reduceEqDiff, Nat.reduceAdd, Nat.reduceMul, Nat.reduceLeDiff, Nat.reduceLT, Int.reduceToNat, Int.reduceLT, Int.reduceLE, reduceCtorEq, Nat.reduceBEq, hsa, hsb, hjb', hcp', hi1]
        exact loopQ_go rfl (la - (i + 1)) (by omega) ⟨i + 1, L, rfl, by omega, hL, hR, hv, rfl⟩
  · have hil' : ¬ (i : Int) < (la : Int) := by omega
    obtain rfl : i = la := by omega
    rw [Nat.mod_eq_of_lt hak] at hv
    have h96 := c96_gen (E := E) (L := L) (by omega) (fun h => by rw [h] at hL; simp at hL; omega) hR
    rw [hv, ints, hL] at h96
    simp only [b82_0, k82_1, go_sem, ↓reduceIte, Nat.reduceEqDiff, Nat.reduceAdd, Nat.reduceMul, Nat.reduceLeDiff, Nat.reduceLT, Int.reduceToNat, Int.reduceLT, Int.reduceLE, reduceCtorEq, Nat.reduceBEq, hsa, hsb, hil', Int.lt_irrefl]
    refine goR h96 rfl ?_
    simp only [go_sem, ↓reduceIte, Nat.reduceEqDiff, Nat.reduceAdd, Nat.reduceMul, Nat.reduceLeDiff, Nat.reduceLT, Int.reduceToNat, Int.reduceLT, Int.reduceLE, reduceCtorEq, Nat.reduceBEq]
    simp only [i82, Out, resAll, geto, ints, List.getElem?_cons_zero, List.getElem?_cons_succ, resOf, outOf, snap, snapL, ev, getE, List.mapM_cons, List.mapM_nil, Option.bind_some, Option.pure_def, Option.bind_eq_bind, Option.map_some, reduceIte, Nat.reduceEqDiff, true_and, and_true]
theorem c76_two {a b m : Nat} (hm : 2 * m ≤ 19998) (hb : b < 2 ^ m) (hla : (decL a).length ≤ 100000) (hlb : (decL b).length ≤ 100000) : Go.V.Call tab E 76 [.str (dec a), .str (dec b)] [] (.str (dec (Nat.gcd a b))) [] := by
  refine Go.V.Call.mach i76 c76 rfl rfl rfl rfl ?_
  obtain ⟨S, hS⟩ : ∃ S, S = 2 ^ (2 * m) := ⟨_, rfl⟩
  have hbb : b * b ≤ S := by
    rw [hS, show 2 * m = m + m by omega, Nat.pow_add]
    exact Nat.mul_le_mul (by omega) (by omega)
  have hpow : ∀ j, 2 ^ j < S → j < 19998 := fun j h => by
    rw [hS] at h
    have := (Nat.pow_lt_pow_iff_right (a := 2) (by omega)).1 h
    omega
  clear hS hb
  have hd0 : (⟨#[48]⟩ : ByteArray) = dec 0 := rfl
  simp only [c76, go_sem, ↓reduceIte, Nat.reduceEqDiff, Nat.reduceAdd, Nat.reduceMul, Nat.reduceLeDiff, Nat.reduceLT, Int.reduceToNat, Int.reduceLT, Int.reduceLE, reduceCtorEq, Nat.reduceBEq, hd0]
  refine mLoop (fun N st => ∃ (i x y : Nat), N = y ∧ Nat.gcd x y = Nat.gcd a b ∧ (decL x).length ≤ 100000 ∧ (decL y).length ≤ 100000 ∧ (i = 0 ∧ y = b ∨ 1 ≤ i ∧ y < x ∧ x * y * 2 ^ (i - 1) < S) ∧
    st = ⟨[(0, .str (dec x)), (1, .str (dec y)), (5, .int .i64 i)], []⟩) b ⟨_, rfl, 0, a, b, rfl, rfl, hla, hlb, .inl ⟨rfl, rfl⟩, by simp [getE]⟩ ?_
  rintro N s0 ⟨i, x, y, rfl, hg, hx, hy, hm, h2⟩
  have hne : strOp .ne (dec N) (dec 0) = some (.bool (decide (N ≠ 0))) := by
    rw [dec_ne]
    congr 2
    rw [← decide_not]
  by_cases hN : N = 0
  · subst hN
    rw [Nat.gcd_zero_right] at hg
    subst hg
    rw [decide_eq_false (by omega)] at hne
    by_cases hi : i < 20000
    · have hi' : (i : Int) < 20000 := by omega
      simp only [h2, b76_0, k76_0, go_sem, ↓reduceIte, Nat.reduceEqDiff, Nat.reduceAdd, Nat.reduceMul, Nat.reduceLeDiff, Nat.reduceLT, Int.reduceToNat, Int.reduceLT, Int.reduceLE, reduceCtorEq, Nat.reduceBEq, hd0, hi', hne]
      simp only [i76, Out, resAll, geto, ints, List.getElem?_cons_zero, List.getElem?_cons_succ, resOf, outOf, snap, snapL, ev, getE, List.mapM_cons, List.mapM_nil, Option.bind_some, Option.pure_def, Option.bind_eq_bind, Option.map_some, reduceIte, Nat.reduceEqDiff, true_and, and_true]
    · have hi' : ¬ (i : Int) < 20000 := by omega
      simp only [h2, b76_0, k76_0, go_sem, ↓reduceIte, Nat.reduceEqDiff, Nat.reduceAdd, Nat.reduceMul, Nat.reduceLeDiff, Nat.reduceLT, Int.reduceToNat, Int.reduceLT, Int.reduceLE, reduceCtorEq, Nat.reduceBEq, hd0, hi', hne]
      simp only [i76, Out, resAll, geto, ints, List.getElem?_cons_zero, List.getElem?_cons_succ, resOf, outOf, snap, snapL, ev, getE, List.mapM_cons, List.mapM_nil, Option.bind_some, Option.pure_def, Option.bind_eq_bind, Option.map_some, reduceIte, Nat.reduceEqDiff, true_and, and_true]
  · rw [decide_eq_true hN] at hne
    have hNp : 0 < N := Nat.pos_of_ne_zero hN
    have hi : i < 20000 := by
      rcases hm with h | ⟨h1, h5', h3⟩
      · omega
      · have h4 : 1 ≤ x * N := Nat.mul_pos (by omega) hNp
        have h5 := Nat.mul_le_mul_right (2 ^ (i - 1)) h4
        rw [Nat.one_mul] at h5
        have h6 : 2 ^ (i - 1) < S := Nat.lt_of_le_of_lt h5 h3
        have h7 := hpow _ h6
        omega
    have hi' : (i : Int) < 20000 := by omega
    have hi1 : IntKind.i64.wrap ((i : Int) + 1) = ((i + 1 : Nat) : Int) := by rw [wrap_i64 (by omega) (by omega)]; omega
    have h138 := c77_ok (E := E) (a := x) hN hx hy
    have hml := Nat.mod_lt x hNp
    have hg2 : Nat.gcd N (x % N) = Nat.gcd a b := by rw [← hg, Nat.gcd_comm N, ← Nat.gcd_rec, Nat.gcd_comm]
    have hnew : N * (x % N) * 2 ^ i < S := by
      rcases hm with ⟨h, h'⟩ | ⟨h1, h5', h3⟩
      · subst h
        subst h'
        rw [Nat.pow_zero, Nat.mul_one]
        exact Nat.lt_of_lt_of_le (Nat.mul_lt_mul_of_pos_left hml hNp) hbb
      · have h4 : 2 * (x % N) ≤ x := by
          have e1 := Nat.div_add_mod x N
          have e2 : 1 ≤ x / N := (Nat.one_le_div_iff hNp).2 (by omega)
          have e3 := Nat.mul_le_mul_left N e2
          omega
        obtain ⟨k, rfl⟩ : ∃ k, i = k + 1 := ⟨i - 1, by omega⟩
        rw [Nat.add_sub_cancel] at h3
        refine Nat.lt_of_le_of_lt ?_ h3
        rw [Nat.pow_succ, Nat.mul_comm (2 ^ k) 2, ← Nat.mul_assoc]
        refine Nat.mul_le_mul_right _ ?_
        rw [Nat.mul_assoc, Nat.mul_comm x, Nat.mul_comm (x % N)]
        exact Nat.mul_le_mul_left _ h4
    have hlr : (decL (x % N)).length ≤ 100000 := by
      by_cases h : (decL N).length < (decL (x % N)).length
      · have := decL_short h; omega
      · omega
    generalize x % N = r at *
    simp only [h2, b76_0, go_sem, ↓reduceIte, Nat.reduceEqDiff, Nat.reduceAdd, Nat.reduceMul, Nat.reduceLeDiff, Nat.reduceLT, Int.reduceToNat, Int.reduceLT, Int.reduceLE, reduceCtorEq, Nat.reduceBEq, hd0, hi', hne]
    refine goP h138 ?_
    simp only [go_sem, ↓reduceIte, Nat.reduceEqDiff, Nat.reduceAdd, Nat.reduceMul, Nat.reduceLeDiff, Nat.reduceLT, Int.reduceToNat, Int.reduceLT, Int.reduceLE, reduceCtorEq, Nat.reduceBEq, hi1]
    exact loopQ_go rfl r (by omega) ⟨i + 1, N, r, rfl, hg2, hy, hlr, .inr ⟨by omega, hml, by rw [Nat.add_sub_cancel]; exact hnew⟩, rfl⟩
end
end Go.Proofs.YtcmbaabkfihdmaaGreat.I

/- SEAT YtcmbaabkfihdmaaGreat. Layers 2 and 3: the document's whole and exact numbers added, the program's exact numbers added. -/
set_option linter.unusedVariables false
set_option linter.unusedSimpArgs false
namespace Go.Proofs.YtcmbaabkfihdmaaGreat.I
open Go Go.V
attribute [local go_sem] mNil nat0 beq_self_eq_true mSkip mRet mExit mReg mSeq mCond mTrue mFalse mBlock mLv mCodeE mCodeR mEndN mEndR mEndE mOps mSome mGuard mGtt mGff mGtf mGft mGu mCallP mCallR mCallF mCallO mCallZ mCallG mCallM mCallV loopQ_exit loopQ_ret mO_mov mO_newnil mO_pick mO_alloc mO_box mO_build mO_bsl mO_bslF mO_ldf mO_ld mO_st mO_sta mO_nilchk mO_bin mO_binb mO_binp mO_bins mO_neg mO_com mO_not mO_conv mO_mk mO_mk0 mO_s2b mO_b2s mO_cpy mO_cut mO_faddr mO_fld mO_iaddr mO_iaddrf mO_sidx mO_len mO_lenf mO_slen mO_scut mO_app mO_ext mO_mx mO_mn mO_mkfn evalOp cutOp argsE ev getE putE cellsOf adopt rowOf binV boolV nilV ar_add ar_sub ar_mul ar_quo ar_rem ar_eq ar_ne ar_lt ar_le ar_gt ar_ge ar_and ar_or ar_xor geto bound finRet finNrm ints List.length_cons List.length_nil List.length_append List.getElem?_cons_zero List.getElem?_cons_succ List.nil_append List.cons_append List.map_cons List.map_nil List.mapM_cons List.mapM_nil Option.map_some Option.map_none Option.bind_some Option.pure_def Option.bind_eq_bind List.drop_zero or_self or_false false_or or_true true_or true_and and_true and_self decide_true decide_false Bool.false_eq_true Bool.true_eq_false Bool.not_true Bool.not_false Nat.le_refl eq_self gt_iff_lt ge_iff_le ne_eq not_true_eq_false not_false_eq_true storeOp apartOf freeze_nil refsL refs List.flatMap_cons List.flatMap_nil List.append_nil List.contains_nil List.set_cons_zero List.set_cons_succ snap snapL fill_nums flat_nums nums_length Go.V.freeze List.mapIdx_cons List.mapIdx_nil List.contains_cons Bool.or_false Bool.false_or Bool.or_true Bool.true_or
def wdI (z : Int) : List AV := wdC (decide (z < 0)) z.natAbs
def numR (r : Rat) : List AV := numG (decide (r.num < 0)) r.num.natAbs r.den
theorem wdI_mul {a b : Int} : wdC ((decide (a < 0) != decide (b < 0)) && decide (a.natAbs * b.natAbs ≠ 0)) (a.natAbs * b.natAbs) = wdI (a * b) := by
  rw [← sgn_mul, ← Int.natAbs_mul]
  rfl
theorem wdI_neg {p : Nat} : wdC (true && decide (p ≠ 0)) p = wdI (-(p : Int)) := by
  have h1 : (-(p : Int)).natAbs = p := by omega
  rw [wdI, h1]
  congr 1
  by_cases h : p = 0
  · subst h; rfl
  · rw [decide_eq_true h, decide_eq_true (show -(p : Int) < 0 by omega)]; rfl
theorem wdI_pos {p : Nat} : wdC (false && decide (p ≠ 0)) p = wdI (p : Int) := by
  have h1 : ((p : Int)).natAbs = p := by omega
  rw [wdI, h1, decide_eq_false (show ¬ (p : Int) < 0 by omega)]
  rfl
theorem dec_eqB {a b : Nat} : strOp .eq (dec a) (dec b) = some (.bool (decide (a = b))) := by
  rw [dec_eq, dec_eq]
  simp only [strOp, str_eq (decL_dig a).u8 (decL_dig b).u8]
  congr 2
  by_cases h : a = b
  · subst h; simp
  · rw [decide_eq_false h, decide_eq_false]
    intro hh
    exact h (by rw [← sval_decL a, hh, sval_decL])
theorem decL_le {a b : Nat} (h : a ≤ b) : (decL a).length ≤ (decL b).length := by
  by_cases hl : (decL b).length < (decL a).length
  · have := decL_short hl; omega
  · omega
theorem Sz.pos {i : Nat} {r : Rat} (h : Sz i r) : 1 ≤ i := by
  rcases Nat.eq_zero_or_pos i with h0 | h0
  · subst h0
    have := h.2
    have := r.den_nz
    simp at *
    omega
  · exact h0
theorem numR_parts {a b : Int} (hb : b ≠ 0) : numG ((decide (a < 0) != decide (b < 0)) && decide (a.natAbs / Nat.gcd a.natAbs b.natAbs ≠ 0)) (a.natAbs / Nat.gcd a.natAbs b.natAbs) (b.natAbs / Nat.gcd a.natAbs b.natAbs) = numR (Rat.divInt a b) := by
  obtain ⟨h1, h2, h3⟩ := divInt_parts (a := a) hb
  rw [← h3, ← h1, ← h2]
  rfl
theorem natAbs_den {r : Rat} : ((r.den : Int)).natAbs = r.den := by omega
theorem den_neg {r : Rat} : decide ((r.den : Int) < 0) = false := decide_eq_false (by omega)
section
variable {E : CallRel}
theorem c50_ok {a b : Int} (ha : (decL a.natAbs).length ≤ 1000000) (hb : (decL b.natAbs).length ≤ 1000000) (hab : (decL (a * b).natAbs).length ≤ 1000000000) : Go.V.Call tab E 50 [.agg (wdI a), .agg (wdI b)] [] (.agg (wdI (a * b))) [] := by
  refine Go.V.Call.mach i50 c50 rfl rfl rfl rfl ?_
  have h82 := c82_ok (E := E) ha hb
  rw [Int.natAbs_mul] at hab
  have h78 := c78_ok (E := E) (n := decide (a < 0) != decide (b < 0)) hab
  rw [wdI_mul] at h78
  simp only [wdI, wdC] at h78
  simp only [c50, wdI, wdC, go_sem, ↓reduceIte, Nat.reduceEqDiff, Nat.reduceAdd, Nat.reduceMul, Nat.reduceLeDiff, Nat.reduceLT, Int.reduceToNat, Int.reduceLT, Int.reduceLE, reduceCtorEq, Nat.reduceBEq, fillAll, fillIn, shiftR, shiftV, List.take_succ_cons, List.take_zero, List.drop_succ_cons, List.drop_zero, List.append_nil, Nat.zero_add, subD0, subD1]
  refine goP h82 ?_
  simp only [go_sem, ↓reduceIte, Nat.reduceEqDiff, Nat.reduceAdd, Nat.reduceMul, Nat.reduceLeDiff, Nat.reduceLT, Int.reduceToNat, Int.reduceLT, Int.reduceLE, reduceCtorEq, Nat.reduceBEq, fillAll, fillIn, shiftR, shiftV, List.take_succ_cons, List.take_zero, List.drop_succ_cons, List.drop_zero, List.append_nil, Nat.zero_add]
  refine goP h78 ?_
  simp only [go_sem, ↓reduceIte, Nat.reduceEqDiff, Nat.reduceAdd, Nat.reduceMul, Nat.reduceLeDiff, Nat.reduceLT, Int.reduceToNat, Int.reduceLT, Int.reduceLE, reduceCtorEq, Nat.reduceBEq, fillAll, fillIn, shiftR, shiftV, List.take_succ_cons, List.take_zero, List.drop_succ_cons, List.drop_zero, List.append_nil, Nat.zero_add]
  simp only [i50, Out, resAll, geto, ints, List.getElem?_cons_zero, List.getElem?_cons_succ, resOf, outOf, snap, snapL, ev, getE, List.mapM_cons, List.mapM_nil, Option.bind_some, Option.pure_def, Option.bind_eq_bind, Option.map_some, reduceIte, Nat.reduceEqDiff, true_and, and_true, subD2, wdI, wdC]
theorem c49_ok {x y : Int} (hx : (decL x.natAbs).length ≤ 1000000) (hy : (decL y.natAbs).length ≤ 1000000) (hs : (decL (x.natAbs + y.natAbs)).length ≤ 1000000000) : Go.V.Call tab E 49 [.agg (wdI x), .agg (wdI y)] [] (.agg (wdI (x + y))) [] := by
  refine Go.V.Call.mach i49 c49 rfl rfl rfl rfl ?_
  have h79 := c79_ok (E := E) hx hy
  have h80 := c80_ok (E := E) (a := x.natAbs) (b := y.natAbs)
  have h81 := fun h => c81_ok (E := E) (a := x.natAbs) (b := y.natAbs) h hx hy
  have h81' := fun h => c81_ok (E := E) (a := y.natAbs) (b := x.natAbs) h hy hx
  have h78 := fun n p h => c78_ok (E := E) (n := n) (p := p) h
  simp only [wdC] at h78
  by_cases hs2 : decide (x < 0) = decide (y < 0)
  · have hb : (decide (x < 0) == decide (y < 0)) = true := by rw [hs2]; cases decide (y < 0) <;> rfl
    have hr : wdC (decide (x < 0) && decide (x.natAbs + y.natAbs ≠ 0)) (x.natAbs + y.natAbs) = wdI (x + y) := by
      by_cases h : x < 0
      · have hy0 : y < 0 := by rw [decide_eq_true h] at hs2; simpa using hs2.symm
        rw [decide_eq_true h, wdI_neg]
        congr 1; omega
      · have hy0 : ¬ y < 0 := by rw [decide_eq_false h] at hs2; simpa using hs2.symm
        rw [decide_eq_false h, wdI_pos]
        congr 1; omega
    rw [← hr]
    simp only [c49, wdI, wdC, go_sem, ↓reduceIte, Nat.reduceEqDiff, Nat.reduceAdd, Nat.reduceMul, Nat.reduceLeDiff, Nat.reduceLT, Int.reduceToNat, Int.reduceLT, Int.reduceLE, reduceCtorEq, Nat.reduceBEq, fillAll, fillIn, shiftR, shiftV, List.take_succ_cons, List.take_zero, List.drop_succ_cons, List.drop_zero, List.append_nil, Nat.zero_add, subD0, subD1, hb]
    refine goP h79 ?_
    simp only [go_sem, ↓reduceIte, Nat.reduceEqDiff, Nat.reduceAdd, Nat.reduceMul, Nat.reduceLeDiff, Nat.reduceLT, Int.reduceToNat, Int.reduceLT, Int.reduceLE, reduceCtorEq, Nat.reduceBEq, fillAll, fillIn, shiftR, shiftV, List.take_succ_cons, List.take_zero, List.drop_succ_cons, List.drop_zero, List.append_nil, Nat.zero_add]
    refine goP (h78 _ _ hs) ?_
    simp only [go_sem, ↓reduceIte, Nat.reduceEqDiff, Nat.reduceAdd, Nat.reduceMul, Nat.reduceLeDiff, Nat.reduceLT, Int.reduceToNat, Int.reduceLT, Int.reduceLE, reduceCtorEq, Nat.reduceBEq, fillAll, fillIn, shiftR, shiftV, List.take_succ_cons, List.take_zero, List.drop_succ_cons, List.drop_zero, List.append_nil, Nat.zero_add]
    simp only [i49, Out, resAll, geto, ints, List.getElem?_cons_zero, List.getElem?_cons_succ, resOf, outOf, snap, snapL, ev, getE, List.mapM_cons, List.mapM_nil, Option.bind_some, Option.pure_def, Option.bind_eq_bind, Option.map_some, reduceIte, Nat.reduceEqDiff, true_and, and_true, subD2, wdC]
  · have hb : (decide (x < 0) == decide (y < 0)) = false := by
      revert hs2; cases decide (x < 0) <;> cases decide (y < 0) <;> intro hs2 <;> first | rfl | exact absurd rfl hs2
    by_cases hle : y.natAbs ≤ x.natAbs
    · have hc : (0 : Int) ≤ cmpZ x.natAbs y.natAbs := by
        unfold cmpZ
        rw [if_neg (by omega)]
        split <;> omega
      have hr : wdC (decide (x < 0) && decide (x.natAbs - y.natAbs ≠ 0)) (x.natAbs - y.natAbs) = wdI (x + y) := by
        by_cases h : x < 0
        · have hy0 : ¬ y < 0 := fun h2 => hs2 (by rw [decide_eq_true h, decide_eq_true h2])
          rw [decide_eq_true h, wdI_neg]
          congr 1; omega
        · have hy0 : y < 0 := by
            by_cases h2 : y < 0
            · exact h2
            · exact absurd (by rw [decide_eq_false h, decide_eq_false h2]) hs2
          rw [decide_eq_false h, wdI_pos]
          congr 1; omega
      rw [← hr]
      simp only [c49, wdI, wdC, go_sem, ↓reduceIte, Nat.reduceEqDiff, Nat.reduceAdd, Nat.reduceMul, Nat.reduceLeDiff, Nat.reduceLT, Int.reduceToNat, Int.reduceLT, Int.reduceLE, reduceCtorEq, Nat.reduceBEq, fillAll, fillIn, shiftR, shiftV, List.take_succ_cons, List.take_zero, List.drop_succ_cons, List.drop_zero, List.append_nil, Nat.zero_add, subD0, subD1, hb]
      refine goP h80 ?_
      simp only [go_sem, ↓reduceIte, Nat.reduceEqDiff, Nat.reduceAdd, Nat.reduceMul, Nat.reduceLeDiff, Nat.reduceLT, Int.reduceToNat, Int.reduceLT, Int.reduceLE, reduceCtorEq, Nat.reduceBEq, fillAll, fillIn, shiftR, shiftV, List.take_succ_cons, List.take_zero, List.drop_succ_cons, List.drop_zero, List.append_nil, Nat.zero_add, subD0, subD1, hc]
      refine goP (h81 hle) ?_
      simp only [go_sem, ↓reduceIte, Nat.reduceEqDiff, Nat.reduceAdd, Nat.reduceMul, Nat.reduceLeDiff, Nat.reduceLT, Int.reduceToNat, Int.reduceLT, Int.reduceLE, reduceCtorEq, Nat.reduceBEq, fillAll, fillIn, shiftR, shiftV, List.take_succ_cons, List.take_zero, List.drop_succ_cons, List.drop_zero, List.append_nil, Nat.zero_add]
      refine goP (h78 _ _ (Nat.le_trans (decL_le (Nat.sub_le _ _)) (by omega))) ?_
      simp only [go_sem, ↓reduceIte, Nat.reduceEqDiff, Nat.reduceAdd, Nat.reduceMul, Nat.reduceLeDiff, Nat.reduceLT, Int.reduceToNat, Int.reduceLT, Int.reduceLE, reduceCtorEq, Nat.reduceBEq, fillAll, fillIn, shiftR, shiftV, List.take_succ_cons, List.take_zero, List.drop_succ_cons, List.drop_zero, List.append_nil, Nat.zero_add]
      simp only [i49, Out, resAll, geto, ints, List.getElem?_cons_zero, List.getElem?_cons_succ, resOf, outOf, snap, snapL, ev, getE, List.mapM_cons, List.mapM_nil, Option.bind_some, Option.pure_def, Option.bind_eq_bind, Option.map_some, reduceIte, Nat.reduceEqDiff, true_and, and_true, subD2, wdC]
    · have hc : ¬ (0 : Int) ≤ cmpZ x.natAbs y.natAbs := by
        unfold cmpZ
        rw [if_pos (by omega)]
        omega
      have hr : wdC (decide (y < 0) && decide (y.natAbs - x.natAbs ≠ 0)) (y.natAbs - x.natAbs) = wdI (x + y) := by
        by_cases h : y < 0
        · have hy0 : ¬ x < 0 := fun h2 => hs2 (by rw [decide_eq_true h, decide_eq_true h2])
          rw [decide_eq_true h, wdI_neg]
          congr 1; omega
        · have hy0 : x < 0 := by
            by_cases h2 : x < 0
            · exact h2
            · exact absurd (by rw [decide_eq_false h, decide_eq_false h2]) hs2
          rw [decide_eq_false h, wdI_pos]
          congr 1; omega
      rw [← hr]
      simp only [c49, wdI, wdC, go_sem, ↓reduceIte, Nat.reduceEqDiff, Nat.reduceAdd, Nat.reduceMul, Nat.reduceLeDiff, Nat.reduceLT, Int.reduceToNat, Int.reduceLT, Int.reduceLE, reduceCtorEq, Nat.reduceBEq, fillAll, fillIn, shiftR, shiftV, List.take_succ_cons, List.take_zero, List.drop_succ_cons, List.drop_zero, List.append_nil, Nat.zero_add, subD0, subD1, hb]
      refine goP h80 ?_
      simp only [go_sem, ↓reduceIte, Nat.reduceEqDiff, Nat.reduceAdd, Nat.reduceMul, Nat.reduceLeDiff, Nat.reduceLT, Int.reduceToNat, Int.reduceLT, Int.reduceLE, reduceCtorEq, Nat.reduceBEq, fillAll, fillIn, shiftR, shiftV, List.take_succ_cons, List.take_zero, List.drop_succ_cons, List.drop_zero, List.append_nil, Nat.zero_add, subD0, subD1, hc]
      refine goP (h81' (by omega)) ?_
      simp only [go_sem, ↓reduceIte, Nat.reduceEqDiff, Nat.reduceAdd, Nat.reduceMul, Nat.reduceLeDiff, Nat.reduceLT, Int.reduceToNat, Int.reduceLT, Int.reduceLE, reduceCtorEq, Nat.reduceBEq, fillAll, fillIn, shiftR, shiftV, List.take_succ_cons, List.take_zero, List.drop_succ_cons, List.drop_zero, List.append_nil, Nat.zero_add]
      refine goP (h78 _ _ (Nat.le_trans (decL_le (Nat.sub_le _ _)) (by omega))) ?_
      simp only [go_sem, ↓reduceIte, Nat.reduceEqDiff, Nat.reduceAdd, Nat.reduceMul, Nat.reduceLeDiff, Nat.reduceLT, Int.reduceToNat, Int.reduceLT, Int.reduceLE, reduceCtorEq, Nat.reduceBEq, fillAll, fillIn, shiftR, shiftV, List.take_succ_cons, List.take_zero, List.drop_succ_cons, List.drop_zero, List.append_nil, Nat.zero_add]
      simp only [i49, Out, resAll, geto, ints, List.getElem?_cons_zero, List.getElem?_cons_succ, resOf, outOf, snap, snapL, ev, getE, List.mapM_cons, List.mapM_nil, Option.bind_some, Option.pure_def, Option.bind_eq_bind, Option.map_some, reduceIte, Nat.reduceEqDiff, true_and, and_true, subD2, wdC]
theorem c51_R {r : Rat} (hp : (decL r.num.natAbs).length ≤ 1000000000) : Go.V.Call tab E 51 [.agg (numR r)] [] (.agg (wdI r.num)) [] := by
  have h := c51_ok (E := E) (x := rR r) hp
  have e1 : wdC ((rR r).1 && decide ((rR r).2.1 ≠ 0)) (rR r).2.1 = wdI r.num := by
    show wdC (decide (r.num < 0) && decide (r.num.natAbs ≠ 0)) r.num.natAbs = _
    rw [sgn_zero]; rfl
  have e2 : numG (rR r).1 (rR r).2.1 (dn (rR r).2.2) = numR r := by
    show numG _ _ (dn r.den) = _
    rw [dn_pos r.den_nz]; rfl
  rw [e1, e2] at h
  exact h
theorem c52_ok {r : Rat} (hp : (decL r.den).length ≤ 1000000000) : Go.V.Call tab E 52 [.agg (numR r)] [] (.agg (wdI (r.den : Int))) [] := by
  refine Go.V.Call.mach i52 c52 rfl rfl rfl rfl ?_
  have h := c78_ok (E := E) (n := false) hp
  rw [wdI_pos] at h
  simp only [wdI, wdC] at h
  simp only [c52, numR, numG, go_sem, ↓reduceIte, Nat.reduceEqDiff, Nat.reduceAdd, Nat.reduceMul, Nat.reduceLeDiff, Nat.reduceLT, Int.reduceToNat, Int.reduceLT, Int.reduceLE, reduceCtorEq, Nat.reduceBEq, fillAll, fillIn, shiftR, shiftV, List.take_succ_cons, List.take_zero, List.drop_succ_cons, List.drop_zero, List.append_nil, Nat.zero_add, subN2]
  refine goP h ?_
  simp only [go_sem, ↓reduceIte, Nat.reduceEqDiff, Nat.reduceAdd, Nat.reduceMul, Nat.reduceLeDiff, Nat.reduceLT, Int.reduceToNat, Int.reduceLT, Int.reduceLE, reduceCtorEq, Nat.reduceBEq, fillAll, fillIn, shiftR, shiftV, List.take_succ_cons, List.take_zero, List.drop_succ_cons, List.drop_zero, List.append_nil, Nat.zero_add]
  simp only [i52, Out, resAll, geto, ints, List.getElem?_cons_zero, List.getElem?_cons_succ, resOf, outOf, snap, snapL, ev, getE, List.mapM_cons, List.mapM_nil, Option.bind_some, Option.pure_def, Option.bind_eq_bind, Option.map_some, reduceIte, Nat.reduceEqDiff, true_and, and_true, subD2, wdI, wdC]
theorem c48_ok {a b : Int} {m : Nat} (hb : b ≠ 0) (hm : 2 * m ≤ 19998) (hbm : b.natAbs < 2 ^ m) (hla : (decL a.natAbs).length ≤ 100000) (hlb : (decL b.natAbs).length ≤ 100000) :
    Go.V.Call tab E 48 [.agg (wdI a), .agg (wdI b)] [] (.tup [.agg (numR (Rat.divInt a b)), .bool true]) [] := by
  refine Go.V.Call.mach i48 c48 rfl rfl rfl rfl ?_
  have hz := dec_eqB (a := b.natAbs) (b := 0)
  rw [dec_zero, decide_eq_false (by omega)] at hz
  have h76 := c76_two (E := E) (a := a.natAbs) hm hbm hla hlb
  have hgp : 0 < Nat.gcd a.natAbs b.natAbs := Nat.gcd_pos_of_pos_right _ (by omega)
  have hlg : (decL (Nat.gcd a.natAbs b.natAbs)).length ≤ 100000 := Nat.le_trans (decL_le (Nat.gcd_le_right _ (by omega))) hlb
  have h77 := c77_ok (E := E) (a := a.natAbs) (b := Nat.gcd a.natAbs b.natAbs) (by omega) hla hlg
  have h77' := c77_ok (E := E) (a := b.natAbs) (b := Nat.gcd a.natAbs b.natAbs) (by omega) hlb hlg
  have hne := dec_ne (a := a.natAbs / Nat.gcd a.natAbs b.natAbs) (b := 0)
  rw [dec_zero] at hne
  rw [← numR_parts hb]
  generalize Nat.gcd a.natAbs b.natAbs = g at *
  have hnd : (!decide (a.natAbs / g = 0)) = decide (a.natAbs / g ≠ 0) := decide_not.symm
  rw [hnd] at hne
  clear hnd hgp hlg hbm
  cases hs : (decide (a < 0) != decide (b < 0)) with
  | true =>
    have hs : (decide (a < 0) == decide (b < 0)) = false := by
      revert hs; cases decide (a < 0) <;> cases decide (b < 0) <;> intro hs <;> first | rfl | cases hs
    simp only [c48, wdI, wdC, go_sem, ↓reduceIte, Nat.reduceEqDiff, Nat.reduceAdd, Nat.reduceMul, Nat.reduceLeDiff, Nat.reduceLT, Int.reduceToNat, Int.reduceLT, Int.reduceLE, reduceCtorEq, Nat.reduceBEq, fillAll, fillIn, shiftR, shiftV, List.take_succ_cons, List.take_zero, List.drop_succ_cons, List.drop_zero, List.append_nil, Nat.zero_add, subD0, subD1, hz]
    refine goP h76 ?_
    simp only [go_sem, ↓reduceIte, Nat.reduceEqDiff, Nat.reduceAdd, Nat.reduceMul, Nat.reduceLeDiff, Nat.reduceLT, Int.reduceToNat, Int.reduceLT, Int.reduceLE, reduceCtorEq, Nat.reduceBEq, fillAll, fillIn, shiftR, shiftV, List.take_succ_cons, List.take_zero, List.drop_succ_cons, List.drop_zero, List.append_nil, Nat.zero_add, subD0, subD1]
    refine goP h77 ?_
    simp only [go_sem, ↓reduceIte, Nat.reduceEqDiff, Nat.reduceAdd, Nat.reduceMul, Nat.reduceLeDiff, Nat.reduceLT, Int.reduceToNat, Int.reduceLT, Int.reduceLE, reduceCtorEq, Nat.reduceBEq, fillAll, fillIn, shiftR, shiftV, List.take_succ_cons, List.take_zero, List.drop_succ_cons, List.drop_zero, List.append_nil, Nat.zero_add, subD0, subD1]
    refine goP h77' ?_
    simp only [go_sem, ↓reduceIte, Nat.reduceEqDiff, Nat.reduceAdd, Nat.reduceMul, Nat.reduceLeDiff, Nat.reduceLT, Int.reduceToNat, Int.reduceLT, Int.reduceLE, reduceCtorEq, Nat.reduceBEq, fillAll, fillIn, shiftR, shiftV, List.take_succ_cons, List.take_zero, List.drop_succ_cons, List.drop_zero, List.append_nil, Nat.zero_add, subD0, subD1, hs, hne]
    simp only [i48, Out, resAll, geto, ints, List.getElem?_cons_zero, List.getElem?_cons_succ, resOf, outOf, snap, snapL, ev, getE, List.mapM_cons, List.mapM_nil, Option.bind_some, Option.pure_def, Option.bind_eq_bind, Option.map_some, reduceIte, Nat.reduceEqDiff, true_and, and_true, subT3, numG, Bool.true_and]
  | false =>
    have hs : (decide (a < 0) == decide (b < 0)) = true := by
      revert hs; cases decide (a < 0) <;> cases decide (b < 0) <;> intro hs <;> first | rfl | cases hs
    simp only [c48, wdI, wdC, go_sem, ↓reduceIte, Nat.reduceEqDiff, Nat.reduceAdd, Nat.reduceMul, Nat.reduceLeDiff, Nat.reduceLT, Int.reduceToNat, Int.reduceLT, Int.reduceLE, reduceCtorEq, Nat.reduceBEq, fillAll, fillIn, shiftR, shiftV, List.take_succ_cons, List.take_zero, List.drop_succ_cons, List.drop_zero, List.append_nil, Nat.zero_add, subD0, subD1, hz]
    refine goP h76 ?_
    simp only [go_sem, ↓reduceIte, Nat.reduceEqDiff, Nat.reduceAdd, Nat.reduceMul, Nat.reduceLeDiff, Nat.reduceLT, Int.reduceToNat, Int.reduceLT, Int.reduceLE, reduceCtorEq, Nat.reduceBEq, fillAll, fillIn, shiftR, shiftV, List.take_succ_cons, List.take_zero, List.drop_succ_cons, List.drop_zero, List.append_nil, Nat.zero_add, subD0, subD1]
    refine goP h77 ?_
    simp only [go_sem, ↓reduceIte, Nat.reduceEqDiff, Nat.reduceAdd, Nat.reduceMul, Nat.reduceLeDiff, Nat.reduceLT, Int.reduceToNat, Int.reduceLT, Int.reduceLE, reduceCtorEq, Nat.reduceBEq, fillAll, fillIn, shiftR, shiftV, List.take_succ_cons, List.take_zero, List.drop_succ_cons, List.drop_zero, List.append_nil, Nat.zero_add, subD0, subD1]
    refine goP h77' ?_
    simp only [go_sem, ↓reduceIte, Nat.reduceEqDiff, Nat.reduceAdd, Nat.reduceMul, Nat.reduceLeDiff, Nat.reduceLT, Int.reduceToNat, Int.reduceLT, Int.reduceLE, reduceCtorEq, Nat.reduceBEq, fillAll, fillIn, shiftR, shiftV, List.take_succ_cons, List.take_zero, List.drop_succ_cons, List.drop_zero, List.append_nil, Nat.zero_add, subD0, subD1, hs]
    simp only [i48, Out, resAll, geto, ints, List.getElem?_cons_zero, List.getElem?_cons_succ, resOf, outOf, snap, snapL, ev, getE, List.mapM_cons, List.mapM_nil, Option.bind_some, Option.pure_def, Option.bind_eq_bind, Option.map_some, reduceIte, Nat.reduceEqDiff, true_and, and_true, subT3, numG, Bool.false_and]
theorem c26_ok {a b : Rat} {i j : Nat} (ha : Sz i a) (hb : Sz j b) (hij : i + j + 1 ≤ 9999) : Go.V.Call tab E 26 [.agg (numR a), .agg (numR b)] [] (.agg (numR (a + b))) [] := by
  refine Go.V.Call.mach i26 c26 rfl rfl rfl rfl ?_
  have hi := ha.pos
  have hj := hb.pos
  obtain ⟨hn, hd⟩ := add_num_lt ha hb
  have n1 := decL_two ha.1 hi
  have n2 := decL_two ha.2 hi
  have n3 := decL_two hb.1 hj
  have n4 := decL_two hb.2 hj
  have m1 : (decL (a.num * b.den).natAbs).length ≤ i + j := decL_two (by rw [Int.natAbs_mul, Int.natAbs_natCast]; exact lt_mul_pow ha.1 hb.2) (by omega)
  have m2 : (decL (b.num * a.den).natAbs).length ≤ j + i := decL_two (by rw [Int.natAbs_mul, Int.natAbs_natCast]; exact lt_mul_pow hb.1 ha.2) (by omega)
  have m3 := decL_two hd (by omega)
  have m4 : (decL ((a.num * b.den).natAbs + (b.num * a.den).natAbs)).length ≤ i + j + 1 := by
    refine decL_two ?_ (by omega)
    have e1 : (a.num * b.den).natAbs < 2 ^ (i + j) := by rw [Int.natAbs_mul, Int.natAbs_natCast]; exact lt_mul_pow ha.1 hb.2
    have e2 : (b.num * a.den).natAbs < 2 ^ (i + j) := by rw [Int.natAbs_mul, Int.natAbs_natCast, Nat.add_comm]; exact lt_mul_pow hb.1 ha.2
    rw [Nat.pow_succ]
    omega
  have m5 := decL_two hn (by omega)
  have ta := c51_R (E := E) (r := a) (by omega)
  have tb := c51_R (E := E) (r := b) (by omega)
  have ba := c52_ok (E := E) (r := a) (by omega)
  have bb := c52_ok (E := E) (r := b) (by omega)
  have p1 := c50_ok (E := E) (a := a.num) (b := (b.den : Int)) (by omega) (by rw [natAbs_den]; omega) (by omega)
  have p2 := c50_ok (E := E) (a := b.num) (b := (a.den : Int)) (by omega) (by rw [natAbs_den]; omega) (by omega)
  have p3 := c50_ok (E := E) (a := (a.den : Int)) (b := (b.den : Int)) (by rw [natAbs_den]; omega) (by rw [natAbs_den]; omega) (by omega)
  have s := c49_ok (E := E) (x := a.num * b.den) (y := b.num * a.den) (by omega) (by omega) (by omega)
  have h48 := c48_ok (E := E) (a := a.num * b.den + b.num * a.den) (b := (a.den : Int) * b.den) (m := i + j) den_mul_ne (by omega) hd (by omega) (by omega)
  rw [add_divInt] at h48
  generalize a.num * (b.den : Int) = A1 at *
  generalize b.num * (a.den : Int) = A2 at *
  generalize (a.den : Int) * (b.den : Int) = A3 at *
  simp only [numR, numG, wdI, wdC] at ta tb ba bb p1 p2 p3 s h48
  clear hn hd n1 n2 n3 n4 m1 m2 m3 m4 m5
  simp only [c26, numR, numG, go_sem, ↓reduceIte, Nat.reduceEqDiff, Nat.reduceAdd, Nat.reduceMul, Nat.reduceLeDiff, Nat.reduceLT, Int.reduceToNat, Int.reduceLT, Int.reduceLE, reduceCtorEq, Nat.reduceBEq, fillAll, fillIn, shiftR, shiftV, List.take_succ_cons, List.take_zero, List.drop_succ_cons, List.drop_zero, List.append_nil, Nat.zero_add, subT3]
  refine goP ta ?_
  simp only [go_sem, ↓reduceIte, Nat.reduceEqDiff, Nat.reduceAdd, Nat.reduceMul, Nat.reduceLeDiff, Nat.reduceLT, Int.reduceToNat, Int.reduceLT, Int.reduceLE, reduceCtorEq, Nat.reduceBEq, fillAll, fillIn, shiftR, shiftV, List.take_succ_cons, List.take_zero, List.drop_succ_cons, List.drop_zero, List.append_nil, Nat.zero_add, subT3]
  refine goP bb ?_
  simp only [go_sem, ↓reduceIte, Nat.reduceEqDiff, Nat.reduceAdd, Nat.reduceMul, Nat.reduceLeDiff, Nat.reduceLT, Int.reduceToNat, Int.reduceLT, Int.reduceLE, reduceCtorEq, Nat.reduceBEq, fillAll, fillIn, shiftR, shiftV, List.take_succ_cons, List.take_zero, List.drop_succ_cons, List.drop_zero, List.append_nil, Nat.zero_add, subT3]
  refine goP p1 ?_
  simp only [go_sem, ↓reduceIte, Nat.reduceEqDiff, Nat.reduceAdd, Nat.reduceMul, Nat.reduceLeDiff, Nat.reduceLT, Int.reduceToNat, Int.reduceLT, Int.reduceLE, reduceCtorEq, Nat.reduceBEq, fillAll, fillIn, shiftR, shiftV, List.take_succ_cons, List.take_zero, List.drop_succ_cons, List.drop_zero, List.append_nil, Nat.zero_add, subT3]
  refine goP tb ?_
  simp only [go_sem, ↓reduceIte, Nat.reduceEqDiff, Nat.reduceAdd, Nat.reduceMul, Nat.reduceLeDiff, Nat.reduceLT, Int.reduceToNat, Int.reduceLT, Int.reduceLE, reduceCtorEq, Nat.reduceBEq, fillAll, fillIn, shiftR, shiftV, List.take_succ_cons, List.take_zero, List.drop_succ_cons, List.drop_zero, List.append_nil, Nat.zero_add, subT3]
  refine goP ba ?_
  simp only [go_sem, ↓reduceIte, Nat.reduceEqDiff, Nat.reduceAdd, Nat.reduceMul, Nat.reduceLeDiff, Nat.reduceLT, Int.reduceToNat, Int.reduceLT, Int.reduceLE, reduceCtorEq, Nat.reduceBEq, fillAll, fillIn, shiftR, shiftV, List.take_succ_cons, List.take_zero, List.drop_succ_cons, List.drop_zero, List.append_nil, Nat.zero_add, subT3]
  refine goP p2 ?_
  simp only [go_sem, ↓reduceIte, Nat.reduceEqDiff, Nat.reduceAdd, Nat.reduceMul, Nat.reduceLeDiff, Nat.reduceLT, Int.reduceToNat, Int.reduceLT, Int.reduceLE, reduceCtorEq, Nat.reduceBEq, fillAll, fillIn, shiftR, shiftV, List.take_succ_cons, List.take_zero, List.drop_succ_cons, List.drop_zero, List.append_nil, Nat.zero_add, subT3]
  refine goP s ?_
  simp only [go_sem, ↓reduceIte, Nat.reduceEqDiff, Nat.reduceAdd, Nat.reduceMul, Nat.reduceLeDiff, Nat.reduceLT, Int.reduceToNat, Int.reduceLT, Int.reduceLE, reduceCtorEq, Nat.reduceBEq, fillAll, fillIn, shiftR, shiftV, List.take_succ_cons, List.take_zero, List.drop_succ_cons, List.drop_zero, List.append_nil, Nat.zero_add, subT3]
  refine goP ba ?_
  simp only [go_sem, ↓reduceIte, Nat.reduceEqDiff, Nat.reduceAdd, Nat.reduceMul, Nat.reduceLeDiff, Nat.reduceLT, Int.reduceToNat, Int.reduceLT, Int.reduceLE, reduceCtorEq, Nat.reduceBEq, fillAll, fillIn, shiftR, shiftV, List.take_succ_cons, List.take_zero, List.drop_succ_cons, List.drop_zero, List.append_nil, Nat.zero_add, subT3]
  refine goP bb ?_
  simp only [go_sem, ↓reduceIte, Nat.reduceEqDiff, Nat.reduceAdd, Nat.reduceMul, Nat.reduceLeDiff, Nat.reduceLT, Int.reduceToNat, Int.reduceLT, Int.reduceLE, reduceCtorEq, Nat.reduceBEq, fillAll, fillIn, shiftR, shiftV, List.take_succ_cons, List.take_zero, List.drop_succ_cons, List.drop_zero, List.append_nil, Nat.zero_add, subT3]
  refine goP p3 ?_
  simp only [go_sem, ↓reduceIte, Nat.reduceEqDiff, Nat.reduceAdd, Nat.reduceMul, Nat.reduceLeDiff, Nat.reduceLT, Int.reduceToNat, Int.reduceLT, Int.reduceLE, reduceCtorEq, Nat.reduceBEq, fillAll, fillIn, shiftR, shiftV, List.take_succ_cons, List.take_zero, List.drop_succ_cons, List.drop_zero, List.append_nil, Nat.zero_add, subT3]
  refine goP h48 ?_
  simp only [go_sem, ↓reduceIte, Nat.reduceEqDiff, Nat.reduceAdd, Nat.reduceMul, Nat.reduceLeDiff, Nat.reduceLT, Int.reduceToNat, Int.reduceLT, Int.reduceLE, reduceCtorEq, Nat.reduceBEq, fillAll, fillIn, shiftR, shiftV, List.take_succ_cons, List.take_zero, List.drop_succ_cons, List.drop_zero, List.append_nil, Nat.zero_add, subT3]
  simp only [i26, Out, resAll, geto, ints, List.getElem?_cons_zero, List.getElem?_cons_succ, resOf, outOf, snap, snapL, ev, getE, List.mapM_cons, List.mapM_nil, Option.bind_some, Option.pure_def, Option.bind_eq_bind, Option.map_some, reduceIte, Nat.reduceEqDiff, true_and, and_true, subT3, numR, numG]
/-! The program's -/
theorem c39_I {a b : Int} (ha : (limG a.natAbs).length ≤ 1000000) (hb : (limG b.natAbs).length ≤ 1000000) : Go.V.Call tab E 39 [.agg (wI a), .sl 1 2 (wI b)] [] (.agg (wI (a * b))) [] := by
  rw [← wI_mul]
  exact c39_ok ha hb
theorem c40_R {x : Rt} {r : Rat} (h : RV x r) : Go.V.Call tab E 40 [.agg (rtC x)] [] (.agg (wI (r.den : Int))) [] := by
  have h1 := c40_ok (E := E) (n := x.1) (p := x.2.1) (q := x.2.2)
  rw [h.2.2] at h1
  rw [wI, den_neg, natAbs_den]
  exact h1
theorem c38_I {a b : Int} (hb : b ≠ 0) (hla : (limG a.natAbs).length ≤ 1000000) (hlb : (limG b.natAbs).length ≤ 1000000) :
    Go.V.Call tab E 38 [.agg (wI a), .agg (wI b)] [] (.tup [.agg (rtC (rR (Rat.divInt a b))), .bool true]) [] := by
  rw [← rR_divInt hb]
  exact c38_ok (by omega) hla hlb
theorem rtC_top {x : Rt} {r : Rat} (h : RV x r) : rtC x = wI r.num ++ [us32 (limG x.2.2)] := by
  obtain ⟨n, p, q⟩ := x
  obtain ⟨h1, h2, _⟩ := h
  simp only at h1 h2
  subst h1; subst h2
  rfl
set_option maxHeartbeats 1000000 in
theorem c21_ok {x y : Rt} {a b : Rat} {i j : Nat} (hx : RV x a) (hy : RV y b) (ha : Sz i a) (hb : Sz j b) (hij : i + j + 1 ≤ 32000000) : Go.V.Call tab E 21 [.agg (rtC x), .sl 1 3 (rtC y)] [] (.agg (rtC (rR (a + b)))) [] := by
  refine Go.V.Call.mach i21 c21 rfl rfl rfl rfl ?_
  obtain ⟨hn, hd⟩ := add_num_lt ha hb
  have ux := c40_R (E := E) hx
  have uy := c40_R (E := E) hy
  have e1 : (a.num * b.den).natAbs < 2 ^ (i + j) := by rw [Int.natAbs_mul, Int.natAbs_natCast]; exact lt_mul_pow ha.1 hb.2
  have e2 : (b.num * a.den).natAbs < 2 ^ (i + j) := by rw [Int.natAbs_mul, Int.natAbs_natCast, Nat.add_comm]; exact lt_mul_pow hb.1 ha.2
  have l1 := limG_sz ha.1 (by omega)
  have l2 := limG_sz ha.2 (by omega)
  have l3 := limG_sz hb.1 (by omega)
  have l4 := limG_sz hb.2 (by omega)
  have p1 := c39_I (E := E) (a := a.num) (b := (b.den : Int)) l1 (by rw [natAbs_den]; exact l4)
  have p2 := c39_I (E := E) (a := b.num) (b := (a.den : Int)) l3 (by rw [natAbs_den]; exact l2)
  have p3 := c39_I (E := E) (a := (a.den : Int)) (b := (b.den : Int)) (by rw [natAbs_den]; exact l2) (by rw [natAbs_den]; exact l4)
  have s := c41_ok (E := E) (x := a.num * b.den) (y := b.num * a.den) (limG_sz e1 (by omega)) (limG_sz e2 (by omega))
  have h38 := c38_I (E := E) (a := a.num * b.den + b.num * a.den) (b := (a.den : Int) * b.den) den_mul_ne (limG_sz hn (by omega)) (limG_sz hd (by omega))
  rw [add_divInt] at h38
  clear e1 e2 l1 l2 l3 l4 hn hd
  generalize a.num * (b.den : Int) = A1 at *
  generalize b.num * (a.den : Int) = A2 at *
  generalize (a.den : Int) * (b.den : Int) = A3 at *
  have tx := rtC_top hx
  have ty := rtC_top hy
  generalize rR (a + b) = z at *
  rw [tx] at ux
  rw [ty] at uy
  simp only [wI, whC, us32, List.cons_append, List.nil_append] at ux uy p1 p2 p3 s
  simp only [rtC, ratG, us32, wI, whC] at h38
  simp only [c21, tx, ty, rtC, ratG, wI, whC, us32, go_sem, ↓reduceIte, Nat.reduceEqDiff, Nat.reduceAdd, Nat.reduceMul, Nat.reduceLeDiff, Nat.reduceLT, Int.reduceToNat, Int.reduceLT, Int.reduceLE, reduceCtorEq, Nat.reduceBEq, fillAll, fillIn, shiftR, shiftV, List.take_succ_cons, List.take_zero, List.drop_succ_cons, List.drop_zero, List.append_nil, Nat.zero_add, subT3]
  refine mLoop (fun N st => ∃ (k : Nat) (cs : List AV), (k = 0 ∧ cs = rtC x ∨ k = 1 ∧ cs = rtC z) ∧ N = 1 - k ∧
    st = ⟨[(2, .loc 0 0 0), (4, .loc 3 0 0), (7, .sl 1 3 (rtC y)), (8, .int .i64 1), (9, .int .i64 k)], [⟨true, 62, 3, 0, 1, cs, false⟩, ⟨false, 107, 1, 0, 0, [], false⟩, ⟨false, 107, 1, 0, 0, [], false⟩, ⟨true, 62, 3, 0, 1, [.arr 1 0, .bool false, .arr 2 0], false⟩]⟩) 1
    ⟨_, rfl, 0, rtC x, .inl ⟨rfl, rfl⟩, by omega, by simp [getE, tx, ty, wI, whC, us32, hx.1, hx.2.1, hy.1, hy.2.1]⟩ ?_
  rintro N s0 ⟨k, cs, hiv, rfl, rfl⟩
  rcases hiv with ⟨rfl, rfl⟩ | ⟨rfl, rfl⟩
  · have hs2 : sub true 3 (rtC y) (0 * 3) = some (.agg (rtC y)) := rfl
    have hs2' : sub true 3 (rtC y) 0 = some (.agg (rtC y)) := rfl
    have w1 : IntKind.i64.wrap (0 + 1) = 1 := by decide
    have h01 : (0 : Int) < ((1 : Nat) : Int) := by omega
    rw [ty] at hs2 hs2'
    simp only [wI, whC, us32, List.cons_append, List.nil_append] at hs2 hs2'
    simp only [b21_0, tx, ty, wI, whC, us32, go_sem, ↓reduceIte, Nat.reduceEqDiff, Nat.reduceAdd, Nat.reduceMul, Nat.reduceLeDiff, Nat.reduceLT, Int.reduceToNat, Int.reduceLT, Int.reduceLE, reduceCtorEq, Nat.reduceBEq, fillAll, fillIn, shiftR, shiftV, List.take_succ_cons, List.take_zero, List.drop_succ_cons, List.drop_zero, List.append_nil, Nat.zero_add, subT3, subT2, h01, hs2, hs2']
    refine goF uy ?_
    simp only [us32, go_sem, ↓reduceIte, Nat.reduceEqDiff, Nat.reduceAdd, Nat.reduceMul, Nat.reduceLeDiff, Nat.reduceLT, Int.reduceToNat, Int.reduceLT, Int.reduceLE, reduceCtorEq, Nat.reduceBEq, fillAll, fillIn, shiftR, shiftV, List.take_succ_cons, List.take_zero, List.drop_succ_cons, List.drop_zero, List.append_nil, Nat.zero_add, subT3, subT2, List.flatten_cons, List.flatten_nil, Option.getD_some]
    refine goF p1 ?_
    simp only [us32, go_sem, ↓reduceIte, Nat.reduceEqDiff, Nat.reduceAdd, Nat.reduceMul, Nat.reduceLeDiff, Nat.reduceLT, Int.reduceToNat, Int.reduceLT, Int.reduceLE, reduceCtorEq, Nat.reduceBEq, fillAll, fillIn, shiftR, shiftV, List.take_succ_cons, List.take_zero, List.drop_succ_cons, List.drop_zero, List.append_nil, Nat.zero_add, subT3, subT2]
    refine goP ux ?_
    simp only [us32, go_sem, ↓reduceIte, Nat.reduceEqDiff, Nat.reduceAdd, Nat.reduceMul, Nat.reduceLeDiff, Nat.reduceLT, Int.reduceToNat, Int.reduceLT, Int.reduceLE, reduceCtorEq, Nat.reduceBEq, fillAll, fillIn, shiftR, shiftV, List.take_succ_cons, List.take_zero, List.drop_succ_cons, List.drop_zero, List.append_nil, Nat.zero_add, subT3, subT2, List.flatten_cons, List.flatten_nil, Option.getD_some]
    refine goF p2 ?_
    simp only [us32, go_sem, ↓reduceIte, Nat.reduceEqDiff, Nat.reduceAdd, Nat.reduceMul, Nat.reduceLeDiff, Nat.reduceLT, Int.reduceToNat, Int.reduceLT, Int.reduceLE, reduceCtorEq, Nat.reduceBEq, fillAll, fillIn, shiftR, shiftV, List.take_succ_cons, List.take_zero, List.drop_succ_cons, List.drop_zero, List.append_nil, Nat.zero_add, subT3, subT2, List.flatten_cons, List.flatten_nil, Option.getD_some]
    refine goF s ?_
    simp only [us32, go_sem, ↓reduceIte, Nat.reduceEqDiff, Nat.reduceAdd, Nat.reduceMul, Nat.reduceLeDiff, Nat.reduceLT, Int.reduceToNat, Int.reduceLT, Int.reduceLE, reduceCtorEq, Nat.reduceBEq, fillAll, fillIn, shiftR, shiftV, List.take_succ_cons, List.take_zero, List.drop_succ_cons, List.drop_zero, List.append_nil, Nat.zero_add, subT3, subT2]
    refine goP ux ?_
    simp only [us32, go_sem, ↓reduceIte, Nat.reduceEqDiff, Nat.reduceAdd, Nat.reduceMul, Nat.reduceLeDiff, Nat.reduceLT, Int.reduceToNat, Int.reduceLT, Int.reduceLE, reduceCtorEq, Nat.reduceBEq, fillAll, fillIn, shiftR, shiftV, List.take_succ_cons, List.take_zero, List.drop_succ_cons, List.drop_zero, List.append_nil, Nat.zero_add, subT3, subT2]
    refine goF uy ?_
    simp only [us32, go_sem, ↓reduceIte, Nat.reduceEqDiff, Nat.reduceAdd, Nat.reduceMul, Nat.reduceLeDiff, Nat.reduceLT, Int.reduceToNat, Int.reduceLT, Int.reduceLE, reduceCtorEq, Nat.reduceBEq, fillAll, fillIn, shiftR, shiftV, List.take_succ_cons, List.take_zero, List.drop_succ_cons, List.drop_zero, List.append_nil, Nat.zero_add, subT3, subT2, List.flatten_cons, List.flatten_nil, Option.getD_some]
    refine goF p3 ?_
    simp only [us32, go_sem, ↓reduceIte, Nat.reduceEqDiff, Nat.reduceAdd, Nat.reduceMul, Nat.reduceLeDiff, Nat.reduceLT, Int.reduceToNat, Int.reduceLT, Int.reduceLE, reduceCtorEq, Nat.reduceBEq, fillAll, fillIn, shiftR, shiftV, List.take_succ_cons, List.take_zero, List.drop_succ_cons, List.drop_zero, List.append_nil, Nat.zero_add, subT3, subT2]
    refine goP h38 ?_
    simp only [us32, go_sem, ↓reduceIte, Nat.reduceEqDiff, Nat.reduceAdd, Nat.reduceMul, Nat.reduceLeDiff, Nat.reduceLT, Int.reduceToNat, Int.reduceLT, Int.reduceLE, reduceCtorEq, Nat.reduceBEq, fillAll, fillIn, shiftR, shiftV, List.take_succ_cons, List.take_zero, List.drop_succ_cons, List.drop_zero, List.append_nil, Nat.zero_add, subT3, subT2, w1]
    exact loopQ_go rfl 0 (by omega) ⟨1, _, .inr ⟨rfl, rfl⟩, by omega, by simp only [ty, wI, whC, us32, rtC, ratG, List.cons_append, List.nil_append]; rfl⟩
  · have g : ¬ ((1 : Nat) : Int) < 1 := by omega
    simp only [b21_0, k21_0, rtC, ratG, us32, go_sem, ↓reduceIte, Nat.reduceEqDiff, Nat.reduceAdd, Nat.reduceMul, Nat.reduceLeDiff, Nat.reduceLT, Int.reduceToNat, Int.reduceLT, Int.reduceLE, reduceCtorEq, Nat.reduceBEq, fillAll, fillIn, shiftR, shiftV, List.take_succ_cons, List.take_zero, List.drop_succ_cons, List.drop_zero, List.append_nil, Nat.zero_add, subT3, Int.lt_irrefl, g]
    simp only [i21, Out, resAll, geto, ints, List.getElem?_cons_zero, List.getElem?_cons_succ, resOf, outOf, snap, snapL, ev, getE, List.mapM_cons, List.mapM_nil, Option.bind_some, Option.pure_def, Option.bind_eq_bind, Option.map_some, reduceIte, Nat.reduceEqDiff, true_and, and_true, subT3, rtC, ratG, us32]
end
end Go.Proofs.YtcmbaabkfihdmaaGreat.I

/- SEAT YtcmbaabkfihdmaaGreat. Layer 17: rolls: whole numbers added, what is light, what is shown, the next number of a source that lies behind one object. -/
set_option linter.unusedVariables false
set_option linter.unusedSimpArgs false
namespace Go.Proofs.YtcmbaabkfihdmaaGreat.I
open Go Go.V
attribute [local go_sem] mNil nat0 beq_self_eq_true mSkip mRet mExit mReg mSeq mCond mTrue mFalse mBlock mLv mCodeE mCodeR mEndN mEndR mEndE mOps mSome mGuard mGtt mGff mGtf mGft mGu mCallP mCallR mCallF mCallO mCallZ mCallG mCallM mCallV loopQ_exit loopQ_ret mO_mov mO_newnil mO_pick mO_alloc mO_box mO_build mO_bsl mO_bslF mO_ldf mO_ld mO_st mO_sta mO_nilchk mO_bin mO_binb mO_binp mO_bins mO_neg mO_com mO_not mO_conv mO_mk mO_mk0 mO_s2b mO_b2s mO_cpy mO_cut mO_faddr mO_fld mO_iaddr mO_iaddrf mO_sidx mO_len mO_lenf mO_slen mO_scut mO_app mO_ext mO_mx mO_mn mO_mkfn evalOp cutOp argsE ev getE putE cellsOf adopt rowOf binV boolV nilV ar_add ar_sub ar_mul ar_quo ar_rem ar_eq ar_ne ar_lt ar_le ar_gt ar_ge ar_and ar_or ar_xor geto bound finRet finNrm ints List.length_cons List.length_nil List.length_append List.getElem?_cons_zero List.getElem?_cons_succ List.nil_append List.cons_append List.map_cons List.map_nil List.mapM_cons List.mapM_nil Option.map_some Option.map_none Option.bind_some Option.pure_def Option.bind_eq_bind List.drop_zero or_self or_false false_or or_true true_or true_and and_true and_self decide_true decide_false Bool.false_eq_true Bool.true_eq_false Bool.not_true Bool.not_false Nat.le_refl eq_self gt_iff_lt ge_iff_le ne_eq not_true_eq_false not_false_eq_true storeOp apartOf freeze_nil refsL refs List.flatMap_cons List.flatMap_nil List.append_nil List.contains_nil List.set_cons_zero List.set_cons_succ snap snapL fill_nums flat_nums nums_length Go.V.freeze List.mapIdx_cons List.mapIdx_nil List.contains_cons Bool.or_false Bool.false_or Bool.or_true Bool.true_or
theorem ratC_rR {z : Int} (hz : In64 z) : ratC z = rtC (rR (z : Rat)) := by
  obtain ⟨h1, h2⟩ := hz
  rw [ratC, lim_limG (by omega)]
  show _ = [us32 (limG ((z : Rat).num).natAbs), AV.bool (decide ((z : Rat).num < 0)), us32 (limG (z : Rat).den)]
  rw [Rat.num_intCast, Rat.den_intCast, limG_one (d := 1) (by omega) (by omega)]
  rfl
theorem numC_numR {z : Int} : numC z = numR (z : Rat) := by
  rw [numR, Rat.num_intCast, Rat.den_intCast, numC, numG]
  rw [dec_eq (n := 1), decL_digit (d := 1) (by omega)]
  rfl
theorem Sz64 {z : Int} (hz : In64 z) : Sz 64 (z : Rat) := by
  obtain ⟨h1, h2⟩ := hz
  refine ⟨?_, ?_⟩
  · rw [Rat.num_intCast]
    exact Nat.lt_of_le_of_lt (show z.natAbs ≤ 9223372036854775808 by omega) (by decide)
  · rw [Rat.den_intCast]; decide
theorem c21_int {a b : Int} (ha : In64 a) (hb : In64 b) (hab : In64 (a + b)) : Go.V.Call tab E 21 [.agg (ratC a), .sl 1 3 (ratC b)] [] (.agg (ratC (a + b))) [] := by
  rw [ratC_rR ha, ratC_rR hb, ratC_rR hab, Rat.intCast_add]
  exact c21_ok RV.self RV.self (Sz64 ha) (Sz64 hb) (by omega)
theorem c26_int {a b : Int} (ha : In64 a) (hb : In64 b) : Go.V.Call tab E 26 [.agg (numC a), .agg (numC b)] [] (.agg (numC (a + b))) [] := by
  rw [numC_numR, numC_numR, numC_numR, Rat.intCast_add]
  exact c26_ok (Sz64 ha) (Sz64 hb) (by omega)
theorem c4_ok {s t : List Int} {l : List Nm} {ch ok : Bool} (hs : ∀ d ∈ s, In64 d) (hu : ∀ x ∈ l, U8 x.2.1 ∧ U8 x.2.2) (hok : ok = true ↔ LightP s ch t l 200) : Go.V.Call tab E 4 [.agg (plX s ch t l)] [] (.bool ok) [] := by
  refine Go.V.Call.mach i4 c4 rfl rfl rfl rfl ?_
  have h := c15_ok (s := s) (t := t) (l := l) (ch := ch) (ok := ok) (most := 200) (by omega) hs hu hok
  simp only [plX, runes, ints] at h
  simp only [c4, plX, runes, ints, go_sem, ↓reduceIte, Nat.reduceEqDiff, Nat.reduceAdd, Nat.reduceMul, Nat.reduceLeDiff, Nat.reduceLT, Int.reduceToNat, Int.reduceLT, Int.reduceLE, reduceCtorEq, Nat.reduceBEq, fillAll, fillIn, shiftR, shiftV, List.take_succ_cons, List.take_zero, List.drop_succ_cons, List.drop_zero, List.append_nil, Nat.zero_add, subP4]
  refine goP h ?_
  simp only [go_sem, ↓reduceIte, Nat.reduceEqDiff, Nat.reduceAdd, Nat.reduceMul, Nat.reduceLeDiff, Nat.reduceLT, Int.reduceToNat, Int.reduceLT, Int.reduceLE, reduceCtorEq, Nat.reduceBEq]
  simp only [i4, Out, resAll, geto, ints, List.getElem?_cons_zero, List.getElem?_cons_succ, resOf, outOf, snap, snapL, ev, getE, List.mapM_cons, List.mapM_nil, Option.bind_some, Option.pure_def, Option.bind_eq_bind, Option.map_some, reduceIte, Nat.reduceEqDiff, true_and, and_true]
theorem c13_yes {s l : List Int} (hs : (s.length : Int) ≤ 1000000000) (hl : (l.length : Int) ≤ 1000000000) (hz : ∀ z ∈ l, In64 z) :
    Go.V.Call tab E 13 [.agg (arrG s false [] l), .int .i64 0, .agg (plG s false [] l), .int .i64 0] [] (.bool true) [] := by
  refine Go.V.Call.mach i13 c13 rfl rfl rfl rfl ?_
  have h30 := c30_ok (s := s) (t := []) (l := l) (ch := false) (by omega) (by simp) (by omega) hz
  have h29 := c29_ok (E := E) (s := s) (t := []) (l := l) (ch := false) (by omega) (by simp) (by omega)
  simp only [plG, arrG, runes, ints] at h30 h29
  simp only [c13, plG, arrG, runes, ints, go_sem, ↓reduceIte, Nat.reduceEqDiff, Nat.reduceAdd, Nat.reduceMul, Nat.reduceLeDiff, Nat.reduceLT, Int.reduceToNat, Int.reduceLT, Int.reduceLE, reduceCtorEq, Nat.reduceBEq, fillAll, fillIn, shiftR, shiftV, List.take_succ_cons, List.take_zero, List.drop_succ_cons, List.drop_zero, List.append_nil, Nat.zero_add, subA5, subP4, bne_self_eq_false]
  refine goP h30 ?_
  simp only [go_sem, ↓reduceIte, Nat.reduceEqDiff, Nat.reduceAdd, Nat.reduceMul, Nat.reduceLeDiff, Nat.reduceLT, Int.reduceToNat, Int.reduceLT, Int.reduceLE, reduceCtorEq, Nat.reduceBEq, fillAll, fillIn, shiftR, shiftV, List.take_succ_cons, List.take_zero, List.drop_succ_cons, List.drop_zero, List.append_nil, Nat.zero_add, subA5, subP4]
  refine goP h29 ?_
  simp only [go_sem, ↓reduceIte, Nat.reduceEqDiff, Nat.reduceAdd, Nat.reduceMul, Nat.reduceLeDiff, Nat.reduceLT, Int.reduceToNat, Int.reduceLT, Int.reduceLE, reduceCtorEq, Nat.reduceBEq]
  simp only [i13, Out, resAll, geto, ints, List.getElem?_cons_zero, List.getElem?_cons_succ, resOf, outOf, snap, snapL, ev, getE, List.mapM_cons, List.mapM_nil, Option.bind_some, Option.pure_def, Option.bind_eq_bind, Option.map_some, reduceIte, Nat.reduceEqDiff, true_and, and_true]
theorem c13_err {e : Int} (he : e ≠ 0) : Go.V.Call tab E 13 [.agg noA, .int .i64 e, .agg (plX [] false [] []), .int .i64 e] [] (.bool true) [] := by
  refine Go.V.Call.mach i13 c13 rfl rfl rfl rfl ?_
  have h28 := c28_no (E := E)
  have hne : (e != 0) = true := by rw [bne_iff_ne]; exact he
  simp only [noA] at h28
  simp only [c13, plX, noA, runes, ints, nums, nmsC, List.flatMap_nil, go_sem, ↓reduceIte, Nat.reduceEqDiff, Nat.reduceAdd, Nat.reduceMul, Nat.reduceLeDiff, Nat.reduceLT, Int.reduceToNat, Int.reduceLT, Int.reduceLE, reduceCtorEq, Nat.reduceBEq, fillAll, fillIn, shiftR, shiftV, List.take_succ_cons, List.take_zero, List.drop_succ_cons, List.drop_zero, List.append_nil, Nat.zero_add, subA5, subP4, bne_self_eq_false, hne]
  refine goP h28 ?_
  simp only [go_sem, ↓reduceIte, Nat.reduceEqDiff, Nat.reduceAdd, Nat.reduceMul, Nat.reduceLeDiff, Nat.reduceLT, Int.reduceToNat, Int.reduceLT, Int.reduceLE, reduceCtorEq, Nat.reduceBEq, beq_self_eq_true]
  simp only [i13, Out, resAll, geto, ints, List.getElem?_cons_zero, List.getElem?_cons_succ, resOf, outOf, snap, snapL, ev, getE, List.mapM_cons, List.mapM_nil, Option.bind_some, Option.pure_def, Option.bind_eq_bind, Option.map_some, reduceIte, Nat.reduceEqDiff, true_and, and_true]
/-- A source behind one object. -/
def srcB1 (i : Nat) : AObj := ⟨true, 53, 2, 0, 1, [.arr 1 0, .int .i64 i], false⟩
theorem subBq {i : Nat} : sub false 1 [.arr 1 0, .int .i64 i] 1 = some (.int .i64 i) := rfl
theorem subBq0 {i : Nat} : sub false 1 [.arr 1 0, .int .i64 i] 0 = some (.arr 1 0) := rfl
theorem fillBq {i : Nat} {v : Int} : fillIn [.arr 1 0, .int .i64 i] 1 [.int .i64 v] = [.arr 1 0, .int .i64 v] := rfl
theorem c7_next {l : List Int} {i : Nat} {B : AObj} {M : List AObj} (hi : i < 1000000000000) : Go.V.Call tab E 7 [.loc 2 0 0] (B :: srcR l :: srcB1 i :: M) (.int .u64 (l.getD i 0)) (B :: srcR l :: srcB1 (i + 1) :: M) := by
  refine Go.V.Call.mach i7 c7 rfl rfl rfl rfl ?_
  have hi1 : IntKind.i64.wrap ((i : Int) + 1) = ((i + 1 : Nat) : Int) := by rw [wrap_i64 (by omega) (by omega)]; omega
  have hi2 : IntKind.i64.wrap (((i + 1 : Nat) : Int) - 1) = (i : Int) := by rw [wrap_i64 (by omega) (by omega)]; omega
  have hi0 : (0 : Int) ≤ (i : Int) := by omega
  by_cases hlt : (l.length : Int) < ((i + 1 : Nat) : Int)
  · have hd : l.getD i 0 = 0 := by simp only [List.getD]; rw [List.getElem?_eq_none (by omega)]; rfl
    simp only [c7, go_sem, ↓reduceIte, Nat.reduceEqDiff, Nat.reduceAdd, Nat.reduceMul, Nat.reduceLeDiff, Nat.reduceLT, Int.reduceToNat, Int.reduceLT, Int.reduceLE, reduceCtorEq, Nat.reduceBEq, srcR, srcB1, nilArg, subBq, subBq0, fillBq, hi1, Nat.zero_add, hlt]
    simp only [i7, Out, resAll, geto, ints, List.getElem?_cons_zero, List.getElem?_cons_succ, resOf, outOf, snap, snapL, ev, getE, List.mapM_cons, List.mapM_nil, Option.bind_some, Option.pure_def, Option.bind_eq_bind, Option.map_some, reduceIte, Nat.reduceEqDiff, true_and, and_true, hd]
  · have hlt' : i < l.length := by omega
    have hlt2 : (i : Int) < (l.length : Int) := by omega
    have hsub := sub_nums (k := .u64) hlt'
    simp only [c7, go_sem, ↓reduceIte, Nat.reduceEqDiff, Nat.reduceAdd, Nat.reduceMul, Nat.reduceLeDiff, Nat.reduceLT, Int.reduceToNat, Int.reduceLT, Int.reduceLE, reduceCtorEq, Nat.reduceBEq, srcR, srcB1, nilArg, subBq, subBq0, fillBq, hi1, hi2, Nat.zero_add, hlt, hi0, hlt2, Int.toNat_natCast, hsub]
    simp only [i7, Out, resAll, geto, ints, List.getElem?_cons_zero, List.getElem?_cons_succ, resOf, outOf, snap, snapL, ev, getE, List.mapM_cons, List.mapM_nil, Option.bind_some, Option.pure_def, Option.bind_eq_bind, Option.map_some, reduceIte, Nat.reduceEqDiff, true_and, and_true]
end Go.Proofs.YtcmbaabkfihdmaaGreat.I
