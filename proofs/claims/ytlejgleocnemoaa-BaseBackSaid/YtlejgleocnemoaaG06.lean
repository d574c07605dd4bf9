/- The texts L06i L06j L06k L06l L06a L06m L07c L07d L07h L07g L07i L07j L07k L07n L06n L01r L03c L06o LRat L02a L02b L02c L16a L16b L08a L08b L07l L07m L07o L07p L16c L16d, one behind the other. Conditions: each text's own. -/
import Derived.Test.YtlejgleocnemoaaG05
import Derived.Test.YtlejgleocnemoaaG04
import Derived.WalkKit
set_option linter.unusedSimpArgs false
set_option linter.unusedVariables false
namespace Go.Proofs.Ytlejgleocnemoaa.I
open Go Go.V
attribute [local go_sem_proc ↓] reduceIte
attribute [local go_sem_proc] Nat.reduceEqDiff Nat.reduceAdd Nat.reduceMul Nat.reduceLeDiff Nat.reduceLT Int.reduceToNat Int.reduceLT Int.reduceLE reduceCtorEq Nat.reduceBEq
attribute [local go_sem] mNil nat0 beq_self_eq_true mSkip mRet mExit mReg mSeq mCond mTrue mFalse mBlock mLv mCodeE mCodeR mEndN mEndR mEndE mOps mSome mGuard mGtt mGff mGtf mGft mGu mCallP mCallR mCallF mCallO mCallZ mCallG mCallM mCallV loopQ_exit loopQ_ret mO_mov mO_newnil mO_pick mO_alloc mO_box mO_build mO_bsl mO_bslF mO_newnilB mO_bslB mO_lenB mO_appB mO_allocA mO_bslA mO_appA mO_ldb mO_faddrb mRsv mO_ldf mO_ld mO_st mO_sta mO_nilchk mO_bin mO_binb mO_binp mO_bins mO_neg mO_com mO_not mO_conv mO_mk mO_mk0 mO_s2b mO_b2s mO_cpy mO_cut mO_faddr mO_fld mO_iaddr mO_iaddrf mO_sidx mO_len mO_lenf mO_slen mO_scut mO_app mO_ext mO_mx mO_mn mO_mkfn evalOp cutOp argsE ev getE putE cellsOf adopt rowOf binV boolV nilV ar_add ar_sub ar_mul ar_quo ar_rem ar_eq ar_ne ar_lt ar_le ar_gt ar_ge ar_and ar_or ar_xor geto bound finRet finNrm ints List.length_cons List.length_nil List.length_append List.getElem?_cons_zero List.getElem?_cons_succ List.nil_append List.cons_append List.map_cons List.map_nil List.mapM_cons List.mapM_nil Option.map_some Option.map_none Option.bind_some Option.pure_def Option.bind_eq_bind List.drop_zero or_self or_false false_or or_true true_or true_and and_true and_self decide_true decide_false Bool.false_eq_true Bool.true_eq_false Bool.not_true Bool.not_false Nat.le_refl eq_self gt_iff_lt ge_iff_le ne_eq not_true_eq_false not_false_eq_true storeOp apartOf freeze_nil refsL refs List.flatMap_cons List.flatMap_nil List.append_nil List.contains_nil List.set_cons_zero List.set_cons_succ snap snapL fill_nums flat_nums nums_length Go.V.freeze List.mapIdx_cons List.mapIdx_nil List.contains_cons Bool.or_false Bool.false_or Bool.or_true Bool.true_or
def NmU (x : Nm) : Prop := U8 x.2.1 ∧ U8 x.2.2 ∧ x.2.1.length ≤ 1000000000 ∧ x.2.2.length ≤ 1000000000
theorem num_ne {x y : Nm} (hx : NmU x) (hy : NmU y) : structV .ne [0, 2, 2] (.agg (nmC x)) (.agg (nmC y)) = some (.bool (!decide (x = y))) := by
  have h := num_same (n := x.1) (m := y.1) hx.1 hx.2.1 hy.1 hy.2.1
  have h1 : (nmC x).map kindOf = [0, 2, 2] := rfl
  have h2 : (nmC y).map kindOf = [0, 2, 2] := rfl
  have h3 : ([AV.bool x.1, AV.str (bs x.2.1), AV.str (bs x.2.2)]).map kindOf = [0, 2, 2] := rfl
  have h4 : ([AV.bool y.1, AV.str (bs y.2.1), AV.str (bs y.2.2)]).map kindOf = [0, 2, 2] := rfl
  simp only [structV, h3, h4, and_self, if_true] at h
  simp only [structV, h1, h2, and_self, if_true, nmC]
  have hd : decide (x.1 = y.1 ∧ x.2.1 = y.2.1 ∧ x.2.2 = y.2.2) = decide (x = y) := by
    congr 1
    obtain ⟨a, b, c⟩ := x
    obtain ⟨a', b', c'⟩ := y
    simp only [Prod.mk.injEq]
  rw [hd] at h
  cases hs : scalarsEq [AV.bool x.1, AV.str (bs x.2.1), AV.str (bs x.2.2)] [AV.bool y.1, AV.str (bs y.2.1), AV.str (bs y.2.2)] with
  | none => rw [hs] at h; cases h
  | some r =>
    rw [hs] at h
    simp only [Option.bind_some, Option.some.injEq, AV.bool.injEq] at h
    subst h
    rfl
theorem subP4b {a b c d : AV} : sub false 1 [a, b, c, d] 1 = some b := rfl
theorem subP4c {a b c d : AV} : sub false 1 [a, b, c, d] 2 = some c := rfl
theorem subP4a {a b c d : AV} : sub false 1 [a, b, c, d] 0 = some a := rfl
theorem c33_gen {s s' t t' : List Int} {l l' : List Nm} {ch ch' : Bool} (hs : (s.length : Int) ≤ 1000000000000) (ht : (t.length : Int) ≤ 1000000000000) (hl : (l.length : Int) ≤ 1000000000000)
    (hs' : (s'.length : Int) ≤ 1000000000000) (ht' : (t'.length : Int) ≤ 1000000000000) (hl' : (l'.length : Int) ≤ 1000000000000) (hu : ∀ x ∈ l, NmU x) (hu' : ∀ x ∈ l', NmU x) :
    Go.V.Call tab E 33 [.agg (plX s ch t l), .agg (plX s' ch' t' l')] [] (.bool (decide (ch = ch' ∧ s = s' ∧ t = t' ∧ l = l'))) [] := by
  refine Go.V.Call.mach i33 c33 rfl rfl rfl rfl ?_
  have hb : (ch == ch') = decide (ch = ch') := by cases ch <;> cases ch' <;> rfl
  have h23 := c85_ok (E := E) (s := s) (t := s') (by omega) (by omega)
  have h75 := c86_gen ht ht'
  simp only [ints, runes] at h23 h75
  by_cases e1 : ch = ch'
  · rw [decide_eq_true e1] at hb
    by_cases e2 : s = s'
    · rw [decide_eq_true e2] at h23
      by_cases e3 : t = t'
      · rw [decide_eq_true e3] at h75
        by_cases e4 : l.length = l'.length
        · have q4 : ((l.length : Int) != (l'.length : Int)) = false := by rw [bne_eq_false_iff_eq]; omega
          simp only [c33, plX, runes, ints, go_sem, subP4a, subP4b, subP4c, subP3, subP3', fillAll, fillIn, shiftR, shiftV, List.take_succ_cons, List.take_zero, List.drop_succ_cons, List.drop_zero, List.append_nil, Nat.zero_add, hb]
          refine goP h23 ?_
          simp only [go_sem, subP4a, subP4b, subP4c, subP3, subP3', fillAll, fillIn, shiftR, shiftV, List.take_succ_cons, List.take_zero, List.drop_succ_cons, List.drop_zero, List.append_nil, Nat.zero_add]
          refine goP h75 ?_
          simp only [go_sem, subP4a, subP4b, subP4c, subP3, subP3', fillAll, fillIn, shiftR, shiftV, List.take_succ_cons, List.take_zero, List.drop_succ_cons, List.drop_zero, List.append_nil, Nat.zero_add, q4]
          refine mLoop (fun N st => ∃ (k : Nat), k ≤ l.length ∧ N = l.length - k ∧ l.take k = l'.take k ∧
            st = ⟨[(2, .loc 0 0 0), (3, .loc 1 0 0), (5, .int .i64 k)], [⟨true, 37, 4, 0, 1, plX s ch t l, false⟩, ⟨true, 37, 4, 0, 1, plX s' ch' t' l', false⟩]⟩) l.length ⟨_, rfl, 0, by omega, by omega, rfl, rfl⟩ ?_
          rintro N s0 ⟨k, hk, rfl, htk, rfl⟩
          by_cases hlt : k < l.length
          · have hlt' : (k : Int) < (l.length : Int) := by omega
            have hlt2 : (k : Int) < (l'.length : Int) := by omega
            have hk0 : (0 : Int) ≤ (k : Int) := by omega
            have hk1 : IntKind.i64.wrap ((k : Int) + 1) = ((k + 1 : Nat) : Int) := by rw [wrap_i64 (by omega) (by omega)]; omega
            have hsub := sub_nms hlt
            have hsub2 := sub_nms (l := l') (i := k) (by omega)
            have h1 : l.take (k + 1) = l.take k ++ [nmAt l k] := takeAt hlt
            have h2 : l'.take (k + 1) = l'.take k ++ [nmAt l' k] := takeAt (by omega)
            have hn := num_ne (x := nmAt l k) (y := nmAt l' k) (hu _ (by simp [nmAt, List.getD, hlt])) (hu' _ (by simp [nmAt, List.getD, show k < l'.length by omega]))
            by_cases hxy : nmAt l k = nmAt l' k
            · rw [decide_eq_true hxy, Bool.not_true] at hn
              simp only [b33_0, plX, runes, ints, go_sem, subP3, subP3', hlt', hlt2, hk0, Int.toNat_natCast, hsub, hsub2, hn, hk1]
              exact loopQ_go rfl (l.length - (k + 1)) (by omega) ⟨k + 1, by omega, rfl, by rw [h1, h2, htk, hxy], rfl⟩
            · rw [decide_eq_false hxy, Bool.not_false] at hn
              have hne : ¬ (ch = ch' ∧ s = s' ∧ t = t' ∧ l = l') := fun h => hxy (by rw [h.2.2.2])
              simp only [b33_0, plX, runes, ints, go_sem, subP3, subP3', hlt', hlt2, hk0, Int.toNat_natCast, hsub, hsub2, hn]
              simp only [i33, Out, resAll, geto, ints, List.getElem?_cons_zero, List.getElem?_cons_succ, resOf, outOf, snap, snapL, ev, getE, List.mapM_cons, List.mapM_nil, Option.bind_some, Option.pure_def, Option.bind_eq_bind, Option.map_some, reduceIte, Nat.reduceEqDiff, true_and, and_true, decide_eq_false hne]
          · have hlt' : ¬ (k : Int) < (l.length : Int) := by omega
            have he : l = l' := by
              rw [List.take_of_length_le (by omega), List.take_of_length_le (by omega)] at htk
              exact htk
            have hall : ch = ch' ∧ s = s' ∧ t = t' ∧ l = l' := ⟨e1, e2, e3, he⟩
            simp only [b33_0, k33_0, plX, runes, ints, go_sem, subP3, subP3', hlt']
            simp only [i33, Out, resAll, geto, ints, List.getElem?_cons_zero, List.getElem?_cons_succ, resOf, outOf, snap, snapL, ev, getE, List.mapM_cons, List.mapM_nil, Option.bind_some, Option.pure_def, Option.bind_eq_bind, Option.map_some, reduceIte, Nat.reduceEqDiff, true_and, and_true, decide_eq_true hall]
        · have q4 : ((l.length : Int) != (l'.length : Int)) = true := by rw [bne_iff_ne]; omega
          have hne : ¬ (ch = ch' ∧ s = s' ∧ t = t' ∧ l = l') := fun h => e4 (by rw [h.2.2.2])
          simp only [c33, plX, runes, ints, go_sem, subP4a, subP4b, subP4c, subP3, subP3', fillAll, fillIn, shiftR, shiftV, List.take_succ_cons, List.take_zero, List.drop_succ_cons, List.drop_zero, List.append_nil, Nat.zero_add, hb]
          refine goP h23 ?_
          simp only [go_sem, subP4a, subP4b, subP4c, subP3, subP3', fillAll, fillIn, shiftR, shiftV, List.take_succ_cons, List.take_zero, List.drop_succ_cons, List.drop_zero, List.append_nil, Nat.zero_add]
          refine goP h75 ?_
          simp only [go_sem, subP4a, subP4b, subP4c, subP3, subP3', fillAll, fillIn, shiftR, shiftV, List.take_succ_cons, List.take_zero, List.drop_succ_cons, List.drop_zero, List.append_nil, Nat.zero_add, q4]
          simp only [i33, Out, resAll, geto, ints, List.getElem?_cons_zero, List.getElem?_cons_succ, resOf, outOf, snap, snapL, ev, getE, List.mapM_cons, List.mapM_nil, Option.bind_some, Option.pure_def, Option.bind_eq_bind, Option.map_some, reduceIte, Nat.reduceEqDiff, true_and, and_true, decide_eq_false hne]
      · rw [decide_eq_false e3] at h75
        have hne : ¬ (ch = ch' ∧ s = s' ∧ t = t' ∧ l = l') := fun h => e3 h.2.2.1
        simp only [c33, plX, runes, ints, go_sem, subP4a, subP4b, subP4c, subP3, subP3', fillAll, fillIn, shiftR, shiftV, List.take_succ_cons, List.take_zero, List.drop_succ_cons, List.drop_zero, List.append_nil, Nat.zero_add, hb]
        refine goP h23 ?_
        simp only [go_sem, subP4a, subP4b, subP4c, subP3, subP3', fillAll, fillIn, shiftR, shiftV, List.take_succ_cons, List.take_zero, List.drop_succ_cons, List.drop_zero, List.append_nil, Nat.zero_add]
        refine goP h75 ?_
        simp only [go_sem, subP4a, subP4b, subP4c, subP3, subP3', fillAll, fillIn, shiftR, shiftV, List.take_succ_cons, List.take_zero, List.drop_succ_cons, List.drop_zero, List.append_nil, Nat.zero_add]
        simp only [i33, Out, resAll, geto, ints, List.getElem?_cons_zero, List.getElem?_cons_succ, resOf, outOf, snap, snapL, ev, getE, List.mapM_cons, List.mapM_nil, Option.bind_some, Option.pure_def, Option.bind_eq_bind, Option.map_some, reduceIte, Nat.reduceEqDiff, true_and, and_true, decide_eq_false hne]
    · rw [decide_eq_false e2] at h23
      have hne : ¬ (ch = ch' ∧ s = s' ∧ t = t' ∧ l = l') := fun h => e2 h.2.1
      simp only [c33, plX, runes, ints, go_sem, subP4a, subP4b, subP4c, subP3, subP3', fillAll, fillIn, shiftR, shiftV, List.take_succ_cons, List.take_zero, List.drop_succ_cons, List.drop_zero, List.append_nil, Nat.zero_add, hb]
      refine goP h23 ?_
      simp only [go_sem, subP4a, subP4b, subP4c, subP3, subP3', fillAll, fillIn, shiftR, shiftV, List.take_succ_cons, List.take_zero, List.drop_succ_cons, List.drop_zero, List.append_nil, Nat.zero_add]
      simp only [i33, Out, resAll, geto, ints, List.getElem?_cons_zero, List.getElem?_cons_succ, resOf, outOf, snap, snapL, ev, getE, List.mapM_cons, List.mapM_nil, Option.bind_some, Option.pure_def, Option.bind_eq_bind, Option.map_some, reduceIte, Nat.reduceEqDiff, true_and, and_true, decide_eq_false hne]
  · rw [decide_eq_false e1] at hb
    have hne : ¬ (ch = ch' ∧ s = s' ∧ t = t' ∧ l = l') := fun h => e1 h.1
    simp only [c33, plX, runes, ints, go_sem, subP4a, subP4b, subP4c, subP3, subP3', fillAll, fillIn, shiftR, shiftV, List.take_succ_cons, List.take_zero, List.drop_succ_cons, List.drop_zero, List.append_nil, Nat.zero_add, hb]
    simp only [i33, Out, resAll, geto, ints, List.getElem?_cons_zero, List.getElem?_cons_succ, resOf, outOf, snap, snapL, ev, getE, List.mapM_cons, List.mapM_nil, Option.bind_some, Option.pure_def, Option.bind_eq_bind, Option.map_some, reduceIte, Nat.reduceEqDiff, true_and, and_true, decide_eq_false hne]
def Shapes (s : List Int) (ch : Bool) (t : List Int) (n : Nat) : Prop := if ch then count s = some (t.length : Int) ∧ n = 0 else count s = some (n : Int) ∧ t = []
def RightP (s : List Int) (ch : Bool) (t : List Int) (l : List Nm) : Prop := Shapes s ch t l.length ∧ ∀ x ∈ l, RightN x.1 x.2.1 x.2.2
end Go.Proofs.Ytlejgleocnemoaa.I

namespace Go.Proofs.Ytlejgleocnemoaa.I
open Go Go.V
attribute [local go_sem] mNil nat0 beq_self_eq_true mSkip mRet mExit mReg mSeq mCond mTrue mFalse mBlock mLv mCodeE mCodeR mEndN mEndR mEndE mOps mSome mGuard mGtt mGff mGtf mGft mGu mCallP mCallR mCallF mCallO mCallZ mCallG mCallM mCallV loopQ_exit loopQ_ret mO_mov mO_newnil mO_pick mO_alloc mO_box mO_build mO_bsl mO_bslF mO_newnilB mO_bslB mO_lenB mO_appB mO_allocA mO_bslA mO_appA mO_ldb mO_faddrb mRsv mO_ldf mO_ld mO_st mO_sta mO_nilchk mO_bin mO_binb mO_binp mO_bins mO_neg mO_com mO_not mO_conv mO_mk mO_mk0 mO_s2b mO_b2s mO_cpy mO_cut mO_faddr mO_fld mO_iaddr mO_iaddrf mO_sidx mO_len mO_lenf mO_slen mO_scut mO_app mO_ext mO_mx mO_mn mO_mkfn evalOp cutOp argsE ev getE putE cellsOf adopt rowOf binV boolV nilV ar_add ar_sub ar_mul ar_quo ar_rem ar_eq ar_ne ar_lt ar_le ar_gt ar_ge ar_and ar_or ar_xor geto bound finRet finNrm ints List.length_cons List.length_nil List.length_append List.getElem?_cons_zero List.getElem?_cons_succ List.nil_append List.cons_append List.map_cons List.map_nil List.mapM_cons List.mapM_nil Option.map_some Option.map_none Option.bind_some Option.pure_def Option.bind_eq_bind List.drop_zero or_self or_false false_or or_true true_or true_and and_true and_self decide_true decide_false Bool.false_eq_true Bool.true_eq_false Bool.not_true Bool.not_false Nat.le_refl eq_self gt_iff_lt ge_iff_le ne_eq not_true_eq_false not_false_eq_true storeOp apartOf freeze_nil refsL refs List.flatMap_cons List.flatMap_nil List.append_nil List.contains_nil List.set_cons_zero List.set_cons_succ snap snapL fill_nums flat_nums nums_length Go.V.freeze List.mapIdx_cons List.mapIdx_nil List.contains_cons Bool.or_false Bool.false_or Bool.or_true Bool.true_or
def LightP (s : List Int) (ch : Bool) (t : List Int) (l : List Nm) (most : Int) : Prop := (t.length : Int) ≤ most ∧ (l.length : Int) ≤ most ∧ s.length ≤ 8 ∧ (∀ x ∈ l, x.2.1.length ≤ 40 ∧ x.2.2.length ≤ 40) ∧ RightP s ch t l
def pickT (t : List Int) (k : Int) : Int := if 0 ≤ k ∧ k < t.length then t.getD k.toNat 0 else 32
def picksT (ch : Bool) (t ks : List Int) : List Int := if ch then ks.map (pickT t) else []
def picksR (ch : Bool) (l : List Rt) (ks : List Int) : List Rt := if ch then [] else ks.map (pickR l)
def pickN (l : List Nm) (k : Int) : Nm := if 0 ≤ k ∧ k < l.length then nmAt l k.toNat else (false, [48], [49])
def picksN (ch : Bool) (l : List Nm) (ks : List Int) : List Nm := if ch then [] else ks.map (pickN l)
end Go.Proofs.Ytlejgleocnemoaa.I

namespace Go.Proofs.Ytlejgleocnemoaa.I
open Go Go.V
end Go.Proofs.Ytlejgleocnemoaa.I

namespace Go.Proofs.Ytlejgleocnemoaa.I
open Go Go.V
attribute [local go_sem] mNil nat0 beq_self_eq_true mSkip mRet mExit mReg mSeq mCond mTrue mFalse mBlock mLv mCodeE mCodeR mEndN mEndR mEndE mOps mSome mGuard mGtt mGff mGtf mGft mGu mCallP mCallR mCallF mCallO mCallZ mCallG mCallM mCallV loopQ_exit loopQ_ret mO_mov mO_newnil mO_pick mO_alloc mO_box mO_build mO_bsl mO_bslF mO_newnilB mO_bslB mO_lenB mO_appB mO_allocA mO_bslA mO_appA mO_ldb mO_faddrb mRsv mO_ldf mO_ld mO_st mO_sta mO_nilchk mO_bin mO_binb mO_binp mO_bins mO_neg mO_com mO_not mO_conv mO_mk mO_mk0 mO_s2b mO_b2s mO_cpy mO_cut mO_faddr mO_fld mO_iaddr mO_iaddrf mO_sidx mO_len mO_lenf mO_slen mO_scut mO_app mO_ext mO_mx mO_mn mO_mkfn evalOp cutOp argsE ev getE putE cellsOf adopt rowOf binV boolV nilV ar_add ar_sub ar_mul ar_quo ar_rem ar_eq ar_ne ar_lt ar_le ar_gt ar_ge ar_and ar_or ar_xor geto bound finRet finNrm ints List.length_cons List.length_nil List.length_append List.getElem?_cons_zero List.getElem?_cons_succ List.nil_append List.cons_append List.map_cons List.map_nil List.mapM_cons List.mapM_nil Option.map_some Option.map_none Option.bind_some Option.pure_def Option.bind_eq_bind List.drop_zero or_self or_false false_or or_true true_or true_and and_true and_self decide_true decide_false Bool.false_eq_true Bool.true_eq_false Bool.not_true Bool.not_false Nat.le_refl eq_self gt_iff_lt ge_iff_le ne_eq not_true_eq_false not_false_eq_true storeOp apartOf freeze_nil refsL refs List.flatMap_cons List.flatMap_nil List.append_nil List.contains_nil List.set_cons_zero List.set_cons_succ snap snapL fill_nums flat_nums nums_length Go.V.freeze List.mapIdx_cons List.mapIdx_nil List.contains_cons Bool.or_false Bool.false_or Bool.or_true Bool.true_or
def pl : Int → List Int → List Int → Option Int
  | n, d :: ds, x :: xs => if x < 0 ∨ d ≤ x then none else pl (n * d + x) ds xs
  | n, _, _ => some n
def place (s idx : List Int) : Option Int := if count s = none ∨ s.length ≠ idx.length then none else pl 0 s idx
section
variable {E : CallRel}
def PlI (s idx : List Int) (k : Nat) (n : Int) : Prop :=
  count s ≠ none → ∃ most m, count s = cnt most m (s.drop k) ∧ 1 ≤ most ∧ most ≤ 4096 ∧ 0 ≤ n ∧ n < most ∧ pl 0 s idx = pl n (s.drop k) (idx.drop k)
theorem PlI.zero {s idx : List Int} : PlI s idx 0 0 := fun h => by
  refine ⟨1, 1, ?_, by omega, by omega, by omega, by omega, by simp⟩
  unfold count at h ⊢
  split
  · rename_i h8; rw [if_pos h8] at h; exact absurd rfl h
  · simp
theorem PlI.step {s idx : List Int} {k : Nat} {n : Int} (h : PlI s idx k n) (h1 : k < s.length) (h2 : k < idx.length) (hx : ¬ idx.getD k 0 < 0) (hd : ¬ s.getD k 0 ≤ idx.getD k 0) :
    PlI s idx (k + 1) (IntKind.i64.wrap (IntKind.i64.wrap (n * s.getD k 0) + idx.getD k 0)) := by
  intro hc
  obtain ⟨most, m, g1, g2, g3, g4, g5, g6⟩ := h hc
  rw [getD_drop h1] at g1 g6
  rw [getD_drop h2] at g6
  generalize s.getD k 0 = d at *
  generalize idx.getD k 0 = x at *
  rw [cnt] at g1
  split at g1
  · exact absurd g1 hc
  · rename_i hno
    have hm : max 1 d = d := by rw [max1, if_pos (by omega)]
    rw [hm] at g1 hno
    have b1 : n * d ≤ (most - 1) * d := Int.mul_le_mul_of_nonneg_right (by omega) (by omega)
    have b2 : 0 ≤ n * d := Int.mul_nonneg g4 (by omega)
    have b3 : (most - 1) * d = most * d - d := by rw [Int.sub_mul]; omega
    have w1 : IntKind.i64.wrap (n * d) = n * d := wrap_i64 (by omega) (by omega)
    have w2 : IntKind.i64.wrap (n * d + x) = n * d + x := wrap_i64 (by omega) (by omega)
    rw [w1, w2]
    refine ⟨most * d, m * d, g1, by omega, by omega, by omega, by omega, ?_⟩
    rw [g6, pl, if_neg (by omega)]
theorem PlI.done {s idx : List Int} {k : Nat} {n : Int} (h : PlI s idx k n) (h1 : s.length ≤ k ∨ idx.length ≤ k) (hc : count s ≠ none) : 0 ≤ n ∧ pl 0 s idx = some n := by
  obtain ⟨most, m, g1, g2, g3, g4, g5, g6⟩ := h hc
  refine ⟨g4, ?_⟩
  rw [g6]
  rcases h1 with h1 | h1
  · rw [List.drop_eq_nil_of_le h1, pl]
    intro _ _ _ _ h; cases h
  · rw [List.drop_eq_nil_of_le h1, pl]
    intro _ _ _ _ _ h; cases h
end
end Go.Proofs.Ytlejgleocnemoaa.I

namespace Go.Proofs.Ytlejgleocnemoaa.I
open Go Go.V
def ix : List Int → Int → List Int × Int
  | [], a => ([], a)
  | d :: ds, a => ((ix ds a).2 % d :: (ix ds a).1, (ix ds a).2 / d)
def index (s : List Int) (a : Int) : Option (List Int) :=
  match count s with
  | none => none
  | some n => if a < 0 ∨ n ≤ a then none else some (ix s a).1
def optL : Option (List Int) → AV
  | some l => .tup [ints l, .bool true]
  | none => .tup [.sl 0 1 [], .bool false]
section
variable {E : CallRel}
end
end Go.Proofs.Ytlejgleocnemoaa.I

namespace Go.Proofs.Ytlejgleocnemoaa.I
open Go Go.V
def prodR : List Int → Int
  | [] => 1
  | d :: ds => IntKind.i64.wrap (prodR ds * d)
def str : List Int → List Int
  | [] => []
  | _ :: ds => prodR ds :: str ds
section
variable {E : CallRel}
end
end Go.Proofs.Ytlejgleocnemoaa.I

namespace Go.Proofs.Ytlejgleocnemoaa.I
open Go Go.V
def prodW (s : List Int) : Int := s.foldl (fun n d => IntKind.i64.wrap (n * d)) 1
section
variable {E : CallRel}
end
end Go.Proofs.Ytlejgleocnemoaa.I

namespace Go.Proofs.Ytlejgleocnemoaa.I
open Go Go.V
def strW : List Int → List Int
  | [] => []
  | _ :: ds => prodW ds :: strW ds
section
variable {E : CallRel}
theorem cut_nums {s : List Int} {k : Nat} (h : k ≤ s.length) : AV.sl (s.length - k) 1 (((nums .i64 s).drop (k * 1)).take ((s.length - k) * 1)) = ints (s.drop k) := by
  simp only [ints, nums, Nat.mul_one, List.length_drop]
  congr 1
  rw [← List.map_drop, List.take_of_length_le (by simp)]
end
end Go.Proofs.Ytlejgleocnemoaa.I

namespace Go.Proofs.Ytlejgleocnemoaa.I
open Go Go.V
def prd : List Int → Int
  | [] => 1
  | d :: ds => d * prd ds
theorem cnt_prd : ∀ {s : List Int} {most m n : Int}, cnt most m s = some n → n = m * prd s
  | [], most, m, n, h => by rw [cnt] at h; rw [prd, Int.mul_one]; exact (Option.some.inj h).symm
  | d :: ds, most, m, n, h => by
    rw [cnt] at h
    split at h
    · cases h
    · rw [cnt_prd h, prd, Int.mul_assoc]
theorem count_prd {s : List Int} {n : Int} (h : count s = some n) : n = prd s := by
  unfold count at h
  split at h
  · cases h
  · rw [cnt_prd h, Int.one_mul]
def inc : List Int → List Int → List Int × Bool
  | d :: ds, x :: xs => if (inc ds xs).2 then (if x + 1 < d then ((x + 1) :: (inc ds xs).1, false) else (0 :: (inc ds xs).1, true)) else (x :: (inc ds xs).1, false)
  | _, _ => ([], true)
def allS (L : List (List Int)) (d : Nat) : List (List Int) := L.flatMap fun p => (List.range d).map fun n : Nat => p ++ [(n : Int)]
def allL (s : List Int) : List (List Int) := s.foldl (fun L d => allS L d.toNat) [[]]
end Go.Proofs.Ytlejgleocnemoaa.I

namespace Go.Proofs.Ytlejgleocnemoaa.I
open Go Go.V
def rows (L : List (List Int)) : AV := .sl L.length 1 (L.map ints)
theorem cnt_bound : ∀ {s : List Int} {most m n : Int}, cnt most m s = some n → 1 ≤ most → most ≤ 4096 → (∀ d ∈ s, 0 ≤ d ∧ d ≤ 4096) ∧ ∀ k, 0 ≤ prd (s.take k) ∧ most * prd (s.take k) ≤ 4096
  | [], most, m, n, h, h1, h2 => ⟨fun d hd => by simp at hd, fun k => by simp [prd]; omega⟩
  | d :: ds, most, m, n, h, h1, h2 => by
    rw [cnt] at h
    split at h
    · cases h
    · rename_i hno
      have hmx : 1 ≤ max 1 d ∧ d ≤ max 1 d := by rw [max1]; split <;> omega
      have hmm : 1 ≤ most * max 1 d := by
        have := Int.mul_le_mul_of_nonneg_left (a := 1) (b := max 1 d) (c := most) hmx.1 (by omega)
        omega
      have hd : d ≤ most * max 1 d := by
        have := Int.mul_le_mul_of_nonneg_right (a := 1) (b := most) (c := max 1 d) h1 (by omega)
        omega
      obtain ⟨g1, g2⟩ := cnt_bound h hmm (by omega)
      refine ⟨fun x hx => ?_, fun k => ?_⟩
      · rcases List.mem_cons.1 hx with rfl | hx
        · omega
        · exact g1 x hx
      · cases k with
        | zero => simp [prd]; omega
        | succ k =>
          rw [List.take_succ_cons, prd]
          obtain ⟨e1, e2⟩ := g2 k
          have e3 : d * prd (ds.take k) ≤ max 1 d * prd (ds.take k) := Int.mul_le_mul_of_nonneg_right hmx.2 e1
          have e4 := Int.mul_le_mul_of_nonneg_left (c := most) e3 (by omega)
          rw [← Int.mul_assoc] at e4
          rw [← Int.mul_assoc] at e4
          refine ⟨Int.mul_nonneg (by omega) e1, ?_⟩
          rw [← Int.mul_assoc]
          omega
theorem count_bound {s : List Int} {n : Int} (h : count s = some n) : s.length ≤ 8 ∧ (∀ d ∈ s, 0 ≤ d ∧ d ≤ 4096) ∧ ∀ k, 0 ≤ prd (s.take k) ∧ prd (s.take k) ≤ 4096 := by
  unfold count at h
  split at h
  · cases h
  · obtain ⟨h1, h2⟩ := cnt_bound h (by omega) (by omega)
    exact ⟨by omega, h1, fun k => by have := h2 k; rwa [Int.one_mul] at this⟩
theorem sub_rows {L : List (List Int)} {j : Nat} (h : j < L.length) : sub false 1 (L.map ints) (j * 1) = some (ints (L.getD j [])) := by
  simp only [sub, List.length_map, Nat.mul_one, Bool.false_eq_true, if_false, if_true]
  rw [if_pos (by omega), List.getElem?_map, List.getElem?_eq_getElem h]
  simp [List.getD, h]
section
variable {E : CallRel}
end
end Go.Proofs.Ytlejgleocnemoaa.I

namespace Go.Proofs.Ytlejgleocnemoaa.I
open Go Go.V
attribute [local go_sem_proc ↓] reduceIte
attribute [local go_sem_proc] Nat.reduceEqDiff Nat.reduceAdd Nat.reduceMul Nat.reduceLeDiff Nat.reduceLT Int.reduceToNat Int.reduceLT Int.reduceLE reduceCtorEq Nat.reduceBEq
attribute [local go_sem] mNil nat0 beq_self_eq_true mSkip mRet mExit mReg mSeq mCond mTrue mFalse mBlock mLv mCodeE mCodeR mEndN mEndR mEndE mOps mSome mGuard mGtt mGff mGtf mGft mGu mCallP mCallR mCallF mCallO mCallZ mCallG mCallM mCallV loopQ_exit loopQ_ret mO_mov mO_newnil mO_pick mO_alloc mO_box mO_build mO_bsl mO_bslF mO_newnilB mO_bslB mO_lenB mO_appB mO_allocA mO_bslA mO_appA mO_ldb mO_faddrb mRsv mO_ldf mO_ld mO_st mO_sta mO_nilchk mO_bin mO_binb mO_binp mO_bins mO_neg mO_com mO_not mO_conv mO_mk mO_mk0 mO_s2b mO_b2s mO_cpy mO_cut mO_faddr mO_fld mO_iaddr mO_iaddrf mO_sidx mO_len mO_lenf mO_slen mO_scut mO_app mO_ext mO_mx mO_mn mO_mkfn evalOp cutOp argsE ev getE putE cellsOf adopt rowOf binV boolV nilV ar_add ar_sub ar_mul ar_quo ar_rem ar_eq ar_ne ar_lt ar_le ar_gt ar_ge ar_and ar_or ar_xor geto bound finRet finNrm ints List.length_cons List.length_nil List.length_append List.getElem?_cons_zero List.getElem?_cons_succ List.nil_append List.cons_append List.map_cons List.map_nil List.mapM_cons List.mapM_nil Option.map_some Option.map_none Option.bind_some Option.pure_def Option.bind_eq_bind List.drop_zero or_self or_false false_or or_true true_or true_and and_true and_self decide_true decide_false Bool.false_eq_true Bool.true_eq_false Bool.not_true Bool.not_false Nat.le_refl eq_self gt_iff_lt ge_iff_le ne_eq not_true_eq_false not_false_eq_true storeOp apartOf freeze_nil refsL refs List.flatMap_cons List.flatMap_nil List.append_nil List.contains_nil List.set_cons_zero List.set_cons_succ snap snapL fill_nums flat_nums nums_length Go.V.freeze List.mapIdx_cons List.mapIdx_nil List.contains_cons Bool.or_false Bool.false_or Bool.or_true Bool.true_or
section
variable {E : CallRel}
end
theorem nums_append {k : IntKind} {a b : List Int} : nums k (a ++ b) = nums k a ++ nums k b := by simp [nums]
def lensum (L : List (List Int)) : Nat := L.flatten.length
theorem lensum_snoc {L : List (List Int)} {p : List Int} : lensum (L ++ [p]) = lensum L + p.length := by simp [lensum]
theorem lensum_take {L : List (List Int)} {k : Nat} : lensum (L.take k) ≤ lensum L := by
  have : L = L.take k ++ L.drop k := (List.take_append_drop k L).symm
  conv => rhs; rw [this]
  simp only [lensum, List.flatten_append, List.length_append]
  omega
theorem take_snocL {L : List (List Int)} {m : Nat} (h : m < L.length) : L.take (m + 1) = L.take m ++ [L.getD m []] := by
  rw [List.take_add_one]
  congr 1
  simp [List.getD, h]
theorem c131_ok {n : Nat} (hn : (n : Int) ≤ 10000000000000) : Go.V.Call tab E 131 [.nilsl 3 1, .int .i64 n] [] (.arr 0 0) [⟨false, 3, 1, 0, 0, [], false⟩] := by
  refine ⟨0, ?_⟩
  have h1 : (0 : Int) ≤ (n : Int) ∧ (n : Int) * 8 ≤ 140737488355328 := by omega
  simp only [CallN, E, ext, growOf, h1, and_self, if_true]
theorem c101_ok {L : List (List Int)} (hL : (L.length : Int) ≤ 1000000000000) (hs : lensum L ≤ 1000000000000) : Go.V.Call tab E 101 [rows L] [] (ints L.flatten) [] := by
  refine Go.V.Call.mach i101 c101 rfl rfl rfl rfl ?_
  simp only [c101, rows, go_sem]
  refine mLoop (fun N st => ∃ (i : Nat), i ≤ L.length ∧ N = L.length - i ∧
    st = ⟨[(0, rows L), (3, .int .i64 (lensum (L.take i) : Nat)), (9, rows L), (10, .int .i64 L.length), (11, .int .i64 i)], [⟨false, 3, 1, 0, 0, [], false⟩]⟩) L.length ⟨_, rfl, 0, by omega, by omega, by simp [getE, rows, lensum]⟩ ?_
  rintro N s0 ⟨i, hi, rfl, rfl⟩
  by_cases hlt : i < L.length
  · have hlt' : (i : Int) < (L.length : Int) := by omega
    have hi0 : (0 : Int) ≤ (i : Int) := by omega
    have hi1 : IntKind.i64.wrap ((i : Int) + 1) = ((i + 1 : Nat) : Int) := by rw [wrap_i64 (by omega) (by omega)]; omega
    have hsub := sub_rows hlt
    have htk := take_snocL hlt
    have hle := lensum_take (L := L) (k := i + 1)
    have hsn : lensum (L.take (i + 1)) = lensum (L.take i) + (L.getD i []).length := by rw [htk, lensum_snoc]
    have hw : IntKind.i64.wrap ((lensum (L.take i) : Int) + ((L.getD i []).length : Int)) = (lensum (L.take (i + 1)) : Int) := by rw [wrap_i64 (by omega) (by omega)]; omega
    have hneg : ¬ (lensum (L.take (i + 1)) : Int) < 0 := by omega
    simp only [b101_0, rows, go_sem, hlt', hi0, Int.toNat_natCast, hsub, hw, hneg, hi1]
    exact loopQ_go rfl (L.length - (i + 1)) (by omega) ⟨i + 1, by omega, rfl, rfl⟩
  · have hlt' : ¬ (i : Int) < (L.length : Int) := by omega
    obtain rfl : i = L.length := by omega
    simp only [b101_0, k101_1, rows, go_sem, hlt', List.take_length]
    refine goG rfl (c131_ok (n := lensum L) (by omega)) rfl rfl ?_
    simp only [go_sem, fillAll, fillIn, shiftR, shiftV, List.take_succ_cons, List.take_zero, List.drop_succ_cons, List.drop_zero, List.append_nil, Nat.zero_add, shiftO]
    refine mLoop (fun N st => ∃ (j : Nat), j ≤ L.length ∧ N = L.length - j ∧
      st = ⟨[(6, .arr 1 j), (25, rows L), (26, .int .i64 L.length), (27, .int .i64 j)], [⟨false, 3, 1, 0, 0, [], false⟩, ⟨false, 3, 1, j, lensum (L.take j), nums .i64 (L.take j).flatten, false⟩]⟩) L.length ⟨_, rfl, 0, by omega, by omega, by simp [getE, rows, lensum, nums]⟩ ?_
    rintro N s0 ⟨j, hj, rfl, rfl⟩
    by_cases hjl : j < L.length
    · have hjl' : (j : Int) < (L.length : Int) := by omega
      have hj0 : (0 : Int) ≤ (j : Int) := by omega
      have hj1 : IntKind.i64.wrap ((j : Int) + 1) = ((j + 1 : Nat) : Int) := by rw [wrap_i64 (by omega) (by omega)]; omega
      have hsub := sub_rows hjl
      have htk := take_snocL hjl
      have hle := lensum_take (L := L) (k := j + 1)
      have hsn : lensum (L.take (j + 1)) = lensum (L.take j) + (L.getD j []).length := by rw [htk, lensum_snoc]
      have e1 : (lensum (L.take j) + (L.getD j []).length) * 8 ≤ 140737488355328 := by omega
      have e2 : lensum (L.take j) + (L.getD j []).length ≤ 140737488355328 := by omega
      simp only [b101_1, rows, go_sem, hjl', hj0, Int.toNat_natCast, hsub, e1, e2, hj1]
      refine loopQ_go rfl (L.length - (j + 1)) (by omega) ⟨j + 1, by omega, rfl, ?_⟩
      rw [hsn, htk, List.flatten_append, List.flatten_cons, List.flatten_nil, List.append_nil, nums_append]
      rfl
    · have hjl' : ¬ (j : Int) < (L.length : Int) := by omega
      obtain rfl : j = L.length := by omega
      simp only [b101_1, k101_0, rows, go_sem, hjl', List.take_length]
      simp only [i101, Out, resAll, geto, ints, List.getElem?_cons_zero, List.getElem?_cons_succ, resOf, outOf, snap, snapL, ev, getE, List.mapM_cons, List.mapM_nil, Option.bind_some, Option.pure_def, Option.bind_eq_bind, Option.map_some, reduceIte, Nat.reduceEqDiff, true_and, and_true]
      rfl
theorem c43_ok {L : List (List Int)} (hL : (L.length : Int) ≤ 1000000000000) (hs : lensum L ≤ 1000000000000) : Go.V.Call tab E 43 [rows L] [] (ints L.flatten) [] := by
  refine Go.V.Call.mach i43 c43 rfl rfl rfl rfl ?_
  simp only [c43, rows, go_sem]
  refine goP (c101_ok hL hs) ?_
  simp only [go_sem]
  simp only [i43, Out, resAll, geto, ints, List.getElem?_cons_zero, List.getElem?_cons_succ, resOf, outOf, snap, snapL, ev, getE, List.mapM_cons, List.mapM_nil, Option.bind_some, Option.pure_def, Option.bind_eq_bind, Option.map_some, reduceIte, Nat.reduceEqDiff, true_and, and_true]
def whC (n : Bool) (p : Nat) : List AV := [us32 (limG p), .bool n]
def wcmp (n : Bool) (p : Nat) (m : Bool) (q : Nat) : Int := if n = true ∧ m = false then -1 else if n = false ∧ m = true then 1 else if n = true then cmpZ q p else cmpZ p q
theorem subW2 {a b : AV} : sub true 2 [a, b] 0 = some (.agg [a, b]) := rfl
theorem subW0 {a b : AV} : sub true 1 [a, b] 0 = some (.agg [a]) := rfl
theorem subW1 {a b : AV} : sub false 1 [a, b] 1 = some b := rfl
section
variable {E : CallRel}
theorem c109_ok {n : Bool} {p q : Nat} : Go.V.Call tab E 109 [.agg (ratG n p q)] [] (.agg (whC false (dn q))) [] := by
  refine Go.V.Call.mach i109 c109 rfl rfl rfl rfl ?_
  have h100 := c79_gen (E := E) (n := n) (p := p) (q := q)
  have h118 := c136_ok (E := E) (n := false) (p := dn q)
  simp only [ratG, natC, us32, Bool.false_and] at h100 h118
  simp only [c109, ratG, us32, go_sem, fillAll, fillIn, shiftR, shiftV, List.take_succ_cons, List.take_zero, List.drop_succ_cons, List.drop_zero, List.append_nil, Nat.zero_add, subT3]
  refine goP h100 ?_
  simp only [us32, go_sem, fillAll, fillIn, shiftR, shiftV, List.take_succ_cons, List.take_zero, List.drop_succ_cons, List.drop_zero, List.append_nil, Nat.zero_add]
  refine goP h118 ?_
  simp only [us32, go_sem, fillAll, fillIn, shiftR, shiftV, List.take_succ_cons, List.take_zero, List.drop_succ_cons, List.drop_zero, List.append_nil, Nat.zero_add]
  simp only [i109, Out, resAll, geto, ints, List.getElem?_cons_zero, List.getElem?_cons_succ, resOf, outOf, snap, snapL, ev, getE, List.mapM_cons, List.mapM_nil, Option.bind_some, Option.pure_def, Option.bind_eq_bind, Option.map_some, reduceIte, Nat.reduceEqDiff, true_and, and_true, subW2, whC, us32]
theorem c108_ok {n m : Bool} {p q : Nat} (hp : (limG p).length ≤ 1000000) (hq : (limG q).length ≤ 1000000) : Go.V.Call tab E 108 [.agg (whC n p), .sl 1 2 (whC m q)] [] (.agg (whC ((n != m) && decide (p * q ≠ 0)) (p * q))) [] := by
  refine Go.V.Call.mach i108 c108 rfl rfl rfl rfl ?_
  have h133 := c137_ok (E := E) hp hq
  have h118 := c136_ok (E := E) (n := n != m) (p := p * q)
  have hb : boolV .ne (.bool n) (.bool m) = some (.bool (n != m)) := by cases n <;> cases m <;> rfl
  simp only [natC, us32] at h133 h118
  simp only [c108, whC, us32, go_sem, fillAll, fillIn, shiftR, shiftV, List.take_succ_cons, List.take_zero, List.drop_succ_cons, List.drop_zero, List.append_nil, Nat.zero_add, subW2]
  refine mLoop (fun N st => ∃ (i : Nat) (b : Bool) (v : Nat), (i = 0 ∧ b = n ∧ v = p ∨ i = 1 ∧ b = ((n != m) && decide (p * q ≠ 0)) ∧ v = p * q) ∧ N = 1 - i ∧
    st = ⟨[(2, .loc 0 0 0), (4, .loc 2 0 0), (7, .sl 1 2 (whC m q)), (8, .int .i64 1), (9, .int .i64 i)], [⟨true, 57, 2, 0, 1, whC b v, false⟩, ⟨false, 154, 1, 0, 0, [], false⟩, ⟨true, 57, 2, 0, 1, [.arr 1 0, .bool false], false⟩]⟩) 1
    ⟨_, rfl, 0, n, p, .inl ⟨rfl, rfl, rfl⟩, by omega, by simp [getE, whC, us32]⟩ ?_
  rintro N s0 ⟨i, b, v, hiv, rfl, rfl⟩
  rcases hiv with ⟨rfl, rfl, rfl⟩ | ⟨rfl, rfl, rfl⟩
  · have hs2 : sub true 2 (whC m q) (0 * 2) = some (.agg (whC m q)) := rfl
    have hs2' : sub true 2 (whC m q) 0 = some (.agg (whC m q)) := rfl
    have w1 : IntKind.i64.wrap (0 + 1) = 1 := by decide
    have h01 : (0 : Int) < ((1 : Nat) : Int) := by omega
    simp only [whC, us32] at hs2 hs2'
    simp only [b108_0, whC, us32, go_sem, fillAll, fillIn, shiftR, shiftV, List.take_succ_cons, List.take_zero, List.drop_succ_cons, List.drop_zero, List.append_nil, Nat.zero_add, subW2, subW0, subW1, h01, hs2, hs2']
    refine goF h133 ?_
    simp only [us32, go_sem, fillAll, fillIn, shiftR, shiftV, List.take_succ_cons, List.take_zero, List.drop_succ_cons, List.drop_zero, List.append_nil, Nat.zero_add, subW2, subW0, subW1]
    refine goP h118 ?_
    simp only [us32, go_sem, fillAll, fillIn, shiftR, shiftV, List.take_succ_cons, List.take_zero, List.drop_succ_cons, List.drop_zero, List.append_nil, Nat.zero_add, subW2, subW0, subW1, w1]
    exact loopQ_go rfl 0 (by omega) ⟨1, _, _, .inr ⟨rfl, rfl, rfl⟩, by omega, rfl⟩
  · have g : ¬ ((1 : Nat) : Int) < 1 := by omega
    simp only [b108_0, k108_0, whC, us32, go_sem, fillAll, fillIn, shiftR, shiftV, List.take_succ_cons, List.take_zero, List.drop_succ_cons, List.drop_zero, List.append_nil, Nat.zero_add, subW2, subW0, subW1, Int.lt_irrefl, g]
    simp only [i108, Out, resAll, geto, ints, List.getElem?_cons_zero, List.getElem?_cons_succ, resOf, outOf, snap, snapL, ev, getE, List.mapM_cons, List.mapM_nil, Option.bind_some, Option.pure_def, Option.bind_eq_bind, Option.map_some, reduceIte, Nat.reduceEqDiff, true_and, and_true, subW2, whC, us32]
def rcmp (x y : Rt) : Int := wcmp ((x.1 != false) && decide (x.2.1 * dn y.2.2 ≠ 0)) (x.2.1 * dn y.2.2) ((y.1 != false) && decide (y.2.1 * dn x.2.2 ≠ 0)) (y.2.1 * dn x.2.2)
end
def RtRed (x : Rt) : Prop := RtOk x ∧ x.2.2 ≠ 0 ∧ Nat.gcd x.2.1 x.2.2 = 1 ∧ (x.1 = true → x.2.1 ≠ 0)
end Go.Proofs.Ytlejgleocnemoaa.I

namespace Go.Proofs.Ytlejgleocnemoaa.I
open Go Go.V
attribute [local go_sem] mNil nat0 beq_self_eq_true mSkip mRet mExit mReg mSeq mCond mTrue mFalse mBlock mLv mCodeE mCodeR mEndN mEndR mEndE mOps mSome mGuard mGtt mGff mGtf mGft mGu mCallP mCallR mCallF mCallO mCallZ mCallG mCallM mCallV loopQ_exit loopQ_ret mO_mov mO_newnil mO_pick mO_alloc mO_box mO_build mO_bsl mO_bslF mO_newnilB mO_bslB mO_lenB mO_appB mO_allocA mO_bslA mO_appA mO_ldb mO_faddrb mRsv mO_ldf mO_ld mO_st mO_sta mO_nilchk mO_bin mO_binb mO_binp mO_bins mO_neg mO_com mO_not mO_conv mO_mk mO_mk0 mO_s2b mO_b2s mO_cpy mO_cut mO_faddr mO_fld mO_iaddr mO_iaddrf mO_sidx mO_len mO_lenf mO_slen mO_scut mO_app mO_ext mO_mx mO_mn mO_mkfn evalOp cutOp argsE ev getE putE cellsOf adopt rowOf binV boolV nilV ar_add ar_sub ar_mul ar_quo ar_rem ar_eq ar_ne ar_lt ar_le ar_gt ar_ge ar_and ar_or ar_xor geto bound finRet finNrm ints List.length_cons List.length_nil List.length_append List.getElem?_cons_zero List.getElem?_cons_succ List.nil_append List.cons_append List.map_cons List.map_nil List.mapM_cons List.mapM_nil Option.map_some Option.map_none Option.bind_some Option.pure_def Option.bind_eq_bind List.drop_zero or_self or_false false_or or_true true_or true_and and_true and_self decide_true decide_false Bool.false_eq_true Bool.true_eq_false Bool.not_true Bool.not_false Nat.le_refl eq_self gt_iff_lt ge_iff_le ne_eq not_true_eq_false not_false_eq_true storeOp apartOf freeze_nil refsL refs List.flatMap_cons List.flatMap_nil List.append_nil List.contains_nil List.set_cons_zero List.set_cons_succ snap snapL fill_nums flat_nums nums_length Go.V.freeze List.mapIdx_cons List.mapIdx_nil List.contains_cons Bool.or_false Bool.false_or Bool.or_true Bool.true_or
def gval (l : List Int) : Nat := l.foldl (fun a x => a * 1000000000 + x.toNat) 0
theorem gval_snoc {l : List Int} {x : Int} : gval (l ++ [x]) = gval l * 1000000000 + x.toNat := by simp [gval]
def R9 (l : List Int) : Prop := ∀ x ∈ l, 0 ≤ x ∧ x < 1000000000
theorem R9_nil : R9 [] := fun x hx => by simp at hx
theorem R9_snoc {l : List Int} {x : Int} (h : R9 l) (hx : 0 ≤ x ∧ x < 1000000000) : R9 (l ++ [x]) := fun y hy => by
  rcases List.mem_append.1 hy with h1 | h1
  · exact h y h1
  · simp at h1; subst h1; exact hx
def GrI (l : List Int) (i : Nat) (g : List Int) (n : Nat) : Prop := R9 g ∧ g.length ≤ i ∧ ∃ j, n < 10 ^ j ∧ j ≤ 8 ∧ sval (l.take i) = gval g * 10 ^ j + n ∧
  ((g ≠ [] ∧ (l.length - i + j) % 9 = 0) ∨ (g = [] ∧ j = i ∧ (l.length % 9 = 0 ∨ i < l.length % 9)))
theorem GrI.zero {l : List Int} : GrI l 0 [] 0 := ⟨R9_nil, by simp, 0, by simp, by omega, by simp [sval_nil, gval], .inr ⟨rfl, rfl, by omega⟩⟩
theorem GrI.small {l g : List Int} {i n : Nat} (h : GrI l i g n) : n < 100000000 := by
  obtain ⟨_, _, j, h1, h2, _⟩ := h
  have hp : 10 ^ j ≤ 100000000 := by simpa using Nat.pow_le_pow_right (n := 10) (i := j) (j := 8) (by omega) h2
  omega
theorem GrI.cut {l g : List Int} {i n d : Nat} (h : GrI l i g n) (hi : i < l.length) (hx : l.getD i 0 = 48 + (d : Int)) (hd : d ≤ 9) (hc : (l.length - i - 1) % 9 = 0) : GrI l (i + 1) (g ++ [((n * 10 + d : Nat) : Int)]) 0 := by
  obtain ⟨h0, hgl, j, h1, h2, h3, h4⟩ := h
  have hp : 10 ^ (j + 1) ≤ 1000000000 := by simpa using Nat.pow_le_pow_right (n := 10) (i := j + 1) (j := 9) (by omega) (by omega)
  rw [Nat.pow_succ] at hp
  have hs : sval (l.take (i + 1)) = 10 * sval (l.take i) + d := by rw [take_snoc hi, sval_snoc, hx]; omega
  refine ⟨R9_snoc h0 (by omega), by rw [List.length_append]; simp; omega, 0, by simp, by omega, ?_, .inl ⟨by simp, by omega⟩⟩
  rw [hs, h3, gval_snoc]
  rcases h4 with ⟨h4, h5⟩ | ⟨h4, h5, h6⟩
  · have hj : j = 8 := by omega
    subst hj
    simp only [Int.toNat_natCast, Nat.pow_zero, Nat.reducePow]
    omega
  · subst h4
    simp only [gval, List.foldl_nil, Int.toNat_natCast, Nat.pow_zero]
    omega
theorem GrI.go {l g : List Int} {i n d : Nat} (h : GrI l i g n) (hi : i < l.length) (hx : l.getD i 0 = 48 + (d : Int)) (hd : d ≤ 9) (hc : (l.length - i - 1) % 9 ≠ 0) : GrI l (i + 1) g (n * 10 + d) := by
  obtain ⟨h0, hgl, j, h1, h2, h3, h4⟩ := h
  have hs : sval (l.take (i + 1)) = 10 * sval (l.take i) + d := by rw [take_snoc hi, sval_snoc, hx]; omega
  refine ⟨h0, by omega, j + 1, by rw [Nat.pow_succ]; omega, ?_, ?_, ?_⟩
  · rcases h4 with ⟨h4, h5⟩ | ⟨h4, h5, h6⟩
    · by_cases hj : j = 8
      · subst hj; omega
      · omega
    · by_cases hj : j = 8
      · subst hj; omega
      · omega
  · rw [hs, h3, Nat.pow_succ, Nat.mul_add, ← Nat.mul_assoc, Nat.mul_comm 10, Nat.mul_assoc, Nat.mul_comm 10]
    omega
  · rcases h4 with ⟨h4, h5⟩ | ⟨h4, h5, h6⟩
    · exact .inl ⟨h4, by omega⟩
    · exact .inr ⟨h4, by omega, by omega⟩
theorem GrI.done {l g : List Int} {n : Nat} (h : GrI l l.length g n) : gval g = sval l := by
  obtain ⟨h0, hgl, j, h1, h2, h3, h4⟩ := h
  have hj : j = 0 := by rcases h4 with ⟨h4, h5⟩ | ⟨h4, h5, h6⟩ <;> omega
  subst hj
  rw [List.take_length] at h3
  simp at h1 h3
  omega
section
variable {E : CallRel}
def bl (n : Nat) : Nat := if h : n = 0 then 0 else bl (n / 2) + 1
  termination_by n
  decreasing_by exact Nat.div_lt_self (Nat.pos_of_ne_zero h) (by omega)
def PassI (l : List Int) (k : Nat) (q : List Int) (r : Nat) : Prop := R9 q ∧ q.length ≤ k ∧ r < 65536 ∧ gval (l.take k) = 65536 * gval q + r ∧ (q ≠ [] → 0 < gval q)
theorem PassI.zero {l : List Int} : PassI l 0 [] 0 := ⟨R9_nil, by simp, by omega, by simp [gval], fun h => absurd rfl h⟩
theorem gval_take {l : List Int} {k : Nat} (h : k < l.length) : gval (l.take (k + 1)) = gval (l.take k) * 1000000000 + (l.getD k 0).toNat := by rw [take_snoc h, gval_snoc]
theorem PassI.add {l q : List Int} {k r x : Nat} (h : PassI l k q r) (hk : k < l.length) (hx : l.getD k 0 = (x : Int)) (hx9 : x < 1000000000) (hc : q ≠ [] ∨ 0 < (r * 1000000000 + x) / 65536) :
    PassI l (k + 1) (q ++ [(((r * 1000000000 + x) / 65536 : Nat) : Int)]) ((r * 1000000000 + x) % 65536) := by
  obtain ⟨h0, h1, h2, h3, h4⟩ := h
  refine ⟨R9_snoc h0 (by omega), by rw [List.length_append]; simp; omega, by omega, ?_, fun _ => ?_⟩
  · rw [gval_take hk, gval_snoc, h3, hx, Int.toNat_natCast, Int.toNat_natCast]
    omega
  · rw [gval_snoc, Int.toNat_natCast]
    by_cases hq : q = []
    · rcases hc with hc | hc
      · exact absurd hq hc
      · omega
    · have := h4 hq; omega
theorem PassI.skip {l : List Int} {k r x : Nat} (h : PassI l k [] r) (hk : k < l.length) (hx : l.getD k 0 = (x : Int)) (hc : ¬ 0 < (r * 1000000000 + x) / 65536) :
    PassI l (k + 1) [] ((r * 1000000000 + x) % 65536) := by
  obtain ⟨h0, h1, h2, h3, h4⟩ := h
  refine ⟨h0, by simp, by omega, ?_, fun h => absurd rfl h⟩
  have h0 : gval [] = 0 := rfl
  rw [h0] at h3
  rw [gval_take hk, hx, Int.toNat_natCast, h0]
  omega
def PB (v m : Nat) : Prop := v < 65536 ^ m
theorem PB.step {v m i : Nat} (h : PB v (m - i)) (hi : i < m) (hq : 0 < v / 65536) : PB (v / 65536) (m - (i + 1)) ∧ i + 1 < m := by
  unfold PB at h ⊢
  have h1 : v / 65536 < 65536 ^ (m - (i + 1)) := by
    rw [show m - i = (m - (i + 1)) + 1 by omega, Nat.pow_succ] at h
    rw [Nat.div_lt_iff_lt_mul (by omega)]
    exact h
  refine ⟨h1, ?_⟩
  by_cases hc : i + 1 < m
  · exact hc
  · rw [show m - (i + 1) = 0 by omega, Nat.pow_zero] at h1
    clear h
    omega
end
section
variable {E : CallRel}
end
end Go.Proofs.Ytlejgleocnemoaa.I

namespace Go.Proofs.Ytlejgleocnemoaa.I
open Go Go.V
attribute [local go_sem_proc ↓] reduceIte
attribute [local go_sem_proc] Nat.reduceEqDiff Nat.reduceAdd Nat.reduceMul Nat.reduceLeDiff Nat.reduceLT Int.reduceToNat Int.reduceLT Int.reduceLE reduceCtorEq Nat.reduceBEq
attribute [local go_sem] mNil nat0 beq_self_eq_true mSkip mRet mExit mReg mSeq mCond mTrue mFalse mBlock mLv mCodeE mCodeR mEndN mEndR mEndE mOps mSome mGuard mGtt mGff mGtf mGft mGu mCallP mCallR mCallF mCallO mCallZ mCallG mCallM mCallV loopQ_exit loopQ_ret mO_mov mO_newnil mO_pick mO_alloc mO_box mO_build mO_bsl mO_bslF mO_newnilB mO_bslB mO_lenB mO_appB mO_allocA mO_bslA mO_appA mO_ldb mO_faddrb mRsv mO_ldf mO_ld mO_st mO_sta mO_nilchk mO_bin mO_binb mO_binp mO_bins mO_neg mO_com mO_not mO_conv mO_mk mO_mk0 mO_s2b mO_b2s mO_cpy mO_cut mO_faddr mO_fld mO_iaddr mO_iaddrf mO_sidx mO_len mO_lenf mO_slen mO_scut mO_app mO_ext mO_mx mO_mn mO_mkfn evalOp cutOp argsE ev getE putE cellsOf adopt rowOf binV boolV nilV ar_add ar_sub ar_mul ar_quo ar_rem ar_eq ar_ne ar_lt ar_le ar_gt ar_ge ar_and ar_or ar_xor geto bound finRet finNrm ints List.length_cons List.length_nil List.length_append List.getElem?_cons_zero List.getElem?_cons_succ List.nil_append List.cons_append List.map_cons List.map_nil List.mapM_cons List.mapM_nil Option.map_some Option.map_none Option.bind_some Option.pure_def Option.bind_eq_bind List.drop_zero or_self or_false false_or or_true true_or true_and and_true and_self decide_true decide_false Bool.false_eq_true Bool.true_eq_false Bool.not_true Bool.not_false Nat.le_refl eq_self gt_iff_lt ge_iff_le ne_eq not_true_eq_false not_false_eq_true storeOp apartOf freeze_nil refsL refs List.flatMap_cons List.flatMap_nil List.append_nil List.contains_nil List.set_cons_zero List.set_cons_succ snap snapL fill_nums flat_nums nums_length Go.V.freeze List.mapIdx_cons List.mapIdx_nil List.contains_cons Bool.or_false Bool.false_or Bool.or_true Bool.true_or
theorem subT2 {a b c : AV} : sub true 2 [a, b, c] 0 = some (.agg [a, b]) := rfl
theorem subT1' {a b c : AV} : sub true 1 [a, b, c] 0 = some (.agg [a]) := rfl
def wint (n : Bool) (p : Nat) : Option Int := if n = true then (if p ≤ 9223372036854775808 then some (-(p : Int)) else none) else if p < 9223372036854775808 then some (p : Int) else none
def rint (x : Rt) : Option Int := if dn x.2.2 = 1 then wint x.1 x.2.1 else none
section
variable {E : CallRel}
theorem c106_ok {n : Nat} : Go.V.Call tab E 106 [natC n] [] (.int .i64 (((limG n).length : Nat) : Int)) [] := by
  refine Go.V.Call.mach i106 c106 rfl rfl rfl rfl ?_
  simp only [c106, natC, us32, go_sem, sub, fillAll, fillIn, shiftR, shiftV, List.take_succ_cons, List.take_zero, List.drop_succ_cons, List.drop_zero, List.append_nil, Nat.zero_add]
  simp only [i106, Out, resAll, geto, ints, List.getElem?_cons_zero, List.getElem?_cons_succ, resOf, outOf, snap, snapL, ev, getE, List.mapM_cons, List.mapM_nil, Option.bind_some, Option.pure_def, Option.bind_eq_bind, Option.map_some, reduceIte, Nat.reduceEqDiff, true_and, and_true]
def rlimbs (x : Rt) : Nat := max (limG x.2.1).length (limG (dn x.2.2)).length
theorem c48_ok {x : Rt} : Go.V.Call tab E 48 [.agg (rtC x)] [] (.int .i64 ((rlimbs x : Nat) : Int)) [] := by
  obtain ⟨n, p, q⟩ := x
  refine Go.V.Call.mach i48 c48 rfl rfl rfl rfl ?_
  have h104 := c106_ok (E := E) (n := p)
  have h104' := c106_ok (E := E) (n := dn q)
  have h100 := c79_gen (E := E) (n := n) (p := p) (q := q)
  simp only [natC, ratG, us32] at h104 h104' h100
  have hmx : (if ((limG p).length : Int) < ((limG (dn q)).length : Int) then ((limG (dn q)).length : Int) else ((limG p).length : Int)) = ((rlimbs (n, p, q) : Nat) : Int) := by
    simp only [rlimbs, Nat.max_def]
    split <;> split <;> omega
  simp only [c48, rtC, ratG, us32, go_sem, subT3, subT1', fillAll, fillIn, shiftR, shiftV, List.take_succ_cons, List.take_zero, List.drop_succ_cons, List.drop_zero, List.append_nil, Nat.zero_add]
  refine goP h104 ?_
  simp only [go_sem, subT3]
  refine goP h100 ?_
  simp only [go_sem]
  refine goP h104' ?_
  simp only [go_sem, hmx]
  simp only [i48, Out, resAll, geto, ints, List.getElem?_cons_zero, List.getElem?_cons_succ, resOf, outOf, snap, snapL, ev, getE, List.mapM_cons, List.mapM_nil, Option.bind_some, Option.pure_def, Option.bind_eq_bind, Option.map_some, reduceIte, Nat.reduceEqDiff, true_and, and_true]
def wdC (n : Bool) (p : Nat) : List AV := [.bool n, .str (dec p)]
end
end Go.Proofs.Ytlejgleocnemoaa.I

namespace Go.Proofs.Ytlejgleocnemoaa.I
open Go Go.V
attribute [local go_sem] mNil nat0 beq_self_eq_true mSkip mRet mExit mReg mSeq mCond mTrue mFalse mBlock mLv mCodeE mCodeR mEndN mEndR mEndE mOps mSome mGuard mGtt mGff mGtf mGft mGu mCallP mCallR mCallF mCallO mCallZ mCallG mCallM mCallV loopQ_exit loopQ_ret mO_mov mO_newnil mO_pick mO_alloc mO_box mO_build mO_bsl mO_bslF mO_newnilB mO_bslB mO_lenB mO_appB mO_allocA mO_bslA mO_appA mO_ldb mO_faddrb mRsv mO_ldf mO_ld mO_st mO_sta mO_nilchk mO_bin mO_binb mO_binp mO_bins mO_neg mO_com mO_not mO_conv mO_mk mO_mk0 mO_s2b mO_b2s mO_cpy mO_cut mO_faddr mO_fld mO_iaddr mO_iaddrf mO_sidx mO_len mO_lenf mO_slen mO_scut mO_app mO_ext mO_mx mO_mn mO_mkfn evalOp cutOp argsE ev getE putE cellsOf adopt rowOf binV boolV nilV ar_add ar_sub ar_mul ar_quo ar_rem ar_eq ar_ne ar_lt ar_le ar_gt ar_ge ar_and ar_or ar_xor geto bound finRet finNrm ints List.length_cons List.length_nil List.length_append List.getElem?_cons_zero List.getElem?_cons_succ List.nil_append List.cons_append List.map_cons List.map_nil List.mapM_cons List.mapM_nil Option.map_some Option.map_none Option.bind_some Option.pure_def Option.bind_eq_bind List.drop_zero or_self or_false false_or or_true true_or true_and and_true and_self decide_true decide_false Bool.false_eq_true Bool.true_eq_false Bool.not_true Bool.not_false Nat.le_refl eq_self gt_iff_lt ge_iff_le ne_eq not_true_eq_false not_false_eq_true storeOp apartOf freeze_nil refsL refs List.flatMap_cons List.flatMap_nil List.append_nil List.contains_nil List.set_cons_zero List.set_cons_succ snap snapL fill_nums flat_nums nums_length Go.V.freeze List.mapIdx_cons List.mapIdx_nil List.contains_cons Bool.or_false Bool.false_or Bool.or_true Bool.true_or
def rv (x : Rt) : Int := (rint x).getD 0
def WhO (l : List Rt) : Prop := ∀ x ∈ l, (rint x).isSome = true
theorem RtOk.len {x : Rt} (h : RtOk x) : (decL x.2.1).length ≤ 1000000000 ∧ (decL (dn x.2.2)).length ≤ 1000000000 := ⟨Nat.le_trans (lim2000_len h.1) (by omega), Nat.le_trans (lim2000_len h.2) (by omega)⟩
def lmax (l : List Rt) : Nat := l.foldl (fun a x => max a (rlimbs x)) 0
def rbytes (x : Rt) : Nat := 8 + 4 * ((limG x.2.1).length + (limG (dn x.2.2)).length)
def bsum (l : List Rt) : Nat := l.foldl (fun a x => a + rbytes x) 0
def runeAt (t : List Int) (k : Int) : Int := if 0 ≤ k ∧ k < t.length then t.getD k.toNat 0 else 0
theorem c68_ok {s t : List Int} {l : List Rt} {ch : Bool} : Go.V.Call tab E 68 [.agg (arrX s ch t l)] [] (.bool ch) [] := by
  refine Go.V.Call.mach i68 c68 rfl rfl rfl rfl ?_
  simp only [c68, arrX, runes, go_sem, ↓reduceIte, Nat.reduceEqDiff, Nat.reduceAdd, Nat.reduceMul, Nat.reduceLeDiff, Nat.reduceLT, Int.reduceToNat, Int.reduceLT, Int.reduceLE, reduceCtorEq, Nat.reduceBEq, subX1, fillAll, fillIn, shiftR, shiftV, List.take_succ_cons, List.take_zero, List.drop_succ_cons, List.drop_zero, List.append_nil, Nat.zero_add]
  simp only [i68, Out, resAll, geto, ints, List.getElem?_cons_zero, List.getElem?_cons_succ, resOf, outOf, snap, snapL, ev, getE, List.mapM_cons, List.mapM_nil, Option.bind_some, Option.pure_def, Option.bind_eq_bind, Option.map_some, reduceIte, Nat.reduceEqDiff, true_and, and_true]
theorem c112_X {l : List Rt} (hl : (l.length : Int) ≤ 1000000000000) : Go.V.Call tab E 112 [.sl l.length 3 (rtsC l)] [] (.arr 0 0) [⟨false, 59, 3, 0, l.length, rtsC l, false⟩] := by
  refine ⟨0, ?_⟩
  have h1 : l.length * 56 ≤ 140737488355328 := by omega
  have h2 : l.length ≤ 140737488355328 := by omega
  simp only [CallN, E, ext, cloneOf, h1, h2, and_self, if_true]
def roomX (s t : List Int) (l : List Rt) : Nat := 16 + 4 * s.length + t.length + bsum l
end Go.Proofs.Ytlejgleocnemoaa.I

namespace Go.Proofs.Ytlejgleocnemoaa.I
open Go Go.V
theorem sgn_mul {a b : Int} : decide (a * b < 0) = ((decide (a < 0) != decide (b < 0)) && decide (a.natAbs * b.natAbs ≠ 0)) := by
  by_cases ha : a < 0
  · by_cases hb : b < 0
    · have h1 := Int.mul_pos_of_neg_of_neg ha hb
      rw [decide_eq_true ha, decide_eq_true hb, decide_eq_false (show ¬ a * b < 0 by omega)]
      rfl
    · rw [decide_eq_true ha, decide_eq_false hb]
      by_cases h0 : b = 0
      · subst h0; simp
      · have h1 := Int.mul_neg_of_neg_of_pos ha (show 0 < b by omega)
        rw [decide_eq_true h1, decide_eq_true (Nat.mul_ne_zero (by omega) (by omega))]
        rfl
  · rw [decide_eq_false ha]
    by_cases hb : b < 0
    · rw [decide_eq_true hb]
      by_cases h0 : a = 0
      · subst h0; simp
      · have h1 := Int.mul_neg_of_pos_of_neg (show 0 < a by omega) hb
        rw [decide_eq_true h1, decide_eq_true (Nat.mul_ne_zero (by omega) (by omega))]
        rfl
    · have h1 := Int.mul_nonneg (show 0 ≤ a by omega) (show 0 ≤ b by omega)
      rw [decide_eq_false hb, decide_eq_false (show ¬ a * b < 0 by omega)]
      rfl
theorem divInt_parts {a b : Int} (hb : b ≠ 0) : (Rat.divInt a b).num.natAbs = a.natAbs / Nat.gcd a.natAbs b.natAbs ∧ (Rat.divInt a b).den = b.natAbs / Nat.gcd a.natAbs b.natAbs ∧
    (decide ((Rat.divInt a b).num < 0)) = ((decide (a < 0) != decide (b < 0)) && decide (a.natAbs / Nat.gcd a.natAbs b.natAbs ≠ 0)) := by
  have hg : Int.gcd b a = Nat.gcd a.natAbs b.natAbs := by rw [Int.gcd_comm]; rfl
  have hgp : 0 < Nat.gcd a.natAbs b.natAbs := Nat.gcd_pos_of_pos_right _ (by omega)
  have hd1 : Nat.gcd a.natAbs b.natAbs ∣ a.natAbs := Nat.gcd_dvd_left _ _
  rw [Rat.num_divInt, Rat.den_divInt, if_neg hb, hg]
  generalize Nat.gcd a.natAbs b.natAbs = g at *
  have hdi : (g : Int) ∣ a := Int.dvd_natAbs.1 (Int.natCast_dvd_natCast.2 hd1)
  obtain ⟨k, hk⟩ := hdi
  have hgz : (g : Int) ≠ 0 := by omega
  have hq : b.sign * a / (g : Int) = b.sign * k := by
    rw [hk, ← Int.mul_assoc, Int.mul_comm b.sign, Int.mul_assoc]
    exact Int.mul_ediv_cancel_left _ hgz
  have hka : a.natAbs / g = k.natAbs := by
    rw [hk, Int.natAbs_mul, Int.natAbs_natCast]
    exact Nat.mul_div_cancel_left _ hgp
  have hs : (b.sign).natAbs = 1 := Int.natAbs_sign_of_ne_zero hb
  rw [hq, hka]
  refine ⟨by rw [Int.natAbs_mul, hs, Nat.one_mul], rfl, ?_⟩
  have hak : decide (a < 0) = decide (k < 0) := by
    by_cases h : k < 0
    · have := Int.mul_neg_of_pos_of_neg (show (0 : Int) < g by omega) h
      rw [decide_eq_true h, decide_eq_true (show a < 0 by omega)]
    · have := Int.mul_nonneg (show (0 : Int) ≤ g by omega) (show 0 ≤ k by omega)
      rw [decide_eq_false h, decide_eq_false (show ¬ a < 0 by omega)]
  rw [hak, sgn_mul]
  have hsb : decide (b.sign < 0) = decide (b < 0) := by
    rcases Int.lt_trichotomy b 0 with h | h | h
    · rw [Int.sign_eq_neg_one_of_neg h]; simp [h]
    · exact absurd h hb
    · rw [Int.sign_eq_one_of_pos h]; simp; omega
  rw [hsb, hs, Nat.one_mul]
  cases decide (b < 0) <;> cases decide (k < 0) <;> rfl
theorem add_divInt (a b : Rat) : Rat.divInt (a.num * b.den + b.num * a.den) ((a.den : Int) * b.den) = a + b := by
  rw [Rat.add_def', ← Rat.divInt_ofNat]; rfl
theorem mul_divInt (a b : Rat) : Rat.divInt (a.num * b.num) ((a.den : Int) * b.den) = a * b := by
  rw [Rat.mul_def', ← Rat.divInt_ofNat]; rfl
theorem div_divInt (a b : Rat) : Rat.divInt (a.num * b.den) ((a.den : Int) * b.num) = a / b := by
  rw [Rat.div_def, Rat.inv_def]
  have : a = Rat.divInt a.num a.den := by rw [Rat.divInt_ofNat]; exact (Rat.mkRat_self a).symm
  conv => rhs; lhs; rw [this]
  rw [Rat.divInt_mul_divInt]
def Sz (k : Nat) (r : Rat) : Prop := r.num.natAbs < 2 ^ k ∧ r.den < 2 ^ k
theorem Sz.mono {i j : Nat} {r : Rat} (h : Sz i r) (hij : i ≤ j) : Sz j r := ⟨Nat.lt_of_lt_of_le h.1 (Nat.pow_le_pow_right (by omega) hij), Nat.lt_of_lt_of_le h.2 (Nat.pow_le_pow_right (by omega) hij)⟩
theorem lt_mul_pow {a b i j : Nat} (ha : a < 2 ^ i) (hb : b < 2 ^ j) : a * b < 2 ^ (i + j) := by
  rw [Nat.pow_add]
  exact Nat.mul_lt_mul'' ha hb
theorem add_num_lt {a b : Rat} {i j : Nat} (ha : Sz i a) (hb : Sz j b) : (a.num * b.den + b.num * a.den).natAbs < 2 ^ (i + j + 1) ∧ ((a.den : Int) * b.den).natAbs < 2 ^ (i + j) := by
  have h1 := lt_mul_pow ha.1 hb.2
  have h2 := lt_mul_pow hb.1 ha.2
  have h3 := lt_mul_pow ha.2 hb.2
  rw [Nat.add_comm j i] at h2
  have e1 : (a.num * b.den).natAbs = a.num.natAbs * b.den := by rw [Int.natAbs_mul, Int.natAbs_natCast]
  have e2 : (b.num * a.den).natAbs = b.num.natAbs * a.den := by rw [Int.natAbs_mul, Int.natAbs_natCast]
  refine ⟨?_, by rw [Int.natAbs_mul, Int.natAbs_natCast, Int.natAbs_natCast]; exact h3⟩
  rw [Nat.pow_succ]
  have := Int.natAbs_add_le (a.num * b.den) (b.num * a.den)
  omega
theorem Sz.of_divInt {a b : Int} {k : Nat} (h1 : a.natAbs < 2 ^ k) (h2 : b.natAbs < 2 ^ k) (hb : b ≠ 0) : Sz k (Rat.divInt a b) := by
  obtain ⟨p1, p2, _⟩ := divInt_parts (a := a) hb
  exact ⟨by rw [p1]; exact Nat.lt_of_le_of_lt (Nat.div_le_self _ _) h1, by rw [p2]; exact Nat.lt_of_le_of_lt (Nat.div_le_self _ _) h2⟩
theorem den_mul_ne {a b : Rat} : ((a.den : Int) * b.den) ≠ 0 := by
  have := a.den_nz; have := b.den_nz
  exact Int.mul_ne_zero (by omega) (by omega)
theorem Sz.add {a b : Rat} {i j : Nat} (ha : Sz i a) (hb : Sz j b) : Sz (i + j + 1) (a + b) := by
  obtain ⟨h1, h2⟩ := add_num_lt ha hb
  rw [← add_divInt]
  exact Sz.of_divInt h1 (Nat.lt_trans h2 (Nat.pow_lt_pow_right (by omega) (by omega))) den_mul_ne
theorem mul_num_lt {a b : Rat} {i j : Nat} (ha : Sz i a) (hb : Sz j b) : (a.num * b.num).natAbs < 2 ^ (i + j) ∧ ((a.den : Int) * b.den).natAbs < 2 ^ (i + j) :=
  ⟨by rw [Int.natAbs_mul]; exact lt_mul_pow ha.1 hb.1, by rw [Int.natAbs_mul, Int.natAbs_natCast, Int.natAbs_natCast]; exact lt_mul_pow ha.2 hb.2⟩
theorem Sz.mul {a b : Rat} {i j : Nat} (ha : Sz i a) (hb : Sz j b) : Sz (i + j) (a * b) := by
  obtain ⟨h1, h2⟩ := mul_num_lt ha hb
  rw [← mul_divInt]
  exact Sz.of_divInt h1 h2 den_mul_ne
theorem div_num_lt {a b : Rat} {i j : Nat} (ha : Sz i a) (hb : Sz j b) : (a.num * b.den).natAbs < 2 ^ (i + j) ∧ ((a.den : Int) * b.num).natAbs < 2 ^ (i + j) :=
  ⟨by rw [Int.natAbs_mul, Int.natAbs_natCast]; exact lt_mul_pow ha.1 hb.2, by rw [Int.natAbs_mul, Int.natAbs_natCast]; exact lt_mul_pow ha.2 hb.1⟩
theorem Sz.div {a b : Rat} {i j : Nat} (ha : Sz i a) (hb : Sz j b) (h0 : b.num ≠ 0) : Sz (i + j) (a / b) := by
  obtain ⟨h1, h2⟩ := div_num_lt ha hb
  rw [← div_divInt]
  exact Sz.of_divInt h1 h2 (Int.mul_ne_zero (by have := a.den_nz; omega) h0)
theorem Sz.neg {a : Rat} {i : Nat} (ha : Sz i a) : Sz i (-a) := by
  unfold Sz
  rw [Rat.neg_num, Rat.neg_den, Int.natAbs_neg]
  exact ha
def rR (r : Rat) : Rt := (decide (r.num < 0), r.num.natAbs, r.den)
def RV (x : Rt) (r : Rat) : Prop := x.1 = decide (r.num < 0) ∧ x.2.1 = r.num.natAbs ∧ dn x.2.2 = r.den
theorem RV.self {r : Rat} : RV (rR r) r := ⟨rfl, rfl, if_neg r.den_nz⟩
theorem RV.zero : RV (false, 0, 0) 0 := ⟨rfl, rfl, rfl⟩
def wI (z : Int) : List AV := whC (decide (z < 0)) z.natAbs
theorem wI_mul {a b : Int} : whC ((decide (a < 0) != decide (b < 0)) && decide (a.natAbs * b.natAbs ≠ 0)) (a.natAbs * b.natAbs) = wI (a * b) := by
  rw [← sgn_mul, ← Int.natAbs_mul]
  rfl
theorem rR_divInt {a b : Int} (hb : b ≠ 0) : ratG ((decide (a < 0) != decide (b < 0)) && decide (a.natAbs / Nat.gcd a.natAbs b.natAbs ≠ 0)) (a.natAbs / Nat.gcd a.natAbs b.natAbs) (b.natAbs / Nat.gcd a.natAbs b.natAbs) = rtC (rR (Rat.divInt a b)) := by
  obtain ⟨h1, h2, h3⟩ := divInt_parts (a := a) hb
  rw [← h3, ← h1, ← h2]
  rfl
theorem limG_two {n k : Nat} (h : n < 2 ^ (32 * k)) : (limG n).length ≤ k := limG_len (by rw [Nat.pow_mul] at h; exact h)
theorem limG_szB {n k : Nat} (B : Nat) (h : n < 2 ^ k) (hk : k ≤ 32 * B) : (limG n).length ≤ B := limG_two (Nat.lt_of_lt_of_le h (Nat.pow_le_pow_right (by omega) hk))
theorem limG_sz {n k : Nat} (h : n < 2 ^ k) (hk : k ≤ 32000000) : (limG n).length ≤ 1000000 := limG_szB _ h (by omega)
def ofN (x : Rt) : Rat := mkRat (if x.1 then -(x.2.1 : Int) else x.2.1) x.2.2
end Go.Proofs.Ytlejgleocnemoaa.I

namespace Go.Proofs.Ytlejgleocnemoaa.I
open Go Go.V
attribute [local go_sem_proc ↓] reduceIte
attribute [local go_sem_proc] Nat.reduceEqDiff Nat.reduceAdd Nat.reduceMul Nat.reduceLeDiff Nat.reduceLT Int.reduceToNat Int.reduceLT Int.reduceLE reduceCtorEq Nat.reduceBEq
attribute [local go_sem] mNil nat0 beq_self_eq_true mSkip mRet mExit mReg mSeq mCond mTrue mFalse mBlock mLv mCodeE mCodeR mEndN mEndR mEndE mOps mSome mGuard mGtt mGff mGtf mGft mGu mCallP mCallR mCallF mCallO mCallZ mCallG mCallM mCallV loopQ_exit loopQ_ret mO_mov mO_newnil mO_pick mO_alloc mO_box mO_build mO_bsl mO_bslF mO_newnilB mO_bslB mO_lenB mO_appB mO_allocA mO_bslA mO_appA mO_ldb mO_faddrb mRsv mO_ldf mO_ld mO_st mO_sta mO_nilchk mO_bin mO_binb mO_binp mO_bins mO_neg mO_com mO_not mO_conv mO_mk mO_mk0 mO_s2b mO_b2s mO_cpy mO_cut mO_faddr mO_fld mO_iaddr mO_iaddrf mO_sidx mO_len mO_lenf mO_slen mO_scut mO_app mO_ext mO_mx mO_mn mO_mkfn evalOp cutOp argsE ev getE putE cellsOf adopt rowOf binV boolV nilV ar_add ar_sub ar_mul ar_quo ar_rem ar_eq ar_ne ar_lt ar_le ar_gt ar_ge ar_and ar_or ar_xor geto bound finRet finNrm ints List.length_cons List.length_nil List.length_append List.getElem?_cons_zero List.getElem?_cons_succ List.nil_append List.cons_append List.map_cons List.map_nil List.mapM_cons List.mapM_nil Option.map_some Option.map_none Option.bind_some Option.pure_def Option.bind_eq_bind List.drop_zero or_self or_false false_or or_true true_or true_and and_true and_self decide_true decide_false Bool.false_eq_true Bool.true_eq_false Bool.not_true Bool.not_false Nat.le_refl eq_self gt_iff_lt ge_iff_le ne_eq not_true_eq_false not_false_eq_true storeOp apartOf freeze_nil refsL refs List.flatMap_cons List.flatMap_nil List.append_nil List.contains_nil List.set_cons_zero List.set_cons_succ snap snapL fill_nums flat_nums nums_length Go.V.freeze List.mapIdx_cons List.mapIdx_nil List.contains_cons Bool.or_false Bool.false_or Bool.or_true Bool.true_or
section
variable {E : CallRel}
theorem sub_step {x y c : Nat} (hx : x < 4294967296) (hy : y < 4294967296) (hc : c ≤ 1) : ∃ d c' : Nat, d < 4294967296 ∧ c' ≤ 1 ∧ x + 4294967296 * c' = y + c + d ∧
    (x + 4294967296 - y + 4294967296 - c) % 4294967296 = d ∧ (if x < y + c then 1 else 0) = c' := by
  by_cases h : x < y + c
  · exact ⟨x + 4294967296 - y - c, 1, by omega, by omega, by omega, by omega, if_pos h⟩
  · exact ⟨x - y - c, 0, by omega, by omega, by omega, by omega, if_neg h⟩
theorem c150_ok {a b : Nat} (ha : (limG a).length ≤ 1000000) (hb : (limG b).length ≤ 1000000) : Go.V.Call tab E 150 [natC a, natC b] [] (.tup [natC (if b ≤ a then a - b else 0), .bool (decide (b ≤ a))]) [] := by
  refine Go.V.Call.mach i150 c150 rfl rfl rfl rfl ?_
  have hcmp := c145_ok (E := E) (a := a) (b := b) ha hb
  have hmono := fun h : b ≤ a => limG_mono (a := b) (b := a) h
  have hRa := R32_limG (n := a)
  have hRb := R32_limG (n := b)
  have ea := nval_limG (n := a)
  have eb := nval_limG (n := b)
  by_cases hab : b ≤ a
  · have hc : ¬ cmpZ a b < 0 := by
      unfold cmpZ
      rw [if_neg (by omega)]
      split <;> omega
    rw [if_pos hab, decide_eq_true hab]
    have hCA := hmono hab
    have htrim : ∀ l : List Int, R32 l → (l.length : Int) ≤ 1000000000000 → nval l = a - b → Go.V.Call tab E 139 [us32 l] [] (natC (a - b)) [] := fun l h1 h2 h3 => by
      have h := c139_ok (E := E) (l := l) h2
      rwa [trimL_limG h1, h3] at h
    simp only [natC, us32] at hcmp htrim ⊢
    clear hmono
    generalize hA : limG a = A at *
    generalize hC : limG b = C at *
    have b1 : (0 : Int) ≤ (A.length : Int) := by omega
    have b2 : 4 * A.length ≤ 140737488355328 := by omega
    have b3 : (A.length : Int) ≤ 140737488355328 := by omega
    simp only [c150, us32, go_sem, subB1, subT1, fillAll, fillIn, shiftR, shiftV, List.take_succ_cons, List.take_zero, List.drop_succ_cons, List.drop_zero, List.append_nil, Nat.zero_add]
    refine goP hcmp ?_
    simp only [us32, go_sem, subB1, subT1, fillAll, fillIn, shiftR, shiftV, List.take_succ_cons, List.take_zero, List.drop_succ_cons, List.drop_zero, List.append_nil, Nat.zero_add, hc, b1, b2, b3, Int.toNat_natCast, flat_nums]
    refine mLoop (fun N st => ∃ (i : Nat) (L : List Int) (c : Nat), i ≤ A.length ∧ N = A.length - i ∧ L.length = A.length ∧ R32 L ∧ c ≤ 1 ∧ (∀ j, i ≤ j → L.getD j 0 = 0) ∧ nval (A.take i) + 4294967296 ^ i * c = nval (C.take i) + nval L ∧
      st = ⟨[(2, .loc 0 0 0), (3, .loc 1 0 0), (4, .loc 3 0 0), (6, .arr 4 0), (7, .int .u32 c), (21, .int .i64 A.length), (22, .int .i64 i)],
        [⟨true, 55, 1, 0, 1, [us32 A], false⟩, ⟨true, 55, 1, 0, 1, [us32 C], false⟩, ⟨false, 154, 1, 0, 0, [], false⟩, ⟨true, 55, 1, 0, 1, [.arr 2 0], false⟩, ⟨false, 154, 1, 0, A.length, nums .u32 L, false⟩]⟩) A.length
      ⟨_, rfl, 0, List.replicate A.length 0, 0, by omega, by omega, by simp, R32_zeros, by omega, fun j _ => zeros_get, by rw [nval_zeros]; simp [nval], by simp [getE, us32]⟩ ?_
    rintro N s0 ⟨i, L, c, hi, rfl, hL, hR', hc1, hz, hv, rfl⟩
    by_cases hiX : i < A.length
    · have hi' : (i : Int) < (A.length : Int) := by omega
      have hi0 : (0 : Int) ≤ (i : Int) := by omega
      have hi1 : IntKind.i64.wrap ((i : Int) + 1) = ((i + 1 : Nat) : Int) := by rw [wrap_i64 (by omega) (by omega)]; omega
      have hsx := sub_nums (k := .u32) hiX
      have hxr := R32_get hRa i
      have hyr := R32_get hRb i
      have htx := nval_take_succ' (l := A) (k := i)
      have hty := nval_take_succ' (l := C) (k := i)
      obtain ⟨x, hx⟩ := Int.eq_ofNat_of_zero_le hxr.1
      obtain ⟨y, hy⟩ := Int.eq_ofNat_of_zero_le hyr.1
      rw [hx] at hsx hxr htx
      rw [hy] at hyr hty
      simp only [Int.toNat_natCast] at htx hty
      have h103 := c157_ok (E := E) (x := x) (y := y) (b := c) (by omega) (by omega) hc1
      obtain ⟨d, c', hdl, hc'1, hst, hd, hc'⟩ := sub_step (x := x) (y := y) (c := c) (by omega) (by omega) hc1
      rw [hd, hc'] at h103
      clear hd hc'
      have t1 : i * 1 + 1 ≤ L.length := by omega
      have p1 := put_nval (l := L) (k := i) (v := (d : Int)) (by omega)
      rw [hz i (by omega)] at p1
      simp only [Int.toNat_natCast, Int.toNat_zero, Nat.mul_zero, Nat.add_zero] at p1
      have inv : nval (A.take (i + 1)) + 4294967296 ^ (i + 1) * c' = nval (C.take (i + 1)) + nval (put L i (d : Int)) := by
        rw [p1, htx, hty, Nat.pow_succ, Nat.mul_assoc]
        generalize 4294967296 ^ i = P at *
        have e1 : P * (x + 4294967296 * c') = P * (y + c + d) := by rw [hst]
        simp only [Nat.mul_add] at e1
        omega
      have fin : (put L i (d : Int)).length = A.length ∧ R32 (put L i (d : Int)) ∧ (∀ j, i + 1 ≤ j → (put L i (d : Int)).getD j 0 = 0) := by
        refine ⟨by rw [put_len (by omega), hL], put_R32 hR' (by omega), fun j hj => ?_⟩
        rw [put_get (by omega), if_neg (by omega)]
        exact hz j (by omega)
      obtain ⟨f1, f2, f3⟩ := fin
      by_cases hiY : i < C.length
      · have hiY' : (i : Int) < (C.length : Int) := by omega
        have hsy := sub_nums (k := .u32) hiY
        rw [hy] at hsy
        simp only [b150_0, us32, go_sem, subB1, hi', hi0, hiY', hsx, hsy, Int.toNat_natCast]
        refine goP h103 ?_
        simp only [us32, go_sem, hi', hi0, Int.toNat_natCast, t1, hi1]
        exact loopQ_go rfl (A.length - (i + 1)) (by omega) ⟨i + 1, put L i (d : Int), c', by omega, rfl, f1, f2, hc'1, f3, inv, rfl⟩
      · have hiY' : ¬ (i : Int) < (C.length : Int) := by omega
        have hy0 : y = 0 := by
          have := getD_big (l := C) (k := i) (by omega)
          omega
        subst hy0
        simp only [b150_0, us32, go_sem, subB1, hi', hi0, hiY', hsx, Int.toNat_natCast]
        refine goP h103 ?_
        simp only [us32, go_sem, hi', hi0, Int.toNat_natCast, t1, hi1]
        exact loopQ_go rfl (A.length - (i + 1)) (by omega) ⟨i + 1, put L i (d : Int), c', by omega, rfl, f1, f2, hc'1, f3, inv, rfl⟩
    · have hn' : ¬ (i : Int) < (A.length : Int) := by omega
      obtain rfl : i = A.length := by omega
      rw [List.take_length, List.take_of_length_le hCA, ea, eb] at hv
      have hlt := nval_lt hR'
      rw [hL] at hlt
      have hc0 : c = 0 := by
        by_cases h : c = 0
        · exact h
        · have : c = 1 := by omega
          subst this
          omega
      have hval : nval L = a - b := by subst hc0; omega
      have h63 := htrim L hR' (by omega) hval
      rw [hL] at h63
      simp only [b150_0, k150_0, us32, go_sem, hn', Int.lt_irrefl]
      refine goF h63 ?_
      simp only [us32, go_sem, fillAll, fillIn, shiftR, shiftV, List.take_succ_cons, List.take_zero, List.drop_succ_cons, List.drop_zero, List.append_nil, Nat.zero_add]
      simp only [i150, Out, resAll, geto, ints, List.getElem?_cons_zero, List.getElem?_cons_succ, resOf, outOf, snap, snapL, ev, getE, List.mapM_cons, List.mapM_nil, Option.bind_some, Option.pure_def, Option.bind_eq_bind, Option.map_some, reduceIte, Nat.reduceEqDiff, true_and, and_true, sub, fillAll, fillIn, shiftR, shiftV, List.take_succ_cons, List.take_zero, List.drop_succ_cons, List.drop_zero, List.append_nil, Nat.zero_add, List.length_cons, List.length_nil, Nat.le_refl, us32]
  · have hc : cmpZ a b < 0 := by
      unfold cmpZ
      rw [if_pos (by omega)]
      omega
    rw [if_neg hab, decide_eq_false hab]
    simp only [natC, us32, limG_zero] at hcmp ⊢
    simp only [c150, us32, go_sem, subB1, subT1, fillAll, fillIn, shiftR, shiftV, List.take_succ_cons, List.take_zero, List.drop_succ_cons, List.drop_zero, List.append_nil, Nat.zero_add]
    refine goP hcmp ?_
    simp only [us32, go_sem, subB1, subT1, fillAll, fillIn, shiftR, shiftV, List.take_succ_cons, List.take_zero, List.drop_succ_cons, List.drop_zero, List.append_nil, Nat.zero_add, hc]
    simp only [i150, Out, resAll, geto, ints, List.getElem?_cons_zero, List.getElem?_cons_succ, resOf, outOf, snap, snapL, ev, getE, List.mapM_cons, List.mapM_nil, Option.bind_some, Option.pure_def, Option.bind_eq_bind, Option.map_some, reduceIte, Nat.reduceEqDiff, true_and, and_true, sub, fillAll, fillIn, shiftR, shiftV, List.take_succ_cons, List.take_zero, List.drop_succ_cons, List.drop_zero, List.append_nil, Nat.zero_add, List.length_cons, List.length_nil, Nat.le_refl]
    rfl
end
theorem wI_neg {p : Nat} : whC (true && decide (p ≠ 0)) p = wI (-(p : Int)) := by
  have h1 : (-(p : Int)).natAbs = p := by omega
  rw [wI, h1]
  congr 1
  by_cases h : p = 0
  · subst h; rfl
  · rw [decide_eq_true h, decide_eq_true (show -(p : Int) < 0 by omega)]; rfl
theorem wI_pos {p : Nat} : whC (false && decide (p ≠ 0)) p = wI (p : Int) := by
  have h1 : ((p : Int)).natAbs = p := by omega
  rw [wI, h1, decide_eq_false (show ¬ (p : Int) < 0 by omega)]
  rfl
section
variable {E : CallRel}
theorem c138_ok {x y : Int} (hx : (limG x.natAbs).length ≤ 1000000) (hy : (limG y.natAbs).length ≤ 1000000) : Go.V.Call tab E 138 [.agg (wI x), .agg (wI y)] [] (.agg (wI (x + y))) [] := by
  refine Go.V.Call.mach i138 c138 rfl rfl rfl rfl ?_
  have h92 := c151_ok (E := E) hx hy
  have h93 := c150_ok (E := E) hx hy
  have h93' := c150_ok (E := E) hy hx
  have h68 := fun n p => c136_ok (E := E) (n := n) (p := p)
  simp only [natC, us32] at h92 h93 h93' h68
  by_cases hs : decide (x < 0) = decide (y < 0)
  · have hb : (decide (x < 0) == decide (y < 0)) = true := by rw [hs]; cases decide (y < 0) <;> rfl
    have hr : whC (decide (x < 0) && decide (x.natAbs + y.natAbs ≠ 0)) (x.natAbs + y.natAbs) = wI (x + y) := by
      by_cases h : x < 0
      · have hy0 : y < 0 := by rw [decide_eq_true h] at hs; simpa using hs.symm
        rw [decide_eq_true h, wI_neg]
        congr 1; omega
      · have hy0 : ¬ y < 0 := by rw [decide_eq_false h] at hs; simpa using hs.symm
        rw [decide_eq_false h, wI_pos]
        congr 1; omega
    rw [← hr]
    simp only [c138, wI, whC, us32, go_sem, fillAll, fillIn, shiftR, shiftV, List.take_succ_cons, List.take_zero, List.drop_succ_cons, List.drop_zero, List.append_nil, Nat.zero_add, subW0, subW1, hb]
    refine goP h92 ?_
    simp only [us32, go_sem, fillAll, fillIn, shiftR, shiftV, List.take_succ_cons, List.take_zero, List.drop_succ_cons, List.drop_zero, List.append_nil, Nat.zero_add]
    refine goP (h68 _ _) ?_
    simp only [us32, go_sem, fillAll, fillIn, shiftR, shiftV, List.take_succ_cons, List.take_zero, List.drop_succ_cons, List.drop_zero, List.append_nil, Nat.zero_add]
    simp only [i138, Out, resAll, geto, ints, List.getElem?_cons_zero, List.getElem?_cons_succ, resOf, outOf, snap, snapL, ev, getE, List.mapM_cons, List.mapM_nil, Option.bind_some, Option.pure_def, Option.bind_eq_bind, Option.map_some, reduceIte, Nat.reduceEqDiff, true_and, and_true, subW2, whC, us32]
  · have hb : (decide (x < 0) == decide (y < 0)) = false := by
      revert hs; cases decide (x < 0) <;> cases decide (y < 0) <;> intro hs <;> first | rfl | exact absurd rfl hs
    by_cases hle : y.natAbs ≤ x.natAbs
    · rw [if_pos hle, decide_eq_true hle] at h93
      have hr : whC (decide (x < 0) && decide (x.natAbs - y.natAbs ≠ 0)) (x.natAbs - y.natAbs) = wI (x + y) := by
        by_cases h : x < 0
        · have hy0 : ¬ y < 0 := fun h2 => hs (by rw [decide_eq_true h, decide_eq_true h2])
          rw [decide_eq_true h, wI_neg]
          congr 1; omega
        · have hy0 : y < 0 := by
            by_cases h2 : y < 0
            · exact h2
            · exact absurd (by rw [decide_eq_false h, decide_eq_false h2]) hs
          rw [decide_eq_false h, wI_pos]
          congr 1; omega
      rw [← hr]
      simp only [c138, wI, whC, us32, go_sem, fillAll, fillIn, shiftR, shiftV, List.take_succ_cons, List.take_zero, List.drop_succ_cons, List.drop_zero, List.append_nil, Nat.zero_add, subW0, subW1, hb]
      refine goP h93 ?_
      simp only [us32, go_sem, fillAll, fillIn, shiftR, shiftV, List.take_succ_cons, List.take_zero, List.drop_succ_cons, List.drop_zero, List.append_nil, Nat.zero_add, subW0, subW1, subT1]
      refine goF (h68 _ _) ?_
      simp only [us32, go_sem, fillAll, fillIn, shiftR, shiftV, List.take_succ_cons, List.take_zero, List.drop_succ_cons, List.drop_zero, List.append_nil, Nat.zero_add]
      simp only [i138, Out, resAll, geto, ints, List.getElem?_cons_zero, List.getElem?_cons_succ, resOf, outOf, snap, snapL, ev, getE, List.mapM_cons, List.mapM_nil, Option.bind_some, Option.pure_def, Option.bind_eq_bind, Option.map_some, reduceIte, Nat.reduceEqDiff, true_and, and_true, subW2, whC, us32]
    · rw [if_neg hle, decide_eq_false hle, limG_zero] at h93
      rw [if_pos (by omega), decide_eq_true (show x.natAbs ≤ y.natAbs by omega)] at h93'
      have hr : whC (decide (y < 0) && decide (y.natAbs - x.natAbs ≠ 0)) (y.natAbs - x.natAbs) = wI (x + y) := by
        by_cases h : y < 0
        · have hy0 : ¬ x < 0 := fun h2 => hs (by rw [decide_eq_true h, decide_eq_true h2])
          rw [decide_eq_true h, wI_neg]
          congr 1; omega
        · have hy0 : x < 0 := by
            by_cases h2 : x < 0
            · exact h2
            · exact absurd (by rw [decide_eq_false h, decide_eq_false h2]) hs
          rw [decide_eq_false h, wI_pos]
          congr 1; omega
      rw [← hr]
      simp only [c138, wI, whC, us32, go_sem, fillAll, fillIn, shiftR, shiftV, List.take_succ_cons, List.take_zero, List.drop_succ_cons, List.drop_zero, List.append_nil, Nat.zero_add, subW0, subW1, hb]
      refine goP h93 ?_
      simp only [us32, go_sem, fillAll, fillIn, shiftR, shiftV, List.take_succ_cons, List.take_zero, List.drop_succ_cons, List.drop_zero, List.append_nil, Nat.zero_add, subW0, subW1, subT1]
      refine goP h93' ?_
      simp only [us32, go_sem, fillAll, fillIn, shiftR, shiftV, List.take_succ_cons, List.take_zero, List.drop_succ_cons, List.drop_zero, List.append_nil, Nat.zero_add, subW0, subW1, subT1]
      refine goF (h68 _ _) ?_
      simp only [us32, go_sem, fillAll, fillIn, shiftR, shiftV, List.take_succ_cons, List.take_zero, List.drop_succ_cons, List.drop_zero, List.append_nil, Nat.zero_add]
      simp only [i138, Out, resAll, geto, ints, List.getElem?_cons_zero, List.getElem?_cons_succ, resOf, outOf, snap, snapL, ev, getE, List.mapM_cons, List.mapM_nil, Option.bind_some, Option.pure_def, Option.bind_eq_bind, Option.map_some, reduceIte, Nat.reduceEqDiff, true_and, and_true, subW2, whC, us32]
theorem c110_ok {x y : Int} (hx : (limG x.natAbs).length ≤ 1000000) (hy : (limG y.natAbs).length ≤ 1000000) : Go.V.Call tab E 110 [.agg (wI x), .sl 1 2 (wI y)] [] (.agg (wI (x + y))) [] := by
  refine Go.V.Call.mach i110 c110 rfl rfl rfl rfl ?_
  have h72 := c138_ok (E := E) hx hy
  simp only [wI, whC, us32] at h72
  simp only [c110, wI, whC, us32, go_sem, fillAll, fillIn, shiftR, shiftV, List.take_succ_cons, List.take_zero, List.drop_succ_cons, List.drop_zero, List.append_nil, Nat.zero_add, subW2]
  refine mLoop (fun N st => ∃ (i : Nat) (z : Int), (i = 0 ∧ z = x ∨ i = 1 ∧ z = x + y) ∧ N = 1 - i ∧
    st = ⟨[(2, .loc 0 0 0), (4, .loc 2 0 0), (7, .sl 1 2 (wI y)), (8, .int .i64 1), (9, .int .i64 i)], [⟨true, 57, 2, 0, 1, wI z, false⟩, ⟨false, 154, 1, 0, 0, [], false⟩, ⟨true, 57, 2, 0, 1, [.arr 1 0, .bool false], false⟩]⟩) 1
    ⟨_, rfl, 0, x, .inl ⟨rfl, rfl⟩, by omega, by simp [getE, wI, whC, us32]⟩ ?_
  rintro N s0 ⟨i, z, hiv, rfl, rfl⟩
  rcases hiv with ⟨rfl, rfl⟩ | ⟨rfl, rfl⟩
  · have hs2 : sub true 2 (wI y) (0 * 2) = some (.agg (wI y)) := rfl
    have hs2' : sub true 2 (wI y) 0 = some (.agg (wI y)) := rfl
    have w1 : IntKind.i64.wrap (0 + 1) = 1 := by decide
    have h01 : (0 : Int) < ((1 : Nat) : Int) := by omega
    simp only [wI, whC, us32] at hs2 hs2'
    simp only [b110_0, wI, whC, us32, go_sem, fillAll, fillIn, shiftR, shiftV, List.take_succ_cons, List.take_zero, List.drop_succ_cons, List.drop_zero, List.append_nil, Nat.zero_add, subW2, subW0, subW1, h01, hs2, hs2']
    refine goF h72 ?_
    simp only [us32, go_sem, fillAll, fillIn, shiftR, shiftV, List.take_succ_cons, List.take_zero, List.drop_succ_cons, List.drop_zero, List.append_nil, Nat.zero_add, subW2, subW0, subW1, w1]
    exact loopQ_go rfl 0 (by omega) ⟨1, _, .inr ⟨rfl, rfl⟩, by omega, rfl⟩
  · have g : ¬ ((1 : Nat) : Int) < 1 := by omega
    simp only [b110_0, k110_0, wI, whC, us32, go_sem, fillAll, fillIn, shiftR, shiftV, List.take_succ_cons, List.take_zero, List.drop_succ_cons, List.drop_zero, List.append_nil, Nat.zero_add, subW2, subW0, subW1, Int.lt_irrefl, g]
    simp only [i110, Out, resAll, geto, ints, List.getElem?_cons_zero, List.getElem?_cons_succ, resOf, outOf, snap, snapL, ev, getE, List.mapM_cons, List.mapM_nil, Option.bind_some, Option.pure_def, Option.bind_eq_bind, Option.map_some, reduceIte, Nat.reduceEqDiff, true_and, and_true, subW2, wI, whC, us32]
end
end Go.Proofs.Ytlejgleocnemoaa.I

namespace Go.Proofs.Ytlejgleocnemoaa.I
open Go Go.V
attribute [local go_sem] mNil nat0 beq_self_eq_true mSkip mRet mExit mReg mSeq mCond mTrue mFalse mBlock mLv mCodeE mCodeR mEndN mEndR mEndE mOps mSome mGuard mGtt mGff mGtf mGft mGu mCallP mCallR mCallF mCallO mCallZ mCallG mCallM mCallV loopQ_exit loopQ_ret mO_mov mO_newnil mO_pick mO_alloc mO_box mO_build mO_bsl mO_bslF mO_newnilB mO_bslB mO_lenB mO_appB mO_allocA mO_bslA mO_appA mO_ldb mO_faddrb mRsv mO_ldf mO_ld mO_st mO_sta mO_nilchk mO_bin mO_binb mO_binp mO_bins mO_neg mO_com mO_not mO_conv mO_mk mO_mk0 mO_s2b mO_b2s mO_cpy mO_cut mO_faddr mO_fld mO_iaddr mO_iaddrf mO_sidx mO_len mO_lenf mO_slen mO_scut mO_app mO_ext mO_mx mO_mn mO_mkfn evalOp cutOp argsE ev getE putE cellsOf adopt rowOf binV boolV nilV ar_add ar_sub ar_mul ar_quo ar_rem ar_eq ar_ne ar_lt ar_le ar_gt ar_ge ar_and ar_or ar_xor geto bound finRet finNrm ints List.length_cons List.length_nil List.length_append List.getElem?_cons_zero List.getElem?_cons_succ List.nil_append List.cons_append List.map_cons List.map_nil List.mapM_cons List.mapM_nil Option.map_some Option.map_none Option.bind_some Option.pure_def Option.bind_eq_bind List.drop_zero or_self or_false false_or or_true true_or true_and and_true and_self decide_true decide_false Bool.false_eq_true Bool.true_eq_false Bool.not_true Bool.not_false Nat.le_refl eq_self gt_iff_lt ge_iff_le ne_eq not_true_eq_false not_false_eq_true storeOp apartOf freeze_nil refsL refs List.flatMap_cons List.flatMap_nil List.append_nil List.contains_nil List.set_cons_zero List.set_cons_succ snap snapL fill_nums flat_nums nums_length Go.V.freeze List.mapIdx_cons List.mapIdx_nil List.contains_cons Bool.or_false Bool.false_or Bool.or_true Bool.true_or
def R9d (l : List Int) : Prop := ∀ x ∈ l, 0 ≤ x ∧ x ≤ 9
section
variable {E : CallRel}
end
section
variable {E : CallRel}
end
end Go.Proofs.Ytlejgleocnemoaa.I

namespace Go.Proofs.Ytlejgleocnemoaa.I
open Go Go.V
attribute [local go_sem_proc ↓] reduceIte
attribute [local go_sem_proc] Nat.reduceEqDiff Nat.reduceAdd Nat.reduceMul Nat.reduceLeDiff Nat.reduceLT Int.reduceToNat Int.reduceLT Int.reduceLE reduceCtorEq Nat.reduceBEq
attribute [local go_sem] mNil nat0 beq_self_eq_true mSkip mRet mExit mReg mSeq mCond mTrue mFalse mBlock mLv mCodeE mCodeR mEndN mEndR mEndE mOps mSome mGuard mGtt mGff mGtf mGft mGu mCallP mCallR mCallF mCallO mCallZ mCallG mCallM mCallV loopQ_exit loopQ_ret mO_mov mO_newnil mO_pick mO_alloc mO_box mO_build mO_bsl mO_bslF mO_newnilB mO_bslB mO_lenB mO_appB mO_allocA mO_bslA mO_appA mO_ldb mO_faddrb mRsv mO_ldf mO_ld mO_st mO_sta mO_nilchk mO_bin mO_binb mO_binp mO_bins mO_neg mO_com mO_not mO_conv mO_mk mO_mk0 mO_s2b mO_b2s mO_cpy mO_cut mO_faddr mO_fld mO_iaddr mO_iaddrf mO_sidx mO_len mO_lenf mO_slen mO_scut mO_app mO_ext mO_mx mO_mn mO_mkfn evalOp cutOp argsE ev getE putE cellsOf adopt rowOf binV boolV nilV ar_add ar_sub ar_mul ar_quo ar_rem ar_eq ar_ne ar_lt ar_le ar_gt ar_ge ar_and ar_or ar_xor geto bound finRet finNrm ints List.length_cons List.length_nil List.length_append List.getElem?_cons_zero List.getElem?_cons_succ List.nil_append List.cons_append List.map_cons List.map_nil List.mapM_cons List.mapM_nil Option.map_some Option.map_none Option.bind_some Option.pure_def Option.bind_eq_bind List.drop_zero or_self or_false false_or or_true true_or true_and and_true and_self decide_true decide_false Bool.false_eq_true Bool.true_eq_false Bool.not_true Bool.not_false Nat.le_refl eq_self gt_iff_lt ge_iff_le ne_eq not_true_eq_false not_false_eq_true storeOp apartOf freeze_nil refsL refs List.flatMap_cons List.flatMap_nil List.append_nil List.contains_nil List.set_cons_zero List.set_cons_succ snap snapL fill_nums flat_nums nums_length Go.V.freeze List.mapIdx_cons List.mapIdx_nil List.contains_cons Bool.or_false Bool.false_or Bool.or_true Bool.true_or
def wdI (z : Int) : List AV := wdC (decide (z < 0)) z.natAbs
def numR (r : Rat) : List AV := numG (decide (r.num < 0)) r.num.natAbs r.den
theorem Sz.pos {i : Nat} {r : Rat} (h : Sz i r) : 1 ≤ i := by
  rcases Nat.eq_zero_or_pos i with h0 | h0
  · subst h0
    have := h.2
    have := r.den_nz
    simp at *
    omega
  · exact h0
theorem natAbs_den {r : Rat} : ((r.den : Int)).natAbs = r.den := by omega
theorem den_neg {r : Rat} : decide ((r.den : Int) < 0) = false := decide_eq_false (by omega)
section
variable {E : CallRel}
theorem c108_I {a b : Int} (ha : (limG a.natAbs).length ≤ 1000000) (hb : (limG b.natAbs).length ≤ 1000000) : Go.V.Call tab E 108 [.agg (wI a), .sl 1 2 (wI b)] [] (.agg (wI (a * b))) [] := by
  rw [← wI_mul]
  exact c108_ok ha hb
theorem c109_R {x : Rt} {r : Rat} (h : RV x r) : Go.V.Call tab E 109 [.agg (rtC x)] [] (.agg (wI (r.den : Int))) [] := by
  have h1 := c109_ok (E := E) (n := x.1) (p := x.2.1) (q := x.2.2)
  rw [h.2.2] at h1
  rw [wI, den_neg, natAbs_den]
  exact h1
theorem c107_I {a b : Int} (hb : b ≠ 0) (hla : (limG a.natAbs).length ≤ 1000000) (hlb : (limG b.natAbs).length ≤ 1000000) :
    Go.V.Call tab E 107 [.agg (wI a), .agg (wI b)] [] (.tup [.agg (rtC (rR (Rat.divInt a b))), .bool true]) [] := by
  rw [← rR_divInt hb]
  exact c107_ok (by omega) hla hlb
theorem rtC_top {x : Rt} {r : Rat} (h : RV x r) : rtC x = wI r.num ++ [us32 (limG x.2.2)] := by
  obtain ⟨n, p, q⟩ := x
  obtain ⟨h1, h2, _⟩ := h
  simp only at h1 h2
  subst h1; subst h2
  rfl
set_option maxHeartbeats 1000000 in
theorem c49_ok {x y : Rt} {a b : Rat} {i j : Nat} (hx : RV x a) (hy : RV y b) (ha : Sz i a) (hb : Sz j b) (hij : i + j + 1 ≤ 32000000) : Go.V.Call tab E 49 [.agg (rtC x), .sl 1 3 (rtC y)] [] (.agg (rtC (rR (a + b)))) [] := by
  refine Go.V.Call.mach i49 c49 rfl rfl rfl rfl ?_
  obtain ⟨hn, hd⟩ := add_num_lt ha hb
  have ux := c109_R (E := E) hx
  have uy := c109_R (E := E) hy
  have e1 : (a.num * b.den).natAbs < 2 ^ (i + j) := by rw [Int.natAbs_mul, Int.natAbs_natCast]; exact lt_mul_pow ha.1 hb.2
  have e2 : (b.num * a.den).natAbs < 2 ^ (i + j) := by rw [Int.natAbs_mul, Int.natAbs_natCast, Nat.add_comm]; exact lt_mul_pow hb.1 ha.2
  have l1 := limG_sz ha.1 (by omega)
  have l2 := limG_sz ha.2 (by omega)
  have l3 := limG_sz hb.1 (by omega)
  have l4 := limG_sz hb.2 (by omega)
  have p1 := c108_I (E := E) (a := a.num) (b := (b.den : Int)) l1 (by rw [natAbs_den]; exact l4)
  have p2 := c108_I (E := E) (a := b.num) (b := (a.den : Int)) l3 (by rw [natAbs_den]; exact l2)
  have p3 := c108_I (E := E) (a := (a.den : Int)) (b := (b.den : Int)) (by rw [natAbs_den]; exact l2) (by rw [natAbs_den]; exact l4)
  have s := c110_ok (E := E) (x := a.num * b.den) (y := b.num * a.den) (limG_sz e1 (by omega)) (limG_sz e2 (by omega))
  have h38 := c107_I (E := E) (a := a.num * b.den + b.num * a.den) (b := (a.den : Int) * b.den) den_mul_ne (limG_sz hn (by omega)) (limG_sz hd (by omega))
  rw [add_divInt] at h38
  clear e1 e2 l1 l2 l3 l4 hn hd
  generalize a.num * (b.den : Int) = A1 at *
  generalize b.num * (a.den : Int) = A2 at *
  generalize (a.den : Int) * (b.den : Int) = A3 at *
  have tx := rtC_top hx
  have ty := rtC_top hy
  generalize rR (a + b) = z at *
  rw [tx] at ux
  rw [ty] at uy
  simp only [wI, whC, us32, List.cons_append, List.nil_append] at ux uy p1 p2 p3 s
  simp only [rtC, ratG, us32, wI, whC] at h38
  simp only [c49, tx, ty, rtC, ratG, wI, whC, us32, go_sem, fillAll, fillIn, shiftR, shiftV, List.take_succ_cons, List.take_zero, List.drop_succ_cons, List.drop_zero, List.append_nil, Nat.zero_add, subT3]
  refine mLoop (fun N st => ∃ (k : Nat) (cs : List AV), (k = 0 ∧ cs = rtC x ∨ k = 1 ∧ cs = rtC z) ∧ N = 1 - k ∧
    st = ⟨[(2, .loc 0 0 0), (4, .loc 3 0 0), (7, .sl 1 3 (rtC y)), (8, .int .i64 1), (9, .int .i64 k)], [⟨true, 59, 3, 0, 1, cs, false⟩, ⟨false, 154, 1, 0, 0, [], false⟩, ⟨false, 154, 1, 0, 0, [], false⟩, ⟨true, 59, 3, 0, 1, [.arr 1 0, .bool false, .arr 2 0], false⟩]⟩) 1
    ⟨_, rfl, 0, rtC x, .inl ⟨rfl, rfl⟩, by omega, by simp [getE, tx, ty, wI, whC, us32, hx.1, hx.2.1, hy.1, hy.2.1]⟩ ?_
  rintro N s0 ⟨k, cs, hiv, rfl, rfl⟩
  rcases hiv with ⟨rfl, rfl⟩ | ⟨rfl, rfl⟩
  · have hs2 : sub true 3 (rtC y) (0 * 3) = some (.agg (rtC y)) := rfl
    have hs2' : sub true 3 (rtC y) 0 = some (.agg (rtC y)) := rfl
    have w1 : IntKind.i64.wrap (0 + 1) = 1 := by decide
    have h01 : (0 : Int) < ((1 : Nat) : Int) := by omega
    rw [ty] at hs2 hs2'
    simp only [wI, whC, us32, List.cons_append, List.nil_append] at hs2 hs2'
    simp only [b49_0, tx, ty, wI, whC, us32, go_sem, fillAll, fillIn, shiftR, shiftV, List.take_succ_cons, List.take_zero, List.drop_succ_cons, List.drop_zero, List.append_nil, Nat.zero_add, subT3, subT2, h01, hs2, hs2']
    refine goF uy ?_
    simp only [us32, go_sem, fillAll, fillIn, shiftR, shiftV, List.take_succ_cons, List.take_zero, List.drop_succ_cons, List.drop_zero, List.append_nil, Nat.zero_add, subT3, subT2, List.flatten_cons, List.flatten_nil, Option.getD_some]
    refine goF p1 ?_
    simp only [us32, go_sem, fillAll, fillIn, shiftR, shiftV, List.take_succ_cons, List.take_zero, List.drop_succ_cons, List.drop_zero, List.append_nil, Nat.zero_add, subT3, subT2]
    refine goP ux ?_
    simp only [us32, go_sem, fillAll, fillIn, shiftR, shiftV, List.take_succ_cons, List.take_zero, List.drop_succ_cons, List.drop_zero, List.append_nil, Nat.zero_add, subT3, subT2, List.flatten_cons, List.flatten_nil, Option.getD_some]
    refine goF p2 ?_
    simp only [us32, go_sem, fillAll, fillIn, shiftR, shiftV, List.take_succ_cons, List.take_zero, List.drop_succ_cons, List.drop_zero, List.append_nil, Nat.zero_add, subT3, subT2, List.flatten_cons, List.flatten_nil, Option.getD_some]
    refine goF s ?_
    simp only [us32, go_sem, fillAll, fillIn, shiftR, shiftV, List.take_succ_cons, List.take_zero, List.drop_succ_cons, List.drop_zero, List.append_nil, Nat.zero_add, subT3, subT2]
    refine goP ux ?_
    simp only [us32, go_sem, fillAll, fillIn, shiftR, shiftV, List.take_succ_cons, List.take_zero, List.drop_succ_cons, List.drop_zero, List.append_nil, Nat.zero_add, subT3, subT2]
    refine goF uy ?_
    simp only [us32, go_sem, fillAll, fillIn, shiftR, shiftV, List.take_succ_cons, List.take_zero, List.drop_succ_cons, List.drop_zero, List.append_nil, Nat.zero_add, subT3, subT2, List.flatten_cons, List.flatten_nil, Option.getD_some]
    refine goF p3 ?_
    simp only [us32, go_sem, fillAll, fillIn, shiftR, shiftV, List.take_succ_cons, List.take_zero, List.drop_succ_cons, List.drop_zero, List.append_nil, Nat.zero_add, subT3, subT2]
    refine goP h38 ?_
    simp only [us32, go_sem, fillAll, fillIn, shiftR, shiftV, List.take_succ_cons, List.take_zero, List.drop_succ_cons, List.drop_zero, List.append_nil, Nat.zero_add, subT3, subT2, w1]
    exact loopQ_go rfl 0 (by omega) ⟨1, _, .inr ⟨rfl, rfl⟩, by omega, by simp only [ty, wI, whC, us32, rtC, ratG, List.cons_append, List.nil_append]; rfl⟩
  · have g : ¬ ((1 : Nat) : Int) < 1 := by omega
    simp only [b49_0, k49_0, rtC, ratG, us32, go_sem, fillAll, fillIn, shiftR, shiftV, List.take_succ_cons, List.take_zero, List.drop_succ_cons, List.drop_zero, List.append_nil, Nat.zero_add, subT3, Int.lt_irrefl, g]
    simp only [i49, Out, resAll, geto, ints, List.getElem?_cons_zero, List.getElem?_cons_succ, resOf, outOf, snap, snapL, ev, getE, List.mapM_cons, List.mapM_nil, Option.bind_some, Option.pure_def, Option.bind_eq_bind, Option.map_some, reduceIte, Nat.reduceEqDiff, true_and, and_true, subT3, rtC, ratG, us32]
end
theorem wI_minus {z : Int} : whC (!decide (z < 0) && decide (z.natAbs ≠ 0)) z.natAbs = wI (-z) := by
  have h1 : (-z).natAbs = z.natAbs := by omega
  rw [wI, h1]
  congr 1
  by_cases h : z < 0
  · rw [decide_eq_true h, decide_eq_false (show ¬ -z < 0 by omega)]; rfl
  · rw [decide_eq_false h]
    by_cases h0 : z = 0
    · subst h0; rfl
    · rw [decide_eq_true (show z.natAbs ≠ 0 by omega), decide_eq_true (show -z < 0 by omega)]; rfl
def flr (r : Rat) : Int := r.num / (r.den : Int)
def restR (b r : Rat) : Rat := if b = 0 then r else r + -(b * ((flr (r / b) : Int) : Rat))
theorem flr_lt {r : Rat} {k : Nat} (h : Sz k r) : (flr r).natAbs < 2 ^ (k + 1) := by
  have hd := r.den_nz
  have h1 : flr r * (r.den : Int) ≤ r.num := Int.ediv_mul_le _ (by omega)
  have h2 : r.num < (flr r + 1) * (r.den : Int) := Int.lt_ediv_add_one_mul_self _ (by omega)
  have hn := h.1
  have hp : 0 < 2 ^ k := Nat.pow_pos (by omega)
  rw [Nat.pow_succ]
  generalize flr r = f at *
  have hd1 : (1 : Int) ≤ (r.den : Int) := by omega
  by_cases hf : 0 ≤ f
  · have : f * 1 ≤ f * (r.den : Int) := Int.mul_le_mul_of_nonneg_left hd1 hf
    omega
  · have h3 : (-(f + 1)) * 1 ≤ (-(f + 1)) * (r.den : Int) := Int.mul_le_mul_of_nonneg_left hd1 (by omega)
    have h4 : (-(f + 1)) * (r.den : Int) = -((f + 1) * (r.den : Int)) := Int.neg_mul _ _
    omega
theorem Sz.int {z : Int} {k : Nat} (h : z.natAbs < 2 ^ k) (hk : 1 ≤ k) : Sz k (z : Rat) := by
  refine ⟨by rw [Rat.num_intCast]; exact h, ?_⟩
  rw [Rat.den_intCast]
  exact Nat.one_lt_two_pow (by omega)
theorem rnum_ne {b : Rat} (h : b ≠ 0) : b.num ≠ 0 := fun hh => h (Rat.num_eq_zero.1 hh)
theorem Sz.rest {b r : Rat} {i j : Nat} (hr : Sz i r) (hb : Sz j b) : Sz (2 * i + 2 * j + 2) (restR b r) := by
  unfold restR
  split
  · exact hr.mono (by omega)
  · rename_i h0
    have h1 := hr.div hb (rnum_ne h0)
    have h2 := Sz.int (flr_lt h1) (by omega)
    exact (hr.add (hb.mul h2).neg).mono (by omega)
section
variable {E : CallRel}
theorem c111_I {z : Int} : Go.V.Call tab E 111 [.agg (wI z)] [] (.agg (wI (-z))) [] := by
  refine Go.V.Call.mach i111 c111 rfl rfl rfl rfl ?_
  have h := c136_ok (E := E) (n := !decide (z < 0)) (p := z.natAbs)
  have hw := wI_minus (z := z)
  simp only [natC, us32] at h
  simp only [wI, whC, us32] at hw ⊢
  simp only [c111, us32, go_sem, fillAll, fillIn, shiftR, shiftV, List.take_succ_cons, List.take_zero, List.drop_succ_cons, List.drop_zero, List.append_nil, Nat.zero_add, subW2, subW0, subW1]
  refine goP h ?_
  simp only [us32, go_sem, fillAll, fillIn, shiftR, shiftV, List.take_succ_cons, List.take_zero, List.drop_succ_cons, List.drop_zero, List.append_nil, Nat.zero_add]
  simp only [i111, Out, resAll, geto, ints, List.getElem?_cons_zero, List.getElem?_cons_succ, resOf, outOf, snap, snapL, ev, getE, List.mapM_cons, List.mapM_nil, Option.bind_some, Option.pure_def, Option.bind_eq_bind, Option.map_some, reduceIte, Nat.reduceEqDiff, true_and, and_true, subW2]
  rw [hw]
theorem rtC_neg {r : Rat} : wI (-r.num) ++ [us32 (limG r.den)] = rtC (rR (-r)) := by
  simp only [rtC, ratG, rR, Rat.neg_num, Rat.neg_den, wI, whC, List.cons_append, List.nil_append]
theorem c50_ok {x : Rt} {r : Rat} (hx : RV x r) : Go.V.Call tab E 50 [.agg (rtC x)] [] (.agg (rtC (rR (-r)))) [] := by
  refine Go.V.Call.mach i50 c50 rfl rfl rfl rfl ?_
  have h := c111_I (E := E) (z := r.num)
  have hd := c79_gen (E := E) (n := x.1) (p := x.2.1) (q := x.2.2)
  have tx := rtC_top hx
  have hn := rtC_neg (r := r)
  change Go.V.Call tab E 79 [.agg (rtC x)] [] _ [] at hd
  rw [tx, hx.2.2] at hd
  rw [tx, ← hn]
  simp only [wI, whC, us32, natC, List.cons_append, List.nil_append] at h hd ⊢
  simp only [c50, us32, go_sem, fillAll, fillIn, shiftR, shiftV, List.take_succ_cons, List.take_zero, List.drop_succ_cons, List.drop_zero, List.append_nil, Nat.zero_add, subT3, subT2]
  refine goP h ?_
  simp only [us32, go_sem, fillAll, fillIn, shiftR, shiftV, List.take_succ_cons, List.take_zero, List.drop_succ_cons, List.drop_zero, List.append_nil, Nat.zero_add, subT3, subT2]
  refine goP hd ?_
  simp only [us32, go_sem, fillAll, fillIn, shiftR, shiftV, List.take_succ_cons, List.take_zero, List.drop_succ_cons, List.drop_zero, List.append_nil, Nat.zero_add, subT3, subT2]
  simp only [i50, Out, resAll, geto, ints, List.getElem?_cons_zero, List.getElem?_cons_succ, resOf, outOf, snap, snapL, ev, getE, List.mapM_cons, List.mapM_nil, Option.bind_some, Option.pure_def, Option.bind_eq_bind, Option.map_some, reduceIte, Nat.reduceEqDiff, true_and, and_true, subT3]
set_option maxHeartbeats 1000000 in
theorem c56_ok {x y : Rt} {a b : Rat} {i j : Nat} (hx : RV x a) (hy : RV y b) (ha : Sz i a) (hb : Sz j b) (hij : i + j + 1 ≤ 32000000) : Go.V.Call tab E 56 [.agg (rtC x), .sl 1 3 (rtC y)] [] (.agg (rtC (rR (a * b)))) [] := by
  refine Go.V.Call.mach i56 c56 rfl rfl rfl rfl ?_
  obtain ⟨hn, hd⟩ := mul_num_lt ha hb
  have ux := c109_R (E := E) hx
  have uy := c109_R (E := E) hy
  have l1 := limG_sz ha.1 (by omega)
  have l2 := limG_sz ha.2 (by omega)
  have l3 := limG_sz hb.1 (by omega)
  have l4 := limG_sz hb.2 (by omega)
  have p1 := c108_I (E := E) (a := a.num) (b := b.num) l1 l3
  have p3 := c108_I (E := E) (a := (a.den : Int)) (b := (b.den : Int)) (by rw [natAbs_den]; exact l2) (by rw [natAbs_den]; exact l4)
  have h38 := c107_I (E := E) (a := a.num * b.num) (b := (a.den : Int) * b.den) den_mul_ne (limG_sz hn (by omega)) (limG_sz hd (by omega))
  rw [mul_divInt] at h38
  clear l1 l2 l3 l4 hn hd
  generalize a.num * b.num = A1 at *
  generalize (a.den : Int) * (b.den : Int) = A3 at *
  have tx := rtC_top hx
  have ty := rtC_top hy
  generalize rR (a * b) = z at *
  rw [tx] at ux
  rw [ty] at uy
  simp only [wI, whC, us32, List.cons_append, List.nil_append] at ux uy p1 p3
  simp only [rtC, ratG, us32, wI, whC] at h38
  simp only [c56, tx, ty, rtC, ratG, wI, whC, us32, go_sem, fillAll, fillIn, shiftR, shiftV, List.take_succ_cons, List.take_zero, List.drop_succ_cons, List.drop_zero, List.append_nil, Nat.zero_add, subT3]
  refine mLoop (fun N st => ∃ (k : Nat) (cs : List AV), (k = 0 ∧ cs = rtC x ∨ k = 1 ∧ cs = rtC z) ∧ N = 1 - k ∧
    st = ⟨[(2, .loc 0 0 0), (4, .loc 3 0 0), (7, .sl 1 3 (rtC y)), (8, .int .i64 1), (9, .int .i64 k)], [⟨true, 59, 3, 0, 1, cs, false⟩, ⟨false, 154, 1, 0, 0, [], false⟩, ⟨false, 154, 1, 0, 0, [], false⟩, ⟨true, 59, 3, 0, 1, [.arr 1 0, .bool false, .arr 2 0], false⟩]⟩) 1
    ⟨_, rfl, 0, rtC x, .inl ⟨rfl, rfl⟩, by omega, by simp [getE, tx, ty, wI, whC, us32, hx.1, hx.2.1, hy.1, hy.2.1]⟩ ?_
  rintro N s0 ⟨k, cs, hiv, rfl, rfl⟩
  rcases hiv with ⟨rfl, rfl⟩ | ⟨rfl, rfl⟩
  · have hs2 : sub true 3 (rtC y) (0 * 3) = some (.agg (rtC y)) := rfl
    have hs2' : sub true 3 (rtC y) 0 = some (.agg (rtC y)) := rfl
    have w1 : IntKind.i64.wrap (0 + 1) = 1 := by decide
    have h01 : (0 : Int) < ((1 : Nat) : Int) := by omega
    rw [ty] at hs2 hs2'
    simp only [wI, whC, us32, List.cons_append, List.nil_append] at hs2 hs2'
    simp only [b56_0, tx, ty, wI, whC, us32, go_sem, fillAll, fillIn, shiftR, shiftV, List.take_succ_cons, List.take_zero, List.drop_succ_cons, List.drop_zero, List.append_nil, Nat.zero_add, subT3, subT2, h01, hs2, hs2']
    refine goF p1 ?_
    simp only [us32, go_sem, fillAll, fillIn, shiftR, shiftV, List.take_succ_cons, List.take_zero, List.drop_succ_cons, List.drop_zero, List.append_nil, Nat.zero_add, subT3, subT2, List.flatten_cons, List.flatten_nil, Option.getD_some]
    refine goP ux ?_
    simp only [us32, go_sem, fillAll, fillIn, shiftR, shiftV, List.take_succ_cons, List.take_zero, List.drop_succ_cons, List.drop_zero, List.append_nil, Nat.zero_add, subT3, subT2, List.flatten_cons, List.flatten_nil, Option.getD_some]
    refine goF uy ?_
    simp only [us32, go_sem, fillAll, fillIn, shiftR, shiftV, List.take_succ_cons, List.take_zero, List.drop_succ_cons, List.drop_zero, List.append_nil, Nat.zero_add, subT3, subT2, List.flatten_cons, List.flatten_nil, Option.getD_some]
    refine goF p3 ?_
    simp only [us32, go_sem, fillAll, fillIn, shiftR, shiftV, List.take_succ_cons, List.take_zero, List.drop_succ_cons, List.drop_zero, List.append_nil, Nat.zero_add, subT3, subT2]
    refine goP h38 ?_
    simp only [us32, go_sem, fillAll, fillIn, shiftR, shiftV, List.take_succ_cons, List.take_zero, List.drop_succ_cons, List.drop_zero, List.append_nil, Nat.zero_add, subT3, subT2, w1]
    exact loopQ_go rfl 0 (by omega) ⟨1, _, .inr ⟨rfl, rfl⟩, by omega, by simp only [ty, wI, whC, us32, rtC, ratG, List.cons_append, List.nil_append]; rfl⟩
  · have g : ¬ ((1 : Nat) : Int) < 1 := by omega
    simp only [b56_0, k56_0, rtC, ratG, us32, go_sem, fillAll, fillIn, shiftR, shiftV, List.take_succ_cons, List.take_zero, List.drop_succ_cons, List.drop_zero, List.append_nil, Nat.zero_add, subT3, Int.lt_irrefl, g]
    simp only [i56, Out, resAll, geto, ints, List.getElem?_cons_zero, List.getElem?_cons_succ, resOf, outOf, snap, snapL, ev, getE, List.mapM_cons, List.mapM_nil, Option.bind_some, Option.pure_def, Option.bind_eq_bind, Option.map_some, reduceIte, Nat.reduceEqDiff, true_and, and_true, subT3, rtC, ratG, us32]
theorem c51_ok {x y : Rt} {a b : Rat} {i j : Nat} (hx : RV x a) (hy : RV y b) (ha : Sz i a) (hb : Sz j b) (h0 : b ≠ 0) (hij : i + j + 1 ≤ 32000000) : Go.V.Call tab E 51 [.agg (rtC x), .agg (rtC y)] [] (.tup [.agg (rtC (rR (a / b))), .bool true]) [] := by
  refine Go.V.Call.mach i51 c51 rfl rfl rfl rfl ?_
  obtain ⟨hn, hd⟩ := div_num_lt ha hb
  have ux := c109_R (E := E) hx
  have uy := c109_R (E := E) hy
  have p1 := c108_I (E := E) (a := a.num) (b := (b.den : Int)) (limG_sz ha.1 (by omega)) (by rw [natAbs_den]; exact limG_sz hb.2 (by omega))
  have p3 := c108_I (E := E) (a := (a.den : Int)) (b := b.num) (by rw [natAbs_den]; exact limG_sz ha.2 (by omega)) (limG_sz hb.1 (by omega))
  have h38 := c107_I (E := E) (a := a.num * b.den) (b := (a.den : Int) * b.num) (Int.mul_ne_zero (by have := a.den_nz; omega) (rnum_ne h0)) (limG_sz hn (by omega)) (limG_sz hd (by omega))
  rw [div_divInt] at h38
  clear hn hd
  generalize a.num * (b.den : Int) = A1 at *
  generalize (a.den : Int) * b.num = A3 at *
  have tx := rtC_top hx
  have ty := rtC_top hy
  generalize rR (a / b) = z at *
  rw [tx] at ux
  rw [ty] at uy
  rw [tx, ty]
  simp only [wI, whC, us32, List.cons_append, List.nil_append] at ux uy p1 p3 ⊢
  simp only [rtC, ratG, us32, wI, whC] at h38 ⊢
  simp only [c51, us32, go_sem, fillAll, fillIn, shiftR, shiftV, List.take_succ_cons, List.take_zero, List.drop_succ_cons, List.drop_zero, List.append_nil, Nat.zero_add, subT3, subT2]
  refine goP uy ?_
  simp only [us32, go_sem, fillAll, fillIn, shiftR, shiftV, List.take_succ_cons, List.take_zero, List.drop_succ_cons, List.drop_zero, List.append_nil, Nat.zero_add, subT3, subT2, List.flatten_cons, List.flatten_nil]
  refine goP p1 ?_
  simp only [us32, go_sem, fillAll, fillIn, shiftR, shiftV, List.take_succ_cons, List.take_zero, List.drop_succ_cons, List.drop_zero, List.append_nil, Nat.zero_add, subT3, subT2]
  refine goP ux ?_
  simp only [us32, go_sem, fillAll, fillIn, shiftR, shiftV, List.take_succ_cons, List.take_zero, List.drop_succ_cons, List.drop_zero, List.append_nil, Nat.zero_add, subT3, subT2, List.flatten_cons, List.flatten_nil]
  refine goP p3 ?_
  simp only [us32, go_sem, fillAll, fillIn, shiftR, shiftV, List.take_succ_cons, List.take_zero, List.drop_succ_cons, List.drop_zero, List.append_nil, Nat.zero_add, subT3, subT2]
  refine goP h38 ?_
  simp only [us32, go_sem, fillAll, fillIn, shiftR, shiftV, List.take_succ_cons, List.take_zero, List.drop_succ_cons, List.drop_zero, List.append_nil, Nat.zero_add, subT3, subT2]
  simp only [i51, Out, resAll, geto, ints, List.getElem?_cons_zero, List.getElem?_cons_succ, resOf, outOf, snap, snapL, ev, getE, List.mapM_cons, List.mapM_nil, Option.bind_some, Option.pure_def, Option.bind_eq_bind, Option.map_some, reduceIte, Nat.reduceEqDiff, true_and, and_true, subT3]
theorem c51_zero {x y : Rt} {a : Rat} {i : Nat} (hx : RV x a) (hy : RV y 0) (ha : Sz i a) (hij : i + 1 ≤ 32000000) : Go.V.Call tab E 51 [.agg (rtC x), .agg (rtC y)] [] (.tup [.agg (ratG false 0 0), .bool false]) [] := by
  refine Go.V.Call.mach i51 c51 rfl rfl rfl rfl ?_
  have ux := c109_R (E := E) hx
  have uy := c109_R (E := E) hy
  have p1 := c108_I (E := E) (a := a.num) (b := (((0 : Rat).den : Nat) : Int)) (limG_sz ha.1 (by omega)) (by rw [natAbs_den]; exact limG_sz (k := 1) (by decide) (by omega))
  have p3 := c108_I (E := E) (a := (a.den : Int)) (b := (0 : Rat).num) (by rw [natAbs_den]; exact limG_sz ha.2 (by omega)) (limG_sz (k := 1) (by decide) (by omega))
  have h38 := c107_zero (E := E) (n1 := decide (a.num * (((0 : Rat).den : Nat) : Int) < 0)) (n2 := false) (p := (a.num * (((0 : Rat).den : Nat) : Int)).natAbs)
  have e0 : (a.den : Int) * (0 : Rat).num = 0 := by rw [Rat.num_ofNat]; exact Int.mul_zero _
  rw [e0] at p3
  generalize a.num * (((0 : Rat).den : Nat) : Int) = A1 at *
  have tx := rtC_top hx
  have ty := rtC_top hy
  rw [tx] at ux
  rw [ty] at uy
  rw [tx, ty]
  have d0 : decide ((0 : Int) < 0) = false := by decide
  simp only [wI, whC, us32, List.cons_append, List.nil_append, d0, Int.natAbs_zero] at ux uy p1 p3 ⊢
  simp only [rtC, ratG, us32, wI, whC] at h38 ⊢
  simp only [c51, us32, go_sem, fillAll, fillIn, shiftR, shiftV, List.take_succ_cons, List.take_zero, List.drop_succ_cons, List.drop_zero, List.append_nil, Nat.zero_add, subT3, subT2]
  refine goP uy ?_
  simp only [us32, go_sem, fillAll, fillIn, shiftR, shiftV, List.take_succ_cons, List.take_zero, List.drop_succ_cons, List.drop_zero, List.append_nil, Nat.zero_add, subT3, subT2, List.flatten_cons, List.flatten_nil]
  refine goP p1 ?_
  simp only [us32, go_sem, fillAll, fillIn, shiftR, shiftV, List.take_succ_cons, List.take_zero, List.drop_succ_cons, List.drop_zero, List.append_nil, Nat.zero_add, subT3, subT2]
  refine goP ux ?_
  simp only [us32, go_sem, fillAll, fillIn, shiftR, shiftV, List.take_succ_cons, List.take_zero, List.drop_succ_cons, List.drop_zero, List.append_nil, Nat.zero_add, subT3, subT2, List.flatten_cons, List.flatten_nil]
  refine goP p3 ?_
  simp only [us32, go_sem, fillAll, fillIn, shiftR, shiftV, List.take_succ_cons, List.take_zero, List.drop_succ_cons, List.drop_zero, List.append_nil, Nat.zero_add, subT3, subT2]
  refine goP h38 ?_
  simp only [us32, go_sem, fillAll, fillIn, shiftR, shiftV, List.take_succ_cons, List.take_zero, List.drop_succ_cons, List.drop_zero, List.append_nil, Nat.zero_add, subT3, subT2]
  simp only [i51, Out, resAll, geto, ints, List.getElem?_cons_zero, List.getElem?_cons_succ, resOf, outOf, snap, snapL, ev, getE, List.mapM_cons, List.mapM_nil, Option.bind_some, Option.pure_def, Option.bind_eq_bind, Option.map_some, reduceIte, Nat.reduceEqDiff, true_and, and_true, subT3]
theorem rR_int {z : Int} : rtC (rR (z : Rat)) = wI z ++ [us32 [1]] := by
  have h1 : limG 1 = [1] := limG_one (d := 1) (by omega) (by omega)
  simp only [rtC, ratG, rR, Rat.num_intCast, Rat.den_intCast, wI, whC, List.cons_append, List.nil_append, h1]
  rfl
theorem c104_ok {z : Int} : Go.V.Call tab E 104 [.agg (wI z)] [] (.agg (rtC (rR (z : Rat)))) [] := by
  refine Go.V.Call.mach i104 c104 rfl rfl rfl rfl ?_
  have h := c114_one (E := E)
  rw [rR_int]
  simp only [wI, whC, us32, List.cons_append, List.nil_append] at h ⊢
  simp only [c104, us32, go_sem, fillAll, fillIn, shiftR, shiftV, List.take_succ_cons, List.take_zero, List.drop_succ_cons, List.drop_zero, List.append_nil, Nat.zero_add, subW2]
  refine goP h ?_
  simp only [us32, go_sem, fillAll, fillIn, shiftR, shiftV, List.take_succ_cons, List.take_zero, List.drop_succ_cons, List.drop_zero, List.append_nil, Nat.zero_add]
  simp only [i104, Out, resAll, geto, ints, List.getElem?_cons_zero, List.getElem?_cons_succ, resOf, outOf, snap, snapL, ev, getE, List.mapM_cons, List.mapM_nil, Option.bind_some, Option.pure_def, Option.bind_eq_bind, Option.map_some, reduceIte, Nat.reduceEqDiff, true_and, and_true, subT3]
end
theorem fl_pos {a d : Int} {q r : Nat} (hd : 0 < d) (hq : a = d * q + r) (hr : (r : Int) < d) : a / d = q ∧ a % d = r :=
  (Int.ediv_emod_unique hd).2 ⟨by omega, by omega, hr⟩
theorem fl_neg {a d : Int} {q r : Nat} (hd : 0 < d) (hq : a = -(d * q + r)) (hr : (r : Int) < d) (h0 : r ≠ 0) : a / d = -((q : Int) + 1) ∧ a % d = d - r :=
  (Int.ediv_emod_unique hd).2 ⟨by rw [Int.mul_neg, Int.mul_add, Int.mul_one]; omega, by omega, by omega⟩
theorem fl_neg0 {a d : Int} {q : Nat} (hd : 0 < d) (hq : a = -(d * q)) : a / d = -(q : Int) ∧ a % d = 0 :=
  (Int.ediv_emod_unique hd).2 ⟨by rw [Int.mul_neg]; omega, by omega, hd⟩
theorem natAbs_parts {a : Int} {d : Nat} : (a.natAbs : Int) = (d : Int) * ((a.natAbs / d : Nat) : Int) + ((a.natAbs % d : Nat) : Int) := by
  have := Nat.div_add_mod a.natAbs d
  rw [← Int.natCast_mul, ← Int.natCast_add, this]
section
variable {E : CallRel}
theorem c132_ok {a : Int} {d : Nat} (hd : d ≠ 0) (ha : (limG a.natAbs).length ≤ 1000000) (hb : (limG d).length ≤ 1000000) (hq1 : (limG (a.natAbs / d)).length ≤ 1000000) :
    Go.V.Call tab E 132 [.agg (wI a), .agg (wI (d : Int))] [] (.tup [.agg (wI (a / d)), .agg (wI (a % d)), .bool true]) [] := by
  refine Go.V.Call.mach i132 c132 rfl rfl rfl rfl ?_
  have h157 := c135_ok (E := E) ha hb hd
  have hp := natAbs_parts (a := a) (d := d)
  have hrd : a.natAbs % d < d := Nat.mod_lt _ (by omega)
  have h1 : limG 1 = [1] := limG_one (d := 1) (by omega) (by omega)
  generalize hqq : a.natAbs / d = q at *
  generalize hrr : a.natAbs % d = r at *
  have hrl : (limG r).length ≤ 1000000 := Nat.le_trans (limG_mono (by omega)) hb
  have h154 := c123_nat (E := E) (n := r)
  have h151 := fun n p => c136_ok (E := E) (n := n) (p := p)
  have hs := c150_ok (E := E) hb hrl
  have hadd := c151_ok (E := E) (a := q) (b := 1) hq1 (by rw [h1]; simp)
  have hone := c114_one (E := E)
  have wd : wI (d : Int) = [us32 (limG d), .bool false] := by rw [wI, whC, show decide ((d : Int) < 0) = false from decide_eq_false (by omega)]; rfl
  rw [if_pos (by omega), decide_eq_true (by omega)] at hs
  rw [show natC 1 = .agg [us32 [1]] from by rw [natC, h1]] at hadd
  have wa : wI a = [us32 (limG a.natAbs), .bool (decide (a < 0))] := rfl
  by_cases hneg : a < 0
  · rw [decide_eq_true hneg] at wa
    by_cases h0 : r = 0
    · obtain ⟨e1, e2⟩ := fl_neg0 (a := a) (d := d) (q := q) (by omega) (by omega)
      have k1 := h151 true q
      have k2 := h151 false r
      have w1 := wI_neg (p := q)
      have w2 := wI_pos (p := r)
      rw [decide_eq_true h0] at h154
      rw [e1, e2, wa, wd, ← w1]
      have : wI (0 : Int) = wI ((r : Nat) : Int) := by rw [h0]; rfl
      rw [this, ← w2]
      clear h151 hs hadd hone
      simp only [natC, us32, whC] at h157 h154 k1 k2 ⊢
      simp only [c132, us32, go_sem, fillAll, fillIn, shiftR, shiftV, List.take_succ_cons, List.take_zero, List.drop_succ_cons, List.drop_zero, List.append_nil, Nat.zero_add, subW2, subW0, subW1, subT1]
      refine goP h157 ?_
      simp only [us32, go_sem, fillAll, fillIn, shiftR, shiftV, List.take_succ_cons, List.take_zero, List.drop_succ_cons, List.drop_zero, List.append_nil, Nat.zero_add, subW2, subW0, subW1, subT1, show (true == false) = false from rfl]
      refine goR h154 rfl ?_
      simp only [us32, go_sem, fillAll, fillIn, shiftR, shiftV, List.take_succ_cons, List.take_zero, List.drop_succ_cons, List.drop_zero, List.append_nil, Nat.zero_add, subW2, subW0, subW1, subT1, show (!(true == false)) = true from rfl]
      refine goF k1 ?_
      simp only [us32, go_sem, fillAll, fillIn, shiftR, shiftV, List.take_succ_cons, List.take_zero, List.drop_succ_cons, List.drop_zero, List.append_nil, Nat.zero_add, subW2, subW0, subW1, subT1]
      refine goF k2 ?_
      simp only [us32, go_sem, fillAll, fillIn, shiftR, shiftV, List.take_succ_cons, List.take_zero, List.drop_succ_cons, List.drop_zero, List.append_nil, Nat.zero_add, subW2, subW0, subW1, subT1]
      simp only [i132, Out, resAll, geto, ints, List.getElem?_cons_zero, List.getElem?_cons_succ, resOf, outOf, snap, snapL, ev, getE, List.mapM_cons, List.mapM_nil, Option.bind_some, Option.pure_def, Option.bind_eq_bind, Option.map_some, reduceIte, Nat.reduceEqDiff, true_and, and_true, subW2]
    · obtain ⟨e1, e2⟩ := fl_neg (a := a) (d := d) (q := q) (r := r) (by omega) (by omega) (by omega) h0
      have k1 := h151 true (q + 1)
      have k2 := h151 false (d - r)
      have w1 := wI_neg (p := q + 1)
      have w2 := wI_pos (p := d - r)
      rw [decide_eq_false h0] at h154
      rw [e1, e2, wa, wd]
      have x1 : wI (-((q : Int) + 1)) = wI (-((q + 1 : Nat) : Int)) := by congr 1
      have x2 : wI ((d : Int) - (r : Int)) = wI ((d - r : Nat) : Int) := by congr 1; omega
      rw [x1, x2, ← w1, ← w2]
      clear h151
      simp only [natC, us32, whC] at h157 h154 k1 k2 hs hadd hone ⊢
      simp only [c132, us32, go_sem, fillAll, fillIn, shiftR, shiftV, List.take_succ_cons, List.take_zero, List.drop_succ_cons, List.drop_zero, List.append_nil, Nat.zero_add, subW2, subW0, subW1, subT1]
      refine goP h157 ?_
      simp only [us32, go_sem, fillAll, fillIn, shiftR, shiftV, List.take_succ_cons, List.take_zero, List.drop_succ_cons, List.drop_zero, List.append_nil, Nat.zero_add, subW2, subW0, subW1, subT1, show (true == false) = false from rfl]
      refine goR h154 rfl ?_
      simp only [us32, go_sem, fillAll, fillIn, shiftR, shiftV, List.take_succ_cons, List.take_zero, List.drop_succ_cons, List.drop_zero, List.append_nil, Nat.zero_add, subW2, subW0, subW1, subT1, show (!(true == false)) = true from rfl]
      refine goF hs ?_
      simp only [us32, go_sem, fillAll, fillIn, shiftR, shiftV, List.take_succ_cons, List.take_zero, List.drop_succ_cons, List.drop_zero, List.append_nil, Nat.zero_add, subW2, subW0, subW1, subT1]
      refine goP hone ?_
      simp only [us32, go_sem, fillAll, fillIn, shiftR, shiftV, List.take_succ_cons, List.take_zero, List.drop_succ_cons, List.drop_zero, List.append_nil, Nat.zero_add, subW2, subW0, subW1, subT1]
      refine goF hadd ?_
      simp only [us32, go_sem, fillAll, fillIn, shiftR, shiftV, List.take_succ_cons, List.take_zero, List.drop_succ_cons, List.drop_zero, List.append_nil, Nat.zero_add, subW2, subW0, subW1, subT1]
      refine goP k1 ?_
      simp only [us32, go_sem, fillAll, fillIn, shiftR, shiftV, List.take_succ_cons, List.take_zero, List.drop_succ_cons, List.drop_zero, List.append_nil, Nat.zero_add, subW2, subW0, subW1, subT1]
      refine goF k2 ?_
      simp only [us32, go_sem, fillAll, fillIn, shiftR, shiftV, List.take_succ_cons, List.take_zero, List.drop_succ_cons, List.drop_zero, List.append_nil, Nat.zero_add, subW2, subW0, subW1, subT1]
      simp only [i132, Out, resAll, geto, ints, List.getElem?_cons_zero, List.getElem?_cons_succ, resOf, outOf, snap, snapL, ev, getE, List.mapM_cons, List.mapM_nil, Option.bind_some, Option.pure_def, Option.bind_eq_bind, Option.map_some, reduceIte, Nat.reduceEqDiff, true_and, and_true, subW2]
  · rw [decide_eq_false hneg] at wa
    obtain ⟨e1, e2⟩ := fl_pos (a := a) (d := d) (q := q) (r := r) (by omega) (by omega) (by omega)
    have k1 := h151 false q
    have k2 := h151 false r
    have w1 := wI_pos (p := q)
    have w2 := wI_pos (p := r)
    rw [e1, e2, wa, wd, ← w1, ← w2]
    clear h151 hs hadd hone h154
    simp only [natC, us32, whC] at h157 k1 k2 ⊢
    simp only [c132, us32, go_sem, fillAll, fillIn, shiftR, shiftV, List.take_succ_cons, List.take_zero, List.drop_succ_cons, List.drop_zero, List.append_nil, Nat.zero_add, subW2, subW0, subW1, subT1]
    refine goP h157 ?_
    simp only [us32, go_sem, fillAll, fillIn, shiftR, shiftV, List.take_succ_cons, List.take_zero, List.drop_succ_cons, List.drop_zero, List.append_nil, Nat.zero_add, subW2, subW0, subW1, subT1, show (false == false) = true from rfl, show (!(false == false)) = false from rfl]
    refine goF k1 ?_
    simp only [us32, go_sem, fillAll, fillIn, shiftR, shiftV, List.take_succ_cons, List.take_zero, List.drop_succ_cons, List.drop_zero, List.append_nil, Nat.zero_add, subW2, subW0, subW1, subT1]
    refine goF k2 ?_
    simp only [us32, go_sem, fillAll, fillIn, shiftR, shiftV, List.take_succ_cons, List.take_zero, List.drop_succ_cons, List.drop_zero, List.append_nil, Nat.zero_add, subW2, subW0, subW1, subT1]
    simp only [i132, Out, resAll, geto, ints, List.getElem?_cons_zero, List.getElem?_cons_succ, resOf, outOf, snap, snapL, ev, getE, List.mapM_cons, List.mapM_nil, Option.bind_some, Option.pure_def, Option.bind_eq_bind, Option.map_some, reduceIte, Nat.reduceEqDiff, true_and, and_true, subW2]
theorem c105_ok {x : Rt} {r : Rat} {i : Nat} (hx : RV x r) (hr : Sz i r) (hi : i ≤ 32000000) : Go.V.Call tab E 105 [.agg (rtC x)] [] (.agg (wI (flr r))) [] := by
  refine Go.V.Call.mach i105 c105 rfl rfl rfl rfl ?_
  have hu := c109_R (E := E) hx
  have hf := c132_ok (E := E) (a := r.num) (d := r.den) r.den_nz (limG_sz hr.1 hi) (limG_sz hr.2 hi) (limG_sz (Nat.lt_of_le_of_lt (Nat.div_le_self _ _) hr.1) hi)
  have tx := rtC_top hx
  have hfl : r.num / (r.den : Int) = flr r := rfl
  rw [hfl] at hf
  generalize flr r = z at *
  generalize r.num % (r.den : Int) = y at *
  rw [tx] at hu
  rw [tx]
  simp only [wI, whC, us32, List.cons_append, List.nil_append] at hu hf ⊢
  simp only [c105, us32, go_sem, fillAll, fillIn, shiftR, shiftV, List.take_succ_cons, List.take_zero, List.drop_succ_cons, List.drop_zero, List.append_nil, Nat.zero_add, subT3, subT2]
  refine goP hu ?_
  simp only [us32, go_sem, fillAll, fillIn, shiftR, shiftV, List.take_succ_cons, List.take_zero, List.drop_succ_cons, List.drop_zero, List.append_nil, Nat.zero_add, subT3, subT2]
  refine goP hf ?_
  simp only [us32, go_sem, fillAll, fillIn, shiftR, shiftV, List.take_succ_cons, List.take_zero, List.drop_succ_cons, List.drop_zero, List.append_nil, Nat.zero_add, subT3, subT2, subW2]
  simp only [i105, Out, resAll, geto, ints, List.getElem?_cons_zero, List.getElem?_cons_succ, resOf, outOf, snap, snapL, ev, getE, List.mapM_cons, List.mapM_nil, Option.bind_some, Option.pure_def, Option.bind_eq_bind, Option.map_some, reduceIte, Nat.reduceEqDiff, true_and, and_true, subW2]
theorem c47_ok {x y : Rt} {a b : Rat} {i j : Nat} (hx : RV x a) (hy : RV y b) (ha : Sz i a) (hb : Sz j b) (hij : 2 * i + 2 * j + 2 ≤ 32000000) :
    Go.V.Call tab E 47 [.agg (rtC y), .agg (rtC x)] [] (.agg (rtC (if b = 0 then x else rR (restR b a)))) [] := by
  by_cases h0 : b = 0
  · subst h0
    rw [if_pos rfl]
    refine Go.V.Call.mach i47 c47 rfl rfl rfl rfl ?_
    have hz := c51_zero (E := E) hx hy ha (by omega)
    simp only [rtC, ratG, us32] at hz ⊢
    simp only [c47, us32, go_sem, fillAll, fillIn, shiftR, shiftV, List.take_succ_cons, List.take_zero, List.drop_succ_cons, List.drop_zero, List.append_nil, Nat.zero_add, subT3]
    refine goP hz ?_
    simp only [us32, go_sem, fillAll, fillIn, shiftR, shiftV, List.take_succ_cons, List.take_zero, List.drop_succ_cons, List.drop_zero, List.append_nil, Nat.zero_add, subT3]
    simp only [i47, Out, resAll, geto, ints, List.getElem?_cons_zero, List.getElem?_cons_succ, resOf, outOf, snap, snapL, ev, getE, List.mapM_cons, List.mapM_nil, Option.bind_some, Option.pure_def, Option.bind_eq_bind, Option.map_some, reduceIte, Nat.reduceEqDiff, true_and, and_true, subT3]
  · have sq := ha.div hb (rnum_ne h0)
    have sf := Sz.int (flr_lt sq) (by omega)
    have sp := hb.mul sf
    have h1 := c51_ok (E := E) hx hy ha hb h0 (by omega)
    have h2 := c105_ok (E := E) (x := rR (a / b)) RV.self sq (by omega)
    have h3 := c104_ok (E := E) (z := flr (a / b))
    have h4 := c56_ok (E := E) hy (RV.self (r := ((flr (a / b) : Int) : Rat))) hb sf (by omega)
    have h5 := c50_ok (E := E) (RV.self (r := b * ((flr (a / b) : Int) : Rat)))
    have h6 := c49_ok (E := E) hx (RV.self (r := -(b * ((flr (a / b) : Int) : Rat)))) ha sp.neg (by omega)
    rw [if_neg h0, restR, if_neg h0]
    generalize ((flr (a / b) : Int) : Rat) = f at *
    generalize flr (a / b) = fz at *
    generalize rR (a / b) = q at *
    generalize rR (-(b * f)) = n at *
    generalize rR (b * f) = p at *
    generalize rR (a + -(b * f)) = s at *
    generalize rR f = fx at *
    refine Go.V.Call.mach i47 c47 rfl rfl rfl rfl ?_
    simp only [rtC, ratG, wI, whC, us32] at h1 h2 h3 h4 h5 h6 ⊢
    simp only [c47, us32, go_sem, fillAll, fillIn, shiftR, shiftV, List.take_succ_cons, List.take_zero, List.drop_succ_cons, List.drop_zero, List.append_nil, Nat.zero_add, subT3]
    refine goP h1 ?_
    simp only [us32, go_sem, fillAll, fillIn, shiftR, shiftV, List.take_succ_cons, List.take_zero, List.drop_succ_cons, List.drop_zero, List.append_nil, Nat.zero_add, subT3]
    refine goF h2 ?_
    simp only [us32, go_sem, fillAll, fillIn, shiftR, shiftV, List.take_succ_cons, List.take_zero, List.drop_succ_cons, List.drop_zero, List.append_nil, Nat.zero_add, subT3]
    refine goP h3 ?_
    simp only [us32, go_sem, fillAll, fillIn, shiftR, shiftV, List.take_succ_cons, List.take_zero, List.drop_succ_cons, List.drop_zero, List.append_nil, Nat.zero_add, subT3, List.flatten_cons, List.flatten_nil]
    refine goF h4 ?_
    simp only [us32, go_sem, fillAll, fillIn, shiftR, shiftV, List.take_succ_cons, List.take_zero, List.drop_succ_cons, List.drop_zero, List.append_nil, Nat.zero_add, subT3, Option.getD_some]
    refine goP h5 ?_
    simp only [us32, go_sem, fillAll, fillIn, shiftR, shiftV, List.take_succ_cons, List.take_zero, List.drop_succ_cons, List.drop_zero, List.append_nil, Nat.zero_add, subT3, List.flatten_cons, List.flatten_nil, Option.getD_some]
    refine goF h6 ?_
    simp only [us32, go_sem, fillAll, fillIn, shiftR, shiftV, List.take_succ_cons, List.take_zero, List.drop_succ_cons, List.drop_zero, List.append_nil, Nat.zero_add, subT3, Option.getD_some]
    simp only [i47, Out, resAll, geto, ints, List.getElem?_cons_zero, List.getElem?_cons_succ, resOf, outOf, snap, snapL, ev, getE, List.mapM_cons, List.mapM_nil, Option.bind_some, Option.pure_def, Option.bind_eq_bind, Option.map_some, reduceIte, Nat.reduceEqDiff, true_and, and_true, subT3]
end
end Go.Proofs.Ytlejgleocnemoaa.I

namespace Go.Proofs.Ytlejgleocnemoaa.I
open Go Go.V
attribute [local go_sem] mNil nat0 beq_self_eq_true mSkip mRet mExit mReg mSeq mCond mTrue mFalse mBlock mLv mCodeE mCodeR mEndN mEndR mEndE mOps mSome mGuard mGtt mGff mGtf mGft mGu mCallP mCallR mCallF mCallO mCallZ mCallG mCallM mCallV loopQ_exit loopQ_ret mO_mov mO_newnil mO_pick mO_alloc mO_box mO_build mO_bsl mO_bslF mO_newnilB mO_bslB mO_lenB mO_appB mO_allocA mO_bslA mO_appA mO_ldb mO_faddrb mRsv mO_ldf mO_ld mO_st mO_sta mO_nilchk mO_bin mO_binb mO_binp mO_bins mO_neg mO_com mO_not mO_conv mO_mk mO_mk0 mO_s2b mO_b2s mO_cpy mO_cut mO_faddr mO_fld mO_iaddr mO_iaddrf mO_sidx mO_len mO_lenf mO_slen mO_scut mO_app mO_ext mO_mx mO_mn mO_mkfn evalOp cutOp argsE ev getE putE cellsOf adopt rowOf binV boolV nilV ar_add ar_sub ar_mul ar_quo ar_rem ar_eq ar_ne ar_lt ar_le ar_gt ar_ge ar_and ar_or ar_xor geto bound finRet finNrm ints List.length_cons List.length_nil List.length_append List.getElem?_cons_zero List.getElem?_cons_succ List.nil_append List.cons_append List.map_cons List.map_nil List.mapM_cons List.mapM_nil Option.map_some Option.map_none Option.bind_some Option.pure_def Option.bind_eq_bind List.drop_zero or_self or_false false_or or_true true_or true_and and_true and_self decide_true decide_false Bool.false_eq_true Bool.true_eq_false Bool.not_true Bool.not_false Nat.le_refl eq_self gt_iff_lt ge_iff_le ne_eq not_true_eq_false not_false_eq_true storeOp apartOf freeze_nil refsL refs List.flatMap_cons List.flatMap_nil List.append_nil List.contains_nil List.set_cons_zero List.set_cons_succ snap snapL fill_nums flat_nums nums_length Go.V.freeze List.mapIdx_cons List.mapIdx_nil List.contains_cons Bool.or_false Bool.false_or Bool.or_true Bool.true_or
def zR (z : Int) : Rt := (decide (z < 0), z.natAbs, 1)
theorem ratC_zR {z : Int} (hz : In64 z) : ratC z = rtC (zR z) := by
  obtain ⟨h1, h2⟩ := hz
  rw [ratC, lim_limG (by omega)]
  show _ = [us32 (limG z.natAbs), AV.bool (decide (z < 0)), us32 (limG 1)]
  rw [limG_one (d := 1) (by omega) (by omega)]
  rfl
theorem ratsC_zR {l : List Int} (hl : ∀ z ∈ l, In64 z) : ratsC l = rtsC (l.map zR) := by
  induction l with
  | nil => rfl
  | cons z l ih =>
    have e1 : ratsC (z :: l) = ratC z ++ ratsC l := by simp [ratsC]
    have e2 : rtsC ((z :: l).map zR) = rtC (zR z) ++ rtsC (l.map zR) := by simp [rtsC]
    rw [e1, e2, ratC_zR (hl z (by simp)), ih fun y hy => hl y (by simp [hy])]
theorem arrV_X {s l : List Int} (hl : ∀ z ∈ l, In64 z) : arrV s l = arrX s false [] (l.map zR) := by
  rw [arrV, arrX, ratsC_zR hl, List.length_map]
  rfl
theorem zR_ok {z : Int} (hz : In64 z) : RtOk (zR z) := by
  have h : ∀ n, n ≤ 9223372036854775808 → n < lim2000 := fun n hn => Nat.lt_of_lt_of_le (show n < 10 ^ 19 by omega) (pow10_le (by omega))
  obtain ⟨h1, h2⟩ := hz
  exact ⟨h _ (by show z.natAbs ≤ _; omega), h _ (by show dn 1 ≤ _; decide)⟩
def wholeB (ch : Bool) (t : List Int) (L : List Rt) : Bool := !(ch && decide (0 < t.length + L.length)) && L.all fun x => (rint x).isSome
def lisV (s : List Int) (ch : Bool) (t : List Int) (L : List Rt) : List Int := if s.length ≤ 1 ∧ wholeB ch t L = true then L.map rv else []
def lisE (s : List Int) (ch : Bool) (t : List Int) (L : List Rt) : Int := if 1 < s.length then 23 else if wholeB ch t L = true then 0 else 22
def noP : List AV := plX [] false [] []
def axA (s : List Int) (a : Int) : Int := if a < 0 then (s.length : Int) - 1 else a
def axB (s : List Int) (a : Int) : Bool := decide (0 ≤ axA s a) && decide (axA s a < (s.length : Int))
theorem c11_X {l : List Int} (hl : (l.length : Int) ≤ 1000000000000) (hz : ∀ z ∈ l, In64 z) : Go.V.Call tab E 11 [ints l] [] (.agg (arrX [(l.length : Int)] false [] (l.map zR))) [] := by
  rw [← arrV_X hz]
  exact c11_ok hl hz
def outA (e : Int) (s ks : List Int) (ch : Bool) (t : List Int) (L : List Rt) : List AV := if e = 0 then arrX s ch (picksT ch t ks) (picksR ch L ks) else noA
def outP (e : Int) (s ks : List Int) (ch : Bool) (t : List Int) (l : List Nm) : List AV := if e = 0 then plX s ch (picksT ch t ks) (picksN ch l ks) else noP
def negB (w : List Int) : Bool := w.any fun d => decide (d < 0)
def resE (e0 : Int) (w : List Int) : Int := if e0 ≠ 0 then e0 else if negB w = true then 22 else match count w with | none => if 8 < w.length then 23 else 26 | some _ => 0
def cyc (w : List Int) (len : Nat) : List Int := (List.range (prd w).toNat).map fun i => if len = 0 then (-1 : Int) else ((i % len : Nat) : Int)
end Go.Proofs.Ytlejgleocnemoaa.I

namespace Go.Proofs.Ytlejgleocnemoaa.I
open Go Go.V
theorem set_set {y : List Int} {m : Nat} {v u : Int} (h : m < y.length) : (y.take m ++ v :: y.drop (m + 1)).take m ++ u :: (y.take m ++ v :: y.drop (m + 1)).drop (m + 1) = y.take m ++ u :: y.drop (m + 1) := by
  have e1 : (y.take m).length = m := by simp; omega
  rw [List.take_append_of_le_length (by omega), List.take_take, Nat.min_self, List.drop_append, e1, List.drop_eq_nil_of_le (by omega)]
  simp [show m + 1 - m = 1 by omega]
section
variable {E : CallRel}
end
end Go.Proofs.Ytlejgleocnemoaa.I

namespace Go.Proofs.Ytlejgleocnemoaa.I
open Go Go.V
attribute [local go_sem] mNil nat0 beq_self_eq_true mSkip mRet mExit mReg mSeq mCond mTrue mFalse mBlock mLv mCodeE mCodeR mEndN mEndR mEndE mOps mSome mGuard mGtt mGff mGtf mGft mGu mCallP mCallR mCallF mCallO mCallZ mCallG mCallM mCallV loopQ_exit loopQ_ret mO_mov mO_newnil mO_pick mO_alloc mO_box mO_build mO_bsl mO_bslF mO_newnilB mO_bslB mO_lenB mO_appB mO_allocA mO_bslA mO_appA mO_ldb mO_faddrb mRsv mO_ldf mO_ld mO_st mO_sta mO_nilchk mO_bin mO_binb mO_binp mO_bins mO_neg mO_com mO_not mO_conv mO_mk mO_mk0 mO_s2b mO_b2s mO_cpy mO_cut mO_faddr mO_fld mO_iaddr mO_iaddrf mO_sidx mO_len mO_lenf mO_slen mO_scut mO_app mO_ext mO_mx mO_mn mO_mkfn evalOp cutOp argsE ev getE putE cellsOf adopt rowOf binV boolV nilV ar_add ar_sub ar_mul ar_quo ar_rem ar_eq ar_ne ar_lt ar_le ar_gt ar_ge ar_and ar_or ar_xor geto bound finRet finNrm ints List.length_cons List.length_nil List.length_append List.getElem?_cons_zero List.getElem?_cons_succ List.nil_append List.cons_append List.map_cons List.map_nil List.mapM_cons List.mapM_nil Option.map_some Option.map_none Option.bind_some Option.pure_def Option.bind_eq_bind List.drop_zero or_self or_false false_or or_true true_or true_and and_true and_self decide_true decide_false Bool.false_eq_true Bool.true_eq_false Bool.not_true Bool.not_false Nat.le_refl eq_self gt_iff_lt ge_iff_le ne_eq not_true_eq_false not_false_eq_true storeOp apartOf freeze_nil refsL refs List.flatMap_cons List.flatMap_nil List.append_nil List.contains_nil List.set_cons_zero List.set_cons_succ snap snapL fill_nums flat_nums nums_length Go.V.freeze List.mapIdx_cons List.mapIdx_nil List.contains_cons Bool.or_false Bool.false_or Bool.or_true Bool.true_or
section
variable {E : CallRel}
end
def wi (s : List Int) (a n : Int) : List Int := if 0 ≤ a ∧ a < s.length then s.take a.toNat ++ n :: s.drop (a.toNat + 1) else s
def wo (s : List Int) (a : Int) : List Int := if 0 ≤ a ∧ a < s.length then s.take a.toNat ++ s.drop (a.toNat + 1) else s
section
variable {E : CallRel}
end
end Go.Proofs.Ytlejgleocnemoaa.I

namespace Go.Proofs.Ytlejgleocnemoaa.I
open Go Go.V
attribute [local go_sem_proc ↓] reduceIte
attribute [local go_sem_proc] Nat.reduceEqDiff Nat.reduceAdd Nat.reduceMul Nat.reduceLeDiff Nat.reduceLT Int.reduceToNat Int.reduceLT Int.reduceLE reduceCtorEq Nat.reduceBEq
attribute [local go_sem] mNil nat0 beq_self_eq_true mSkip mRet mExit mReg mSeq mCond mTrue mFalse mBlock mLv mCodeE mCodeR mEndN mEndR mEndE mOps mSome mGuard mGtt mGff mGtf mGft mGu mCallP mCallR mCallF mCallO mCallZ mCallG mCallM mCallV loopQ_exit loopQ_ret mO_mov mO_newnil mO_pick mO_alloc mO_box mO_build mO_bsl mO_bslF mO_newnilB mO_bslB mO_lenB mO_appB mO_allocA mO_bslA mO_appA mO_ldb mO_faddrb mRsv mO_ldf mO_ld mO_st mO_sta mO_nilchk mO_bin mO_binb mO_binp mO_bins mO_neg mO_com mO_not mO_conv mO_mk mO_mk0 mO_s2b mO_b2s mO_cpy mO_cut mO_faddr mO_fld mO_iaddr mO_iaddrf mO_sidx mO_len mO_lenf mO_slen mO_scut mO_app mO_ext mO_mx mO_mn mO_mkfn evalOp cutOp argsE ev getE putE cellsOf adopt rowOf binV boolV nilV ar_add ar_sub ar_mul ar_quo ar_rem ar_eq ar_ne ar_lt ar_le ar_gt ar_ge ar_and ar_or ar_xor geto bound finRet finNrm ints List.length_cons List.length_nil List.length_append List.getElem?_cons_zero List.getElem?_cons_succ List.nil_append List.cons_append List.map_cons List.map_nil List.mapM_cons List.mapM_nil Option.map_some Option.map_none Option.bind_some Option.pure_def Option.bind_eq_bind List.drop_zero or_self or_false false_or or_true true_or true_and and_true and_self decide_true decide_false Bool.false_eq_true Bool.true_eq_false Bool.not_true Bool.not_false Nat.le_refl eq_self gt_iff_lt ge_iff_le ne_eq not_true_eq_false not_false_eq_true storeOp apartOf freeze_nil refsL refs List.flatMap_cons List.flatMap_nil List.append_nil List.contains_nil List.set_cons_zero List.set_cons_succ snap snapL fill_nums flat_nums nums_length Go.V.freeze List.mapIdx_cons List.mapIdx_nil List.contains_cons Bool.or_false Bool.false_or Bool.or_true Bool.true_or
def mprd : List Int → Int
  | [] => 1
  | d :: ds => max 1 d * mprd ds
theorem mprd_pos : ∀ {s : List Int}, 1 ≤ mprd s
  | [] => Int.le_refl _
  | d :: ds => by
    have h1 := mprd_pos (s := ds)
    have h2 : 1 ≤ max 1 d := by rw [max1]; split <;> omega
    have := Int.mul_le_mul_of_nonneg_left (a := 1) (b := mprd ds) (c := max 1 d) h1 (by omega)
    rw [mprd]
    omega
theorem mprd_append : ∀ {s t : List Int}, mprd (s ++ t) = mprd s * mprd t
  | [], t => by rw [List.nil_append, mprd, Int.one_mul]
  | d :: ds, t => by rw [List.cons_append, mprd, mprd, mprd_append, Int.mul_assoc]
theorem cnt_iff : ∀ {s : List Int} {most n : Int}, 1 ≤ most → most ≤ 4096 → ((∀ d ∈ s, 0 ≤ d) ∧ most * mprd s ≤ 4096 → cnt most n s = some (n * prd s)) ∧ (cnt most n s ≠ none → (∀ d ∈ s, 0 ≤ d) ∧ most * mprd s ≤ 4096)
  | [], most, n, h1, h2 => ⟨fun _ => by rw [cnt, prd, Int.mul_one], fun _ => ⟨fun d hd => by simp at hd, by rw [mprd, Int.mul_one]; exact h2⟩⟩
  | d :: ds, most, n, h1, h2 => by
    have hmx : 1 ≤ max 1 d := by rw [max1]; split <;> omega
    have hmm : 1 ≤ most * max 1 d := by
      have := Int.mul_le_mul_of_nonneg_left (a := 1) (b := max 1 d) (c := most) hmx (by omega)
      omega
    have hp := mprd_pos (s := ds)
    rw [cnt, mprd, prd]
    refine ⟨fun ⟨h3, h4⟩ => ?_, fun h => ?_⟩
    · have hd := h3 d (by simp)
      have h5 : most * max 1 d ≤ 4096 := by
        have := Int.mul_le_mul_of_nonneg_left (a := 1) (b := mprd ds) (c := most * max 1 d) hp (by omega)
        rw [← Int.mul_assoc] at h4
        omega
      rw [if_neg (by omega), (cnt_iff hmm h5).1 ⟨fun x hx => h3 x (by simp [hx]), by rw [Int.mul_assoc]; exact h4⟩, Int.mul_assoc]
    · split at h
      · exact absurd rfl h
      · rename_i hno
        obtain ⟨h3, h4⟩ := (cnt_iff hmm (by omega)).2 h
        refine ⟨fun x hx => ?_, by rw [← Int.mul_assoc]; exact h4⟩
        rcases List.mem_cons.1 hx with rfl | hx
        · omega
        · exact h3 x hx
theorem count_iff {s : List Int} : (s.length ≤ 8 ∧ (∀ d ∈ s, 0 ≤ d) ∧ mprd s ≤ 4096 → count s = some (prd s)) ∧ (count s ≠ none → s.length ≤ 8 ∧ (∀ d ∈ s, 0 ≤ d) ∧ mprd s ≤ 4096) := by
  unfold count
  obtain ⟨h1, h2⟩ := cnt_iff (s := s) (most := 1) (n := 1) (by omega) (by omega)
  refine ⟨fun ⟨h3, h4, h5⟩ => ?_, fun h => ?_⟩
  · rw [if_neg (by omega), h1 ⟨h4, by rw [Int.one_mul]; exact h5⟩, Int.one_mul]
  · split at h
    · exact absurd rfl h
    · obtain ⟨h3, h4⟩ := h2 h
      exact ⟨by omega, h3, by rwa [Int.one_mul] at h4⟩
theorem count_parts {s : List Int} (h : count s ≠ none) (k : Nat) : count (s.take k) = some (prd (s.take k)) ∧ count (s.drop k) = some (prd (s.drop k)) ∧ 0 ≤ prd (s.take k) ∧ prd (s.take k) ≤ 4096 ∧ 0 ≤ prd (s.drop k) ∧ prd (s.drop k) ≤ 4096 := by
  obtain ⟨h1, h2, h3⟩ := count_iff.2 h
  have hs : s = s.take k ++ s.drop k := (List.take_append_drop k s).symm
  have hm := mprd_append (s := s.take k) (t := s.drop k)
  rw [← hs] at hm
  have p1 := mprd_pos (s := s.take k)
  have p2 := mprd_pos (s := s.drop k)
  have q1 : mprd (s.take k) ≤ mprd s := by
    have := Int.mul_le_mul_of_nonneg_left (a := 1) (b := mprd (s.drop k)) (c := mprd (s.take k)) p2 (by omega)
    omega
  have q2 : mprd (s.drop k) ≤ mprd s := by
    have := Int.mul_le_mul_of_nonneg_right (a := 1) (b := mprd (s.take k)) (c := mprd (s.drop k)) p1 (by omega)
    omega
  have c1 := count_iff.1 ⟨by simp; omega, fun d hd => h2 d (List.mem_of_mem_take hd), (by omega : mprd (s.take k) ≤ 4096)⟩
  have c2 := count_iff.1 ⟨by simp; omega, fun d hd => h2 d (List.mem_of_mem_drop hd), (by omega : mprd (s.drop k) ≤ 4096)⟩
  obtain ⟨_, _, b1⟩ := count_bound c1
  obtain ⟨_, _, b2⟩ := count_bound c2
  have b1 := b1 (s.take k).length
  have b2 := b2 (s.drop k).length
  rw [List.take_length] at b1 b2
  exact ⟨c1, c2, b1.1, b1.2, b2.1, b2.2⟩
def spl (s : List Int) (a : Int) : AV :=
  if count s = none ∨ a < 0 ∨ (s.length : Int) ≤ a then .tup [.int .i64 0, .int .i64 0, .int .i64 0, .bool false]
  else .tup [.int .i64 (prd (s.take a.toNat)), .int .i64 (s.getD a.toNat 0), .int .i64 (prd (s.drop (a.toNat + 1))), .bool true]
section
variable {E : CallRel}
theorem c103_ok {s : List Int} {a : Int} (hs : ∀ d ∈ s, In64 d) (hl : (s.length : Int) ≤ 1000000000000) (ha : In64 a) : Go.V.Call tab E 103 [ints s, .int .i64 a] [] (spl s a) [] := by
  refine Go.V.Call.mach i103 c103 rfl rfl rfl rfl ?_
  simp only [c103, go_sem]
  refine goP (c83_ok hs (by omega)) ?_
  cases hc : count s with
  | none =>
    simp only [optP, go_sem]
    simp only [i103, Out, resAll, geto, ints, List.getElem?_cons_zero, List.getElem?_cons_succ, resOf, outOf, snap, snapL, ev, getE, List.mapM_cons, List.mapM_nil, Option.bind_some, Option.pure_def, Option.bind_eq_bind, Option.map_some, reduceIte, Nat.reduceEqDiff, true_and, and_true, spl, hc, true_or]
  | some m =>
    by_cases h0 : a < 0
    · simp only [optP, go_sem, h0]
      simp only [i103, Out, resAll, geto, ints, List.getElem?_cons_zero, List.getElem?_cons_succ, resOf, outOf, snap, snapL, ev, getE, List.mapM_cons, List.mapM_nil, Option.bind_some, Option.pure_def, Option.bind_eq_bind, Option.map_some, reduceIte, Nat.reduceEqDiff, true_and, and_true, spl, h0, true_or, or_true]
    · by_cases h1 : (s.length : Int) ≤ a
      · simp only [optP, go_sem, h0, h1]
        simp only [i103, Out, resAll, geto, ints, List.getElem?_cons_zero, List.getElem?_cons_succ, resOf, outOf, snap, snapL, ev, getE, List.mapM_cons, List.mapM_nil, Option.bind_some, Option.pure_def, Option.bind_eq_bind, Option.map_some, reduceIte, Nat.reduceEqDiff, true_and, and_true, spl, h1, or_true]
      · obtain ⟨k, rfl⟩ := Int.eq_ofNat_of_zero_le (show 0 ≤ a by omega)
        have hne : count s ≠ none := by rw [hc]; simp
        obtain ⟨g1, _, g3, g4, _, _⟩ := count_parts hne k
        obtain ⟨_, g2, _, _, g5, g6⟩ := count_parts hne (k + 1)
        have hk0 : (0 : Int) ≤ (k : Int) := by omega
        have hks : (k : Int) ≤ (s.length : Int) := by omega
        have hlt : k < s.length := by omega
        have hlt' : (k : Int) < (s.length : Int) := by omega
        have hk1 : IntKind.i64.wrap ((k : Int) + 1) = ((k + 1 : Nat) : Int) := by rw [wrap_i64 (by omega) (by omega)]; omega
        have hk2 : (0 : Int) ≤ ((k + 1 : Nat) : Int) := by omega
        have hk3 : ((k + 1 : Nat) : Int) ≤ (s.length : Int) := by omega
        have hc1 := cut_to (k := .i64) (t := s) (m := k) (by omega)
        have hc2 := cut_nums (s := s) (k := k + 1) (by omega)
        have hsub := sub_nums (k := .i64) hlt
        have hspl : spl s (k : Int) = .tup [.int .i64 (prd (s.take k)), .int .i64 (s.getD k 0), .int .i64 (prd (s.drop (k + 1))), .bool true] := by
          rw [spl, if_neg (by rw [hc]; simp; omega)]
          rfl
        simp only [optP, go_sem, h0, h1, hk0, hks, Int.toNat_natCast, Nat.sub_zero, hc1]
        refine goP (c83_ok (s := s.take k) (fun d hd => hs d (List.mem_of_mem_take hd)) (by simp; omega)) ?_
        rw [g1]
        simp only [optP, go_sem, hk0, hk1, hk2, hk3, Int.toNat_natCast, hc2]
        refine goP (c83_ok (s := s.drop (k + 1)) (fun d hd => hs d (List.mem_of_mem_drop hd)) (by simp; omega)) ?_
        rw [g2]
        simp only [optP, go_sem, hk0, hlt', Int.toNat_natCast, hsub]
        simp only [i103, Out, resAll, geto, ints, List.getElem?_cons_zero, List.getElem?_cons_succ, resOf, outOf, snap, snapL, ev, getE, List.mapM_cons, List.mapM_nil, Option.bind_some, Option.pure_def, Option.bind_eq_bind, Option.map_some, reduceIte, Nat.reduceEqDiff, true_and, and_true, hspl]
end
theorem prd_cat : ∀ {s t : List Int}, prd (s ++ t) = prd s * prd t
  | [], t => by rw [List.nil_append, prd, Int.one_mul]
  | d :: ds, t => by rw [List.cons_append, prd, prd, prd_cat, Int.mul_assoc]
def badA (ch : Bool) (t : List Int) (l : List Rt) : Bool := ch && decide (0 < t.length + l.length)
def roomE (s : List Int) : Int := if 8 < s.length then 23 else if count s = none then 26 else 0
def roomN (s : List Int) : Int := if 8 < s.length then 0 else (count s).getD 0
theorem c52_X {s : List Int} {l : List Rt} (hs : ∀ d ∈ s, In64 d) (hsl : (s.length : Int) ≤ 1000000000000) (hl : (l.length : Int) ≤ 1000000000000) : Go.V.Call tab E 52 [ints s, .sl l.length 3 (rtsC l)] [] (.tup [if fits s l.length then .agg (arrX s false [] l) else .agg noA, .bool (fits s l.length)]) [] := by
  refine Go.V.Call.mach i52 c52 rfl rfl rfl rfl ?_
  simp only [c52, go_sem, fillAll, fillIn, shiftR, shiftV, List.take_succ_cons, List.take_zero, List.drop_succ_cons, List.drop_zero, List.append_nil, Nat.zero_add]
  refine goP (c83_ok hs (by omega)) ?_
  cases hc : count s with
  | none =>
    have hf : fits s l.length = false := by simp [fits, hc]
    simp only [optP, go_sem, fillAll, fillIn, shiftR, shiftV, List.take_succ_cons, List.take_zero, List.drop_succ_cons, List.drop_zero, List.append_nil, Nat.zero_add]
    simp only [i52, Out, resAll, geto, ints, List.getElem?_cons_zero, List.getElem?_cons_succ, resOf, outOf, snap, snapL, ev, getE, List.mapM_cons, List.mapM_nil, Option.bind_some, Option.pure_def, Option.bind_eq_bind, Option.map_some, reduceIte, Nat.reduceEqDiff, true_and, and_true, subA5, hf, noA, Bool.false_eq_true]
  | some m =>
    by_cases hm : m = (l.length : Int)
    · subst hm
      have hf : fits s l.length = true := by simp [fits, hc]
      simp only [optP, go_sem, fillAll, fillIn, shiftR, shiftV, List.take_succ_cons, List.take_zero, List.drop_succ_cons, List.drop_zero, List.append_nil, Nat.zero_add, bne_self_eq_false]
      refine goO (c102_ok hsl) rfl rfl ?_
      simp only [go_sem, fillAll, fillIn, shiftR, shiftV, List.take_succ_cons, List.take_zero, List.drop_succ_cons, List.drop_zero, List.append_nil, Nat.zero_add]
      refine goO (c112_X hl) rfl rfl ?_
      simp only [go_sem, fillAll, fillIn, shiftR, shiftV, List.take_succ_cons, List.take_zero, List.drop_succ_cons, List.drop_zero, List.append_nil, Nat.zero_add]
      simp only [i52, Out, resAll, geto, ints, List.getElem?_cons_zero, List.getElem?_cons_succ, resOf, outOf, snap, snapL, ev, getE, List.mapM_cons, List.mapM_nil, Option.bind_some, Option.pure_def, Option.bind_eq_bind, Option.map_some, reduceIte, Nat.reduceEqDiff, true_and, and_true, subA5, hf, arrX, runes]
      rfl
    · have hf : fits s l.length = false := by simp [fits, hc, hm]
      have hm' : (m != (l.length : Int)) = true := by simpa using hm
      simp only [optP, go_sem, fillAll, fillIn, shiftR, shiftV, List.take_succ_cons, List.take_zero, List.drop_succ_cons, List.drop_zero, List.append_nil, Nat.zero_add, hm']
      simp only [i52, Out, resAll, geto, ints, List.getElem?_cons_zero, List.getElem?_cons_succ, resOf, outOf, snap, snapL, ev, getE, List.mapM_cons, List.mapM_nil, Option.bind_some, Option.pure_def, Option.bind_eq_bind, Option.map_some, reduceIte, Nat.reduceEqDiff, true_and, and_true, subA5, hf, noA, Bool.false_eq_true]
theorem c45_ok {s : List Int} (hs : ∀ d ∈ s, In64 d) (hl : (s.length : Int) ≤ 1000000000000) : Go.V.Call tab E 45 [ints s] [] (.tup [.int .i64 (roomN s), .int .i64 (roomE s)]) [] := by
  refine Go.V.Call.mach i45 c45 rfl rfl rfl rfl ?_
  simp only [c45, go_sem, fillAll, fillIn, shiftR, shiftV, List.take_succ_cons, List.take_zero, List.drop_succ_cons, List.drop_zero, List.append_nil, Nat.zero_add]
  refine goP (c83_ok hs (by omega)) ?_
  by_cases h8 : 8 < s.length
  · have h8' : (8 : Int) < (s.length : Int) := by omega
    have hc : count s = none := by rw [count, if_pos h8]
    simp only [hc, optP, go_sem, fillAll, fillIn, shiftR, shiftV, List.take_succ_cons, List.take_zero, List.drop_succ_cons, List.drop_zero, List.append_nil, Nat.zero_add, h8']
    simp only [i45, Out, resAll, geto, ints, List.getElem?_cons_zero, List.getElem?_cons_succ, resOf, outOf, snap, snapL, ev, getE, List.mapM_cons, List.mapM_nil, Option.bind_some, Option.pure_def, Option.bind_eq_bind, Option.map_some, reduceIte, Nat.reduceEqDiff, true_and, and_true, roomN, roomE, h8, if_true]
  · have h8' : ¬ (8 : Int) < (s.length : Int) := by omega
    cases hc : count s with
    | none =>
      simp only [optP, go_sem, fillAll, fillIn, shiftR, shiftV, List.take_succ_cons, List.take_zero, List.drop_succ_cons, List.drop_zero, List.append_nil, Nat.zero_add, h8']
      simp only [i45, Out, resAll, geto, ints, List.getElem?_cons_zero, List.getElem?_cons_succ, resOf, outOf, snap, snapL, ev, getE, List.mapM_cons, List.mapM_nil, Option.bind_some, Option.pure_def, Option.bind_eq_bind, Option.map_some, reduceIte, Nat.reduceEqDiff, true_and, and_true, roomN, roomE, h8, if_false, hc, if_true, Option.getD_none]
    | some m =>
      simp only [optP, go_sem, fillAll, fillIn, shiftR, shiftV, List.take_succ_cons, List.take_zero, List.drop_succ_cons, List.drop_zero, List.append_nil, Nat.zero_add, h8']
      simp only [i45, Out, resAll, geto, ints, List.getElem?_cons_zero, List.getElem?_cons_succ, resOf, outOf, snap, snapL, ev, getE, List.mapM_cons, List.mapM_nil, Option.bind_some, Option.pure_def, Option.bind_eq_bind, Option.map_some, reduceIte, Nat.reduceEqDiff, true_and, and_true, roomN, roomE, h8, if_false, hc, reduceCtorEq, Option.getD_some]
theorem c46_X {s t : List Int} {l : List Rt} {ch : Bool} (hs : ∀ d ∈ s, In64 d) (hc : count s ≠ none) : Go.V.Call tab E 46 [.agg (arrX s ch t l)] [] (.tup [.int .i64 (prd (s.drop 1)), .int .i64 (s.getD 0 1), ints (s.drop 1)]) [] := by
  refine Go.V.Call.mach i46 c46 rfl rfl rfl rfl ?_
  have hl8 := (count_iff.2 hc).1
  have h48 := c44_X (s := s) (t := t) (l := l) (ch := ch) (by omega)
  simp only [arrX, runes] at h48
  simp only [c46, arrX, runes, go_sem, fillAll, fillIn, shiftR, shiftV, List.take_succ_cons, List.take_zero, List.drop_succ_cons, List.drop_zero, List.append_nil, Nat.zero_add, subA5]
  refine goP h48 ?_
  by_cases h0 : s.length = 0
  · obtain rfl : s = [] := List.eq_nil_of_length_eq_zero h0
    simp only [go_sem, fillAll, fillIn, shiftR, shiftV, List.take_succ_cons, List.take_zero, List.drop_succ_cons, List.drop_zero, List.append_nil, Nat.zero_add, nums, List.map_nil]
    simp only [i46, Out, resAll, geto, ints, List.getElem?_cons_zero, List.getElem?_cons_succ, resOf, outOf, snap, snapL, ev, getE, List.mapM_cons, List.mapM_nil, Option.bind_some, Option.pure_def, Option.bind_eq_bind, Option.map_some, reduceIte, Nat.reduceEqDiff, true_and, and_true, nums, List.map_nil, List.drop_nil]
    rfl
  · have h122 := c103_ok (E := E) (s := s) (a := 0) hs (by omega) ⟨by omega, by omega⟩
    have e0 : ((s.length : Int) == 0) = false := by rw [beq_eq_false_iff_ne]; omega
    have hsp : spl s 0 = .tup [.int .i64 1, .int .i64 (s.getD 0 1), .int .i64 (prd (s.drop 1)), .bool true] := by
      rw [spl, if_neg (by rintro (h | h | h) <;> first | exact hc h | omega)]
      have : s.getD 0 0 = s.getD 0 1 := by cases s with | nil => simp at h0 | cons => rfl
      simp only [Int.toNat_zero, List.take_zero, Nat.zero_add, prd, this]
    rw [hsp] at h122
    have h1 : (1 : Int) ≤ (s.length : Int) := by omega
    have hd : (nums .i64 s).drop 1 = nums .i64 (s.drop 1) := by simp [nums]
    have ht : (nums .i64 (s.drop 1)).take (s.length - 1) = nums .i64 (s.drop 1) := List.take_of_length_le (by simp [nums])
    simp only [go_sem, fillAll, fillIn, shiftR, shiftV, List.take_succ_cons, List.take_zero, List.drop_succ_cons, List.drop_zero, List.append_nil, Nat.zero_add, e0]
    refine goP h122 ?_
    simp only [go_sem, fillAll, fillIn, shiftR, shiftV, List.take_succ_cons, List.take_zero, List.drop_succ_cons, List.drop_zero, List.append_nil, Nat.zero_add, Nat.mul_one, Int.natCast_nonneg, h1, Int.toNat_natCast, Int.toNat_one]
    simp only [i46, Out, resAll, geto, ints, List.getElem?_cons_zero, List.getElem?_cons_succ, resOf, outOf, snap, snapL, ev, getE, List.mapM_cons, List.mapM_nil, Option.bind_some, Option.pure_def, Option.bind_eq_bind, Option.map_some, reduceIte, Nat.reduceEqDiff, true_and, and_true, hd, ht, List.length_drop, Nat.mul_one, Int.toNat_one]
theorem c55_X {s t : List Int} {l : List Rt} {ch : Bool} (hs : ∀ d ∈ s, In64 d) (hc : count s ≠ none) : Go.V.Call tab E 55 [.agg (arrX s ch t l)] [] (.tup [.int .i64 (prd (s.take (s.length - 1))), .int .i64 (s.getD (s.length - 1) 1), ints (s.take (s.length - 1))]) [] := by
  refine Go.V.Call.mach i55 c55 rfl rfl rfl rfl ?_
  have hl8 := (count_iff.2 hc).1
  have h48 := c44_X (s := s) (t := t) (l := l) (ch := ch) (by omega)
  simp only [arrX, runes] at h48
  simp only [c55, arrX, runes, go_sem, fillAll, fillIn, shiftR, shiftV, List.take_succ_cons, List.take_zero, List.drop_succ_cons, List.drop_zero, List.append_nil, Nat.zero_add, subA5]
  refine goP h48 ?_
  by_cases h0 : s.length = 0
  · obtain rfl : s = [] := List.eq_nil_of_length_eq_zero h0
    simp only [go_sem, fillAll, fillIn, shiftR, shiftV, List.take_succ_cons, List.take_zero, List.drop_succ_cons, List.drop_zero, List.append_nil, Nat.zero_add, nums, List.map_nil]
    simp only [i55, Out, resAll, geto, ints, List.getElem?_cons_zero, List.getElem?_cons_succ, resOf, outOf, snap, snapL, ev, getE, List.mapM_cons, List.mapM_nil, Option.bind_some, Option.pure_def, Option.bind_eq_bind, Option.map_some, reduceIte, Nat.reduceEqDiff, true_and, and_true, nums, List.map_nil, List.take_nil]
    rfl
  · have hw : IntKind.i64.wrap ((s.length : Int) - 1) = ((s.length - 1 : Nat) : Int) := by rw [wrap_i64 (by omega) (by omega)]; omega
    have h122 := c103_ok (E := E) (s := s) (a := ((s.length - 1 : Nat) : Int)) hs (by omega) ⟨by omega, by omega⟩
    have e0 : ((s.length : Int) == 0) = false := by rw [beq_eq_false_iff_ne]; omega
    have hsp : spl s ((s.length - 1 : Nat) : Int) = .tup [.int .i64 (prd (s.take (s.length - 1))), .int .i64 (s.getD (s.length - 1) 1), .int .i64 1, .bool true] := by
      rw [spl, if_neg (by rintro (h | h | h) <;> first | exact hc h | omega)]
      have h3 : s.getD (s.length - 1) 0 = s.getD (s.length - 1) 1 := by simp [List.getD, show s.length - 1 < s.length by omega]
      have h4 : s.drop (s.length - 1 + 1) = [] := List.drop_eq_nil_of_le (by omega)
      simp only [Int.toNat_natCast, h3, h4, prd]
    rw [hsp] at h122
    have b1 : ((s.length - 1 : Nat) : Int) ≤ (s.length : Int) := by omega
    have b0 : (0 : Int) ≤ ((s.length - 1 : Nat) : Int) := by omega
    have ht : (nums .i64 s).take (s.length - 1) = nums .i64 (s.take (s.length - 1)) := by simp [nums, List.map_take]
    have hln : (s.take (s.length - 1)).length = s.length - 1 := by simp
    simp only [go_sem, fillAll, fillIn, shiftR, shiftV, List.take_succ_cons, List.take_zero, List.drop_succ_cons, List.drop_zero, List.append_nil, Nat.zero_add, e0, hw]
    refine goP h122 ?_
    simp only [go_sem, fillAll, fillIn, shiftR, shiftV, List.take_succ_cons, List.take_zero, List.drop_succ_cons, List.drop_zero, List.append_nil, Nat.zero_add, Nat.mul_one, hw, b0, b1, Int.toNat_natCast, Nat.sub_zero]
    simp only [i55, Out, resAll, geto, ints, List.getElem?_cons_zero, List.getElem?_cons_succ, resOf, outOf, snap, snapL, ev, getE, List.mapM_cons, List.mapM_nil, Option.bind_some, Option.pure_def, Option.bind_eq_bind, Option.map_some, reduceIte, Nat.reduceEqDiff, true_and, and_true, ht, hln, Nat.mul_one, Nat.zero_mul, List.drop_zero]
theorem c42_two {s t s' t' : List Int} {l l' : List Rt} {ch ch' : Bool} (ht : (t.length : Int) ≤ 1000000000) (hl : (l.length : Int) ≤ 1000000000) (ht' : (t'.length : Int) ≤ 1000000000) (hl' : (l'.length : Int) ≤ 1000000000) :
    Go.V.Call tab E 42 [.sl 2 5 (arrX s ch t l ++ arrX s' ch' t' l')] [] (.bool (!(badA ch t l || badA ch' t' l'))) [] := by
  refine Go.V.Call.mach i42 c42 rfl rfl rfl rfl ?_
  have h58 := c68_ok (s := s) (t := t) (l := l) (ch := ch)
  have h58' := c68_ok (s := s') (t := t') (l := l') (ch := ch')
  have h55 := c23_X (s := s) (t := t) (l := l) (ch := ch) (by omega) (by omega)
  have h55' := c23_X (s := s') (t := t') (l := l') (ch := ch') (by omega) (by omega)
  have g0 : sub true 5 (arrX s ch t l ++ arrX s' ch' t' l') (0 * 5) = some (.agg (arrX s ch t l)) := rfl
  have g1 : sub true 5 (arrX s ch t l ++ arrX s' ch' t' l') (1 * 5) = some (.agg (arrX s' ch' t' l')) := rfl
  have g1' : sub true 5 (arrX s ch t l ++ arrX s' ch' t' l') 5 = some (.agg (arrX s' ch' t' l')) := rfl
  have g0' : sub true 5 (arrX s ch t l ++ arrX s' ch' t' l') 0 = some (.agg (arrX s ch t l)) := rfl
  generalize arrX s ch t l ++ arrX s' ch' t' l' = cells at *
  have w1 : IntKind.i64.wrap (0 + 1) = 1 := by decide
  have w2 : IntKind.i64.wrap (1 + 1) = 2 := by decide
  simp only [arrX, runes] at h58 h58' h55 h55' g0 g1 g0' g1'
  simp only [c42, go_sem, fillAll, fillIn, shiftR, shiftV, List.take_succ_cons, List.take_zero, List.drop_succ_cons, List.drop_zero, List.append_nil, Nat.zero_add]
  refine mLoop (fun N st => ∃ k : Nat, (k = 0 ∨ k = 1 ∧ badA ch t l = false ∨ k = 2 ∧ badA ch t l = false ∧ badA ch' t' l' = false) ∧ N = 2 - k ∧ st = ⟨[(5, .sl 2 5 cells), (6, .int .i64 2), (7, .int .i64 k)], []⟩) 2 ⟨_, rfl, 0, .inl rfl, rfl, rfl⟩ ?_
  rintro N s0 ⟨k, hk, rfl, rfl⟩
  rcases hk with rfl | ⟨rfl, hb1⟩ | ⟨rfl, hb1, hb2⟩
  · simp only [b42_0, go_sem, fillAll, fillIn, shiftR, shiftV, List.take_succ_cons, List.take_zero, List.drop_succ_cons, List.drop_zero, List.append_nil, Nat.zero_add, subA5, g0, g0', show ((0 : Nat) : Int) < 2 by omega, show (0 : Int) < ((2 : Nat) : Int) by omega]
    refine goR h58 rfl ?_
    cases ch with
    | false =>
      simp only [go_sem, fillAll, fillIn, shiftR, shiftV, List.take_succ_cons, List.take_zero, List.drop_succ_cons, List.drop_zero, List.append_nil, Nat.zero_add, subA5, w1]
      exact loopQ_go rfl 1 (by omega) ⟨1, .inr (.inl ⟨rfl, rfl⟩), rfl, rfl⟩
    | true =>
      simp only [go_sem, fillAll, fillIn, shiftR, shiftV, List.take_succ_cons, List.take_zero, List.drop_succ_cons, List.drop_zero, List.append_nil, Nat.zero_add, subA5]
      refine goR h55 rfl ?_
      by_cases h : 0 < t.length + l.length
      · have h' : (0 : Int) < ((t.length + l.length : Nat) : Int) := by omega
        have hb : badA true t l = true := by simp [badA]; omega
        simp only [go_sem, fillAll, fillIn, shiftR, shiftV, List.take_succ_cons, List.take_zero, List.drop_succ_cons, List.drop_zero, List.append_nil, Nat.zero_add, h', hb, Bool.true_or]
        simp only [i42, Out, resAll, geto, ints, List.getElem?_cons_zero, List.getElem?_cons_succ, resOf, outOf, snap, snapL, ev, getE, List.mapM_cons, List.mapM_nil, Option.bind_some, Option.pure_def, Option.bind_eq_bind, Option.map_some, reduceIte, Nat.reduceEqDiff, true_and, and_true]
      · have h' : ¬ (0 : Int) < ((t.length + l.length : Nat) : Int) := by omega
        have hb : badA true t l = false := by simp only [badA, Bool.true_and]; exact decide_eq_false h
        simp only [go_sem, fillAll, fillIn, shiftR, shiftV, List.take_succ_cons, List.take_zero, List.drop_succ_cons, List.drop_zero, List.append_nil, Nat.zero_add, h', w1]
        exact loopQ_go rfl 1 (by omega) ⟨1, .inr (.inl ⟨rfl, hb⟩), rfl, rfl⟩
  · simp only [b42_0, go_sem, fillAll, fillIn, shiftR, shiftV, List.take_succ_cons, List.take_zero, List.drop_succ_cons, List.drop_zero, List.append_nil, Nat.zero_add, subA5, g1, g1', show ((1 : Nat) : Int) < 2 by omega, show ((1 : Nat) : Int) < ((2 : Nat) : Int) by omega, show (0 : Int) ≤ ((1 : Nat) : Int) by omega, show ((1 : Nat) : Int).toNat = 1 from rfl]
    refine goR h58' rfl ?_
    cases ch' with
    | false =>
      simp only [go_sem, fillAll, fillIn, shiftR, shiftV, List.take_succ_cons, List.take_zero, List.drop_succ_cons, List.drop_zero, List.append_nil, Nat.zero_add, subA5, show IntKind.i64.wrap (((1 : Nat) : Int) + 1) = 2 by decide]
      exact loopQ_go rfl 0 (by omega) ⟨2, .inr (.inr ⟨rfl, hb1, rfl⟩), rfl, rfl⟩
    | true =>
      simp only [go_sem, fillAll, fillIn, shiftR, shiftV, List.take_succ_cons, List.take_zero, List.drop_succ_cons, List.drop_zero, List.append_nil, Nat.zero_add, subA5]
      refine goR h55' rfl ?_
      by_cases h : 0 < t'.length + l'.length
      · have h' : (0 : Int) < ((t'.length + l'.length : Nat) : Int) := by omega
        have hb : badA true t' l' = true := by simp [badA]; omega
        simp only [go_sem, fillAll, fillIn, shiftR, shiftV, List.take_succ_cons, List.take_zero, List.drop_succ_cons, List.drop_zero, List.append_nil, Nat.zero_add, h', hb, hb1, Bool.or_true]
        simp only [i42, Out, resAll, geto, ints, List.getElem?_cons_zero, List.getElem?_cons_succ, resOf, outOf, snap, snapL, ev, getE, List.mapM_cons, List.mapM_nil, Option.bind_some, Option.pure_def, Option.bind_eq_bind, Option.map_some, reduceIte, Nat.reduceEqDiff, true_and, and_true]
      · have h' : ¬ (0 : Int) < ((t'.length + l'.length : Nat) : Int) := by omega
        have hb : badA true t' l' = false := by simp only [badA, Bool.true_and]; exact decide_eq_false h
        simp only [go_sem, fillAll, fillIn, shiftR, shiftV, List.take_succ_cons, List.take_zero, List.drop_succ_cons, List.drop_zero, List.append_nil, Nat.zero_add, h', show IntKind.i64.wrap (((1 : Nat) : Int) + 1) = 2 by decide]
        exact loopQ_go rfl 0 (by omega) ⟨2, .inr (.inr ⟨rfl, hb1, hb⟩), rfl, rfl⟩
  · simp only [b42_0, k42_0, go_sem, fillAll, fillIn, shiftR, shiftV, List.take_succ_cons, List.take_zero, List.drop_succ_cons, List.drop_zero, List.append_nil, Nat.zero_add, show ¬ ((2 : Nat) : Int) < 2 by omega, Int.lt_irrefl, hb1, hb2, Bool.or_self]
    simp only [i42, Out, resAll, geto, ints, List.getElem?_cons_zero, List.getElem?_cons_succ, resOf, outOf, snap, snapL, ev, getE, List.mapM_cons, List.mapM_nil, Option.bind_some, Option.pure_def, Option.bind_eq_bind, Option.map_some, reduceIte, Nat.reduceEqDiff, true_and, and_true]
end Go.Proofs.Ytlejgleocnemoaa.I

namespace Go.Proofs.Ytlejgleocnemoaa.I
open Go Go.V
attribute [local go_sem] mNil nat0 beq_self_eq_true mSkip mRet mExit mReg mSeq mCond mTrue mFalse mBlock mLv mCodeE mCodeR mEndN mEndR mEndE mOps mSome mGuard mGtt mGff mGtf mGft mGu mCallP mCallR mCallF mCallO mCallZ mCallG mCallM mCallV loopQ_exit loopQ_ret mO_mov mO_newnil mO_pick mO_alloc mO_box mO_build mO_bsl mO_bslF mO_newnilB mO_bslB mO_lenB mO_appB mO_allocA mO_bslA mO_appA mO_ldb mO_faddrb mRsv mO_ldf mO_ld mO_st mO_sta mO_nilchk mO_bin mO_binb mO_binp mO_bins mO_neg mO_com mO_not mO_conv mO_mk mO_mk0 mO_s2b mO_b2s mO_cpy mO_cut mO_faddr mO_fld mO_iaddr mO_iaddrf mO_sidx mO_len mO_lenf mO_slen mO_scut mO_app mO_ext mO_mx mO_mn mO_mkfn evalOp cutOp argsE ev getE putE cellsOf adopt rowOf binV boolV nilV ar_add ar_sub ar_mul ar_quo ar_rem ar_eq ar_ne ar_lt ar_le ar_gt ar_ge ar_and ar_or ar_xor geto bound finRet finNrm ints List.length_cons List.length_nil List.length_append List.getElem?_cons_zero List.getElem?_cons_succ List.nil_append List.cons_append List.map_cons List.map_nil List.mapM_cons List.mapM_nil Option.map_some Option.map_none Option.bind_some Option.pure_def Option.bind_eq_bind List.drop_zero or_self or_false false_or or_true true_or true_and and_true and_self decide_true decide_false Bool.false_eq_true Bool.true_eq_false Bool.not_true Bool.not_false Nat.le_refl eq_self gt_iff_lt ge_iff_le ne_eq not_true_eq_false not_false_eq_true storeOp apartOf freeze_nil refsL refs List.flatMap_cons List.flatMap_nil List.append_nil List.contains_nil List.set_cons_zero List.set_cons_succ snap snapL fill_nums flat_nums nums_length Go.V.freeze List.mapIdx_cons List.mapIdx_nil List.contains_cons Bool.or_false Bool.false_or Bool.or_true Bool.true_or
def xT : Option Rat → Rt
  | none => (false, 0, 0)
  | some r => rR r
def xV : Option Rat → Rat
  | none => 0
  | some r => r
theorem xRV : ∀ {x : Option Rat}, RV (xT x) (xV x)
  | none => RV.zero
  | some r => RV.self
def dg (b : Rat) (x : Option Rat) : Option Rat := if b = 0 then x else some (restR b (xV x))
def nx (b : Rat) (x : Option Rat) : Option Rat := if b = 0 then none else some ((flr (xV x / b) : Int) : Rat)
def stp (col : Nat → Rat) (n : Nat) (x : Option Rat) : Nat → Option Rat
  | 0 => x
  | m + 1 => nx (col (n - 1 - m)) (stp col n x m)
def dgt (col : Nat → Rat) (n : Nat) (x : Option Rat) (k : Nat) : Option Rat := dg (col k) (stp col n x (n - 1 - k))
theorem xT_dg {b : Rat} {x : Option Rat} : xT (dg b x) = if b = 0 then xT x else rR (restR b (xV x)) := by
  unfold dg; split <;> rfl
theorem xV_dg {b : Rat} {x : Option Rat} : xV (dg b x) = restR b (xV x) := by
  unfold dg restR; split <;> rfl
theorem sub_rest {x b f : Rat} (hb : b ≠ 0) : (x + -(x + -(b * f))) / b = f := by
  have h1 : x + -(x + -(b * f)) = b * f := by
    rw [Rat.neg_add, Rat.neg_neg, ← Rat.add_assoc, Rat.add_neg_cancel, Rat.zero_add]
  rw [h1, Rat.mul_comm, Rat.div_def, Rat.mul_assoc, Rat.mul_inv_cancel _ hb, Rat.mul_one]
theorem nx_eq {b : Rat} {x : Option Rat} (hb : b ≠ 0) : nx b x = some ((xV x + -(xV (dg b x))) / b) := by
  rw [nx, if_neg hb, xV_dg, restR, if_neg hb, sub_rest hb]
theorem Sz.zero {i : Nat} (h : 1 ≤ i) : Sz i 0 := ⟨by rw [Rat.num_ofNat]; exact Nat.pow_pos (by omega), Nat.one_lt_two_pow (by omega)⟩
theorem Sz.nx {b : Rat} {x : Option Rat} {i j : Nat} (hx : Sz i (xV x)) (hb : Sz j b) : Sz (i + j + 1) (xV (nx b x)) := by
  unfold I.nx
  split
  · exact Sz.zero (by omega)
  · rename_i h0
    exact Sz.int (flr_lt (hx.div hb (rnum_ne h0))) (by omega)
theorem Sz.stp {col : Nat → Rat} {n : Nat} {x : Option Rat} {i j : Nat} (hx : Sz i (xV x)) (hb : ∀ k, Sz j (col k)) : ∀ m, Sz (i + (j + 1) * m) (xV (stp col n x m))
  | 0 => by simpa [I.stp] using hx
  | m + 1 => ((Sz.stp hx hb m).nx (hb _)).mono (by rw [Nat.mul_add, Nat.mul_one]; omega)
theorem fill_rts {L : List Rt} {i : Nat} {z : Rt} (h : i < L.length) : fillIn (rtsC L) (i * 3) (rtC z) = rtsC (L.set i z) := by
  have hl : ∀ l : List Rt, (rtsC l).length = l.length * 3 := fun l => flat_len (fun _ => rfl)
  have h1 : ∀ {k : Nat} {l : List Rt}, (rtsC l).take (k * 3) = rtsC (l.take k) := fun {k l} => by
    induction l generalizing k with
    | nil => simp [rtsC]
    | cons a l ih =>
      cases k with
      | zero => simp [rtsC]
      | succ k =>
        have : rtsC (a :: l) = rtC a ++ rtsC l := by simp [rtsC]
        rw [this, List.take_succ_cons, show rtsC (a :: l.take k) = rtC a ++ rtsC (l.take k) by simp [rtsC], List.take_append, show (k + 1) * 3 = 3 + k * 3 by omega]
        rw [show (rtC a).length = 3 from rfl, show 3 + k * 3 - 3 = k * 3 by omega, ih]
        congr 1
        exact List.take_of_length_le (by rw [show (rtC a).length = 3 from rfl]; omega)
  have h2 : ∀ {k : Nat} {l : List Rt}, (rtsC l).drop (k * 3) = rtsC (l.drop k) := fun {k l} => by
    induction l generalizing k with
    | nil => simp [rtsC]
    | cons a l ih =>
      cases k with
      | zero => simp [rtsC]
      | succ k =>
        have : rtsC (a :: l) = rtC a ++ rtsC l := by simp [rtsC]
        rw [this, List.drop_succ_cons, List.drop_append, show (k + 1) * 3 = 3 + k * 3 by omega]
        rw [show (rtC a).length = 3 from rfl, show 3 + k * 3 - 3 = k * 3 by omega, ih, List.drop_eq_nil_of_le (by rw [show (rtC a).length = 3 from rfl]; omega), List.nil_append]
  unfold fillIn
  rw [show i * 3 + (rtC z).length = (i + 1) * 3 by rw [show (rtC z).length = 3 from rfl]; omega, h1, h2, List.set_eq_take_append_cons_drop, if_pos h]
  simp [rtsC]
theorem rts_zero {n : Nat} : (List.replicate n [AV.sl 0 1 [], AV.bool false, AV.sl 0 1 []]).flatten = rtsC (List.replicate n (false, 0, 0)) := by
  have h : rtC (false, 0, 0) = [AV.sl 0 1 [], AV.bool false, AV.sl 0 1 []] := by simp only [rtC, ratG, limG_zero, us32]; rfl
  induction n with
  | zero => rfl
  | succ n ih => rw [List.replicate_succ, List.flatten_cons, ih, List.replicate_succ, ← h]; simp [rtsC]
theorem rtAt_mapR {A : List Rat} {i : Nat} (h : i < A.length) : rtAt (A.map rR) i = rR (A.getD i 0) := by
  simp [rtAt, List.getD, h]
theorem pick_map {A : List Rat} {i : Nat} (h : i < A.length) : pickR (A.map rR) (i : Int) = rR (A.getD i 0) := by
  rw [pickR, if_pos ⟨by omega, by rw [List.length_map]; omega⟩, Int.toNat_natCast, rtAt_mapR h]
theorem rtAt_set {L : List Rt} {i j : Nat} {z : Rt} (h : i < L.length) : rtAt (L.set i z) j = if j = i then z else rtAt L j := by
  simp only [rtAt, List.getD]
  by_cases hj : j = i
  · subst hj; rw [if_pos rfl]; simp [h]
  · rw [if_neg hj, List.getElem?_set_ne (fun h => hj h.symm)]
theorem dec3 {w len k j i : Nat} (hj : j < w) (hi : i < len) : ((k * w + j) * len + i) / len % w = j ∧ ((k * w + j) * len + i) % len = i ∧ ((k * w + j) * len + i) / len / w = k := by
  have h1 : ((k * w + j) * len + i) / len = k * w + j := by
    rw [Nat.mul_comm, Nat.mul_add_div (by omega), Nat.div_eq_of_lt hi]; rfl
  have h2 : ((k * w + j) * len + i) % len = i := by rw [Nat.mul_comm, Nat.mul_add_mod, Nat.mod_eq_of_lt hi]
  rw [h1, h2]
  refine ⟨by rw [Nat.mul_comm, Nat.mul_add_mod, Nat.mod_eq_of_lt hj], rfl, ?_⟩
  rw [Nat.mul_comm, Nat.mul_add_div (by omega), Nat.div_eq_of_lt hj]; rfl
theorem enc3 {w len q : Nat} : (q / len / w * w + q / len % w) * len + q % len = q := by
  rw [Nat.mul_comm (q / len / w), Nat.div_add_mod, Nat.mul_comm, Nat.div_add_mod]
def dAt (A B : List Rat) (n w : Nat) (q : Nat) : Option Rat :=
  dgt (fun k => A.getD (k * w + q / B.length % w) 0) n (some (B.getD (q % B.length) 0)) (q / B.length / w)
def encL (A B : List Rat) (n w : Nat) : List Rt := (List.range (n * w * B.length)).map fun q => xT (dAt A B n w q)
def encB (A B : List Rat) (n w : Nat) (lim : Int) : Bool := (List.range (n * w * B.length)).all fun q => decide ((rlimbs (xT (dAt A B n w q)) : Int) ≤ lim)
theorem encB_iff {A B : List Rat} {n w : Nat} {lim : Int} : encB A B n w lim = true ↔ ∀ q, q < n * w * B.length → (rlimbs (xT (dAt A B n w q)) : Int) ≤ lim := by
  simp [encB, List.all_eq_true]
end Go.Proofs.Ytlejgleocnemoaa.I
