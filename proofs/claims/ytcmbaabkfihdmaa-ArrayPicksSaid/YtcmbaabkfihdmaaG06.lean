/- The texts L06i L06j L06k L06l L06a L06m WSized LNum, one behind the other. Conditions: each text's own. -/
import Derived.Test.YtcmbaabkfihdmaaG05
import Derived.Test.YtcmbaabkfihdmaaG03
import Derived.SizedLaws
import Derived.ChangeSlices
import Derived.Test.YtcmbaabkfihdmaaG02
import Derived.Deep.Slices
import Derived.Deep.Fields
import Derived.ChangeArms
/- Layer 6: which arrays are right and the same, on the page; the arrays that the page speaks of. -/
set_option linter.unusedVariables false
set_option linter.unusedSimpArgs false
namespace Go.Proofs.Ytcmbaabkfihdmaa.I
open Go Go.V
attribute [local go_sem] mNil nat0 beq_self_eq_true mSkip mRet mExit mReg mSeq mCond mTrue mFalse mBlock mLv mCodeE mCodeR mEndN mEndR mEndE mOps mSome mGuard mGtt mGff mGtf mGft mGu mCallP mCallR mCallF mCallO mCallZ mCallG mCallM mCallV loopQ_exit loopQ_ret mO_mov mO_newnil mO_pick mO_alloc mO_box mO_build mO_bsl mO_ldf mO_ld mO_st mO_sta mO_nilchk mO_bin mO_binb mO_binp mO_bins mO_neg mO_com mO_not mO_conv mO_mk mO_mk0 mO_s2b mO_b2s mO_cpy mO_cut mO_faddr mO_fld mO_iaddr mO_iaddrf mO_sidx mO_len mO_lenf mO_slen mO_scut mO_app mO_ext mO_mx mO_mn mO_mkfn evalOp cutOp argsE ev getE putE cellsOf adopt rowOf binV boolV nilV ar_add ar_sub ar_mul ar_quo ar_rem ar_eq ar_ne ar_lt ar_le ar_gt ar_ge ar_and ar_or ar_xor geto bound finRet finNrm ints List.length_cons List.length_nil List.length_append List.getElem?_cons_zero List.getElem?_cons_succ List.nil_append List.cons_append List.map_cons List.map_nil List.mapM_cons List.mapM_nil Option.map_some Option.map_none Option.bind_some Option.pure_def Option.bind_eq_bind List.drop_zero or_self or_false false_or or_true true_or true_and and_true and_self decide_true decide_false Bool.false_eq_true Bool.true_eq_false Bool.not_true Bool.not_false Nat.le_refl eq_self gt_iff_lt ge_iff_le ne_eq not_true_eq_false not_false_eq_true storeOp apartOf freeze_nil refsL refs List.flatMap_cons List.flatMap_nil List.append_nil List.contains_nil List.set_cons_zero List.set_cons_succ snap snapL fill_nums flat_nums nums_length Go.V.freeze List.mapIdx_cons List.mapIdx_nil List.contains_cons Bool.or_false Bool.false_or Bool.or_true Bool.true_or
/-- A number's bytes are bytes, and not too many. -/
def NmU (x : Nm) : Prop := U8 x.2.1 ∧ U8 x.2.2 ∧ x.2.1.length ≤ 1000000000 ∧ x.2.2.length ≤ 1000000000
theorem num_ne {x y : Nm} (hx : NmU x) (hy : NmU y) : structV .ne [0, 2, 2] (.agg (nmC x)) (.agg (nmC y)) = some (.bool (!decide (x = y))) := by
  have h := num_same (n := x.1) (m := y.1) hx.1 hx.2.1 hy.1 hy.2.1
  have h1 : (nmC x).map kindOf = [0, 2, 2] := rfl
  have h2 : (nmC y).map kindOf = [0, 2, 2] := rfl
  have h3 : ([AV.bool x.1, AV.str (bs x.2.1), AV.str (bs x.2.2)]).map kindOf = [0, 2, 2] := rfl
  have h4 : ([AV.bool y.1, AV.str (bs y.2.1), AV.str (bs y.2.2)]).map kindOf = [0, 2, 2] := rfl
  simp only [structV, h3, h4, and_self, if_true] at h
  simp only [structV, h1, h2, and_self, if_true, nmC]
  have hd : decide (x.1 = y.1 ∧ x.2.1 = y.2.1 ∧ x.2.2 = y.2.2) = decide (x = y) := by
    congr 1
    obtain ⟨a, b, c⟩ := x
    obtain ⟨a', b', c'⟩ := y
    simp only [Prod.mk.injEq]
  rw [hd] at h
  cases hs : scalarsEq [AV.bool x.1, AV.str (bs x.2.1), AV.str (bs x.2.2)] [AV.bool y.1, AV.str (bs y.2.1), AV.str (bs y.2.2)] with
  | none => rw [hs] at h; cases h
  | some r =>
    rw [hs] at h
    simp only [Option.bind_some, Option.some.injEq, AV.bool.injEq] at h
    subst h
    rfl
theorem subP4b {a b c d : AV} : sub false 1 [a, b, c, d] 1 = some b := rfl
theorem subP4c {a b c d : AV} : sub false 1 [a, b, c, d] 2 = some c := rfl
theorem subP4a {a b c d : AV} : sub false 1 [a, b, c, d] 0 = some a := rfl
/-- Which arrays are the same. -/
theorem c50_gen {s s' t t' : List Int} {l l' : List Nm} {ch ch' : Bool} (hs : (s.length : Int) ≤ 1000000000000) (ht : (t.length : Int) ≤ 1000000000000) (hl : (l.length : Int) ≤ 1000000000000)
    (hs' : (s'.length : Int) ≤ 1000000000000) (ht' : (t'.length : Int) ≤ 1000000000000) (hl' : (l'.length : Int) ≤ 1000000000000) (hu : ∀ x ∈ l, NmU x) (hu' : ∀ x ∈ l', NmU x) :
    Go.V.Call tab E 50 [.agg (plX s ch t l), .agg (plX s' ch' t' l')] [] (.bool (decide (ch = ch' ∧ s = s' ∧ t = t' ∧ l = l'))) [] := by
  refine Go.V.Call.mach i50 c50 rfl rfl rfl rfl ?_
  have hb : (ch == ch') = decide (ch = ch') := by cases ch <;> cases ch' <;> rfl
  have h23 := c23_ok (E := E) (s := s) (t := s') (by omega) (by omega)
  have h75 := c75_gen ht ht'
  simp only [ints, runes] at h23 h75
  by_cases e1 : ch = ch'
  · rw [decide_eq_true e1] at hb
    by_cases e2 : s = s'
    · rw [decide_eq_true e2] at h23
      by_cases e3 : t = t'
      · rw [decide_eq_true e3] at h75
        by_cases e4 : l.length = l'.length
        · have q4 : ((l.length : Int) != (l'.length : Int)) = false := by rw [bne_eq_false_iff_eq]; omega
          simp only [c50, plX, runes, ints, go_sem, ↓reduceIte, Nat.reduceEqDiff, Nat.reduceAdd, Nat.reduceMul, Nat.reduceLeDiff, Nat.reduceLT, Int.reduceToNat, Int.reduceLT, Int.reduceLE, reduceCtorEq, Nat.reduceBEq, subP4a, subP4b, subP4c, subP3, subP3', fillAll, fillIn, shiftR, shiftV, List.take_succ_cons, List.take_zero, List.drop_succ_cons, List.drop_zero, List.append_nil, Nat.zero_add, hb]
          refine goP h23 ?_
          simp only [go_sem, ↓reduceIte, Nat.reduceEqDiff, Nat.reduceAdd, Nat.reduceMul, Nat.reduceLeDiff, Nat.reduceLT, Int.reduceToNat, Int.reduceLT, Int.reduceLE, reduceCtorEq, Nat.reduceBEq, subP4a, subP4b, subP4c, subP3, subP3', fillAll, fillIn, shiftR, shiftV, List.take_succ_cons, List.take_zero, List.drop_succ_cons, List.drop_zero, List.append_nil, Nat.zero_add]
          refine goP h75 ?_
          simp only [go_sem, ↓reduceIte, Nat.reduceEqDiff, Nat.reduceAdd, Nat.reduceMul, Nat.reduceLeDiff, Nat.reduceLT, Int.reduceToNat, Int.reduceLT, Int.reduceLE, reduceCtorEq, Nat.reduceBEq, subP4a, subP4b, subP4c, subP3, subP3', fillAll, fillIn, shiftR, shiftV, List.take_succ_cons, List.take_zero, List.drop_succ_cons, List.drop_zero, List.append_nil, Nat.zero_add, q4]
          refine mLoop (fun N st => ∃ (k : Nat), k ≤ l.length ∧ N = l.length - k ∧ l.take k = l'.take k ∧
            st = ⟨[(2, .loc 0 0 0), (3, .loc 1 0 0), (5, .int .i64 k)], [⟨true, 77, 4, 0, 1, plX s ch t l, false⟩, ⟨true, 77, 4, 0, 1, plX s' ch' t' l', false⟩]⟩) l.length ⟨_, rfl, 0, by omega, by omega, rfl, rfl⟩ ?_
          rintro N s0 ⟨k, hk, rfl, htk, rfl⟩
          by_cases hlt : k < l.length
          · have hlt' : (k : Int) < (l.length : Int) := by omega
            have hlt2 : (k : Int) < (l'.length : Int) := by omega
            have hk0 : (0 : Int) ≤ (k : Int) := by omega
            have hk1 : IntKind.i64.wrap ((k : Int) + 1) = ((k + 1 : Nat) : Int) := by rw [wrap_i64 (by omega) (by omega)]; omega
            have hsub := sub_nms hlt
            have hsub2 := sub_nms (l := l') (i := k) (by omega)
            have h1 : l.take (k + 1) = l.take k ++ [nmAt l k] := takeAt hlt
            have h2 : l'.take (k + 1) = l'.take k ++ [nmAt l' k] := takeAt (by omega)
            have hn := num_ne (x := nmAt l k) (y := nmAt l' k) (hu _ (by simp [nmAt, List.getD, hlt])) (hu' _ (by simp [nmAt, List.getD, show k < l'.length by omega]))
            by_cases hxy : nmAt l k = nmAt l' k
            · rw [decide_eq_true hxy, Bool.not_true] at hn
              simp only [b50_0, plX, runes, ints, go_sem, ↓reduceIte, Nat.reduceEqDiff, Nat.reduceAdd, Nat.reduceMul, Nat.reduceLeDiff, Nat.reduceLT, Int.reduceToNat, Int.reduceLT, Int.reduceLE, reduceCtorEq, Nat.reduceBEq, subP3, subP3', hlt', hlt2, hk0, Int.toNat_natCast, hsub, hsub2, hn, hk1]
              exact loopQ_go rfl (l.length - (k + 1)) (by omega) ⟨k + 1, by omega, rfl, by rw [h1, h2, htk, hxy], rfl⟩
            · rw [decide_eq_false hxy, Bool.not_false] at hn
              have hne : ¬ (ch = ch' ∧ s = s' ∧ t = t' ∧ l = l') := fun h => hxy (by rw [h.2.2.2])
              simp only [b50_0, plX, runes, ints, go_sem, ↓reduceIte, Nat.reduceEqDiff, Nat.reduceAdd, Nat.reduceMul, Nat.reduceLeDiff, Nat.reduceLT, Int.reduceToNat, Int.reduceLT, Int.reduceLE, reduceCtorEq, Nat.reduceBEq, subP3, subP3', hlt', hlt2, hk0, Int.toNat_natCast, hsub, hsub2, hn]
              simp only [i50, Out, resAll, geto, ints, List.getElem?_cons_zero, List.getElem?_cons_succ, resOf, outOf, snap, snapL, ev, getE, List.mapM_cons, List.mapM_nil, Option.bind_some, Option.pure_def, Option.bind_eq_bind, Option.map_some, reduceIte, Nat.reduceEqDiff, true_and, and_true, decide_eq_false hne]
          · have hlt' : ¬ (k : Int) < (l.length : Int) := by omega
            have he : l = l' := by
              rw [List.take_of_length_le (by omega), List.take_of_length_le (by omega)] at htk
              exact htk
            have hall : ch = ch' ∧ s = s' ∧ t = t' ∧ l = l' := ⟨e1, e2, e3, he⟩
            simp only [b50_0, k50_0, plX, runes, ints, go_sem, ↓reduceIte, Nat.reduceEqDiff, Nat.reduceAdd, Nat.reduceMul, Nat.reduceLeDiff, Nat.reduceLT, Int.reduceToNat, Int.reduceLT, Int.reduceLE, reduceCtorEq, Nat.reduceBEq, subP3, subP3', hlt']
            simp only [i50, Out, resAll, geto, ints, List.getElem?_cons_zero, List.getElem?_cons_succ, resOf, outOf, snap, snapL, ev, getE, List.mapM_cons, List.mapM_nil, Option.bind_some, Option.pure_def, Option.bind_eq_bind, Option.map_some, reduceIte, Nat.reduceEqDiff, true_and, and_true, decide_eq_true hall]
        · have q4 : ((l.length : Int) != (l'.length : Int)) = true := by rw [bne_iff_ne]; omega
          have hne : ¬ (ch = ch' ∧ s = s' ∧ t = t' ∧ l = l') := fun h => e4 (by rw [h.2.2.2])
          simp only [c50, plX, runes, ints, go_sem, ↓reduceIte, Nat.reduceEqDiff, Nat.reduceAdd, Nat.reduceMul, Nat.reduceLeDiff, Nat.reduceLT, Int.reduceToNat, Int.reduceLT, Int.reduceLE, reduceCtorEq, Nat.reduceBEq, subP4a, subP4b, subP4c, subP3, subP3', fillAll, fillIn, shiftR, shiftV, List.take_succ_cons, List.take_zero, List.drop_succ_cons, List.drop_zero, List.append_nil, Nat.zero_add, hb]
          refine goP h23 ?_
          simp only [go_sem, ↓reduceIte, Nat.reduceEqDiff, Nat.reduceAdd, Nat.reduceMul, Nat.reduceLeDiff, Nat.reduceLT, Int.reduceToNat, Int.reduceLT, Int.reduceLE, reduceCtorEq, Nat.reduceBEq, subP4a, subP4b, subP4c, subP3, subP3', fillAll, fillIn, shiftR, shiftV, List.take_succ_cons, List.take_zero, List.drop_succ_cons, List.drop_zero, List.append_nil, Nat.zero_add]
          refine goP h75 ?_
          simp only [go_sem, ↓reduceIte, Nat.reduceEqDiff, Nat.reduceAdd, Nat.reduceMul, Nat.reduceLeDiff, Nat.reduceLT, Int.reduceToNat, Int.reduceLT, Int.reduceLE, reduceCtorEq, Nat.reduceBEq, subP4a, subP4b, subP4c, subP3, subP3', fillAll, fillIn, shiftR, shiftV, List.take_succ_cons, List.take_zero, List.drop_succ_cons, List.drop_zero, List.append_nil, Nat.zero_add, q4]
          simp only [i50, Out, resAll, geto, ints, List.getElem?_cons_zero, List.getElem?_cons_succ, resOf, outOf, snap, snapL, ev, getE, List.mapM_cons, List.mapM_nil, Option.bind_some, Option.pure_def, Option.bind_eq_bind, Option.map_some, reduceIte, Nat.reduceEqDiff, true_and, and_true, decide_eq_false hne]
      · rw [decide_eq_false e3] at h75
        have hne : ¬ (ch = ch' ∧ s = s' ∧ t = t' ∧ l = l') := fun h => e3 h.2.2.1
        simp only [c50, plX, runes, ints, go_sem, ↓reduceIte, Nat.reduceEqDiff, Nat.reduceAdd, Nat.reduceMul, Nat.reduceLeDiff, Nat.reduceLT, Int.reduceToNat, Int.reduceLT, Int.reduceLE, reduceCtorEq, Nat.reduceBEq, subP4a, subP4b, subP4c, subP3, subP3', fillAll, fillIn, shiftR, shiftV, List.take_succ_cons, List.take_zero, List.drop_succ_cons, List.drop_zero, List.append_nil, Nat.zero_add, hb]
        refine goP h23 ?_
        simp only [go_sem, ↓reduceIte, Nat.reduceEqDiff, Nat.reduceAdd, Nat.reduceMul, Nat.reduceLeDiff, Nat.reduceLT, Int.reduceToNat, Int.reduceLT, Int.reduceLE, reduceCtorEq, Nat.reduceBEq, subP4a, subP4b, subP4c, subP3, subP3', fillAll, fillIn, shiftR, shiftV, List.take_succ_cons, List.take_zero, List.drop_succ_cons, List.drop_zero, List.append_nil, Nat.zero_add]
        refine goP h75 ?_
        simp only [go_sem, ↓reduceIte, Nat.reduceEqDiff, Nat.reduceAdd, Nat.reduceMul, Nat.reduceLeDiff, Nat.reduceLT, Int.reduceToNat, Int.reduceLT, Int.reduceLE, reduceCtorEq, Nat.reduceBEq, subP4a, subP4b, subP4c, subP3, subP3', fillAll, fillIn, shiftR, shiftV, List.take_succ_cons, List.take_zero, List.drop_succ_cons, List.drop_zero, List.append_nil, Nat.zero_add]
        simp only [i50, Out, resAll, geto, ints, List.getElem?_cons_zero, List.getElem?_cons_succ, resOf, outOf, snap, snapL, ev, getE, List.mapM_cons, List.mapM_nil, Option.bind_some, Option.pure_def, Option.bind_eq_bind, Option.map_some, reduceIte, Nat.reduceEqDiff, true_and, and_true, decide_eq_false hne]
    · rw [decide_eq_false e2] at h23
      have hne : ¬ (ch = ch' ∧ s = s' ∧ t = t' ∧ l = l') := fun h => e2 h.2.1
      simp only [c50, plX, runes, ints, go_sem, ↓reduceIte, Nat.reduceEqDiff, Nat.reduceAdd, Nat.reduceMul, Nat.reduceLeDiff, Nat.reduceLT, Int.reduceToNat, Int.reduceLT, Int.reduceLE, reduceCtorEq, Nat.reduceBEq, subP4a, subP4b, subP4c, subP3, subP3', fillAll, fillIn, shiftR, shiftV, List.take_succ_cons, List.take_zero, List.drop_succ_cons, List.drop_zero, List.append_nil, Nat.zero_add, hb]
      refine goP h23 ?_
      simp only [go_sem, ↓reduceIte, Nat.reduceEqDiff, Nat.reduceAdd, Nat.reduceMul, Nat.reduceLeDiff, Nat.reduceLT, Int.reduceToNat, Int.reduceLT, Int.reduceLE, reduceCtorEq, Nat.reduceBEq, subP4a, subP4b, subP4c, subP3, subP3', fillAll, fillIn, shiftR, shiftV, List.take_succ_cons, List.take_zero, List.drop_succ_cons, List.drop_zero, List.append_nil, Nat.zero_add]
      simp only [i50, Out, resAll, geto, ints, List.getElem?_cons_zero, List.getElem?_cons_succ, resOf, outOf, snap, snapL, ev, getE, List.mapM_cons, List.mapM_nil, Option.bind_some, Option.pure_def, Option.bind_eq_bind, Option.map_some, reduceIte, Nat.reduceEqDiff, true_and, and_true, decide_eq_false hne]
  · rw [decide_eq_false e1] at hb
    have hne : ¬ (ch = ch' ∧ s = s' ∧ t = t' ∧ l = l') := fun h => e1 h.1
    simp only [c50, plX, runes, ints, go_sem, ↓reduceIte, Nat.reduceEqDiff, Nat.reduceAdd, Nat.reduceMul, Nat.reduceLeDiff, Nat.reduceLT, Int.reduceToNat, Int.reduceLT, Int.reduceLE, reduceCtorEq, Nat.reduceBEq, subP4a, subP4b, subP4c, subP3, subP3', fillAll, fillIn, shiftR, shiftV, List.take_succ_cons, List.take_zero, List.drop_succ_cons, List.drop_zero, List.append_nil, Nat.zero_add, hb]
    simp only [i50, Out, resAll, geto, ints, List.getElem?_cons_zero, List.getElem?_cons_succ, resOf, outOf, snap, snapL, ev, getE, List.mapM_cons, List.mapM_nil, Option.bind_some, Option.pure_def, Option.bind_eq_bind, Option.map_some, reduceIte, Nat.reduceEqDiff, true_and, and_true, decide_eq_false hne]
/-- A right array on the page. -/
def Shapes (s : List Int) (ch : Bool) (t : List Int) (n : Nat) : Prop := if ch then count s = some (t.length : Int) ∧ n = 0 else count s = some (n : Int) ∧ t = []
def RightP (s : List Int) (ch : Bool) (t : List Int) (l : List Nm) : Prop := Shapes s ch t l.length ∧ ∀ x ∈ l, RightN x.1 x.2.1 x.2.2
theorem Shapes_iff {s t : List Int} {ch : Bool} {n : Nat} : Shapes s ch t n ↔ ∃ m, count s = some m ∧ (ch = true → (t.length : Int) = m ∧ n = 0) ∧ (ch = false → (n : Int) = m ∧ t.length = 0) := by
  cases ch with
  | true =>
    have e : Shapes s true t n ↔ count s = some (t.length : Int) ∧ n = 0 := by simp [Shapes]
    rw [e]
    exact ⟨fun ⟨h1, h2⟩ => ⟨_, h1, fun _ => ⟨rfl, h2⟩, fun h => (by cases h)⟩, fun ⟨m, h1, h2, _⟩ => ⟨by rw [(h2 rfl).1]; exact h1, (h2 rfl).2⟩⟩
  | false =>
    have e : Shapes s false t n ↔ count s = some (n : Int) ∧ t = [] := by simp [Shapes]
    rw [e]
    exact ⟨fun ⟨h1, h2⟩ => ⟨_, h1, fun h => (by cases h), fun _ => ⟨rfl, by rw [h2]; rfl⟩⟩, fun ⟨m, h1, _, h2⟩ => ⟨by rw [(h2 rfl).1]; exact h1, List.length_eq_zero_iff.1 (h2 rfl).2⟩⟩
theorem c66_ok {s t : List Int} {l : List Nm} {ch ok : Bool} (hs : ∀ d ∈ s, In64 d) (hsl : (s.length : Int) ≤ 1000000000000) (ht : (t.length : Int) ≤ 1000000000000) (hl : (l.length : Int) ≤ 1000000000000) (hu : ∀ x ∈ l, NmU x) (hok : ok = true ↔ RightP s ch t l) :
    Go.V.Call tab E 66 [.agg (plX s ch t l)] [] (.bool ok) [] := by
  refine Go.V.Call.mach i66 c66 rfl rfl rfl rfl ?_
  have hfalse : ¬ RightP s ch t l → ok = false := fun h => by rw [← Bool.not_eq_true, hok]; exact h
  have h17 := c17_ok (E := E) hs (by omega)
  simp only [ints] at h17
  have bad : ¬ Shapes s ch t l.length → ok = false := fun h => hfalse (fun hr => h hr.1)
  cases hc : count s with
  | none =>
    have := bad (fun h => by obtain ⟨m, h1, _⟩ := Shapes_iff.1 h; rw [hc] at h1; cases h1)
    subst this
    rw [hc] at h17
    simp only [optP] at h17
    simp only [c66, plX, runes, ints, go_sem, ↓reduceIte, Nat.reduceEqDiff, Nat.reduceAdd, Nat.reduceMul, Nat.reduceLeDiff, Nat.reduceLT, Int.reduceToNat, Int.reduceLT, Int.reduceLE, reduceCtorEq, Nat.reduceBEq, subP4a, subP4b, subP4c, subP3, subP3', fillAll, fillIn, shiftR, shiftV, List.take_succ_cons, List.take_zero, List.drop_succ_cons, List.drop_zero, List.append_nil, Nat.zero_add]
    refine goP h17 ?_
    simp only [go_sem, ↓reduceIte, Nat.reduceEqDiff, Nat.reduceAdd, Nat.reduceMul, Nat.reduceLeDiff, Nat.reduceLT, Int.reduceToNat, Int.reduceLT, Int.reduceLE, reduceCtorEq, Nat.reduceBEq, subP4a, subP4b, subP4c, subP3, subP3', fillAll, fillIn, shiftR, shiftV, List.take_succ_cons, List.take_zero, List.drop_succ_cons, List.drop_zero, List.append_nil, Nat.zero_add]
    simp only [i66, Out, resAll, geto, ints, List.getElem?_cons_zero, List.getElem?_cons_succ, resOf, outOf, snap, snapL, ev, getE, List.mapM_cons, List.mapM_nil, Option.bind_some, Option.pure_def, Option.bind_eq_bind, Option.map_some, reduceIte, Nat.reduceEqDiff, true_and, and_true]
  | some m =>
    rw [hc] at h17
    simp only [optP] at h17
    by_cases hsh : Shapes s ch t l.length
    · obtain ⟨m', h1, h2, h3⟩ := Shapes_iff.1 hsh
      rw [hc] at h1
      simp only [Option.some.injEq] at h1
      subst h1
      cases ch with
      | true =>
        obtain ⟨h4, h5⟩ := h2 rfl
        subst h4
        have hl0 : l = [] := List.length_eq_zero_iff.1 h5
        subst hl0
        have hokt : ok = true := hok.2 ⟨hsh, fun x hx => by simp at hx⟩
        subst hokt
        simp only [c66, plX, runes, ints, go_sem, ↓reduceIte, Nat.reduceEqDiff, Nat.reduceAdd, Nat.reduceMul, Nat.reduceLeDiff, Nat.reduceLT, Int.reduceToNat, Int.reduceLT, Int.reduceLE, reduceCtorEq, Nat.reduceBEq, subP4a, subP4b, subP4c, subP3, subP3', fillAll, fillIn, shiftR, shiftV, List.take_succ_cons, List.take_zero, List.drop_succ_cons, List.drop_zero, List.append_nil, Nat.zero_add]
        refine goP h17 ?_
        simp only [go_sem, ↓reduceIte, Nat.reduceEqDiff, Nat.reduceAdd, Nat.reduceMul, Nat.reduceLeDiff, Nat.reduceLT, Int.reduceToNat, Int.reduceLT, Int.reduceLE, reduceCtorEq, Nat.reduceBEq, subP4a, subP4b, subP4c, subP3, subP3', fillAll, fillIn, shiftR, shiftV, List.take_succ_cons, List.take_zero, List.drop_succ_cons, List.drop_zero, List.append_nil, Nat.zero_add, bne_self_eq_false]
        refine mLoop (fun N st => N = 0 ∧ st = ⟨[(1, .loc 0 0 0), (5, .int .i64 0)], [⟨true, 77, 4, 0, 1, plX s true t [], false⟩]⟩) 0 ⟨_, rfl, rfl, rfl⟩ ?_
        rintro N s0 ⟨rfl, rfl⟩
        simp only [b66_0, k66_0, plX, runes, ints, go_sem, ↓reduceIte, Nat.reduceEqDiff, Nat.reduceAdd, Nat.reduceMul, Nat.reduceLeDiff, Nat.reduceLT, Int.reduceToNat, Int.reduceLT, Int.reduceLE, reduceCtorEq, Nat.reduceBEq, subP3, subP3', Int.lt_irrefl]
        simp only [i66, Out, resAll, geto, ints, List.getElem?_cons_zero, List.getElem?_cons_succ, resOf, outOf, snap, snapL, ev, getE, List.mapM_cons, List.mapM_nil, Option.bind_some, Option.pure_def, Option.bind_eq_bind, Option.map_some, reduceIte, Nat.reduceEqDiff, true_and, and_true]
      | false =>
        obtain ⟨h4, h5⟩ := h3 rfl
        subst h4
        have ht0 : t = [] := List.length_eq_zero_iff.1 h5
        subst ht0
        simp only [c66, plX, runes, ints, go_sem, ↓reduceIte, Nat.reduceEqDiff, Nat.reduceAdd, Nat.reduceMul, Nat.reduceLeDiff, Nat.reduceLT, Int.reduceToNat, Int.reduceLT, Int.reduceLE, reduceCtorEq, Nat.reduceBEq, subP4a, subP4b, subP4c, subP3, subP3', fillAll, fillIn, shiftR, shiftV, List.take_succ_cons, List.take_zero, List.drop_succ_cons, List.drop_zero, List.append_nil, Nat.zero_add]
        refine goP h17 ?_
        simp only [go_sem, ↓reduceIte, Nat.reduceEqDiff, Nat.reduceAdd, Nat.reduceMul, Nat.reduceLeDiff, Nat.reduceLT, Int.reduceToNat, Int.reduceLT, Int.reduceLE, reduceCtorEq, Nat.reduceBEq, subP4a, subP4b, subP4c, subP3, subP3', fillAll, fillIn, shiftR, shiftV, List.take_succ_cons, List.take_zero, List.drop_succ_cons, List.drop_zero, List.append_nil, Nat.zero_add, bne_self_eq_false]
        refine mLoop (fun N st => ∃ (k : Nat), k ≤ l.length ∧ N = l.length - k ∧ (∀ x ∈ l.take k, RightN x.1 x.2.1 x.2.2) ∧
          st = ⟨[(1, .loc 0 0 0), (5, .int .i64 k)], [⟨true, 77, 4, 0, 1, plX s false [] l, false⟩]⟩) l.length ⟨_, rfl, 0, by omega, by omega, fun x hx => by simp at hx, rfl⟩ ?_
        rintro N s0 ⟨k, hk, rfl, hr, rfl⟩
        by_cases hlt : k < l.length
        · have hlt' : (k : Int) < (l.length : Int) := by omega
          have hk0 : (0 : Int) ≤ (k : Int) := by omega
          have hk1 : IntKind.i64.wrap ((k : Int) + 1) = ((k + 1 : Nat) : Int) := by rw [wrap_i64 (by omega) (by omega)]; omega
          have hsub := sub_nms hlt
          have h1 : l.take (k + 1) = l.take k ++ [nmAt l k] := takeAt hlt
          have hmem : nmAt l k ∈ l := by simp [nmAt, List.getD, hlt]
          obtain ⟨u1, u2, u3, u4⟩ := hu _ hmem
          have h96 := fun ok h => c96_ok (E := E) (n := (nmAt l k).1) (ok := ok) u1 u2 u3 u4 h
          by_cases hrn : RightN (nmAt l k).1 (nmAt l k).2.1 (nmAt l k).2.2
          · have h96t := h96 true ⟨fun _ => hrn, fun _ => rfl⟩
            simp only [b66_0, plX, runes, ints, go_sem, ↓reduceIte, Nat.reduceEqDiff, Nat.reduceAdd, Nat.reduceMul, Nat.reduceLeDiff, Nat.reduceLT, Int.reduceToNat, Int.reduceLT, Int.reduceLE, reduceCtorEq, Nat.reduceBEq, subP3, subP3', hlt', hk0, Int.toNat_natCast, hsub, nmC]
            refine goP h96t ?_
            simp only [go_sem, ↓reduceIte, Nat.reduceEqDiff, Nat.reduceAdd, Nat.reduceMul, Nat.reduceLeDiff, Nat.reduceLT, Int.reduceToNat, Int.reduceLT, Int.reduceLE, reduceCtorEq, Nat.reduceBEq, hk1]
            refine loopQ_go rfl (l.length - (k + 1)) (by omega) ⟨k + 1, by omega, rfl, ?_, rfl⟩
            intro x hx
            rw [h1] at hx
            rcases List.mem_append.1 hx with hx | hx
            · exact hr x hx
            · simp at hx; subst hx; exact hrn
          · have h96f := h96 false ⟨fun h => (by cases h), fun h => absurd h hrn⟩
            have := hfalse (fun h => hrn (h.2 _ hmem))
            subst this
            simp only [b66_0, plX, runes, ints, go_sem, ↓reduceIte, Nat.reduceEqDiff, Nat.reduceAdd, Nat.reduceMul, Nat.reduceLeDiff, Nat.reduceLT, Int.reduceToNat, Int.reduceLT, Int.reduceLE, reduceCtorEq, Nat.reduceBEq, subP3, subP3', hlt', hk0, Int.toNat_natCast, hsub, nmC]
            refine goP h96f ?_
            simp only [go_sem, ↓reduceIte, Nat.reduceEqDiff, Nat.reduceAdd, Nat.reduceMul, Nat.reduceLeDiff, Nat.reduceLT, Int.reduceToNat, Int.reduceLT, Int.reduceLE, reduceCtorEq, Nat.reduceBEq]
            simp only [i66, Out, resAll, geto, ints, List.getElem?_cons_zero, List.getElem?_cons_succ, resOf, outOf, snap, snapL, ev, getE, List.mapM_cons, List.mapM_nil, Option.bind_some, Option.pure_def, Option.bind_eq_bind, Option.map_some, reduceIte, Nat.reduceEqDiff, true_and, and_true]
        · have hlt' : ¬ (k : Int) < (l.length : Int) := by omega
          rw [List.take_of_length_le (by omega)] at hr
          have hokt : ok = true := hok.2 ⟨hsh, hr⟩
          subst hokt
          simp only [b66_0, k66_0, plX, runes, ints, go_sem, ↓reduceIte, Nat.reduceEqDiff, Nat.reduceAdd, Nat.reduceMul, Nat.reduceLeDiff, Nat.reduceLT, Int.reduceToNat, Int.reduceLT, Int.reduceLE, reduceCtorEq, Nat.reduceBEq, subP3, subP3', hlt']
          simp only [i66, Out, resAll, geto, ints, List.getElem?_cons_zero, List.getElem?_cons_succ, resOf, outOf, snap, snapL, ev, getE, List.mapM_cons, List.mapM_nil, Option.bind_some, Option.pure_def, Option.bind_eq_bind, Option.map_some, reduceIte, Nat.reduceEqDiff, true_and, and_true]
    · have := bad hsh
      subst this
      rw [Shapes_iff] at hsh
      cases ch with
      | true =>
        by_cases h1 : (t.length : Int) = m
        · have h2 : ¬ l.length = 0 := fun h => hsh ⟨m, hc, fun _ => ⟨h1, h⟩, fun h => by cases h⟩
          have q1 : ((t.length : Int) != m) = false := by rw [bne_eq_false_iff_eq]; exact h1
          have q2 : ((l.length : Int) != 0) = true := by rw [bne_iff_ne]; omega
          simp only [c66, plX, runes, ints, go_sem, ↓reduceIte, Nat.reduceEqDiff, Nat.reduceAdd, Nat.reduceMul, Nat.reduceLeDiff, Nat.reduceLT, Int.reduceToNat, Int.reduceLT, Int.reduceLE, reduceCtorEq, Nat.reduceBEq, subP4a, subP4b, subP4c, subP3, subP3', fillAll, fillIn, shiftR, shiftV, List.take_succ_cons, List.take_zero, List.drop_succ_cons, List.drop_zero, List.append_nil, Nat.zero_add]
          refine goP h17 ?_
          simp only [go_sem, ↓reduceIte, Nat.reduceEqDiff, Nat.reduceAdd, Nat.reduceMul, Nat.reduceLeDiff, Nat.reduceLT, Int.reduceToNat, Int.reduceLT, Int.reduceLE, reduceCtorEq, Nat.reduceBEq, subP4a, subP4b, subP4c, subP3, subP3', fillAll, fillIn, shiftR, shiftV, List.take_succ_cons, List.take_zero, List.drop_succ_cons, List.drop_zero, List.append_nil, Nat.zero_add, q1, q2]
          simp only [i66, Out, resAll, geto, ints, List.getElem?_cons_zero, List.getElem?_cons_succ, resOf, outOf, snap, snapL, ev, getE, List.mapM_cons, List.mapM_nil, Option.bind_some, Option.pure_def, Option.bind_eq_bind, Option.map_some, reduceIte, Nat.reduceEqDiff, true_and, and_true]
        · have q1 : ((t.length : Int) != m) = true := by rw [bne_iff_ne]; exact h1
          simp only [c66, plX, runes, ints, go_sem, ↓reduceIte, Nat.reduceEqDiff, Nat.reduceAdd, Nat.reduceMul, Nat.reduceLeDiff, Nat.reduceLT, Int.reduceToNat, Int.reduceLT, Int.reduceLE, reduceCtorEq, Nat.reduceBEq, subP4a, subP4b, subP4c, subP3, subP3', fillAll, fillIn, shiftR, shiftV, List.take_succ_cons, List.take_zero, List.drop_succ_cons, List.drop_zero, List.append_nil, Nat.zero_add]
          refine goP h17 ?_
          simp only [go_sem, ↓reduceIte, Nat.reduceEqDiff, Nat.reduceAdd, Nat.reduceMul, Nat.reduceLeDiff, Nat.reduceLT, Int.reduceToNat, Int.reduceLT, Int.reduceLE, reduceCtorEq, Nat.reduceBEq, subP4a, subP4b, subP4c, subP3, subP3', fillAll, fillIn, shiftR, shiftV, List.take_succ_cons, List.take_zero, List.drop_succ_cons, List.drop_zero, List.append_nil, Nat.zero_add, q1]
          simp only [i66, Out, resAll, geto, ints, List.getElem?_cons_zero, List.getElem?_cons_succ, resOf, outOf, snap, snapL, ev, getE, List.mapM_cons, List.mapM_nil, Option.bind_some, Option.pure_def, Option.bind_eq_bind, Option.map_some, reduceIte, Nat.reduceEqDiff, true_and, and_true]
      | false =>
        by_cases h1 : (l.length : Int) = m
        · have h2 : ¬ t.length = 0 := fun h => hsh ⟨m, hc, fun h => (by cases h), fun _ => ⟨h1, h⟩⟩
          have q1 : ((l.length : Int) != m) = false := by rw [bne_eq_false_iff_eq]; exact h1
          have q2 : ((t.length : Int) != 0) = true := by rw [bne_iff_ne]; omega
          simp only [c66, plX, runes, ints, go_sem, ↓reduceIte, Nat.reduceEqDiff, Nat.reduceAdd, Nat.reduceMul, Nat.reduceLeDiff, Nat.reduceLT, Int.reduceToNat, Int.reduceLT, Int.reduceLE, reduceCtorEq, Nat.reduceBEq, subP4a, subP4b, subP4c, subP3, subP3', fillAll, fillIn, shiftR, shiftV, List.take_succ_cons, List.take_zero, List.drop_succ_cons, List.drop_zero, List.append_nil, Nat.zero_add]
          refine goP h17 ?_
          simp only [go_sem, ↓reduceIte, Nat.reduceEqDiff, Nat.reduceAdd, Nat.reduceMul, Nat.reduceLeDiff, Nat.reduceLT, Int.reduceToNat, Int.reduceLT, Int.reduceLE, reduceCtorEq, Nat.reduceBEq, subP4a, subP4b, subP4c, subP3, subP3', fillAll, fillIn, shiftR, shiftV, List.take_succ_cons, List.take_zero, List.drop_succ_cons, List.drop_zero, List.append_nil, Nat.zero_add, q1, q2]
          simp only [i66, Out, resAll, geto, ints, List.getElem?_cons_zero, List.getElem?_cons_succ, resOf, outOf, snap, snapL, ev, getE, List.mapM_cons, List.mapM_nil, Option.bind_some, Option.pure_def, Option.bind_eq_bind, Option.map_some, reduceIte, Nat.reduceEqDiff, true_and, and_true]
        · have q1 : ((l.length : Int) != m) = true := by rw [bne_iff_ne]; exact h1
          simp only [c66, plX, runes, ints, go_sem, ↓reduceIte, Nat.reduceEqDiff, Nat.reduceAdd, Nat.reduceMul, Nat.reduceLeDiff, Nat.reduceLT, Int.reduceToNat, Int.reduceLT, Int.reduceLE, reduceCtorEq, Nat.reduceBEq, subP4a, subP4b, subP4c, subP3, subP3', fillAll, fillIn, shiftR, shiftV, List.take_succ_cons, List.take_zero, List.drop_succ_cons, List.drop_zero, List.append_nil, Nat.zero_add]
          refine goP h17 ?_
          simp only [go_sem, ↓reduceIte, Nat.reduceEqDiff, Nat.reduceAdd, Nat.reduceMul, Nat.reduceLeDiff, Nat.reduceLT, Int.reduceToNat, Int.reduceLT, Int.reduceLE, reduceCtorEq, Nat.reduceBEq, subP4a, subP4b, subP4c, subP3, subP3', fillAll, fillIn, shiftR, shiftV, List.take_succ_cons, List.take_zero, List.drop_succ_cons, List.drop_zero, List.append_nil, Nat.zero_add, q1]
          simp only [i66, Out, resAll, geto, ints, List.getElem?_cons_zero, List.getElem?_cons_succ, resOf, outOf, snap, snapL, ev, getE, List.mapM_cons, List.mapM_nil, Option.bind_some, Option.pure_def, Option.bind_eq_bind, Option.map_some, reduceIte, Nat.reduceEqDiff, true_and, and_true]
end Go.Proofs.Ytcmbaabkfihdmaa.I

/- Layer 6: the array that the page speaks of. -/
set_option linter.unusedVariables false
set_option linter.unusedSimpArgs false
namespace Go.Proofs.Ytcmbaabkfihdmaa.I
open Go Go.V
attribute [local go_sem] mNil nat0 beq_self_eq_true mSkip mRet mExit mReg mSeq mCond mTrue mFalse mBlock mLv mCodeE mCodeR mEndN mEndR mEndE mOps mSome mGuard mGtt mGff mGtf mGft mGu mCallP mCallR mCallF mCallO mCallZ mCallG mCallM mCallV loopQ_exit loopQ_ret mO_mov mO_newnil mO_pick mO_alloc mO_box mO_build mO_bsl mO_ldf mO_ld mO_st mO_sta mO_nilchk mO_bin mO_binb mO_binp mO_bins mO_neg mO_com mO_not mO_conv mO_mk mO_mk0 mO_s2b mO_b2s mO_cpy mO_cut mO_faddr mO_fld mO_iaddr mO_iaddrf mO_sidx mO_len mO_lenf mO_slen mO_scut mO_app mO_ext mO_mx mO_mn mO_mkfn evalOp cutOp argsE ev getE putE cellsOf adopt rowOf binV boolV nilV ar_add ar_sub ar_mul ar_quo ar_rem ar_eq ar_ne ar_lt ar_le ar_gt ar_ge ar_and ar_or ar_xor geto bound finRet finNrm ints List.length_cons List.length_nil List.length_append List.getElem?_cons_zero List.getElem?_cons_succ List.nil_append List.cons_append List.map_cons List.map_nil List.mapM_cons List.mapM_nil Option.map_some Option.map_none Option.bind_some Option.pure_def Option.bind_eq_bind List.drop_zero or_self or_false false_or or_true true_or true_and and_true and_self decide_true decide_false Bool.false_eq_true Bool.true_eq_false Bool.not_true Bool.not_false Nat.le_refl eq_self gt_iff_lt ge_iff_le ne_eq not_true_eq_false not_false_eq_true storeOp apartOf freeze_nil refsL refs List.flatMap_cons List.flatMap_nil List.append_nil List.contains_nil List.set_cons_zero List.set_cons_succ snap snapL fill_nums flat_nums nums_length Go.V.freeze List.mapIdx_cons List.mapIdx_nil List.contains_cons Bool.or_false Bool.false_or Bool.or_true Bool.true_or
theorem subA1' {a b c d e : AV} : sub false 1 [a, b, c, d, e] (0 + 3) = some d := rfl
theorem c65_ok {s t : List Int} {l : List Nm} {ch ok : Bool} (hs : ∀ d ∈ s, In64 d) (hsl : (s.length : Int) ≤ 1000000000000) (ht : (t.length : Int) ≤ 1000000000000) (hl : (l.length : Int) ≤ 1000000000000) (hu : ∀ x ∈ l, NmU x) (hok : ok = true ↔ RightP s ch t l) :
    Go.V.Call tab E 65 [.agg (plX s ch t l)] [] (.tup [.agg (if ok then arrX s ch t (l.map toRt) else noA), .bool ok]) [] := by
  refine Go.V.Call.mach i65 c65 rfl rfl rfl rfl ?_
  have hfalse : ¬ RightP s ch t l → ok = false := fun h => by rw [← Bool.not_eq_true, hok]; exact h
  have h35 := c35_ok (E := E) hs (by omega)
  have h85 := c85_ok hsl
  have h92 := c92_ok ht
  simp only [ints, runes] at h35 h85 h92
  have bad : ¬ Shapes s ch t l.length → ok = false := fun h => hfalse (fun hr => h hr.1)
  cases hc : count s with
  | none =>
    have := bad (fun h => by obtain ⟨m, h1, _⟩ := Shapes_iff.1 h; rw [hc] at h1; cases h1)
    subst this
    rw [hc] at h35
    simp only [optP] at h35
    simp only [c65, plX, runes, ints, go_sem, ↓reduceIte, Nat.reduceEqDiff, Nat.reduceAdd, Nat.reduceMul, Nat.reduceLeDiff, Nat.reduceLT, Int.reduceToNat, Int.reduceLT, Int.reduceLE, reduceCtorEq, Nat.reduceBEq, subP4a, subP4b, subP4c, subP3, subP3', fillAll, fillIn, shiftR, shiftV, List.take_succ_cons, List.take_zero, List.drop_succ_cons, List.drop_zero, List.append_nil, Nat.zero_add]
    refine goP h35 ?_
    simp only [go_sem, ↓reduceIte, Nat.reduceEqDiff, Nat.reduceAdd, Nat.reduceMul, Nat.reduceLeDiff, Nat.reduceLT, Int.reduceToNat, Int.reduceLT, Int.reduceLE, reduceCtorEq, Nat.reduceBEq, subP4a, subP4b, subP4c, subP3, subP3', fillAll, fillIn, shiftR, shiftV, List.take_succ_cons, List.take_zero, List.drop_succ_cons, List.drop_zero, List.append_nil, Nat.zero_add]
    simp only [i65, Out, resAll, geto, ints, List.getElem?_cons_zero, List.getElem?_cons_succ, resOf, outOf, snap, snapL, ev, getE, List.mapM_cons, List.mapM_nil, Option.bind_some, Option.pure_def, Option.bind_eq_bind, Option.map_some, reduceIte, Nat.reduceEqDiff, true_and, and_true, subA5, noA, Bool.false_eq_true, if_false]
  | some m =>
    rw [hc] at h35
    simp only [optP] at h35
    by_cases hsh : Shapes s ch t l.length
    · obtain ⟨m', h1, h2, h3⟩ := Shapes_iff.1 hsh
      rw [hc] at h1
      simp only [Option.some.injEq] at h1
      subst h1
      cases ch with
      | true =>
        obtain ⟨h4, h5⟩ := h2 rfl
        subst h4
        have hl0 : l = [] := List.length_eq_zero_iff.1 h5
        subst hl0
        have hokt : ok = true := hok.2 ⟨hsh, fun x hx => by simp at hx⟩
        subst hokt
        simp only [c65, plX, runes, ints, go_sem, ↓reduceIte, Nat.reduceEqDiff, Nat.reduceAdd, Nat.reduceMul, Nat.reduceLeDiff, Nat.reduceLT, Int.reduceToNat, Int.reduceLT, Int.reduceLE, reduceCtorEq, Nat.reduceBEq, subP4a, subP4b, subP4c, subP3, subP3', fillAll, fillIn, shiftR, shiftV, List.take_succ_cons, List.take_zero, List.drop_succ_cons, List.drop_zero, List.append_nil, Nat.zero_add]
        refine goP h35 ?_
        simp only [go_sem, ↓reduceIte, Nat.reduceEqDiff, Nat.reduceAdd, Nat.reduceMul, Nat.reduceLeDiff, Nat.reduceLT, Int.reduceToNat, Int.reduceLT, Int.reduceLE, reduceCtorEq, Nat.reduceBEq, subP4a, subP4b, subP4c, subP3, subP3', fillAll, fillIn, shiftR, shiftV, List.take_succ_cons, List.take_zero, List.drop_succ_cons, List.drop_zero, List.append_nil, Nat.zero_add, bne_self_eq_false, Int.lt_irrefl]
        refine goZ (r' := ints s) h85 rfl ?_
        simp only [ints, go_sem, ↓reduceIte, Nat.reduceEqDiff, Nat.reduceAdd, Nat.reduceMul, Nat.reduceLeDiff, Nat.reduceLT, Int.reduceToNat, Int.reduceLT, Int.reduceLE, reduceCtorEq, Nat.reduceBEq, subP4a, subP4b, subP4c, subP3, subP3', fillAll, fillIn, shiftR, shiftV, List.take_succ_cons, List.take_zero, List.drop_succ_cons, List.drop_zero, List.append_nil, Nat.zero_add]
        refine goZ (r' := runes t) h92 rfl ?_
        simp only [runes, go_sem, ↓reduceIte, Nat.reduceEqDiff, Nat.reduceAdd, Nat.reduceMul, Nat.reduceLeDiff, Nat.reduceLT, Int.reduceToNat, Int.reduceLT, Int.reduceLE, reduceCtorEq, Nat.reduceBEq, subP4a, subP4b, subP4c, subP3, subP3', fillAll, fillIn, shiftR, shiftV, List.take_succ_cons, List.take_zero, List.drop_succ_cons, List.drop_zero, List.append_nil, Nat.zero_add]
        refine mLoop (fun N st => N = 0 ∧ st = ⟨[(2, .loc 4 0 0), (6, .loc 8 0 0), (65, .sl 0 3 (nmsC [])), (66, .int .i64 0), (67, .int .i64 0)],
          [⟨true, 77, 4, 0, 1, plX s true t [], false⟩, ⟨false, 3, 1, 0, 0, [], false⟩, ⟨false, 21, 1, 0, 0, [], false⟩, ⟨false, 70, 3, 0, 0, [], false⟩, ⟨true, 48, 5, 0, 1, [.arr 1 0, .bool false, .arr 2 0, .arr 3 0, .bool false], false⟩,
           ⟨false, 3, 1, 0, 0, [], false⟩, ⟨false, 21, 1, 0, 0, [], false⟩, ⟨false, 70, 3, 0, 0, [], false⟩, ⟨true, 48, 5, 0, 1, [ints s, .bool true, runes t, .arr 9 0, .bool true], false⟩, ⟨false, 70, 3, 0, 0, [], false⟩]⟩) 0 ⟨_, rfl, rfl, rfl⟩ ?_
        rintro N s0 ⟨rfl, rfl⟩
        simp only [b65_0, k65_0, plX, runes, ints, go_sem, ↓reduceIte, Nat.reduceEqDiff, Nat.reduceAdd, Nat.reduceMul, Nat.reduceLeDiff, Nat.reduceLT, Int.reduceToNat, Int.reduceLT, Int.reduceLE, reduceCtorEq, Nat.reduceBEq, subA5, Int.lt_irrefl, fillAll, fillIn, shiftR, shiftV, List.take_succ_cons, List.take_zero, List.drop_succ_cons, List.drop_zero, List.append_nil, Nat.zero_add]
        simp only [i65, Out, resAll, geto, ints, List.getElem?_cons_zero, List.getElem?_cons_succ, resOf, outOf, snap, snapL, ev, getE, List.mapM_cons, List.mapM_nil, Option.bind_some, Option.pure_def, Option.bind_eq_bind, Option.map_some, reduceIte, Nat.reduceEqDiff, true_and, and_true, subA5, arrX, runes, if_true, List.map_nil]
        rfl
      | false =>
        obtain ⟨h4, h5⟩ := h3 rfl
        subst h4
        have ht0 : t = [] := List.length_eq_zero_iff.1 h5
        subst ht0
        simp only [c65, plX, runes, ints, go_sem, ↓reduceIte, Nat.reduceEqDiff, Nat.reduceAdd, Nat.reduceMul, Nat.reduceLeDiff, Nat.reduceLT, Int.reduceToNat, Int.reduceLT, Int.reduceLE, reduceCtorEq, Nat.reduceBEq, subP4a, subP4b, subP4c, subP3, subP3', fillAll, fillIn, shiftR, shiftV, List.take_succ_cons, List.take_zero, List.drop_succ_cons, List.drop_zero, List.append_nil, Nat.zero_add]
        refine goP h35 ?_
        simp only [go_sem, ↓reduceIte, Nat.reduceEqDiff, Nat.reduceAdd, Nat.reduceMul, Nat.reduceLeDiff, Nat.reduceLT, Int.reduceToNat, Int.reduceLT, Int.reduceLE, reduceCtorEq, Nat.reduceBEq, subP4a, subP4b, subP4c, subP3, subP3', fillAll, fillIn, shiftR, shiftV, List.take_succ_cons, List.take_zero, List.drop_succ_cons, List.drop_zero, List.append_nil, Nat.zero_add, bne_self_eq_false, Int.lt_irrefl]
        refine goZ (r' := ints s) h85 rfl ?_
        simp only [ints, go_sem, ↓reduceIte, Nat.reduceEqDiff, Nat.reduceAdd, Nat.reduceMul, Nat.reduceLeDiff, Nat.reduceLT, Int.reduceToNat, Int.reduceLT, Int.reduceLE, reduceCtorEq, Nat.reduceBEq, subP4a, subP4b, subP4c, subP3, subP3', fillAll, fillIn, shiftR, shiftV, List.take_succ_cons, List.take_zero, List.drop_succ_cons, List.drop_zero, List.append_nil, Nat.zero_add]
        refine goZ (r' := runes []) h92 rfl ?_
        simp only [runes, go_sem, ↓reduceIte, Nat.reduceEqDiff, Nat.reduceAdd, Nat.reduceMul, Nat.reduceLeDiff, Nat.reduceLT, Int.reduceToNat, Int.reduceLT, Int.reduceLE, reduceCtorEq, Nat.reduceBEq, subP4a, subP4b, subP4c, subP3, subP3', fillAll, fillIn, shiftR, shiftV, List.take_succ_cons, List.take_zero, List.drop_succ_cons, List.drop_zero, List.append_nil, Nat.zero_add]
        refine mLoop (fun N st => ∃ i : Nat, i ≤ l.length ∧ N = l.length - i ∧ (∀ x ∈ l.take i, RightN x.1 x.2.1 x.2.2) ∧ st = ⟨[(2, .loc 4 0 0), (6, .loc 8 0 0), (65, .sl l.length 3 (nmsC l)), (66, .int .i64 l.length), (67, .int .i64 i)],
          [⟨true, 77, 4, 0, 1, plX s false [] l, false⟩, ⟨false, 3, 1, 0, 0, [], false⟩, ⟨false, 21, 1, 0, 0, [], false⟩, ⟨false, 70, 3, 0, 0, [], false⟩, ⟨true, 48, 5, 0, 1, [.arr 1 0, .bool false, .arr 2 0, .arr 3 0, .bool false], false⟩,
           ⟨false, 3, 1, 0, 0, [], false⟩, ⟨false, 21, 1, 0, 0, [], false⟩, ⟨false, 70, 3, 0, 0, [], false⟩, ⟨true, 48, 5, 0, 1, [ints s, .bool false, runes [], .arr 9 i, .bool true], false⟩, ⟨false, 70, 3, i, i, rtsC ((l.take i).map toRt), false⟩]⟩) l.length
          ⟨_, rfl, 0, by omega, by omega, fun x hx => by simp at hx, by simp [getE, ints, runes, plX, rtsC]⟩ ?_
        rintro N s0 ⟨i, hi, rfl, hr, rfl⟩
        by_cases hlt : i < l.length
        · have hlt' : (i : Int) < (l.length : Int) := by omega
          have hi0 : (0 : Int) ≤ (i : Int) := by omega
          have hi1 : IntKind.i64.wrap ((i : Int) + 1) = ((i + 1 : Nat) : Int) := by rw [wrap_i64 (by omega) (by omega)]; omega
          have hsub := sub_nms hlt
          have hmem : nmAt l i ∈ l := by simp [nmAt, List.getD, hlt]
          obtain ⟨u1, u2, u3, u4⟩ := hu _ hmem
          have htk : l.take (i + 1) = l.take i ++ [nmAt l i] := takeAt hlt
          have hmt : rtsC ((l.take (i + 1)).map toRt) = rtsC ((l.take i).map toRt) ++ rtC (toRt (nmAt l i)) := by rw [htk, List.map_append, List.map_cons, List.map_nil, rtsC_snoc]
          have e1 : (i + 1) * 56 ≤ 140737488355328 := by omega
          have e2 : i + 1 ≤ 140737488355328 := by omega
          have h95 := fun ok h => c95_ok (E := E) (n := (nmAt l i).1) (ok := ok) u1 u2 u3 u4 h
          by_cases hrn : RightN (nmAt l i).1 (nmAt l i).2.1 (nmAt l i).2.2
          · obtain ⟨n', p', q', hn', h95t⟩ := h95 true ⟨fun _ => hrn, fun _ => rfl⟩
            obtain ⟨rfl, rfl, rfl⟩ := hn' rfl
            simp only [ratG, us32] at h95t
            simp only [b65_0, plX, runes, ints, go_sem, ↓reduceIte, Nat.reduceEqDiff, Nat.reduceAdd, Nat.reduceMul, Nat.reduceLeDiff, Nat.reduceLT, Int.reduceToNat, Int.reduceLT, Int.reduceLE, reduceCtorEq, Nat.reduceBEq, subT3, hlt', hi0, Int.toNat_natCast, hsub, nmC, fillAll, fillIn, shiftR, shiftV, List.take_succ_cons, List.take_zero, List.drop_succ_cons, List.drop_zero, List.append_nil, Nat.zero_add]
            refine goP h95t ?_
            simp only [go_sem, ↓reduceIte, Nat.reduceEqDiff, Nat.reduceAdd, Nat.reduceMul, Nat.reduceLeDiff, Nat.reduceLT, Int.reduceToNat, Int.reduceLT, Int.reduceLE, reduceCtorEq, Nat.reduceBEq, subA1', subA3, subT3, fillAll, fillIn, shiftR, shiftV, List.take_succ_cons, List.take_zero, List.drop_succ_cons, List.drop_zero, List.append_nil, Nat.zero_add, hi1, e1, e2, List.flatten_cons, List.flatten_nil, Option.getD_some]
            refine loopQ_go rfl (l.length - (i + 1)) (by omega) ⟨i + 1, by omega, rfl, ?_, ?_⟩
            · intro x hx
              rw [htk] at hx
              rcases List.mem_append.1 hx with hx | hx
              · exact hr x hx
              · simp at hx; subst hx; exact hrn
            · rw [hmt]
              rfl
          · obtain ⟨n', p', q', hn', h95f⟩ := h95 false ⟨fun h => (by cases h), fun h => absurd h hrn⟩
            have := hfalse (fun h => hrn (h.2 _ hmem))
            subst this
            simp only [ratG, us32] at h95f
            simp only [b65_0, plX, runes, ints, go_sem, ↓reduceIte, Nat.reduceEqDiff, Nat.reduceAdd, Nat.reduceMul, Nat.reduceLeDiff, Nat.reduceLT, Int.reduceToNat, Int.reduceLT, Int.reduceLE, reduceCtorEq, Nat.reduceBEq, subT3, hlt', hi0, Int.toNat_natCast, hsub, nmC, fillAll, fillIn, shiftR, shiftV, List.take_succ_cons, List.take_zero, List.drop_succ_cons, List.drop_zero, List.append_nil, Nat.zero_add]
            refine goP h95f ?_
            simp only [go_sem, ↓reduceIte, Nat.reduceEqDiff, Nat.reduceAdd, Nat.reduceMul, Nat.reduceLeDiff, Nat.reduceLT, Int.reduceToNat, Int.reduceLT, Int.reduceLE, reduceCtorEq, Nat.reduceBEq, subA5, subT3, fillAll, fillIn, shiftR, shiftV, List.take_succ_cons, List.take_zero, List.drop_succ_cons, List.drop_zero, List.append_nil, Nat.zero_add]
            simp only [i65, Out, resAll, geto, ints, List.getElem?_cons_zero, List.getElem?_cons_succ, resOf, outOf, snap, snapL, ev, getE, List.mapM_cons, List.mapM_nil, Option.bind_some, Option.pure_def, Option.bind_eq_bind, Option.map_some, reduceIte, Nat.reduceEqDiff, true_and, and_true, subA5, noA, Bool.false_eq_true, if_false]
        · have hlt' : ¬ (i : Int) < (l.length : Int) := by omega
          obtain rfl : i = l.length := by omega
          rw [List.take_length] at hr
          have hokt : ok = true := hok.2 ⟨hsh, hr⟩
          subst hokt
          simp only [b65_0, k65_0, plX, runes, ints, go_sem, ↓reduceIte, Nat.reduceEqDiff, Nat.reduceAdd, Nat.reduceMul, Nat.reduceLeDiff, Nat.reduceLT, Int.reduceToNat, Int.reduceLT, Int.reduceLE, reduceCtorEq, Nat.reduceBEq, subA5, hlt', List.take_length, fillAll, fillIn, shiftR, shiftV, List.take_succ_cons, List.take_zero, List.drop_succ_cons, List.drop_zero, List.append_nil, Nat.zero_add]
          simp only [i65, Out, resAll, geto, ints, List.getElem?_cons_zero, List.getElem?_cons_succ, resOf, outOf, snap, snapL, ev, getE, List.mapM_cons, List.mapM_nil, Option.bind_some, Option.pure_def, Option.bind_eq_bind, Option.map_some, reduceIte, Nat.reduceEqDiff, true_and, and_true, subA5, arrX, runes, if_true, List.length_map]
          rfl
    · have := bad hsh
      subst this
      rw [Shapes_iff] at hsh
      cases ch with
      | true =>
        by_cases h1 : (t.length : Int) = m
        · have h2 : ¬ l.length = 0 := fun h => hsh ⟨m, hc, fun _ => ⟨h1, h⟩, fun h => by cases h⟩
          have q1 : ((t.length : Int) != m) = false := by rw [bne_eq_false_iff_eq]; exact h1
          have q2 : (0 : Int) < (l.length : Int) := by omega
          simp only [c65, plX, runes, ints, go_sem, ↓reduceIte, Nat.reduceEqDiff, Nat.reduceAdd, Nat.reduceMul, Nat.reduceLeDiff, Nat.reduceLT, Int.reduceToNat, Int.reduceLT, Int.reduceLE, reduceCtorEq, Nat.reduceBEq, subP4a, subP4b, subP4c, subP3, subP3', fillAll, fillIn, shiftR, shiftV, List.take_succ_cons, List.take_zero, List.drop_succ_cons, List.drop_zero, List.append_nil, Nat.zero_add]
          refine goP h35 ?_
          simp only [go_sem, ↓reduceIte, Nat.reduceEqDiff, Nat.reduceAdd, Nat.reduceMul, Nat.reduceLeDiff, Nat.reduceLT, Int.reduceToNat, Int.reduceLT, Int.reduceLE, reduceCtorEq, Nat.reduceBEq, subP4a, subP4b, subP4c, subP3, subP3', fillAll, fillIn, shiftR, shiftV, List.take_succ_cons, List.take_zero, List.drop_succ_cons, List.drop_zero, List.append_nil, Nat.zero_add, q1, q2]
          simp only [i65, Out, resAll, geto, ints, List.getElem?_cons_zero, List.getElem?_cons_succ, resOf, outOf, snap, snapL, ev, getE, List.mapM_cons, List.mapM_nil, Option.bind_some, Option.pure_def, Option.bind_eq_bind, Option.map_some, reduceIte, Nat.reduceEqDiff, true_and, and_true, subA5, noA, Bool.false_eq_true, if_false]
        · have q1 : ((t.length : Int) != m) = true := by rw [bne_iff_ne]; exact h1
          simp only [c65, plX, runes, ints, go_sem, ↓reduceIte, Nat.reduceEqDiff, Nat.reduceAdd, Nat.reduceMul, Nat.reduceLeDiff, Nat.reduceLT, Int.reduceToNat, Int.reduceLT, Int.reduceLE, reduceCtorEq, Nat.reduceBEq, subP4a, subP4b, subP4c, subP3, subP3', fillAll, fillIn, shiftR, shiftV, List.take_succ_cons, List.take_zero, List.drop_succ_cons, List.drop_zero, List.append_nil, Nat.zero_add]
          refine goP h35 ?_
          simp only [go_sem, ↓reduceIte, Nat.reduceEqDiff, Nat.reduceAdd, Nat.reduceMul, Nat.reduceLeDiff, Nat.reduceLT, Int.reduceToNat, Int.reduceLT, Int.reduceLE, reduceCtorEq, Nat.reduceBEq, subP4a, subP4b, subP4c, subP3, subP3', fillAll, fillIn, shiftR, shiftV, List.take_succ_cons, List.take_zero, List.drop_succ_cons, List.drop_zero, List.append_nil, Nat.zero_add, q1]
          simp only [i65, Out, resAll, geto, ints, List.getElem?_cons_zero, List.getElem?_cons_succ, resOf, outOf, snap, snapL, ev, getE, List.mapM_cons, List.mapM_nil, Option.bind_some, Option.pure_def, Option.bind_eq_bind, Option.map_some, reduceIte, Nat.reduceEqDiff, true_and, and_true, subA5, noA, Bool.false_eq_true, if_false]
      | false =>
        by_cases h1 : (l.length : Int) = m
        · have h2 : ¬ t.length = 0 := fun h => hsh ⟨m, hc, fun h => (by cases h), fun _ => ⟨h1, h⟩⟩
          have q1 : ((l.length : Int) != m) = false := by rw [bne_eq_false_iff_eq]; exact h1
          have q2 : (0 : Int) < (t.length : Int) := by omega
          simp only [c65, plX, runes, ints, go_sem, ↓reduceIte, Nat.reduceEqDiff, Nat.reduceAdd, Nat.reduceMul, Nat.reduceLeDiff, Nat.reduceLT, Int.reduceToNat, Int.reduceLT, Int.reduceLE, reduceCtorEq, Nat.reduceBEq, subP4a, subP4b, subP4c, subP3, subP3', fillAll, fillIn, shiftR, shiftV, List.take_succ_cons, List.take_zero, List.drop_succ_cons, List.drop_zero, List.append_nil, Nat.zero_add]
          refine goP h35 ?_
          simp only [go_sem, ↓reduceIte, Nat.reduceEqDiff, Nat.reduceAdd, Nat.reduceMul, Nat.reduceLeDiff, Nat.reduceLT, Int.reduceToNat, Int.reduceLT, Int.reduceLE, reduceCtorEq, Nat.reduceBEq, subP4a, subP4b, subP4c, subP3, subP3', fillAll, fillIn, shiftR, shiftV, List.take_succ_cons, List.take_zero, List.drop_succ_cons, List.drop_zero, List.append_nil, Nat.zero_add, q1, q2]
          simp only [i65, Out, resAll, geto, ints, List.getElem?_cons_zero, List.getElem?_cons_succ, resOf, outOf, snap, snapL, ev, getE, List.mapM_cons, List.mapM_nil, Option.bind_some, Option.pure_def, Option.bind_eq_bind, Option.map_some, reduceIte, Nat.reduceEqDiff, true_and, and_true, subA5, noA, Bool.false_eq_true, if_false]
        · have q1 : ((l.length : Int) != m) = true := by rw [bne_iff_ne]; exact h1
          simp only [c65, plX, runes, ints, go_sem, ↓reduceIte, Nat.reduceEqDiff, Nat.reduceAdd, Nat.reduceMul, Nat.reduceLeDiff, Nat.reduceLT, Int.reduceToNat, Int.reduceLT, Int.reduceLE, reduceCtorEq, Nat.reduceBEq, subP4a, subP4b, subP4c, subP3, subP3', fillAll, fillIn, shiftR, shiftV, List.take_succ_cons, List.take_zero, List.drop_succ_cons, List.drop_zero, List.append_nil, Nat.zero_add]
          refine goP h35 ?_
          simp only [go_sem, ↓reduceIte, Nat.reduceEqDiff, Nat.reduceAdd, Nat.reduceMul, Nat.reduceLeDiff, Nat.reduceLT, Int.reduceToNat, Int.reduceLT, Int.reduceLE, reduceCtorEq, Nat.reduceBEq, subP4a, subP4b, subP4c, subP3, subP3', fillAll, fillIn, shiftR, shiftV, List.take_succ_cons, List.take_zero, List.drop_succ_cons, List.drop_zero, List.append_nil, Nat.zero_add, q1]
          simp only [i65, Out, resAll, geto, ints, List.getElem?_cons_zero, List.getElem?_cons_succ, resOf, outOf, snap, snapL, ev, getE, List.mapM_cons, List.mapM_nil, Option.bind_some, Option.pure_def, Option.bind_eq_bind, Option.map_some, reduceIte, Nat.reduceEqDiff, true_and, and_true, subA5, noA, Bool.false_eq_true, if_false]
theorem c60_ok {s t : List Int} {l : List Nm} {ch : Bool} (hs : ∀ d ∈ s, In64 d) (hsl : (s.length : Int) ≤ 1000000000000) (ht : (t.length : Int) ≤ 1000000000000) (hl : (l.length : Int) ≤ 1000000000000) (hu : ∀ x ∈ l, NmU x) (hr : RightP s ch t l) :
    Go.V.Call tab E 60 [.agg (plX s ch t l)] [] (.agg (arrX s ch t (l.map toRt))) [] := by
  refine Go.V.Call.mach i60 c60 rfl rfl rfl rfl ?_
  have h65 := c65_ok (ok := true) hs hsl ht hl hu ⟨fun _ => hr, fun _ => rfl⟩
  simp only [if_true, plX, arrX, runes, ints] at h65
  simp only [c60, plX, runes, ints, go_sem, ↓reduceIte, Nat.reduceEqDiff, Nat.reduceAdd, Nat.reduceMul, Nat.reduceLeDiff, Nat.reduceLT, Int.reduceToNat, Int.reduceLT, Int.reduceLE, reduceCtorEq, Nat.reduceBEq, subP4, fillAll, fillIn, shiftR, shiftV, List.take_succ_cons, List.take_zero, List.drop_succ_cons, List.drop_zero, List.append_nil, Nat.zero_add]
  refine goP h65 ?_
  simp only [go_sem, ↓reduceIte, Nat.reduceEqDiff, Nat.reduceAdd, Nat.reduceMul, Nat.reduceLeDiff, Nat.reduceLT, Int.reduceToNat, Int.reduceLT, Int.reduceLE, reduceCtorEq, Nat.reduceBEq, subA5, fillAll, fillIn, shiftR, shiftV, List.take_succ_cons, List.take_zero, List.drop_succ_cons, List.drop_zero, List.append_nil, Nat.zero_add]
  simp only [i60, Out, resAll, geto, ints, List.getElem?_cons_zero, List.getElem?_cons_succ, resOf, outOf, snap, snapL, ev, getE, List.mapM_cons, List.mapM_nil, Option.bind_some, Option.pure_def, Option.bind_eq_bind, Option.map_some, reduceIte, Nat.reduceEqDiff, true_and, and_true, subA5, arrX, runes]
/-- Is it an array of few elements, and short numbers? -/
def LightP (s : List Int) (ch : Bool) (t : List Int) (l : List Nm) (most : Int) : Prop := (t.length : Int) ≤ most ∧ (l.length : Int) ≤ most ∧ s.length ≤ 8 ∧ (∀ x ∈ l, x.2.1.length ≤ 40 ∧ x.2.2.length ≤ 40) ∧ RightP s ch t l
theorem c59_ok {s t : List Int} {l : List Nm} {ch ok : Bool} {most : Int} (hm : 0 ≤ most ∧ most ≤ 1000000) (hs : ∀ d ∈ s, In64 d)
    (hu : ∀ x ∈ l, U8 x.2.1 ∧ U8 x.2.2) (hok : ok = true ↔ LightP s ch t l most) :
    Go.V.Call tab E 59 [.agg (plX s ch t l), .int .i64 most] [] (.bool ok) [] := by
  refine Go.V.Call.mach i59 c59 rfl rfl rfl rfl ?_
  have hfalse : ¬ LightP s ch t l most → ok = false := fun h => by rw [← Bool.not_eq_true, hok]; exact h
  by_cases h1 : most < (t.length : Int)
  · have := hfalse (fun h => by have := h.1; omega)
    subst this
    simp only [c59, plX, runes, ints, go_sem, ↓reduceIte, Nat.reduceEqDiff, Nat.reduceAdd, Nat.reduceMul, Nat.reduceLeDiff, Nat.reduceLT, Int.reduceToNat, Int.reduceLT, Int.reduceLE, reduceCtorEq, Nat.reduceBEq, subP4a, subP4b, subP4c, subP3, subP3', fillAll, fillIn, shiftR, shiftV, List.take_succ_cons, List.take_zero, List.drop_succ_cons, List.drop_zero, List.append_nil, Nat.zero_add, h1]
    simp only [i59, Out, resAll, geto, ints, List.getElem?_cons_zero, List.getElem?_cons_succ, resOf, outOf, snap, snapL, ev, getE, List.mapM_cons, List.mapM_nil, Option.bind_some, Option.pure_def, Option.bind_eq_bind, Option.map_some, reduceIte, Nat.reduceEqDiff, true_and, and_true]
  by_cases h2 : most < (l.length : Int)
  · have := hfalse (fun h => by have := h.2.1; omega)
    subst this
    simp only [c59, plX, runes, ints, go_sem, ↓reduceIte, Nat.reduceEqDiff, Nat.reduceAdd, Nat.reduceMul, Nat.reduceLeDiff, Nat.reduceLT, Int.reduceToNat, Int.reduceLT, Int.reduceLE, reduceCtorEq, Nat.reduceBEq, subP4a, subP4b, subP4c, subP3, subP3', fillAll, fillIn, shiftR, shiftV, List.take_succ_cons, List.take_zero, List.drop_succ_cons, List.drop_zero, List.append_nil, Nat.zero_add, h1, h2]
    simp only [i59, Out, resAll, geto, ints, List.getElem?_cons_zero, List.getElem?_cons_succ, resOf, outOf, snap, snapL, ev, getE, List.mapM_cons, List.mapM_nil, Option.bind_some, Option.pure_def, Option.bind_eq_bind, Option.map_some, reduceIte, Nat.reduceEqDiff, true_and, and_true]
  by_cases h3 : (8 : Int) < (s.length : Int)
  · have := hfalse (fun h => by have := h.2.2.1; omega)
    subst this
    simp only [c59, plX, runes, ints, go_sem, ↓reduceIte, Nat.reduceEqDiff, Nat.reduceAdd, Nat.reduceMul, Nat.reduceLeDiff, Nat.reduceLT, Int.reduceToNat, Int.reduceLT, Int.reduceLE, reduceCtorEq, Nat.reduceBEq, subP4a, subP4b, subP4c, subP3, subP3', fillAll, fillIn, shiftR, shiftV, List.take_succ_cons, List.take_zero, List.drop_succ_cons, List.drop_zero, List.append_nil, Nat.zero_add, h1, h2, h3]
    simp only [i59, Out, resAll, geto, ints, List.getElem?_cons_zero, List.getElem?_cons_succ, resOf, outOf, snap, snapL, ev, getE, List.mapM_cons, List.mapM_nil, Option.bind_some, Option.pure_def, Option.bind_eq_bind, Option.map_some, reduceIte, Nat.reduceEqDiff, true_and, and_true]
  simp only [c59, plX, runes, ints, go_sem, ↓reduceIte, Nat.reduceEqDiff, Nat.reduceAdd, Nat.reduceMul, Nat.reduceLeDiff, Nat.reduceLT, Int.reduceToNat, Int.reduceLT, Int.reduceLE, reduceCtorEq, Nat.reduceBEq, subP4a, subP4b, subP4c, subP3, subP3', fillAll, fillIn, shiftR, shiftV, List.take_succ_cons, List.take_zero, List.drop_succ_cons, List.drop_zero, List.append_nil, Nat.zero_add, h1, h2, h3]
  refine mLoop (fun N st => ∃ k : Nat, k ≤ l.length ∧ N = l.length - k ∧ (∀ x ∈ l.take k, x.2.1.length ≤ 40 ∧ x.2.2.length ≤ 40) ∧ st = ⟨[(2, .loc 0 0 0), (5, .int .i64 k)], [⟨true, 77, 4, 0, 1, plX s ch t l, false⟩]⟩) l.length
    ⟨_, rfl, 0, by omega, by omega, fun x hx => by simp at hx, rfl⟩ ?_
  rintro N s0 ⟨k, hk, rfl, hr, rfl⟩
  by_cases hlt : k < l.length
  · have hlt' : (k : Int) < (l.length : Int) := by omega
    have hk0 : (0 : Int) ≤ (k : Int) := by omega
    have hk1 : IntKind.i64.wrap ((k : Int) + 1) = ((k + 1 : Nat) : Int) := by rw [wrap_i64 (by omega) (by omega)]; omega
    have hs1 := sub_nms1 hlt
    have hs2 := sub_nms2 hlt
    have hmem : nmAt l k ∈ l := by simp [nmAt, List.getD, hlt]
    have htk : l.take (k + 1) = l.take k ++ [nmAt l k] := takeAt hlt
    by_cases g1 : (40 : Int) < ((nmAt l k).2.1.length : Int)
    · have := hfalse (fun h => by have := (h.2.2.2.1 _ hmem).1; omega)
      subst this
      simp only [b59_0, plX, runes, ints, go_sem, ↓reduceIte, Nat.reduceEqDiff, Nat.reduceAdd, Nat.reduceMul, Nat.reduceLeDiff, Nat.reduceLT, Int.reduceToNat, Int.reduceLT, Int.reduceLE, reduceCtorEq, Nat.reduceBEq, subP3, subP3', hlt', hk0, Int.toNat_natCast, hs1, hs2, bs_size, g1]
      simp only [i59, Out, resAll, geto, ints, List.getElem?_cons_zero, List.getElem?_cons_succ, resOf, outOf, snap, snapL, ev, getE, List.mapM_cons, List.mapM_nil, Option.bind_some, Option.pure_def, Option.bind_eq_bind, Option.map_some, reduceIte, Nat.reduceEqDiff, true_and, and_true]
    · by_cases g2 : (40 : Int) < ((nmAt l k).2.2.length : Int)
      · have := hfalse (fun h => by have := (h.2.2.2.1 _ hmem).2; omega)
        subst this
        simp only [b59_0, plX, runes, ints, go_sem, ↓reduceIte, Nat.reduceEqDiff, Nat.reduceAdd, Nat.reduceMul, Nat.reduceLeDiff, Nat.reduceLT, Int.reduceToNat, Int.reduceLT, Int.reduceLE, reduceCtorEq, Nat.reduceBEq, subP3, subP3', hlt', hk0, Int.toNat_natCast, hs1, hs2, bs_size, g1, g2]
        simp only [i59, Out, resAll, geto, ints, List.getElem?_cons_zero, List.getElem?_cons_succ, resOf, outOf, snap, snapL, ev, getE, List.mapM_cons, List.mapM_nil, Option.bind_some, Option.pure_def, Option.bind_eq_bind, Option.map_some, reduceIte, Nat.reduceEqDiff, true_and, and_true]
      · simp only [b59_0, plX, runes, ints, go_sem, ↓reduceIte, Nat.reduceEqDiff, Nat.reduceAdd, Nat.reduceMul, Nat.reduceLeDiff, Nat.reduceLT, Int.reduceToNat, Int.reduceLT, Int.reduceLE, reduceCtorEq, Nat.reduceBEq, subP3, subP3', hlt', hk0, Int.toNat_natCast, hs1, hs2, bs_size, g1, g2, hk1]
        refine loopQ_go rfl (l.length - (k + 1)) (by omega) ⟨k + 1, by omega, rfl, ?_, rfl⟩
        intro x hx
        rw [htk] at hx
        rcases List.mem_append.1 hx with hx | hx
        · exact hr x hx
        · simp at hx; subst hx; omega
  · have hlt' : ¬ (k : Int) < (l.length : Int) := by omega
    rw [List.take_of_length_le (by omega)] at hr
    have h66 := c66_ok (s := s) (t := t) (l := l) (ch := ch) (ok := ok) hs (by omega) (by omega) (by omega) (fun x hx => ⟨(hu x hx).1, (hu x hx).2, by have := (hr x hx).1; omega, by have := (hr x hx).2; omega⟩) (by
      rw [hok]
      exact ⟨fun h => h.2.2.2.2, fun h => ⟨by omega, by omega, by omega, hr, h⟩⟩)
    simp only [plX, runes, ints] at h66
    simp only [b59_0, k59_0, plX, runes, ints, go_sem, ↓reduceIte, Nat.reduceEqDiff, Nat.reduceAdd, Nat.reduceMul, Nat.reduceLeDiff, Nat.reduceLT, Int.reduceToNat, Int.reduceLT, Int.reduceLE, reduceCtorEq, Nat.reduceBEq, subP4, subP3, subP3', hlt']
    refine goP h66 ?_
    simp only [go_sem, ↓reduceIte, Nat.reduceEqDiff, Nat.reduceAdd, Nat.reduceMul, Nat.reduceLeDiff, Nat.reduceLT, Int.reduceToNat, Int.reduceLT, Int.reduceLE, reduceCtorEq, Nat.reduceBEq]
    simp only [i59, Out, resAll, geto, ints, List.getElem?_cons_zero, List.getElem?_cons_succ, resOf, outOf, snap, snapL, ev, getE, List.mapM_cons, List.mapM_nil, Option.bind_some, Option.pure_def, Option.bind_eq_bind, Option.map_some, reduceIte, Nat.reduceEqDiff, true_and, and_true]
end Go.Proofs.Ytcmbaabkfihdmaa.I

/- Layer 6: elements at any places. -/
set_option linter.unusedVariables false
set_option linter.unusedSimpArgs false
namespace Go.Proofs.Ytcmbaabkfihdmaa.I
open Go Go.V
attribute [local go_sem] mNil nat0 beq_self_eq_true mSkip mRet mExit mReg mSeq mCond mTrue mFalse mBlock mLv mCodeE mCodeR mEndN mEndR mEndE mOps mSome mGuard mGtt mGff mGtf mGft mGu mCallP mCallR mCallF mCallO mCallZ mCallG mCallM mCallV loopQ_exit loopQ_ret mO_mov mO_newnil mO_pick mO_alloc mO_box mO_build mO_bsl mO_ldf mO_ld mO_st mO_sta mO_nilchk mO_bin mO_binb mO_binp mO_bins mO_neg mO_com mO_not mO_conv mO_mk mO_mk0 mO_s2b mO_b2s mO_cpy mO_cut mO_faddr mO_fld mO_iaddr mO_iaddrf mO_sidx mO_len mO_lenf mO_slen mO_scut mO_app mO_ext mO_mx mO_mn mO_mkfn evalOp cutOp argsE ev getE putE cellsOf adopt rowOf binV boolV nilV ar_add ar_sub ar_mul ar_quo ar_rem ar_eq ar_ne ar_lt ar_le ar_gt ar_ge ar_and ar_or ar_xor geto bound finRet finNrm ints List.length_cons List.length_nil List.length_append List.getElem?_cons_zero List.getElem?_cons_succ List.nil_append List.cons_append List.map_cons List.map_nil List.mapM_cons List.mapM_nil Option.map_some Option.map_none Option.bind_some Option.pure_def Option.bind_eq_bind List.drop_zero or_self or_false false_or or_true true_or true_and and_true and_self decide_true decide_false Bool.false_eq_true Bool.true_eq_false Bool.not_true Bool.not_false Nat.le_refl eq_self gt_iff_lt ge_iff_le ne_eq not_true_eq_false not_false_eq_true storeOp apartOf freeze_nil refsL refs List.flatMap_cons List.flatMap_nil List.append_nil List.contains_nil List.set_cons_zero List.set_cons_succ snap snapL fill_nums flat_nums nums_length Go.V.freeze List.mapIdx_cons List.mapIdx_nil List.contains_cons Bool.or_false Bool.false_or Bool.or_true Bool.true_or
/-- A character at a place; a blank, if there is none. -/
def pickT (t : List Int) (k : Int) : Int := if 0 ≤ k ∧ k < t.length then t.getD k.toNat 0 else 32
def picksT (ch : Bool) (t ks : List Int) : List Int := if ch then ks.map (pickT t) else []
def picksR (ch : Bool) (l : List Rt) (ks : List Int) : List Rt := if ch then [] else ks.map (pickR l)
theorem c61_ok {s t s' ks : List Int} {l : List Rt} {ch : Bool} (hs : ∀ d ∈ s', In64 d) (hsl : (s'.length : Int) ≤ 1000000000000) (ht : (t.length : Int) ≤ 1000000000000) (hl : (l.length : Int) ≤ 1000000000000) (hks : (ks.length : Int) ≤ 1000000000) :
    Go.V.Call tab E 61 [.agg (arrX s ch t l), ints s', ints ks] [] (.tup [.agg (if fits s' ks.length then arrX s' ch (picksT ch t ks) (picksR ch l ks) else noA), .bool (fits s' ks.length)]) [] := by
  refine Go.V.Call.mach i61 c61 rfl rfl rfl rfl ?_
  have h35 := c35_ok (E := E) hs (by omega)
  have h85 := c85_ok hsl
  simp only [ints] at h35 h85
  cases hc : count s' with
  | none =>
    have hf : fits s' ks.length = false := by simp [fits, hc]
    rw [hc] at h35
    simp only [optP] at h35
    simp only [c61, arrX, runes, ints, go_sem, ↓reduceIte, Nat.reduceEqDiff, Nat.reduceAdd, Nat.reduceMul, Nat.reduceLeDiff, Nat.reduceLT, Int.reduceToNat, Int.reduceLT, Int.reduceLE, reduceCtorEq, Nat.reduceBEq, fillAll, fillIn, shiftR, shiftV, List.take_succ_cons, List.take_zero, List.drop_succ_cons, List.drop_zero, List.append_nil, Nat.zero_add]
    refine goP h35 ?_
    simp only [go_sem, ↓reduceIte, Nat.reduceEqDiff, Nat.reduceAdd, Nat.reduceMul, Nat.reduceLeDiff, Nat.reduceLT, Int.reduceToNat, Int.reduceLT, Int.reduceLE, reduceCtorEq, Nat.reduceBEq, fillAll, fillIn, shiftR, shiftV, List.take_succ_cons, List.take_zero, List.drop_succ_cons, List.drop_zero, List.append_nil, Nat.zero_add]
    simp only [i61, Out, resAll, geto, ints, List.getElem?_cons_zero, List.getElem?_cons_succ, resOf, outOf, snap, snapL, ev, getE, List.mapM_cons, List.mapM_nil, Option.bind_some, Option.pure_def, Option.bind_eq_bind, Option.map_some, reduceIte, Nat.reduceEqDiff, true_and, and_true, subA5, hf, noA, Bool.false_eq_true, if_false]
  | some m =>
    rw [hc] at h35
    simp only [optP] at h35
    by_cases hm : m = (ks.length : Int)
    · subst hm
      have hf : fits s' ks.length = true := by simp [fits, hc]
      rw [hf, if_pos rfl]
      cases ch with
      | true =>
        simp only [c61, arrX, runes, ints, go_sem, ↓reduceIte, Nat.reduceEqDiff, Nat.reduceAdd, Nat.reduceMul, Nat.reduceLeDiff, Nat.reduceLT, Int.reduceToNat, Int.reduceLT, Int.reduceLE, reduceCtorEq, Nat.reduceBEq, fillAll, fillIn, shiftR, shiftV, List.take_succ_cons, List.take_zero, List.drop_succ_cons, List.drop_zero, List.append_nil, Nat.zero_add, subX1]
        refine goP h35 ?_
        simp only [go_sem, ↓reduceIte, Nat.reduceEqDiff, Nat.reduceAdd, Nat.reduceMul, Nat.reduceLeDiff, Nat.reduceLT, Int.reduceToNat, Int.reduceLT, Int.reduceLE, reduceCtorEq, Nat.reduceBEq, fillAll, fillIn, shiftR, shiftV, List.take_succ_cons, List.take_zero, List.drop_succ_cons, List.drop_zero, List.append_nil, Nat.zero_add, bne_self_eq_false, subX1]
        refine goZ (r' := ints s') h85 rfl ?_
        simp only [ints, go_sem, ↓reduceIte, Nat.reduceEqDiff, Nat.reduceAdd, Nat.reduceMul, Nat.reduceLeDiff, Nat.reduceLT, Int.reduceToNat, Int.reduceLT, Int.reduceLE, reduceCtorEq, Nat.reduceBEq, fillAll, fillIn, shiftR, shiftV, List.take_succ_cons, List.take_zero, List.drop_succ_cons, List.drop_zero, List.append_nil, Nat.zero_add, subX1]
        refine mLoop (fun N st => ∃ i : Nat, i ≤ ks.length ∧ N = ks.length - i ∧ st = ⟨[(3, .loc 0 0 0), (6, .loc 4 0 0), (10, .loc 8 0 0), (32, ints ks), (33, .int .i64 ks.length), (34, .int .i64 i)],
          [⟨true, 48, 5, 0, 1, arrX s true t l, false⟩, ⟨false, 3, 1, 0, 0, [], false⟩, ⟨false, 21, 1, 0, 0, [], false⟩, ⟨false, 70, 3, 0, 0, [], false⟩, ⟨true, 48, 5, 0, 1, [.arr 1 0, .bool false, .arr 2 0, .arr 3 0, .bool false], false⟩,
           ⟨false, 3, 1, 0, 0, [], false⟩, ⟨false, 21, 1, 0, 0, [], false⟩, ⟨false, 70, 3, 0, 0, [], false⟩, ⟨true, 48, 5, 0, 1, [ints s', .bool true, .arr 9 i, .arr 10 0, .bool true], false⟩, ⟨false, 21, 1, i, i, nums .i32 ((ks.take i).map (pickT t)), false⟩, ⟨false, 70, 3, 0, 0, [], false⟩]⟩) ks.length
          ⟨_, rfl, 0, by omega, by omega, by simp [getE, ints, runes, arrX, nums]⟩ ?_
        rintro N s0 ⟨i, hi, rfl, rfl⟩
        by_cases hlt : i < ks.length
        · have hlt' : (i : Int) < (ks.length : Int) := by omega
          have hi0 : (0 : Int) ≤ (i : Int) := by omega
          have hi1 : IntKind.i64.wrap ((i : Int) + 1) = ((i + 1 : Nat) : Int) := by rw [wrap_i64 (by omega) (by omega)]; omega
          have hsub := sub_nums (k := .i64) hlt
          have htk : ks.take (i + 1) = ks.take i ++ [ks.getD i 0] := takeAt hlt
          have hmt : nums .i32 ((ks.take (i + 1)).map (pickT t)) = nums .i32 ((ks.take i).map (pickT t)) ++ [.int .i32 (pickT t (ks.getD i 0))] := by rw [htk, List.map_append, nums_app]; rfl
          have e1 : (i + 1) * 4 ≤ 140737488355328 := by omega
          have e2 : i + 1 ≤ 140737488355328 := by omega
          generalize ks.getD i 0 = k at *
          by_cases h1 : k < 0
          · have hp : pickT t k = 32 := by rw [pickT, if_neg (by omega)]
            rw [hp] at hmt
            simp only [b61_0, arrX, runes, ints, go_sem, ↓reduceIte, Nat.reduceEqDiff, Nat.reduceAdd, Nat.reduceMul, Nat.reduceLeDiff, Nat.reduceLT, Int.reduceToNat, Int.reduceLT, Int.reduceLE, reduceCtorEq, Nat.reduceBEq, fillAll, fillIn, shiftR, shiftV, List.take_succ_cons, List.take_zero, List.drop_succ_cons, List.drop_zero, List.append_nil, Nat.zero_add, subX1, subX2, subA3, hlt', hi0, hi1, Int.toNat_natCast, hsub, h1, e1, e2, List.flatten_cons, List.flatten_nil, Option.getD_some]
            refine loopQ_go rfl (ks.length - (i + 1)) (by omega) ⟨i + 1, by omega, rfl, ?_⟩
            rw [hmt]
            rfl
          · by_cases h2 : (t.length : Int) ≤ k
            · have hp : pickT t k = 32 := by rw [pickT, if_neg (by omega)]
              rw [hp] at hmt
              simp only [b61_0, arrX, runes, ints, go_sem, ↓reduceIte, Nat.reduceEqDiff, Nat.reduceAdd, Nat.reduceMul, Nat.reduceLeDiff, Nat.reduceLT, Int.reduceToNat, Int.reduceLT, Int.reduceLE, reduceCtorEq, Nat.reduceBEq, fillAll, fillIn, shiftR, shiftV, List.take_succ_cons, List.take_zero, List.drop_succ_cons, List.drop_zero, List.append_nil, Nat.zero_add, subX1, subX2, subA3, hlt', hi0, hi1, Int.toNat_natCast, hsub, h1, h2, e1, e2, List.flatten_cons, List.flatten_nil, Option.getD_some]
              refine loopQ_go rfl (ks.length - (i + 1)) (by omega) ⟨i + 1, by omega, rfl, ?_⟩
              rw [hmt]
              rfl
            · obtain ⟨j, rfl⟩ := Int.eq_ofNat_of_zero_le (show 0 ≤ k by omega)
              have hp : pickT t (j : Int) = t.getD j 0 := by rw [pickT, if_pos (by omega), Int.toNat_natCast]
              rw [hp] at hmt
              have hsj := sub_nums (k := .i32) (l := t) (i := j) (by omega)
              have h3 : (0 : Int) ≤ (j : Int) := by omega
              have h4 : (j : Int) < (t.length : Int) := by omega
              simp only [b61_0, arrX, runes, ints, go_sem, ↓reduceIte, Nat.reduceEqDiff, Nat.reduceAdd, Nat.reduceMul, Nat.reduceLeDiff, Nat.reduceLT, Int.reduceToNat, Int.reduceLT, Int.reduceLE, reduceCtorEq, Nat.reduceBEq, fillAll, fillIn, shiftR, shiftV, List.take_succ_cons, List.take_zero, List.drop_succ_cons, List.drop_zero, List.append_nil, Nat.zero_add, subX1, subX2, subA3, hlt', hi0, hi1, Int.toNat_natCast, hsub, hsj, h1, h2, h3, h4, e1, e2, List.flatten_cons, List.flatten_nil, Option.getD_some]
              refine loopQ_go rfl (ks.length - (i + 1)) (by omega) ⟨i + 1, by omega, rfl, ?_⟩
              rw [hmt]
              rfl
        · have hlt' : ¬ (i : Int) < (ks.length : Int) := by omega
          obtain rfl : i = ks.length := by omega
          simp only [b61_0, k61_0, arrX, runes, ints, go_sem, ↓reduceIte, Nat.reduceEqDiff, Nat.reduceAdd, Nat.reduceMul, Nat.reduceLeDiff, Nat.reduceLT, Int.reduceToNat, Int.reduceLT, Int.reduceLE, reduceCtorEq, Nat.reduceBEq, subA5, hlt', List.take_length, fillAll, fillIn, shiftR, shiftV, List.take_succ_cons, List.take_zero, List.drop_succ_cons, List.drop_zero, List.append_nil, Nat.zero_add]
          simp only [i61, Out, resAll, geto, ints, List.getElem?_cons_zero, List.getElem?_cons_succ, resOf, outOf, snap, snapL, ev, getE, List.mapM_cons, List.mapM_nil, Option.bind_some, Option.pure_def, Option.bind_eq_bind, Option.map_some, reduceIte, Nat.reduceEqDiff, true_and, and_true, subA5, arrX, runes, picksT, picksR, if_true, List.length_map]
          rfl
      | false =>
        simp only [c61, arrX, runes, ints, go_sem, ↓reduceIte, Nat.reduceEqDiff, Nat.reduceAdd, Nat.reduceMul, Nat.reduceLeDiff, Nat.reduceLT, Int.reduceToNat, Int.reduceLT, Int.reduceLE, reduceCtorEq, Nat.reduceBEq, fillAll, fillIn, shiftR, shiftV, List.take_succ_cons, List.take_zero, List.drop_succ_cons, List.drop_zero, List.append_nil, Nat.zero_add, subX1]
        refine goP h35 ?_
        simp only [go_sem, ↓reduceIte, Nat.reduceEqDiff, Nat.reduceAdd, Nat.reduceMul, Nat.reduceLeDiff, Nat.reduceLT, Int.reduceToNat, Int.reduceLT, Int.reduceLE, reduceCtorEq, Nat.reduceBEq, fillAll, fillIn, shiftR, shiftV, List.take_succ_cons, List.take_zero, List.drop_succ_cons, List.drop_zero, List.append_nil, Nat.zero_add, bne_self_eq_false, subX1]
        refine goZ (r' := ints s') h85 rfl ?_
        simp only [ints, go_sem, ↓reduceIte, Nat.reduceEqDiff, Nat.reduceAdd, Nat.reduceMul, Nat.reduceLeDiff, Nat.reduceLT, Int.reduceToNat, Int.reduceLT, Int.reduceLE, reduceCtorEq, Nat.reduceBEq, fillAll, fillIn, shiftR, shiftV, List.take_succ_cons, List.take_zero, List.drop_succ_cons, List.drop_zero, List.append_nil, Nat.zero_add, subX1]
        refine mLoop (fun N st => ∃ i : Nat, i ≤ ks.length ∧ N = ks.length - i ∧ st = ⟨[(3, .loc 0 0 0), (6, .loc 4 0 0), (10, .loc 8 0 0), (32, ints ks), (33, .int .i64 ks.length), (34, .int .i64 i)],
          [⟨true, 48, 5, 0, 1, arrX s false t l, false⟩, ⟨false, 3, 1, 0, 0, [], false⟩, ⟨false, 21, 1, 0, 0, [], false⟩, ⟨false, 70, 3, 0, 0, [], false⟩, ⟨true, 48, 5, 0, 1, [.arr 1 0, .bool false, .arr 2 0, .arr 3 0, .bool false], false⟩,
           ⟨false, 3, 1, 0, 0, [], false⟩, ⟨false, 21, 1, 0, 0, [], false⟩, ⟨false, 70, 3, 0, 0, [], false⟩, ⟨true, 48, 5, 0, 1, [ints s', .bool false, .arr 9 0, .arr 10 i, .bool true], false⟩, ⟨false, 21, 1, 0, 0, [], false⟩, ⟨false, 70, 3, i, i, rtsC ((ks.take i).map (pickR l)), false⟩]⟩) ks.length
          ⟨_, rfl, 0, by omega, by omega, by simp [getE, ints, runes, arrX, rtsC]⟩ ?_
        rintro N s0 ⟨i, hi, rfl, rfl⟩
        by_cases hlt : i < ks.length
        · have hlt' : (i : Int) < (ks.length : Int) := by omega
          have hi0 : (0 : Int) ≤ (i : Int) := by omega
          have hi1 : IntKind.i64.wrap ((i : Int) + 1) = ((i + 1 : Nat) : Int) := by rw [wrap_i64 (by omega) (by omega)]; omega
          have hsub := sub_nums (k := .i64) hlt
          have htk : ks.take (i + 1) = ks.take i ++ [ks.getD i 0] := takeAt hlt
          have hmt : rtsC ((ks.take (i + 1)).map (pickR l)) = rtsC ((ks.take i).map (pickR l)) ++ rtC (pickR l (ks.getD i 0)) := by rw [htk, List.map_append, List.map_cons, List.map_nil, rtsC_snoc]
          have e1 : (i + 1) * 56 ≤ 140737488355328 := by omega
          have e2 : i + 1 ≤ 140737488355328 := by omega
          have h73 := c73_ok (s := s) (t := t) (ch := false) (k := ks.getD i 0) hl
          simp only [arrX, runes, ints, rtC, ratG, us32] at h73
          generalize ks.getD i 0 = k at *
          simp only [b61_0, arrX, runes, ints, go_sem, ↓reduceIte, Nat.reduceEqDiff, Nat.reduceAdd, Nat.reduceMul, Nat.reduceLeDiff, Nat.reduceLT, Int.reduceToNat, Int.reduceLT, Int.reduceLE, reduceCtorEq, Nat.reduceBEq, fillAll, fillIn, shiftR, shiftV, List.take_succ_cons, List.take_zero, List.drop_succ_cons, List.drop_zero, List.append_nil, Nat.zero_add, subX1, subX2, subA3, subA5, hlt', hi0, Int.toNat_natCast, hsub]
          refine goP h73 ?_
          simp only [go_sem, ↓reduceIte, Nat.reduceEqDiff, Nat.reduceAdd, Nat.reduceMul, Nat.reduceLeDiff, Nat.reduceLT, Int.reduceToNat, Int.reduceLT, Int.reduceLE, reduceCtorEq, Nat.reduceBEq, fillAll, fillIn, shiftR, shiftV, List.take_succ_cons, List.take_zero, List.drop_succ_cons, List.drop_zero, List.append_nil, Nat.zero_add, subX1, subX2, subA3, hi1, e1, e2, List.flatten_cons, List.flatten_nil, Option.getD_some]
          refine loopQ_go rfl (ks.length - (i + 1)) (by omega) ⟨i + 1, by omega, rfl, ?_⟩
          rw [hmt]
          rfl
        · have hlt' : ¬ (i : Int) < (ks.length : Int) := by omega
          obtain rfl : i = ks.length := by omega
          simp only [b61_0, k61_0, arrX, runes, ints, go_sem, ↓reduceIte, Nat.reduceEqDiff, Nat.reduceAdd, Nat.reduceMul, Nat.reduceLeDiff, Nat.reduceLT, Int.reduceToNat, Int.reduceLT, Int.reduceLE, reduceCtorEq, Nat.reduceBEq, subA5, hlt', List.take_length, fillAll, fillIn, shiftR, shiftV, List.take_succ_cons, List.take_zero, List.drop_succ_cons, List.drop_zero, List.append_nil, Nat.zero_add]
          simp only [i61, Out, resAll, geto, ints, List.getElem?_cons_zero, List.getElem?_cons_succ, resOf, outOf, snap, snapL, ev, getE, List.mapM_cons, List.mapM_nil, Option.bind_some, Option.pure_def, Option.bind_eq_bind, Option.map_some, reduceIte, Nat.reduceEqDiff, true_and, and_true, subA5, arrX, runes, picksT, picksR, Bool.false_eq_true, if_false, List.length_map]
          rfl
    · have hf : fits s' ks.length = false := by simp [fits, hc, hm]
      have hm' : (m != (ks.length : Int)) = true := by simpa using hm
      simp only [c61, arrX, runes, ints, go_sem, ↓reduceIte, Nat.reduceEqDiff, Nat.reduceAdd, Nat.reduceMul, Nat.reduceLeDiff, Nat.reduceLT, Int.reduceToNat, Int.reduceLT, Int.reduceLE, reduceCtorEq, Nat.reduceBEq, fillAll, fillIn, shiftR, shiftV, List.take_succ_cons, List.take_zero, List.drop_succ_cons, List.drop_zero, List.append_nil, Nat.zero_add]
      refine goP h35 ?_
      simp only [go_sem, ↓reduceIte, Nat.reduceEqDiff, Nat.reduceAdd, Nat.reduceMul, Nat.reduceLeDiff, Nat.reduceLT, Int.reduceToNat, Int.reduceLT, Int.reduceLE, reduceCtorEq, Nat.reduceBEq, fillAll, fillIn, shiftR, shiftV, List.take_succ_cons, List.take_zero, List.drop_succ_cons, List.drop_zero, List.append_nil, Nat.zero_add, hm']
      simp only [i61, Out, resAll, geto, ints, List.getElem?_cons_zero, List.getElem?_cons_succ, resOf, outOf, snap, snapL, ev, getE, List.mapM_cons, List.mapM_nil, Option.bind_some, Option.pure_def, Option.bind_eq_bind, Option.map_some, reduceIte, Nat.reduceEqDiff, true_and, and_true, subA5, hf, noA, Bool.false_eq_true, if_false]
end Go.Proofs.Ytcmbaabkfihdmaa.I

/- Layer 6: the document's elements at any places. -/
set_option linter.unusedVariables false
set_option linter.unusedSimpArgs false
namespace Go.Proofs.Ytcmbaabkfihdmaa.I
open Go Go.V
attribute [local go_sem] mNil nat0 beq_self_eq_true mSkip mRet mExit mReg mSeq mCond mTrue mFalse mBlock mLv mCodeE mCodeR mEndN mEndR mEndE mOps mSome mGuard mGtt mGff mGtf mGft mGu mCallP mCallR mCallF mCallO mCallZ mCallG mCallM mCallV loopQ_exit loopQ_ret mO_mov mO_newnil mO_pick mO_alloc mO_box mO_build mO_bsl mO_ldf mO_ld mO_st mO_sta mO_nilchk mO_bin mO_binb mO_binp mO_bins mO_neg mO_com mO_not mO_conv mO_mk mO_mk0 mO_s2b mO_b2s mO_cpy mO_cut mO_faddr mO_fld mO_iaddr mO_iaddrf mO_sidx mO_len mO_lenf mO_slen mO_scut mO_app mO_ext mO_mx mO_mn mO_mkfn evalOp cutOp argsE ev getE putE cellsOf adopt rowOf binV boolV nilV ar_add ar_sub ar_mul ar_quo ar_rem ar_eq ar_ne ar_lt ar_le ar_gt ar_ge ar_and ar_or ar_xor geto bound finRet finNrm ints List.length_cons List.length_nil List.length_append List.getElem?_cons_zero List.getElem?_cons_succ List.nil_append List.cons_append List.map_cons List.map_nil List.mapM_cons List.mapM_nil Option.map_some Option.map_none Option.bind_some Option.pure_def Option.bind_eq_bind List.drop_zero or_self or_false false_or or_true true_or true_and and_true and_self decide_true decide_false Bool.false_eq_true Bool.true_eq_false Bool.not_true Bool.not_false Nat.le_refl eq_self gt_iff_lt ge_iff_le ne_eq not_true_eq_false not_false_eq_true storeOp apartOf freeze_nil refsL refs List.flatMap_cons List.flatMap_nil List.append_nil List.contains_nil List.set_cons_zero List.set_cons_succ snap snapL fill_nums flat_nums nums_length Go.V.freeze List.mapIdx_cons List.mapIdx_nil List.contains_cons Bool.or_false Bool.false_or Bool.or_true Bool.true_or
def pickN (l : List Nm) (k : Int) : Nm := if 0 ≤ k ∧ k < l.length then nmAt l k.toNat else (false, [48], [49])
def picksN (ch : Bool) (l : List Nm) (ks : List Int) : List Nm := if ch then [] else ks.map (pickN l)
theorem c63_ok {s t s' ks : List Int} {l : List Nm} {ch : Bool} (hch : (ch = true → l = []) ∧ (ch = false → t = [])) (ht : (t.length : Int) ≤ 1000000000000) (hl : (l.length : Int) ≤ 1000000000000) (hks : (ks.length : Int) ≤ 1000000000) :
    Go.V.Call tab E 63 [.agg (plX s ch t l), ints s', ints ks] [] (.agg (plX s' ch (picksT ch t ks) (picksN ch l ks))) [] := by
  refine Go.V.Call.mach i63 c63 rfl rfl rfl rfl ?_
  have h62 := c62_ok (s := s) (t := t) (l := l) (ch := ch) ht hl
  simp only [plX, runes, ints] at h62
  cases ch with
  | true =>
    have hl0 := hch.1 rfl
    subst hl0
    simp only [c63, plX, runes, ints, go_sem, ↓reduceIte, Nat.reduceEqDiff, Nat.reduceAdd, Nat.reduceMul, Nat.reduceLeDiff, Nat.reduceLT, Int.reduceToNat, Int.reduceLT, Int.reduceLE, reduceCtorEq, Nat.reduceBEq, fillAll, fillIn, shiftR, shiftV, List.take_succ_cons, List.take_zero, List.drop_succ_cons, List.drop_zero, List.append_nil, Nat.zero_add, subP4b]
    refine mLoop (fun N st => ∃ i : Nat, i ≤ ks.length ∧ N = ks.length - i ∧ st = ⟨[(2, ints ks), (3, .loc 0 0 0), (6, .loc 4 0 0), (7, .loc 8 0 0), (8, .int .i64 i)],
      [⟨true, 77, 4, 0, 1, plX s true t [], false⟩, ⟨false, 3, 1, 0, 0, [], false⟩, ⟨false, 21, 1, 0, 0, [], false⟩, ⟨false, 97, 3, 0, 0, [], false⟩, ⟨true, 77, 4, 0, 1, [.arr 1 0, .bool false, .arr 2 0, .arr 3 0], false⟩,
       ⟨false, 3, 1, 0, 0, [], false⟩, ⟨false, 21, 1, 0, 0, [], false⟩, ⟨false, 97, 3, 0, 0, [], false⟩, ⟨true, 77, 4, 0, 1, [ints s', .bool true, .arr 9 i, .arr 10 0], false⟩, ⟨false, 21, 1, i, i, nums .i32 ((ks.take i).map (pickT t)), false⟩, ⟨false, 97, 3, 0, 0, [], false⟩]⟩) ks.length
      ⟨_, rfl, 0, by omega, by omega, by simp [getE, ints, runes, plX, nums]⟩ ?_
    rintro N s0 ⟨i, hi, rfl, rfl⟩
    by_cases hlt : i < ks.length
    · have hlt' : (i : Int) < (ks.length : Int) := by omega
      have hi0 : (0 : Int) ≤ (i : Int) := by omega
      have hi1 : IntKind.i64.wrap ((i : Int) + 1) = ((i + 1 : Nat) : Int) := by rw [wrap_i64 (by omega) (by omega)]; omega
      have hsub := sub_nums (k := .i64) hlt
      have htk : ks.take (i + 1) = ks.take i ++ [ks.getD i 0] := takeAt hlt
      have hmt : nums .i32 ((ks.take (i + 1)).map (pickT t)) = nums .i32 ((ks.take i).map (pickT t)) ++ [.int .i32 (pickT t (ks.getD i 0))] := by rw [htk, List.map_append, nums_app]; rfl
      have e1 : (i + 1) * 4 ≤ 140737488355328 := by omega
      have e2 : i + 1 ≤ 140737488355328 := by omega
      generalize ks.getD i 0 = k at *
      by_cases h1 : 0 ≤ k
      · by_cases h2 : k < ((t.length + 0 : Nat) : Int)
        · obtain ⟨j, rfl⟩ := Int.eq_ofNat_of_zero_le h1
          have hp : pickT t (j : Int) = t.getD j 0 := by rw [pickT, if_pos (by omega), Int.toNat_natCast]
          rw [hp] at hmt
          have hsj := sub_nums (k := .i32) (l := t) (i := j) (by omega)
          have h4 : (j : Int) < (t.length : Int) := by omega
          simp only [b63_0, plX, runes, ints, go_sem, ↓reduceIte, Nat.reduceEqDiff, Nat.reduceAdd, Nat.reduceMul, Nat.reduceLeDiff, Nat.reduceLT, Int.reduceToNat, Int.reduceLT, Int.reduceLE, reduceCtorEq, Nat.reduceBEq, fillAll, fillIn, shiftR, shiftV, List.take_succ_cons, List.take_zero, List.drop_succ_cons, List.drop_zero, List.append_nil, Nat.zero_add, subP4, subP4b, hlt', hi0, Int.toNat_natCast, hsub, h1]
          refine goP h62 ?_
          simp only [go_sem, ↓reduceIte, Nat.reduceEqDiff, Nat.reduceAdd, Nat.reduceMul, Nat.reduceLeDiff, Nat.reduceLT, Int.reduceToNat, Int.reduceLT, Int.reduceLE, reduceCtorEq, Nat.reduceBEq, fillAll, fillIn, shiftR, shiftV, List.take_succ_cons, List.take_zero, List.drop_succ_cons, List.drop_zero, List.append_nil, Nat.zero_add, subP4, subP4b, subP4c, subP3', hi1, h1, h2, h4, Int.toNat_natCast, hsj, e1, e2, List.flatten_cons, List.flatten_nil, Option.getD_some]
          refine loopQ_go rfl (ks.length - (i + 1)) (by omega) ⟨i + 1, by omega, rfl, ?_⟩
          rw [hmt]
          rfl
        · have hp : pickT t k = 32 := by rw [pickT, if_neg (by omega)]
          rw [hp] at hmt
          simp only [b63_0, plX, runes, ints, go_sem, ↓reduceIte, Nat.reduceEqDiff, Nat.reduceAdd, Nat.reduceMul, Nat.reduceLeDiff, Nat.reduceLT, Int.reduceToNat, Int.reduceLT, Int.reduceLE, reduceCtorEq, Nat.reduceBEq, fillAll, fillIn, shiftR, shiftV, List.take_succ_cons, List.take_zero, List.drop_succ_cons, List.drop_zero, List.append_nil, Nat.zero_add, subP4, subP4b, hlt', hi0, Int.toNat_natCast, hsub, h1]
          refine goP h62 ?_
          simp only [go_sem, ↓reduceIte, Nat.reduceEqDiff, Nat.reduceAdd, Nat.reduceMul, Nat.reduceLeDiff, Nat.reduceLT, Int.reduceToNat, Int.reduceLT, Int.reduceLE, reduceCtorEq, Nat.reduceBEq, fillAll, fillIn, shiftR, shiftV, List.take_succ_cons, List.take_zero, List.drop_succ_cons, List.drop_zero, List.append_nil, Nat.zero_add, subP4, subP4b, subP4c, subP3', hi1, h1, h2, e1, e2, List.flatten_cons, List.flatten_nil, Option.getD_some]
          refine loopQ_go rfl (ks.length - (i + 1)) (by omega) ⟨i + 1, by omega, rfl, ?_⟩
          rw [hmt]
          rfl
      · have hp : pickT t k = 32 := by rw [pickT, if_neg (by omega)]
        rw [hp] at hmt
        simp only [b63_0, plX, runes, ints, go_sem, ↓reduceIte, Nat.reduceEqDiff, Nat.reduceAdd, Nat.reduceMul, Nat.reduceLeDiff, Nat.reduceLT, Int.reduceToNat, Int.reduceLT, Int.reduceLE, reduceCtorEq, Nat.reduceBEq, fillAll, fillIn, shiftR, shiftV, List.take_succ_cons, List.take_zero, List.drop_succ_cons, List.drop_zero, List.append_nil, Nat.zero_add, subP4, subP4b, subP4c, subP3', hlt', hi0, hi1, Int.toNat_natCast, hsub, h1, e1, e2, List.flatten_cons, List.flatten_nil, Option.getD_some]
        refine loopQ_go rfl (ks.length - (i + 1)) (by omega) ⟨i + 1, by omega, rfl, ?_⟩
        rw [hmt]
        rfl
    · have hlt' : ¬ (i : Int) < (ks.length : Int) := by omega
      obtain rfl : i = ks.length := by omega
      simp only [b63_0, k63_0, plX, runes, ints, go_sem, ↓reduceIte, Nat.reduceEqDiff, Nat.reduceAdd, Nat.reduceMul, Nat.reduceLeDiff, Nat.reduceLT, Int.reduceToNat, Int.reduceLT, Int.reduceLE, reduceCtorEq, Nat.reduceBEq, subP4, hlt', List.take_length, fillAll, fillIn, shiftR, shiftV, List.take_succ_cons, List.take_zero, List.drop_succ_cons, List.drop_zero, List.append_nil, Nat.zero_add]
      simp only [i63, Out, resAll, geto, ints, List.getElem?_cons_zero, List.getElem?_cons_succ, resOf, outOf, snap, snapL, ev, getE, List.mapM_cons, List.mapM_nil, Option.bind_some, Option.pure_def, Option.bind_eq_bind, Option.map_some, reduceIte, Nat.reduceEqDiff, true_and, and_true, subP4, plX, runes, picksT, picksN, if_true, List.length_map]
      rfl
  | false =>
    have ht0 := hch.2 rfl
    subst ht0
    simp only [c63, plX, runes, ints, go_sem, ↓reduceIte, Nat.reduceEqDiff, Nat.reduceAdd, Nat.reduceMul, Nat.reduceLeDiff, Nat.reduceLT, Int.reduceToNat, Int.reduceLT, Int.reduceLE, reduceCtorEq, Nat.reduceBEq, fillAll, fillIn, shiftR, shiftV, List.take_succ_cons, List.take_zero, List.drop_succ_cons, List.drop_zero, List.append_nil, Nat.zero_add, subP4b]
    refine mLoop (fun N st => ∃ i : Nat, i ≤ ks.length ∧ N = ks.length - i ∧ st = ⟨[(2, ints ks), (3, .loc 0 0 0), (6, .loc 4 0 0), (7, .loc 8 0 0), (8, .int .i64 i)],
      [⟨true, 77, 4, 0, 1, plX s false [] l, false⟩, ⟨false, 3, 1, 0, 0, [], false⟩, ⟨false, 21, 1, 0, 0, [], false⟩, ⟨false, 97, 3, 0, 0, [], false⟩, ⟨true, 77, 4, 0, 1, [.arr 1 0, .bool false, .arr 2 0, .arr 3 0], false⟩,
       ⟨false, 3, 1, 0, 0, [], false⟩, ⟨false, 21, 1, 0, 0, [], false⟩, ⟨false, 97, 3, 0, 0, [], false⟩, ⟨true, 77, 4, 0, 1, [ints s', .bool false, .arr 9 0, .arr 10 i], false⟩, ⟨false, 21, 1, 0, 0, [], false⟩, ⟨false, 97, 3, i, i, nmsC ((ks.take i).map (pickN l)), false⟩]⟩) ks.length
      ⟨_, rfl, 0, by omega, by omega, by simp [getE, ints, runes, plX, nmsC]⟩ ?_
    rintro N s0 ⟨i, hi, rfl, rfl⟩
    by_cases hlt : i < ks.length
    · have hlt' : (i : Int) < (ks.length : Int) := by omega
      have hi0 : (0 : Int) ≤ (i : Int) := by omega
      have hi1 : IntKind.i64.wrap ((i : Int) + 1) = ((i + 1 : Nat) : Int) := by rw [wrap_i64 (by omega) (by omega)]; omega
      have hsub := sub_nums (k := .i64) hlt
      have htk : ks.take (i + 1) = ks.take i ++ [ks.getD i 0] := takeAt hlt
      have hmt : nmsC ((ks.take (i + 1)).map (pickN l)) = nmsC ((ks.take i).map (pickN l)) ++ nmC (pickN l (ks.getD i 0)) := by rw [htk, List.map_append, List.map_cons, List.map_nil, nmsC_snoc]
      have e1 : (i + 1) * 40 ≤ 140737488355328 := by omega
      have e2 : i + 1 ≤ 140737488355328 := by omega
      have h67 := c67_ok
      simp only [nmC] at h67
      generalize ks.getD i 0 = k at *
      by_cases h1 : 0 ≤ k
      · by_cases h2 : k < ((([] : List Int).length + l.length : Nat) : Int)
        · obtain ⟨j, rfl⟩ := Int.eq_ofNat_of_zero_le h1
          have h4 : (j : Int) < (l.length : Int) := by simpa using h2
          have hp : pickN l (j : Int) = nmAt l j := by rw [pickN, if_pos ⟨h1, h4⟩, Int.toNat_natCast]
          rw [hp] at hmt
          have hsj := sub_nms (l := l) (i := j) (by omega)
          simp only [b63_0, plX, runes, ints, go_sem, ↓reduceIte, Nat.reduceEqDiff, Nat.reduceAdd, Nat.reduceMul, Nat.reduceLeDiff, Nat.reduceLT, Int.reduceToNat, Int.reduceLT, Int.reduceLE, reduceCtorEq, Nat.reduceBEq, fillAll, fillIn, shiftR, shiftV, List.take_succ_cons, List.take_zero, List.drop_succ_cons, List.drop_zero, List.append_nil, Nat.zero_add, subP4, subP4b, hlt', hi0, Int.toNat_natCast, hsub, h1]
          refine goP h62 ?_
          simp only [List.length_nil, Nat.zero_add] at h2
          simp only [go_sem, ↓reduceIte, Nat.reduceEqDiff, Nat.reduceAdd, Nat.reduceMul, Nat.reduceLeDiff, Nat.reduceLT, Int.reduceToNat, Int.reduceLT, Int.reduceLE, reduceCtorEq, Nat.reduceBEq, fillAll, fillIn, shiftR, shiftV, List.take_succ_cons, List.take_zero, List.drop_succ_cons, List.drop_zero, List.append_nil, Nat.zero_add, nmC, subP4, subP4b, subP4c, subP3', hi1, h1, h2, h4, Int.toNat_natCast, hsj, e1, e2, List.length_nil, Nat.zero_add, List.flatten_cons, List.flatten_nil, Option.getD_some]
          refine loopQ_go rfl (ks.length - (i + 1)) (by omega) ⟨i + 1, by omega, rfl, ?_⟩
          rw [hmt]
          rfl
        · have hp : pickN l k = (false, [48], [49]) := by rw [pickN, if_neg (by simp at h2; omega)]
          rw [hp] at hmt
          simp only [b63_0, plX, runes, ints, go_sem, ↓reduceIte, Nat.reduceEqDiff, Nat.reduceAdd, Nat.reduceMul, Nat.reduceLeDiff, Nat.reduceLT, Int.reduceToNat, Int.reduceLT, Int.reduceLE, reduceCtorEq, Nat.reduceBEq, fillAll, fillIn, shiftR, shiftV, List.take_succ_cons, List.take_zero, List.drop_succ_cons, List.drop_zero, List.append_nil, Nat.zero_add, subP4, subP4b, hlt', hi0, Int.toNat_natCast, hsub, h1]
          refine goP h62 ?_
          simp only [List.length_nil, Nat.zero_add] at h2
          simp only [go_sem, ↓reduceIte, Nat.reduceEqDiff, Nat.reduceAdd, Nat.reduceMul, Nat.reduceLeDiff, Nat.reduceLT, Int.reduceToNat, Int.reduceLT, Int.reduceLE, reduceCtorEq, Nat.reduceBEq, fillAll, fillIn, shiftR, shiftV, List.take_succ_cons, List.take_zero, List.drop_succ_cons, List.drop_zero, List.append_nil, Nat.zero_add, subP4, subP4b, subP4c, subP3', h1, h2, List.length_nil, Nat.zero_add]
          refine goP h67 ?_
          simp only [go_sem, ↓reduceIte, Nat.reduceEqDiff, Nat.reduceAdd, Nat.reduceMul, Nat.reduceLeDiff, Nat.reduceLT, Int.reduceToNat, Int.reduceLT, Int.reduceLE, reduceCtorEq, Nat.reduceBEq, fillAll, fillIn, shiftR, shiftV, List.take_succ_cons, List.take_zero, List.drop_succ_cons, List.drop_zero, List.append_nil, Nat.zero_add, subP4, subP4b, subP4c, subP3', hi1, e1, e2, List.flatten_cons, List.flatten_nil, Option.getD_some]
          refine loopQ_go rfl (ks.length - (i + 1)) (by omega) ⟨i + 1, by omega, rfl, ?_⟩
          rw [hmt]
          rfl
      · have hp : pickN l k = (false, [48], [49]) := by rw [pickN, if_neg (by omega)]
        rw [hp] at hmt
        simp only [b63_0, plX, runes, ints, go_sem, ↓reduceIte, Nat.reduceEqDiff, Nat.reduceAdd, Nat.reduceMul, Nat.reduceLeDiff, Nat.reduceLT, Int.reduceToNat, Int.reduceLT, Int.reduceLE, reduceCtorEq, Nat.reduceBEq, fillAll, fillIn, shiftR, shiftV, List.take_succ_cons, List.take_zero, List.drop_succ_cons, List.drop_zero, List.append_nil, Nat.zero_add, subP4, subP4b, subP4c, subP3', hlt', hi0, Int.toNat_natCast, hsub, h1]
        refine goP h67 ?_
        simp only [go_sem, ↓reduceIte, Nat.reduceEqDiff, Nat.reduceAdd, Nat.reduceMul, Nat.reduceLeDiff, Nat.reduceLT, Int.reduceToNat, Int.reduceLT, Int.reduceLE, reduceCtorEq, Nat.reduceBEq, fillAll, fillIn, shiftR, shiftV, List.take_succ_cons, List.take_zero, List.drop_succ_cons, List.drop_zero, List.append_nil, Nat.zero_add, subP4, subP4b, subP4c, subP3', hi1, e1, e2, List.flatten_cons, List.flatten_nil, Option.getD_some]
        refine loopQ_go rfl (ks.length - (i + 1)) (by omega) ⟨i + 1, by omega, rfl, ?_⟩
        rw [hmt]
        rfl
    · have hlt' : ¬ (i : Int) < (ks.length : Int) := by omega
      obtain rfl : i = ks.length := by omega
      simp only [b63_0, k63_0, plX, runes, ints, go_sem, ↓reduceIte, Nat.reduceEqDiff, Nat.reduceAdd, Nat.reduceMul, Nat.reduceLeDiff, Nat.reduceLT, Int.reduceToNat, Int.reduceLT, Int.reduceLE, reduceCtorEq, Nat.reduceBEq, subP4, hlt', List.take_length, fillAll, fillIn, shiftR, shiftV, List.take_succ_cons, List.take_zero, List.drop_succ_cons, List.drop_zero, List.append_nil, Nat.zero_add]
      simp only [i63, Out, resAll, geto, ints, List.getElem?_cons_zero, List.getElem?_cons_succ, resOf, outOf, snap, snapL, ev, getE, List.mapM_cons, List.mapM_nil, Option.bind_some, Option.pure_def, Option.bind_eq_bind, Option.map_some, reduceIte, Nat.reduceEqDiff, true_and, and_true, subP4, plX, runes, picksT, picksN, Bool.false_eq_true, if_false, List.length_map]
      rfl
theorem dn_pos {q : Nat} (h : q ≠ 0) : dn q = q := by
  unfold dn
  rw [if_neg h]
/-- What is right on the page is the same when it comes back. -/
theorem back_nm {x : Nm} (h : RightN x.1 x.2.1 x.2.2) : toNm (toRt x) = x := by
  obtain ⟨n, a, b⟩ := x
  obtain ⟨hRa, hRb, t1, t2, hb48, _, _⟩ := h
  have ea : decL (sval a) = a := by rw [← trimS_dec hRa.1 (fun h0 => by have := hRa.2.1; rw [h0] at this; simp at this)]; exact t1
  have eb : decL (sval b) = b := by rw [← trimS_dec hRb.1 (fun h0 => by have := hRb.2.1; rw [h0] at this; simp at this)]; exact t2
  have hq : sval b ≠ 0 := fun h => hb48 ((right_zero hRb t2).1 h)
  have hd := dn_pos hq
  simp only [toNm, toRt]
  rw [hd, ea, eb]
theorem back_nms {l : List Nm} (h : ∀ x ∈ l, RightN x.1 x.2.1 x.2.2) : (l.map toRt).map toNm = l := by
  rw [List.map_map]
  conv => rhs; rw [← List.map_id l]
  exact List.map_congr_left fun x hx => back_nm (h x hx)
theorem right_ok {x : Nm} (h : RightN x.1 x.2.1 x.2.2) : RtOk (toRt x) := by
  obtain ⟨hRa, hRb, t1, t2, hb48, _, _⟩ := h
  refine ⟨Right_lim hRa, ?_⟩
  have hq : sval x.2.2 ≠ 0 := fun h => hb48 ((right_zero hRb t2).1 h)
  show dn (sval x.2.2) < lim2000
  rw [dn_pos hq]
  exact Right_lim hRb
theorem zero_nm : toNm (false, 0, 0) = (false, [48], [49]) := by
  simp only [toNm, dn, if_true]
  rw [decL_digit (d := 1) (by omega)]
  rfl
theorem rtAt_map {l : List Nm} {i : Nat} (h : i < l.length) : rtAt (l.map toRt) i = toRt (nmAt l i) := by
  simp [rtAt, nmAt, List.getD, h]
theorem pick_nm {l : List Nm} (h : ∀ x ∈ l, RightN x.1 x.2.1 x.2.2) {k : Int} : toNm (pickR (l.map toRt) k) = pickN l k := by
  unfold pickR pickN
  rw [List.length_map]
  by_cases hk : 0 ≤ k ∧ k < l.length
  · rw [if_pos hk, if_pos hk, rtAt_map (by omega)]
    exact back_nm (h _ (by simp [nmAt, List.getD, show k.toNat < l.length by omega]))
  · rw [if_neg hk, if_neg hk, zero_nm]
theorem picks_nm {l : List Nm} (h : ∀ x ∈ l, RightN x.1 x.2.1 x.2.2) {ch : Bool} {ks : List Int} : (picksR ch (l.map toRt) ks).map toNm = picksN ch l ks := by
  cases ch with
  | true => rfl
  | false =>
    simp only [picksR, picksN, Bool.false_eq_true, if_false, List.map_map]
    exact List.map_congr_left fun k _ => pick_nm h
theorem zero_ok : RtOk (false, 0, 0) := by
  have h1 : (1 : Nat) < lim2000 := by
    refine Nat.lt_of_lt_of_le (show 1 < 10 ^ 1 by omega) (pow10_le (by omega))
  exact ⟨Nat.lt_trans (by decide : (0 : Nat) < 1) h1, h1⟩
theorem pick_ok {l : List Nm} (h : ∀ x ∈ l, RightN x.1 x.2.1 x.2.2) {ch : Bool} {ks : List Int} : ∀ z ∈ picksR ch (l.map toRt) ks, RtOk z := by
  intro z hz
  unfold picksR at hz
  split at hz
  · simp at hz
  · obtain ⟨k, _, rfl⟩ := List.mem_map.1 hz
    unfold pickR
    rw [List.length_map]
    split
    · rename_i hk
      rw [rtAt_map (by omega)]
      exact right_ok (h _ (by simp [nmAt, List.getD, show k.toNat < l.length by omega]))
    · exact zero_ok
end Go.Proofs.Ytcmbaabkfihdmaa.I

/- Layer 6: ArrayCounts. -/
set_option linter.unusedVariables false
set_option linter.unusedSimpArgs false
namespace Go.Proofs.Ytcmbaabkfihdmaa.I
open Go Go.V
theorem c34_ok : Go.V.Call tab E 34 [] [] (.bool true) [] := Go.V.Call.run (ext := ext) (fun h => h) (fuel := 300) (n := 40) (by kernel_rfl)

end Go.Proofs.Ytcmbaabkfihdmaa.I

/- Layer 6: ArrayPicks. -/
set_option linter.unusedVariables false
set_option linter.unusedSimpArgs false
namespace Go.Proofs.Ytcmbaabkfihdmaa.I
open Go Go.V
attribute [local go_sem] mNil nat0 beq_self_eq_true mSkip mRet mExit mReg mSeq mCond mTrue mFalse mBlock mLv mCodeE mCodeR mEndN mEndR mEndE mOps mSome mGuard mGtt mGff mGtf mGft mGu mCallP mCallR mCallF mCallO mCallZ mCallG mCallM mCallV loopQ_exit loopQ_ret mO_mov mO_newnil mO_pick mO_alloc mO_box mO_build mO_bsl mO_ldf mO_ld mO_st mO_sta mO_nilchk mO_bin mO_binb mO_binp mO_bins mO_neg mO_com mO_not mO_conv mO_mk mO_mk0 mO_s2b mO_b2s mO_cpy mO_cut mO_faddr mO_fld mO_iaddr mO_iaddrf mO_sidx mO_len mO_lenf mO_slen mO_scut mO_app mO_ext mO_mx mO_mn mO_mkfn evalOp cutOp argsE ev getE putE cellsOf adopt rowOf binV boolV nilV ar_add ar_sub ar_mul ar_quo ar_rem ar_eq ar_ne ar_lt ar_le ar_gt ar_ge ar_and ar_or ar_xor geto bound finRet finNrm ints List.length_cons List.length_nil List.length_append List.getElem?_cons_zero List.getElem?_cons_succ List.nil_append List.cons_append List.map_cons List.map_nil List.mapM_cons List.mapM_nil Option.map_some Option.map_none Option.bind_some Option.pure_def Option.bind_eq_bind List.drop_zero or_self or_false false_or or_true true_or true_and and_true and_self decide_true decide_false Bool.false_eq_true Bool.true_eq_false Bool.not_true Bool.not_false Nat.le_refl eq_self gt_iff_lt ge_iff_le ne_eq not_true_eq_false not_false_eq_true storeOp apartOf freeze_nil refsL refs List.flatMap_cons List.flatMap_nil List.append_nil List.contains_nil List.set_cons_zero List.set_cons_succ snap snapL fill_nums flat_nums nums_length Go.V.freeze List.mapIdx_cons List.mapIdx_nil List.contains_cons Bool.or_false Bool.false_or Bool.or_true Bool.true_or
theorem pickN_u {l : List Nm} (h : ∀ x ∈ l, NmU x) {ch : Bool} {ks : List Int} : ∀ z ∈ picksN ch l ks, NmU z := by
  intro z hz
  unfold picksN at hz
  split at hz
  · simp at hz
  · obtain ⟨k, _, rfl⟩ := List.mem_map.1 hz
    unfold pickN
    split
    · rename_i hk
      exact h _ (by simp [nmAt, List.getD, show k.toNat < l.length by omega])
    · exact ⟨U8_48 (by omega), U8_48 (by omega), by simp, by simp⟩
theorem picks_len {ch : Bool} {t ks : List Int} {l : List Nm} : (picksT ch t ks).length ≤ ks.length ∧ (picksN ch l ks).length ≤ ks.length := by
  unfold picksT picksN
  constructor <;> split <;> simp
theorem picksR_len {ch : Bool} {ks : List Int} {l : List Rt} : (picksR ch l ks).length ≤ ks.length := by
  unfold picksR
  split <;> simp
set_option maxHeartbeats 4000000 in
theorem c10_ok {s t ss ks : List Int} {l : List Nm} {ch : Bool} (hs : ∀ d ∈ s, In64 d) (hss : ∀ d ∈ ss, In64 d)
    (hu : ∀ x ∈ l, U8 x.2.1 ∧ U8 x.2.2) : Go.V.Call tab E 10 [.agg (plX s ch t l), ints ss, ints ks] [] (.bool true) [] := by
  refine Go.V.Call.mach i10 c10 rfl rfl rfl rfl ?_
  have h59 := fun ok h => c59_ok (s := s) (t := t) (l := l) (ch := ch) (ok := ok) (most := 300) (by omega) hs hu h
  by_cases hL : LightP s ch t l 300
  · have h59t := h59 true ⟨fun _ => hL, fun _ => rfl⟩
    simp only [plX, runes, ints] at h59t
    by_cases g1 : (60 : Int) < (ss.length : Int)
    · simp only [c10, plX, runes, ints, go_sem, ↓reduceIte, Nat.reduceEqDiff, Nat.reduceAdd, Nat.reduceMul, Nat.reduceLeDiff, Nat.reduceLT, Int.reduceToNat, Int.reduceLT, Int.reduceLE, reduceCtorEq, Nat.reduceBEq, fillAll, fillIn, shiftR, shiftV, List.take_succ_cons, List.take_zero, List.drop_succ_cons, List.drop_zero, List.append_nil, Nat.zero_add, subP4]
      refine goP h59t ?_
      simp only [go_sem, ↓reduceIte, Nat.reduceEqDiff, Nat.reduceAdd, Nat.reduceMul, Nat.reduceLeDiff, Nat.reduceLT, Int.reduceToNat, Int.reduceLT, Int.reduceLE, reduceCtorEq, Nat.reduceBEq, fillAll, fillIn, shiftR, shiftV, List.take_succ_cons, List.take_zero, List.drop_succ_cons, List.drop_zero, List.append_nil, Nat.zero_add, g1]
      refine goP c34_ok ?_
      simp only [go_sem, ↓reduceIte, Nat.reduceEqDiff, Nat.reduceAdd, Nat.reduceMul, Nat.reduceLeDiff, Nat.reduceLT, Int.reduceToNat, Int.reduceLT, Int.reduceLE, reduceCtorEq, Nat.reduceBEq]
      simp only [i10, Out, resAll, geto, ints, List.getElem?_cons_zero, List.getElem?_cons_succ, resOf, outOf, snap, snapL, ev, getE, List.mapM_cons, List.mapM_nil, Option.bind_some, Option.pure_def, Option.bind_eq_bind, Option.map_some, reduceIte, Nat.reduceEqDiff, true_and, and_true]
    by_cases g2 : (300 : Int) < (ks.length : Int)
    · simp only [c10, plX, runes, ints, go_sem, ↓reduceIte, Nat.reduceEqDiff, Nat.reduceAdd, Nat.reduceMul, Nat.reduceLeDiff, Nat.reduceLT, Int.reduceToNat, Int.reduceLT, Int.reduceLE, reduceCtorEq, Nat.reduceBEq, fillAll, fillIn, shiftR, shiftV, List.take_succ_cons, List.take_zero, List.drop_succ_cons, List.drop_zero, List.append_nil, Nat.zero_add, subP4]
      refine goP h59t ?_
      simp only [go_sem, ↓reduceIte, Nat.reduceEqDiff, Nat.reduceAdd, Nat.reduceMul, Nat.reduceLeDiff, Nat.reduceLT, Int.reduceToNat, Int.reduceLT, Int.reduceLE, reduceCtorEq, Nat.reduceBEq, fillAll, fillIn, shiftR, shiftV, List.take_succ_cons, List.take_zero, List.drop_succ_cons, List.drop_zero, List.append_nil, Nat.zero_add, g1, g2]
      refine goP c34_ok ?_
      simp only [go_sem, ↓reduceIte, Nat.reduceEqDiff, Nat.reduceAdd, Nat.reduceMul, Nat.reduceLeDiff, Nat.reduceLT, Int.reduceToNat, Int.reduceLT, Int.reduceLE, reduceCtorEq, Nat.reduceBEq]
      simp only [i10, Out, resAll, geto, ints, List.getElem?_cons_zero, List.getElem?_cons_succ, resOf, outOf, snap, snapL, ev, getE, List.mapM_cons, List.mapM_nil, Option.bind_some, Option.pure_def, Option.bind_eq_bind, Option.map_some, reduceIte, Nat.reduceEqDiff, true_and, and_true]
    obtain ⟨l1, l2, l3, l4, hR⟩ := hL
    have hU : ∀ x ∈ l, NmU x := fun x hx => ⟨(hu x hx).1, (hu x hx).2, by have := (l4 x hx).1; omega, by have := (l4 x hx).2; omega⟩
    have hch : (ch = true → l = []) ∧ (ch = false → t = []) := by
      have h1 := hR.1
      unfold Shapes at h1
      refine ⟨fun h => ?_, fun h => ?_⟩
      · subst h; exact List.length_eq_zero_iff.1 h1.2
      · subst h; exact h1.2
    have h60 := c60_ok hs (by omega) (by omega) (by omega) hU hR
    have h61 := c61_ok (s := s) (t := t) (s' := ss) (ks := ks) (l := l.map toRt) (ch := ch) hss (by omega) (by omega) (by simp; omega) (by omega)
    have h17 := c17_ok (E := E) hss (by omega)
    have h62 := c62_ok (s := s) (t := t) (l := l) (ch := ch) (by omega) (by omega)
    have h63 := c63_ok (s := s) (s' := ss) (ks := ks) hch (by omega) (by omega) (by omega)
    have pl := picks_len (ch := ch) (t := t) (ks := ks) (l := l)
    have pr := picksR_len (ch := ch) (ks := ks) (l := l.map toRt)
    have h52 := c52_X (s := ss) (t := picksT ch t ks) (l := picksR ch (l.map toRt) ks) (ch := ch) (by omega) (by omega) (by omega) (pick_ok hR.2)
    rw [picks_nm hR.2] at h52
    have h50 := c50_gen (s := ss) (s' := ss) (t := picksT ch t ks) (t' := picksT ch t ks) (l := picksN ch l ks) (l' := picksN ch l ks) (ch := ch) (ch' := ch) (by omega) (by omega) (by omega) (by omega) (by omega) (by omega) (pickN_u hU) (pickN_u hU)
    rw [decide_eq_true ⟨rfl, rfl, rfl, rfl⟩] at h50
    have h64 := c64_ok (s := s) (t := t) (l := l.map toRt) (ch := ch) (by omega) (by simp; omega)
    rw [List.length_map] at h64
    have h52f := c52_X (s := [((t.length + l.length : Nat) : Int)]) (t := t) (l := l.map toRt) (ch := ch) (by simp) (by omega) (by simp; omega) (fun z hz => by
      obtain ⟨x, hx, rfl⟩ := List.mem_map.1 hz
      exact right_ok (hR.2 x hx))
    rw [back_nms hR.2] at h52f
    have h50f := c50_gen (s := [((t.length + l.length : Nat) : Int)]) (s' := [((t.length + l.length : Nat) : Int)]) (t := t) (t' := t) (l := l) (l' := l) (ch := ch) (ch' := ch) (by simp) (by omega) (by omega) (by simp) (by omega) (by omega) hU hU
    rw [decide_eq_true ⟨rfl, rfl, rfl, rfl⟩] at h50f
    simp only [plX, arrX, runes, ints] at h60 h61 h17 h62 h63 h52 h50 h64 h52f h50f
    cases hc : count ss with
    | none =>
      have hf : fits ss ks.length = false := by simp [fits, hc]
      rw [hc] at h17
      rw [hf] at h61
      simp only [optP] at h17
      simp only [Bool.false_eq_true, if_false, noA] at h61
      have hbb : (false == false) = true := rfl
      have h54n := c54_no (E := E)
      simp only [noA] at h54n
      simp only [c10, plX, runes, ints, go_sem, ↓reduceIte, Nat.reduceEqDiff, Nat.reduceAdd, Nat.reduceMul, Nat.reduceLeDiff, Nat.reduceLT, Int.reduceToNat, Int.reduceLT, Int.reduceLE, reduceCtorEq, Nat.reduceBEq, fillAll, fillIn, shiftR, shiftV, List.take_succ_cons, List.take_zero, List.drop_succ_cons, List.drop_zero, List.append_nil, Nat.zero_add, subP4]
      refine goP h59t ?_
      simp only [go_sem, ↓reduceIte, Nat.reduceEqDiff, Nat.reduceAdd, Nat.reduceMul, Nat.reduceLeDiff, Nat.reduceLT, Int.reduceToNat, Int.reduceLT, Int.reduceLE, reduceCtorEq, Nat.reduceBEq, fillAll, fillIn, shiftR, shiftV, List.take_succ_cons, List.take_zero, List.drop_succ_cons, List.drop_zero, List.append_nil, Nat.zero_add, subP4, g1, g2]
      refine goP h60 ?_
      simp only [go_sem, ↓reduceIte, Nat.reduceEqDiff, Nat.reduceAdd, Nat.reduceMul, Nat.reduceLeDiff, Nat.reduceLT, Int.reduceToNat, Int.reduceLT, Int.reduceLE, reduceCtorEq, Nat.reduceBEq, fillAll, fillIn, shiftR, shiftV, List.take_succ_cons, List.take_zero, List.drop_succ_cons, List.drop_zero, List.append_nil, Nat.zero_add, subA5]
      refine goF h61 ?_
      simp only [go_sem, ↓reduceIte, Nat.reduceEqDiff, Nat.reduceAdd, Nat.reduceMul, Nat.reduceLeDiff, Nat.reduceLT, Int.reduceToNat, Int.reduceLT, Int.reduceLE, reduceCtorEq, Nat.reduceBEq, fillAll, fillIn, shiftR, shiftV, List.take_succ_cons, List.take_zero, List.drop_succ_cons, List.drop_zero, List.append_nil, Nat.zero_add, subA5]
      refine goP h17 ?_
      simp only [go_sem, ↓reduceIte, Nat.reduceEqDiff, Nat.reduceAdd, Nat.reduceMul, Nat.reduceLeDiff, Nat.reduceLT, Int.reduceToNat, Int.reduceLT, Int.reduceLE, reduceCtorEq, Nat.reduceBEq, fillAll, fillIn, shiftR, shiftV, List.take_succ_cons, List.take_zero, List.drop_succ_cons, List.drop_zero, List.append_nil, Nat.zero_add, subP4, subA5, hbb]
      refine goR h54n rfl ?_
      simp only [go_sem, ↓reduceIte, Nat.reduceEqDiff, Nat.reduceAdd, Nat.reduceMul, Nat.reduceLeDiff, Nat.reduceLT, Int.reduceToNat, Int.reduceLT, Int.reduceLE, reduceCtorEq, Nat.reduceBEq, fillAll, fillIn, shiftR, shiftV, List.take_succ_cons, List.take_zero, List.drop_succ_cons, List.drop_zero, List.append_nil, Nat.zero_add, subP4, subA5, bne_self_eq_false]
      refine goP h62 ?_
      simp only [go_sem, ↓reduceIte, Nat.reduceEqDiff, Nat.reduceAdd, Nat.reduceMul, Nat.reduceLeDiff, Nat.reduceLT, Int.reduceToNat, Int.reduceLT, Int.reduceLE, reduceCtorEq, Nat.reduceBEq, fillAll, fillIn, shiftR, shiftV, List.take_succ_cons, List.take_zero, List.drop_succ_cons, List.drop_zero, List.append_nil, Nat.zero_add, subP4, subA5, List.flatten_cons, List.flatten_nil, Option.getD_some]
      refine goF h64 ?_
      simp only [go_sem, ↓reduceIte, Nat.reduceEqDiff, Nat.reduceAdd, Nat.reduceMul, Nat.reduceLeDiff, Nat.reduceLT, Int.reduceToNat, Int.reduceLT, Int.reduceLE, reduceCtorEq, Nat.reduceBEq, fillAll, fillIn, shiftR, shiftV, List.take_succ_cons, List.take_zero, List.drop_succ_cons, List.drop_zero, List.append_nil, Nat.zero_add, subP4, subA5]
      refine goP h52f ?_
      simp only [go_sem, ↓reduceIte, Nat.reduceEqDiff, Nat.reduceAdd, Nat.reduceMul, Nat.reduceLeDiff, Nat.reduceLT, Int.reduceToNat, Int.reduceLT, Int.reduceLE, reduceCtorEq, Nat.reduceBEq, fillAll, fillIn, shiftR, shiftV, List.take_succ_cons, List.take_zero, List.drop_succ_cons, List.drop_zero, List.append_nil, Nat.zero_add, subP4, subA5]
      refine goR h50f rfl ?_
      simp only [go_sem, ↓reduceIte, Nat.reduceEqDiff, Nat.reduceAdd, Nat.reduceMul, Nat.reduceLeDiff, Nat.reduceLT, Int.reduceToNat, Int.reduceLT, Int.reduceLE, reduceCtorEq, Nat.reduceBEq, fillAll, fillIn, shiftR, shiftV, List.take_succ_cons, List.take_zero, List.drop_succ_cons, List.drop_zero, List.append_nil, Nat.zero_add, subP4, subA5]
      refine goP c34_ok ?_
      simp only [go_sem, ↓reduceIte, Nat.reduceEqDiff, Nat.reduceAdd, Nat.reduceMul, Nat.reduceLeDiff, Nat.reduceLT, Int.reduceToNat, Int.reduceLT, Int.reduceLE, reduceCtorEq, Nat.reduceBEq]
      simp only [i10, Out, resAll, geto, ints, List.getElem?_cons_zero, List.getElem?_cons_succ, resOf, outOf, snap, snapL, ev, getE, List.mapM_cons, List.mapM_nil, Option.bind_some, Option.pure_def, Option.bind_eq_bind, Option.map_some, reduceIte, Nat.reduceEqDiff, true_and, and_true]
    | some m =>
      rw [hc] at h17
      simp only [optP] at h17
      by_cases hm : m = (ks.length : Int)
      · subst hm
        have hf : fits ss ks.length = true := by simp [fits, hc]
        rw [hf] at h61
        simp only [if_true] at h61
        have hbb : (true == true) = true := rfl
        simp only [c10, plX, runes, ints, go_sem, ↓reduceIte, Nat.reduceEqDiff, Nat.reduceAdd, Nat.reduceMul, Nat.reduceLeDiff, Nat.reduceLT, Int.reduceToNat, Int.reduceLT, Int.reduceLE, reduceCtorEq, Nat.reduceBEq, fillAll, fillIn, shiftR, shiftV, List.take_succ_cons, List.take_zero, List.drop_succ_cons, List.drop_zero, List.append_nil, Nat.zero_add, subP4]
        refine goP h59t ?_
        simp only [go_sem, ↓reduceIte, Nat.reduceEqDiff, Nat.reduceAdd, Nat.reduceMul, Nat.reduceLeDiff, Nat.reduceLT, Int.reduceToNat, Int.reduceLT, Int.reduceLE, reduceCtorEq, Nat.reduceBEq, fillAll, fillIn, shiftR, shiftV, List.take_succ_cons, List.take_zero, List.drop_succ_cons, List.drop_zero, List.append_nil, Nat.zero_add, subP4, g1, g2]
        refine goP h60 ?_
        simp only [go_sem, ↓reduceIte, Nat.reduceEqDiff, Nat.reduceAdd, Nat.reduceMul, Nat.reduceLeDiff, Nat.reduceLT, Int.reduceToNat, Int.reduceLT, Int.reduceLE, reduceCtorEq, Nat.reduceBEq, fillAll, fillIn, shiftR, shiftV, List.take_succ_cons, List.take_zero, List.drop_succ_cons, List.drop_zero, List.append_nil, Nat.zero_add, subA5]
        refine goF h61 ?_
        simp only [go_sem, ↓reduceIte, Nat.reduceEqDiff, Nat.reduceAdd, Nat.reduceMul, Nat.reduceLeDiff, Nat.reduceLT, Int.reduceToNat, Int.reduceLT, Int.reduceLE, reduceCtorEq, Nat.reduceBEq, fillAll, fillIn, shiftR, shiftV, List.take_succ_cons, List.take_zero, List.drop_succ_cons, List.drop_zero, List.append_nil, Nat.zero_add, subA5]
        refine goP h17 ?_
        simp only [go_sem, ↓reduceIte, Nat.reduceEqDiff, Nat.reduceAdd, Nat.reduceMul, Nat.reduceLeDiff, Nat.reduceLT, Int.reduceToNat, Int.reduceLT, Int.reduceLE, reduceCtorEq, Nat.reduceBEq, fillAll, fillIn, shiftR, shiftV, List.take_succ_cons, List.take_zero, List.drop_succ_cons, List.drop_zero, List.append_nil, Nat.zero_add, subP4, subA5, hbb]
        refine goP h62 ?_
        simp only [go_sem, ↓reduceIte, Nat.reduceEqDiff, Nat.reduceAdd, Nat.reduceMul, Nat.reduceLeDiff, Nat.reduceLT, Int.reduceToNat, Int.reduceLT, Int.reduceLE, reduceCtorEq, Nat.reduceBEq, fillAll, fillIn, shiftR, shiftV, List.take_succ_cons, List.take_zero, List.drop_succ_cons, List.drop_zero, List.append_nil, Nat.zero_add, subP4, subA5, List.flatten_cons, List.flatten_nil, Option.getD_some]
        refine goF h52 ?_
        simp only [go_sem, ↓reduceIte, Nat.reduceEqDiff, Nat.reduceAdd, Nat.reduceMul, Nat.reduceLeDiff, Nat.reduceLT, Int.reduceToNat, Int.reduceLT, Int.reduceLE, reduceCtorEq, Nat.reduceBEq, fillAll, fillIn, shiftR, shiftV, List.take_succ_cons, List.take_zero, List.drop_succ_cons, List.drop_zero, List.append_nil, Nat.zero_add, subP4, subA5]
        refine goP h63 ?_
        simp only [go_sem, ↓reduceIte, Nat.reduceEqDiff, Nat.reduceAdd, Nat.reduceMul, Nat.reduceLeDiff, Nat.reduceLT, Int.reduceToNat, Int.reduceLT, Int.reduceLE, reduceCtorEq, Nat.reduceBEq, fillAll, fillIn, shiftR, shiftV, List.take_succ_cons, List.take_zero, List.drop_succ_cons, List.drop_zero, List.append_nil, Nat.zero_add, subP4, subA5]
        refine goP h50 ?_
        simp only [go_sem, ↓reduceIte, Nat.reduceEqDiff, Nat.reduceAdd, Nat.reduceMul, Nat.reduceLeDiff, Nat.reduceLT, Int.reduceToNat, Int.reduceLT, Int.reduceLE, reduceCtorEq, Nat.reduceBEq, fillAll, fillIn, shiftR, shiftV, List.take_succ_cons, List.take_zero, List.drop_succ_cons, List.drop_zero, List.append_nil, Nat.zero_add, subP4, subA5]
        refine goF h64 ?_
        simp only [go_sem, ↓reduceIte, Nat.reduceEqDiff, Nat.reduceAdd, Nat.reduceMul, Nat.reduceLeDiff, Nat.reduceLT, Int.reduceToNat, Int.reduceLT, Int.reduceLE, reduceCtorEq, Nat.reduceBEq, fillAll, fillIn, shiftR, shiftV, List.take_succ_cons, List.take_zero, List.drop_succ_cons, List.drop_zero, List.append_nil, Nat.zero_add, subP4, subA5]
        refine goP h52f ?_
        simp only [go_sem, ↓reduceIte, Nat.reduceEqDiff, Nat.reduceAdd, Nat.reduceMul, Nat.reduceLeDiff, Nat.reduceLT, Int.reduceToNat, Int.reduceLT, Int.reduceLE, reduceCtorEq, Nat.reduceBEq, fillAll, fillIn, shiftR, shiftV, List.take_succ_cons, List.take_zero, List.drop_succ_cons, List.drop_zero, List.append_nil, Nat.zero_add, subP4, subA5]
        refine goR h50f rfl ?_
        simp only [go_sem, ↓reduceIte, Nat.reduceEqDiff, Nat.reduceAdd, Nat.reduceMul, Nat.reduceLeDiff, Nat.reduceLT, Int.reduceToNat, Int.reduceLT, Int.reduceLE, reduceCtorEq, Nat.reduceBEq, fillAll, fillIn, shiftR, shiftV, List.take_succ_cons, List.take_zero, List.drop_succ_cons, List.drop_zero, List.append_nil, Nat.zero_add, subP4, subA5]
        refine goP c34_ok ?_
        simp only [go_sem, ↓reduceIte, Nat.reduceEqDiff, Nat.reduceAdd, Nat.reduceMul, Nat.reduceLeDiff, Nat.reduceLT, Int.reduceToNat, Int.reduceLT, Int.reduceLE, reduceCtorEq, Nat.reduceBEq]
        simp only [i10, Out, resAll, geto, ints, List.getElem?_cons_zero, List.getElem?_cons_succ, resOf, outOf, snap, snapL, ev, getE, List.mapM_cons, List.mapM_nil, Option.bind_some, Option.pure_def, Option.bind_eq_bind, Option.map_some, reduceIte, Nat.reduceEqDiff, true_and, and_true]
      · have hf : fits ss ks.length = false := by simp [fits, hc, hm]
        rw [hf] at h61
        simp only [Bool.false_eq_true, if_false, noA] at h61
        have hbb : (false == false) = true := rfl
        have h54n := c54_no (E := E)
        simp only [noA] at h54n
        have hcmp : (m == (ks.length : Int)) = false := by rw [beq_eq_false_iff_ne]; exact hm
        simp only [c10, plX, runes, ints, go_sem, ↓reduceIte, Nat.reduceEqDiff, Nat.reduceAdd, Nat.reduceMul, Nat.reduceLeDiff, Nat.reduceLT, Int.reduceToNat, Int.reduceLT, Int.reduceLE, reduceCtorEq, Nat.reduceBEq, fillAll, fillIn, shiftR, shiftV, List.take_succ_cons, List.take_zero, List.drop_succ_cons, List.drop_zero, List.append_nil, Nat.zero_add, subP4]
        refine goP h59t ?_
        simp only [go_sem, ↓reduceIte, Nat.reduceEqDiff, Nat.reduceAdd, Nat.reduceMul, Nat.reduceLeDiff, Nat.reduceLT, Int.reduceToNat, Int.reduceLT, Int.reduceLE, reduceCtorEq, Nat.reduceBEq, fillAll, fillIn, shiftR, shiftV, List.take_succ_cons, List.take_zero, List.drop_succ_cons, List.drop_zero, List.append_nil, Nat.zero_add, subP4, g1, g2]
        refine goP h60 ?_
        simp only [go_sem, ↓reduceIte, Nat.reduceEqDiff, Nat.reduceAdd, Nat.reduceMul, Nat.reduceLeDiff, Nat.reduceLT, Int.reduceToNat, Int.reduceLT, Int.reduceLE, reduceCtorEq, Nat.reduceBEq, fillAll, fillIn, shiftR, shiftV, List.take_succ_cons, List.take_zero, List.drop_succ_cons, List.drop_zero, List.append_nil, Nat.zero_add, subA5]
        refine goF h61 ?_
        simp only [go_sem, ↓reduceIte, Nat.reduceEqDiff, Nat.reduceAdd, Nat.reduceMul, Nat.reduceLeDiff, Nat.reduceLT, Int.reduceToNat, Int.reduceLT, Int.reduceLE, reduceCtorEq, Nat.reduceBEq, fillAll, fillIn, shiftR, shiftV, List.take_succ_cons, List.take_zero, List.drop_succ_cons, List.drop_zero, List.append_nil, Nat.zero_add, subA5]
        refine goP h17 ?_
        simp only [go_sem, ↓reduceIte, Nat.reduceEqDiff, Nat.reduceAdd, Nat.reduceMul, Nat.reduceLeDiff, Nat.reduceLT, Int.reduceToNat, Int.reduceLT, Int.reduceLE, reduceCtorEq, Nat.reduceBEq, fillAll, fillIn, shiftR, shiftV, List.take_succ_cons, List.take_zero, List.drop_succ_cons, List.drop_zero, List.append_nil, Nat.zero_add, subP4, subA5, hbb, hcmp]
        refine goR h54n rfl ?_
        simp only [go_sem, ↓reduceIte, Nat.reduceEqDiff, Nat.reduceAdd, Nat.reduceMul, Nat.reduceLeDiff, Nat.reduceLT, Int.reduceToNat, Int.reduceLT, Int.reduceLE, reduceCtorEq, Nat.reduceBEq, fillAll, fillIn, shiftR, shiftV, List.take_succ_cons, List.take_zero, List.drop_succ_cons, List.drop_zero, List.append_nil, Nat.zero_add, subP4, subA5, bne_self_eq_false]
        refine goP h62 ?_
        simp only [go_sem, ↓reduceIte, Nat.reduceEqDiff, Nat.reduceAdd, Nat.reduceMul, Nat.reduceLeDiff, Nat.reduceLT, Int.reduceToNat, Int.reduceLT, Int.reduceLE, reduceCtorEq, Nat.reduceBEq, fillAll, fillIn, shiftR, shiftV, List.take_succ_cons, List.take_zero, List.drop_succ_cons, List.drop_zero, List.append_nil, Nat.zero_add, subP4, subA5, List.flatten_cons, List.flatten_nil, Option.getD_some]
        refine goF h64 ?_
        simp only [go_sem, ↓reduceIte, Nat.reduceEqDiff, Nat.reduceAdd, Nat.reduceMul, Nat.reduceLeDiff, Nat.reduceLT, Int.reduceToNat, Int.reduceLT, Int.reduceLE, reduceCtorEq, Nat.reduceBEq, fillAll, fillIn, shiftR, shiftV, List.take_succ_cons, List.take_zero, List.drop_succ_cons, List.drop_zero, List.append_nil, Nat.zero_add, subP4, subA5]
        refine goP h52f ?_
        simp only [go_sem, ↓reduceIte, Nat.reduceEqDiff, Nat.reduceAdd, Nat.reduceMul, Nat.reduceLeDiff, Nat.reduceLT, Int.reduceToNat, Int.reduceLT, Int.reduceLE, reduceCtorEq, Nat.reduceBEq, fillAll, fillIn, shiftR, shiftV, List.take_succ_cons, List.take_zero, List.drop_succ_cons, List.drop_zero, List.append_nil, Nat.zero_add, subP4, subA5]
        refine goR h50f rfl ?_
        simp only [go_sem, ↓reduceIte, Nat.reduceEqDiff, Nat.reduceAdd, Nat.reduceMul, Nat.reduceLeDiff, Nat.reduceLT, Int.reduceToNat, Int.reduceLT, Int.reduceLE, reduceCtorEq, Nat.reduceBEq, fillAll, fillIn, shiftR, shiftV, List.take_succ_cons, List.take_zero, List.drop_succ_cons, List.drop_zero, List.append_nil, Nat.zero_add, subP4, subA5]
        refine goP c34_ok ?_
        simp only [go_sem, ↓reduceIte, Nat.reduceEqDiff, Nat.reduceAdd, Nat.reduceMul, Nat.reduceLeDiff, Nat.reduceLT, Int.reduceToNat, Int.reduceLT, Int.reduceLE, reduceCtorEq, Nat.reduceBEq]
        simp only [i10, Out, resAll, geto, ints, List.getElem?_cons_zero, List.getElem?_cons_succ, resOf, outOf, snap, snapL, ev, getE, List.mapM_cons, List.mapM_nil, Option.bind_some, Option.pure_def, Option.bind_eq_bind, Option.map_some, reduceIte, Nat.reduceEqDiff, true_and, and_true]
  · have h59f := h59 false ⟨fun h => (by cases h), fun h => absurd h hL⟩
    simp only [plX, runes, ints] at h59f
    simp only [c10, plX, runes, ints, go_sem, ↓reduceIte, Nat.reduceEqDiff, Nat.reduceAdd, Nat.reduceMul, Nat.reduceLeDiff, Nat.reduceLT, Int.reduceToNat, Int.reduceLT, Int.reduceLE, reduceCtorEq, Nat.reduceBEq, fillAll, fillIn, shiftR, shiftV, List.take_succ_cons, List.take_zero, List.drop_succ_cons, List.drop_zero, List.append_nil, Nat.zero_add, subP4]
    refine goP h59f ?_
    simp only [go_sem, ↓reduceIte, Nat.reduceEqDiff, Nat.reduceAdd, Nat.reduceMul, Nat.reduceLeDiff, Nat.reduceLT, Int.reduceToNat, Int.reduceLT, Int.reduceLE, reduceCtorEq, Nat.reduceBEq]
    refine goP c34_ok ?_
    simp only [go_sem, ↓reduceIte, Nat.reduceEqDiff, Nat.reduceAdd, Nat.reduceMul, Nat.reduceLeDiff, Nat.reduceLT, Int.reduceToNat, Int.reduceLT, Int.reduceLE, reduceCtorEq, Nat.reduceBEq]
    simp only [i10, Out, resAll, geto, ints, List.getElem?_cons_zero, List.getElem?_cons_succ, resOf, outOf, snap, snapL, ev, getE, List.mapM_cons, List.mapM_nil, Option.bind_some, Option.pure_def, Option.bind_eq_bind, Option.map_some, reduceIte, Nat.reduceEqDiff, true_and, and_true]
end Go.Proofs.Ytcmbaabkfihdmaa.I

-- PRINTED BY print.sh 35421559b90ae4d0a3588c463048766b98c2df88dd9212a6774a882060cdf62d: not written by this session
-- PRINTED WORDS (module Derived/Print/Sized.lean): go-gate-2's, for the rows of laws over slices: an AI agent of Go's test side, Tue Nov 17 2026; no person has read it. Lean checks it.
namespace Go.Proofs.YtcmbaabkfihdmaaW.PrintWords
open Go.ChangeShapes Go.WideShapes
/-- A row's slice of whole numbers is no longer than its weight allows. -/
theorem sized_ints {H : Type} {enc : TypeId × Value → H} {P : Program} {W : World} {base : Nat} {spare : Nat → Bool} {held : Bool} {t e : TypeId} {k : IntKind} {a : Option Addr} {len cap : Nat} {d : DataW H} {ps : List MemPlace} {ts : List TypeId} {ds : List (DataW H)} {j : Nat}
    (hsz : (DataW.weightsEach P ts ds).all (· ≤ reachBytes) = true) (ht : ts[j]? = some t) (hd : ds[j]? = some d) (hu : P.underlying t = some (.slice e)) (he : P.underlying e = some (.int k)) (hc : P.cellsOf e = 1) {B : Nat} (hB : P.bytesOf e = B)
    (h : DataW.Trod enc P W base spare held t (.slice a len cap) d ps) : len * B ≤ 140737488351232 := by
  obtain ⟨fuel, hf⟩ := h
  rcases open_ints hu he hc hf with ⟨hcs, _⟩ | ⟨x, l, c, zs, hcs, _, hl, _, hz, hx, _, _⟩
  · simp [Value.cells] at hcs
    obtain ⟨rfl, rfl, rfl⟩ := hcs
    simp
  · simp [Value.cells] at hcs
    obtain ⟨rfl, rfl, rfl⟩ := hcs
    obtain ⟨hx, _⟩ := Prod.mk.inj hx
    subst hx
    have z := sized_slice hsz ht hd hu
    rw [hB] at z
    have hl2 : len ≤ zs.length := by
      rw [hz]
      split
      · exact hl
      · exact Nat.le_refl _
    have h1 : (lits (H := H) k (zs.take len)).length + (lits (H := H) k (zs.drop len)).length = zs.length := by
      simp [lits]
      omega
    rw [h1] at z
    exact Nat.le_trans (Nat.mul_le_mul_right _ hl2) z
end Go.Proofs.YtcmbaabkfihdmaaW.PrintWords

/- An argument that is a list of numbers on the page, or an array on the page, opened. Conditions: the types are what the names say. -/
set_option linter.unusedVariables false
set_option linter.unusedSimpArgs false
namespace Go.Proofs.Ytcmbaabkfihdmaa.I
open Go Go.V Go.ChangeShapes Go.WideShapes Go.Deep
section
variable {H : Type} {enc : TypeId × Value → H} {P : Program} {w : World} {spare : Nat → Bool} {held : Bool}
/-- One number: its three cells. -/
theorem open_num1 {e : TypeId} {f0 f1 f2 : Field} {fuel : Nat} {a : Addr} {cs : List Value} {y : DataW H × List MemPlace} (he : P.underlying e = some (.struct #[f0, f1, f2])) (hone : oneCellFields P #[f0, f1, f2] = true)
    (h0 : P.underlying f0.type = some .bool) (h1 : P.underlying f1.type = some .string) (h2 : P.underlying f2.type = some .string) (hc : w.cells? 0 a 3 = some cs) (h : DataW.trod enc P w 0 spare held fuel e cs = some y) :
    ∃ q : Nm, (w.cell? (a.add 0) = some (.bool q.1) ∧ w.cell? (a.add 1) = some (.string (bs q.2.1)) ∧ w.cell? (a.add 2) = some (.string (bs q.2.2))) ∧ U8 q.2.1 ∧ U8 q.2.2 ∧ q.2.1.length ≤ maxLen ∧ q.2.2.length ≤ maxLen := by
  obtain ⟨_, hlen, hcell⟩ := World.cells?_some hc
  obtain ⟨xs, k, _, _, _, hxl, hf⟩ := DataW.trod_struct he h
  obtain ⟨o0, k0⟩ := hone_of hone 0 f0 rfl
  obtain ⟨o1, k1⟩ := hone_of hone 1 f1 rfl
  obtain ⟨o2, k2⟩ := hone_of hone 2 f2 rfl
  match xs, hxl, cs, hlen with
  | [y0, y1, y2], _, [v0, v1, v2], _ =>
    have g0 := hf 0 f0 rfl
    have g1 := hf 1 f1 rfl
    have g2 := hf 2 f2 rfl
    simp [o0, k0] at g0
    simp [o1, k1] at g1
    simp [o2, k2] at g2
    obtain ⟨b, hb, _⟩ := DataW.trod_bool h0 g0
    obtain ⟨s1, hs1, _, hm1⟩ := DataW.trod_string h1 g1
    obtain ⟨s2, hs2, _, hm2⟩ := DataW.trod_string h2 g2
    obtain ⟨l1, hu1, rfl⟩ := bs_all s1
    obtain ⟨l2, hu2, rfl⟩ := bs_all s2
    simp only [List.cons.injEq, and_true] at hb hs1 hs2
    subst hb; subst hs1; subst hs2
    have c0 := hcell 0 (by omega)
    have c1 := hcell 1 (by omega)
    have c2 := hcell 2 (by omega)
    rw [bs_size] at hm1 hm2
    exact ⟨(b, l1, l2), ⟨by simpa using c0, by simpa using c1, by simpa using c2⟩, hu1, hu2, hm1, hm2⟩
/-- A list of them. -/
theorem open_nums {t e : TypeId} {f0 f1 f2 : Field} {fuel : Nat} {cs : List Value} {x : DataW H × List MemPlace} (ht : P.underlying t = some (.slice e)) (he : P.underlying e = some (.struct #[f0, f1, f2])) (hone : oneCellFields P #[f0, f1, f2] = true)
    (hC : P.cellsOf e = 3) (h0 : P.underlying f0.type = some .bool) (h1 : P.underlying f1.type = some .string) (h2 : P.underlying f2.type = some .string) (h : DataW.trod enc P w 0 spare held fuel t cs = some x) :
    ∃ (a : Option Addr) (len cap : Nat) (l : List Nm), cs = [.slice a len cap] ∧ l.length = len ∧ len ≤ maxLen ∧ (∀ q ∈ l, U8 q.2.1 ∧ U8 q.2.2 ∧ q.2.1.length ≤ maxLen ∧ q.2.2.length ≤ maxLen) ∧ RG w (fun b => b < w.heap.size) (.sl l.length 3 (nmsC l)) (.slice a len cap) := by
  rcases open_slice ht h with ⟨rfl, _⟩ | ⟨a, len, cap, m, n, D, Pl, rfl, _, hl, hm, hmm, _, hx⟩
  · exact ⟨none, 0, 0, [], rfl, rfl, Nat.zero_le _, fun q hq => by simp at hq, .sl0⟩
  have hlm : len ≤ m := by rw [hmm]; split <;> omega
  rw [hC] at hx
  have each : ∀ i, i < len → ∃ q : Nm, (w.cell? (a.add (i * 3)) = some (.bool q.1) ∧ w.cell? (a.add (i * 3 + 1)) = some (.string (bs q.2.1)) ∧ w.cell? (a.add (i * 3 + 2)) = some (.string (bs q.2.2))) ∧ U8 q.2.1 ∧ U8 q.2.2 ∧ q.2.1.length ≤ maxLen ∧ q.2.2.length ≤ maxLen := fun i hi => by
    obtain ⟨cs', hc, hy⟩ := hx i (by omega)
    obtain ⟨q, ⟨g0, g1, g2⟩, hq⟩ := open_num1 he hone h0 h1 h2 hc hy
    rw [add_add] at g0 g1 g2
    exact ⟨q, ⟨g0, g1, g2⟩, hq⟩
  obtain ⟨f, hf⟩ := choose_lt (α := Nm) each
  refine ⟨some a, len, cap, (List.range len).map f, rfl, by simp, Nat.le_trans hl hm, fun q hq => ?_, ?_⟩
  · obtain ⟨i, hi, rfl⟩ := List.mem_map.1 hq
    exact (hf i (List.mem_range.1 hi)).2
  · have hll : ((List.range len).map f).length = len := by simp
    rw [hll]
    by_cases hz : len = 0
    · subst hz; exact .sl0
    obtain ⟨b, o, sp⟩ := a
    have hc0 := (hf 0 (by omega)).1.1
    have hsp : sp = none := by
      simp only [Addr.add, Nat.zero_mul, if_true, World.cell?] at hc0
      split at hc0
      · split at hc0
        · cases hc0
        · rename_i hh; simpa using hh
      · cases hc0
    subst hsp
    have addE : ∀ i, (⟨b, o, none⟩ : Addr).add i = ⟨b, o + i, none⟩ := fun i => by
      unfold Addr.add
      split
      · rename_i h; rw [h]; rfl
      · rfl
    have hb : b < w.heap.size := by
      rw [addE] at hc0
      unfold World.cell? at hc0
      split at hc0
      · rename_i hh; exact (Array.getElem?_eq_some_iff.1 hh).1
      · cases hc0
    have hat : ∀ i, i < len → ((List.range len).map f).getD i (false, [], []) = f i := fun i hi => by simp [List.getD, hi]
    have vlen : ∀ l : List Nm, (l.flatMap fun q => [Value.bool q.1, .string (bs q.2.1), .string (bs q.2.2)]).length = l.length * 3 := fun l => by
      induction l with
      | nil => rfl
      | cons q l ih => rw [List.flatMap_cons, List.length_append, ih, List.length_cons]; simp; omega
    have vget : ∀ (l : List Nm) (i k : Nat), i < l.length → k < 3 → (l.flatMap fun q => [Value.bool q.1, .string (bs q.2.1), .string (bs q.2.2)])[i * 3 + k]? = ([Value.bool (l.getD i (false, [], [])).1, .string (bs (l.getD i (false, [], [])).2.1), .string (bs (l.getD i (false, [], [])).2.2)])[k]? := fun l => by
      induction l with
      | nil => intro i k h; simp at h
      | cons q l ih =>
        intro i k hi hk
        cases i with
        | zero => rw [List.flatMap_cons, Nat.zero_mul, Nat.zero_add, List.getElem?_append_left (by simp; omega)]; rfl
        | succ i =>
          rw [List.flatMap_cons, List.getElem?_append_right (by simp; omega)]
          have e : (i + 1) * 3 + k - [Value.bool q.1, .string (bs q.2.1), .string (bs q.2.2)].length = i * 3 + k := by simp; omega
          rw [e, ih i k (by simpa using hi) hk]
          rfl
    have cget : ∀ (l : List Nm) (i k : Nat), i < l.length → k < 3 → (nmsC l)[i * 3 + k]? = (nmC (l.getD i (false, [], [])))[k]? := fun l i k hi hk => by
      rw [← flat_get (f := nmC) (fun _ => rfl) hi, List.getElem?_take, if_pos hk, List.getElem?_drop]
      rfl
    have split3 : ∀ j, j < len * 3 → ∃ i k, i < len ∧ k < 3 ∧ j = i * 3 + k := fun j hj => ⟨j / 3, j % 3, by omega, by omega, by omega⟩
    refine .sl (vs := ((List.range len).map f).flatMap fun q => [Value.bool q.1, .string (bs q.2.1), .string (bs q.2.2)]) (by omega) hl (by rw [nmsC, flat_len (fun _ => rfl), hll]) (by rw [vlen, nmsC, flat_len (fun _ => rfl)]) hb (fun u hu => ?_) (fun j u hu => ?_) (fun j c u hc hu => ?_)
    · obtain ⟨q, _, hq⟩ := List.mem_flatMap.1 hu
      simp only [List.mem_cons, List.not_mem_nil, or_false] at hq
      rcases hq with rfl | rfl | rfl <;> rfl
    · have hj := (List.getElem?_eq_some_iff.1 hu).1
      rw [vlen, hll] at hj
      obtain ⟨i, k, hi, hk, rfl⟩ := split3 j hj
      rw [vget _ i k (by rw [hll]; exact hi) hk, hat i hi] at hu
      obtain ⟨⟨g0, g1, g2⟩, _⟩ := hf i hi
      rw [addE] at g0 g1 g2
      match k, hk with
      | 0, _ => simp at hu; subst hu; exact g0
      | 1, _ => simp at hu; subst hu; exact g1
      | 2, _ => simp at hu; subst hu; exact g2
    · have hj := (List.getElem?_eq_some_iff.1 hu).1
      rw [vlen, hll] at hj
      obtain ⟨i, k, hi, hk, rfl⟩ := split3 j hj
      rw [vget _ i k (by rw [hll]; exact hi) hk] at hu
      rw [cget _ i k (by rw [hll]; exact hi) hk] at hc
      match k, hk with
      | 0, _ => simp [nmC] at hu hc; subst hu; subst hc; exact .bool
      | 1, _ => simp [nmC] at hu hc; subst hu; subst hc; exact .str
      | 2, _ => simp [nmC] at hu hc; subst hu; subst hc; exact .str
end
end Go.Proofs.Ytcmbaabkfihdmaa.I
