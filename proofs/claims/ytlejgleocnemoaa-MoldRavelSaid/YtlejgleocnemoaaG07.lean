/- The texts L06j L06k L06l L06a L06m L07c L07d L07h L07g L07i L07j L07k L07n L06n L03c L06o L08a L08b L08d WSized LNum, one behind the other. Conditions: each text's own. -/
import Derived.Test.YtlejgleocnemoaaG06
import Derived.Test.YtlejgleocnemoaaG04
import Derived.SizedLaws
import Derived.ChangeSlices
import Derived.Test.YtlejgleocnemoaaG02
import Derived.Deep.Slices
import Derived.Deep.Fields
import Derived.ChangeArms
/- Layer 6: the array that the page speaks of. -/
set_option linter.unusedVariables false
set_option linter.unusedSimpArgs false
namespace Go.Proofs.Ytlejgleocnemoaa.I
open Go Go.V
attribute [local go_sem] mNil nat0 beq_self_eq_true mSkip mRet mExit mReg mSeq mCond mTrue mFalse mBlock mLv mCodeE mCodeR mEndN mEndR mEndE mOps mSome mGuard mGtt mGff mGtf mGft mGu mCallP mCallR mCallF mCallO mCallZ mCallG mCallM mCallV loopQ_exit loopQ_ret mO_mov mO_newnil mO_pick mO_alloc mO_box mO_build mO_bsl mO_bslF mO_ldf mO_ld mO_st mO_sta mO_nilchk mO_bin mO_binb mO_binp mO_bins mO_neg mO_com mO_not mO_conv mO_mk mO_mk0 mO_s2b mO_b2s mO_cpy mO_cut mO_faddr mO_fld mO_iaddr mO_iaddrf mO_sidx mO_len mO_lenf mO_slen mO_scut mO_app mO_ext mO_mx mO_mn mO_mkfn evalOp cutOp argsE ev getE putE cellsOf adopt rowOf binV boolV nilV ar_add ar_sub ar_mul ar_quo ar_rem ar_eq ar_ne ar_lt ar_le ar_gt ar_ge ar_and ar_or ar_xor geto bound finRet finNrm ints List.length_cons List.length_nil List.length_append List.getElem?_cons_zero List.getElem?_cons_succ List.nil_append List.cons_append List.map_cons List.map_nil List.mapM_cons List.mapM_nil Option.map_some Option.map_none Option.bind_some Option.pure_def Option.bind_eq_bind List.drop_zero or_self or_false false_or or_true true_or true_and and_true and_self decide_true decide_false Bool.false_eq_true Bool.true_eq_false Bool.not_true Bool.not_false Nat.le_refl eq_self gt_iff_lt ge_iff_le ne_eq not_true_eq_false not_false_eq_true storeOp apartOf freeze_nil refsL refs List.flatMap_cons List.flatMap_nil List.append_nil List.contains_nil List.set_cons_zero List.set_cons_succ snap snapL fill_nums flat_nums nums_length Go.V.freeze List.mapIdx_cons List.mapIdx_nil List.contains_cons Bool.or_false Bool.false_or Bool.or_true Bool.true_or
theorem subA1' {a b c d e : AV} : sub false 1 [a, b, c, d, e] (0 + 3) = some d := rfl
theorem c62_ok {s t : List Int} {l : List Nm} {ch ok : Bool} (hs : ∀ d ∈ s, In64 d) (hsl : (s.length : Int) ≤ 1000000000000) (ht : (t.length : Int) ≤ 1000000000000) (hl : (l.length : Int) ≤ 1000000000000) (hu : ∀ x ∈ l, NmU x) (hok : ok = true ↔ RightP s ch t l) :
    Go.V.Call tab E 62 [.agg (plX s ch t l)] [] (.tup [.agg (if ok then arrX s ch t (l.map toRt) else noA), .bool ok]) [] := by
  refine Go.V.Call.mach i62 c62 rfl rfl rfl rfl ?_
  have hfalse : ¬ RightP s ch t l → ok = false := fun h => by rw [← Bool.not_eq_true, hok]; exact h
  have h35 := c83_ok (E := E) hs (by omega)
  have h85 := c102_ok hsl
  have h92 := c118_ok ht
  simp only [ints, runes] at h35 h85 h92
  have bad : ¬ Shapes s ch t l.length → ok = false := fun h => hfalse (fun hr => h hr.1)
  cases hc : count s with
  | none =>
    have := bad (fun h => by obtain ⟨m, h1, _⟩ := Shapes_iff.1 h; rw [hc] at h1; cases h1)
    subst this
    rw [hc] at h35
    simp only [optP] at h35
    simp only [c62, plX, runes, ints, go_sem, ↓reduceIte, Nat.reduceEqDiff, Nat.reduceAdd, Nat.reduceMul, Nat.reduceLeDiff, Nat.reduceLT, Int.reduceToNat, Int.reduceLT, Int.reduceLE, reduceCtorEq, Nat.reduceBEq, subP4a, subP4b, subP4c, subP3, subP3', fillAll, fillIn, shiftR, shiftV, List.take_succ_cons, List.take_zero, List.drop_succ_cons, List.drop_zero, List.append_nil, Nat.zero_add]
    refine goP h35 ?_
    simp only [go_sem, ↓reduceIte, Nat.reduceEqDiff, Nat.reduceAdd, Nat.reduceMul, Nat.reduceLeDiff, Nat.reduceLT, Int.reduceToNat, Int.reduceLT, Int.reduceLE, reduceCtorEq, Nat.reduceBEq, subP4a, subP4b, subP4c, subP3, subP3', fillAll, fillIn, shiftR, shiftV, List.take_succ_cons, List.take_zero, List.drop_succ_cons, List.drop_zero, List.append_nil, Nat.zero_add]
    simp only [i62, Out, resAll, geto, ints, List.getElem?_cons_zero, List.getElem?_cons_succ, resOf, outOf, snap, snapL, ev, getE, List.mapM_cons, List.mapM_nil, Option.bind_some, Option.pure_def, Option.bind_eq_bind, Option.map_some, reduceIte, Nat.reduceEqDiff, true_and, and_true, subA5, noA, Bool.false_eq_true, if_false]
  | some m =>
    rw [hc] at h35
    simp only [optP] at h35
    by_cases hsh : Shapes s ch t l.length
    · obtain ⟨m', h1, h2, h3⟩ := Shapes_iff.1 hsh
      rw [hc] at h1
      simp only [Option.some.injEq] at h1
      subst h1
      cases ch with
      | true =>
        obtain ⟨h4, h5⟩ := h2 rfl
        subst h4
        have hl0 : l = [] := List.length_eq_zero_iff.1 h5
        subst hl0
        have hokt : ok = true := hok.2 ⟨hsh, fun x hx => by simp at hx⟩
        subst hokt
        simp only [c62, plX, runes, ints, go_sem, ↓reduceIte, Nat.reduceEqDiff, Nat.reduceAdd, Nat.reduceMul, Nat.reduceLeDiff, Nat.reduceLT, Int.reduceToNat, Int.reduceLT, Int.reduceLE, reduceCtorEq, Nat.reduceBEq, subP4a, subP4b, subP4c, subP3, subP3', fillAll, fillIn, shiftR, shiftV, List.take_succ_cons, List.take_zero, List.drop_succ_cons, List.drop_zero, List.append_nil, Nat.zero_add]
        refine goP h35 ?_
        simp only [go_sem, ↓reduceIte, Nat.reduceEqDiff, Nat.reduceAdd, Nat.reduceMul, Nat.reduceLeDiff, Nat.reduceLT, Int.reduceToNat, Int.reduceLT, Int.reduceLE, reduceCtorEq, Nat.reduceBEq, subP4a, subP4b, subP4c, subP3, subP3', fillAll, fillIn, shiftR, shiftV, List.take_succ_cons, List.take_zero, List.drop_succ_cons, List.drop_zero, List.append_nil, Nat.zero_add, bne_self_eq_false, Int.lt_irrefl]
        refine goZ (r' := ints s) h85 rfl ?_
        simp only [ints, go_sem, ↓reduceIte, Nat.reduceEqDiff, Nat.reduceAdd, Nat.reduceMul, Nat.reduceLeDiff, Nat.reduceLT, Int.reduceToNat, Int.reduceLT, Int.reduceLE, reduceCtorEq, Nat.reduceBEq, subP4a, subP4b, subP4c, subP3, subP3', fillAll, fillIn, shiftR, shiftV, List.take_succ_cons, List.take_zero, List.drop_succ_cons, List.drop_zero, List.append_nil, Nat.zero_add]
        refine goZ (r' := runes t) h92 rfl ?_
        simp only [runes, go_sem, ↓reduceIte, Nat.reduceEqDiff, Nat.reduceAdd, Nat.reduceMul, Nat.reduceLeDiff, Nat.reduceLT, Int.reduceToNat, Int.reduceLT, Int.reduceLE, reduceCtorEq, Nat.reduceBEq, subP4a, subP4b, subP4c, subP3, subP3', fillAll, fillIn, shiftR, shiftV, List.take_succ_cons, List.take_zero, List.drop_succ_cons, List.drop_zero, List.append_nil, Nat.zero_add]
        refine mLoop (fun N st => N = 0 ∧ st = ⟨[(2, .loc 4 0 0), (6, .loc 8 0 0), (65, .sl 0 3 (nmsC [])), (66, .int .i64 0), (67, .int .i64 0)],
          [⟨true, 37, 4, 0, 1, plX s true t [], false⟩, ⟨false, 3, 1, 0, 0, [], false⟩, ⟨false, 21, 1, 0, 0, [], false⟩, ⟨false, 59, 3, 0, 0, [], false⟩, ⟨true, 28, 5, 0, 1, [.arr 1 0, .bool false, .arr 2 0, .arr 3 0, .bool false], false⟩,
           ⟨false, 3, 1, 0, 0, [], false⟩, ⟨false, 21, 1, 0, 0, [], false⟩, ⟨false, 59, 3, 0, 0, [], false⟩, ⟨true, 28, 5, 0, 1, [ints s, .bool true, runes t, .arr 9 0, .bool true], false⟩, ⟨false, 59, 3, 0, 0, [], false⟩]⟩) 0 ⟨_, rfl, rfl, rfl⟩ ?_
        rintro N s0 ⟨rfl, rfl⟩
        simp only [b62_0, k62_0, plX, runes, ints, go_sem, ↓reduceIte, Nat.reduceEqDiff, Nat.reduceAdd, Nat.reduceMul, Nat.reduceLeDiff, Nat.reduceLT, Int.reduceToNat, Int.reduceLT, Int.reduceLE, reduceCtorEq, Nat.reduceBEq, subA5, Int.lt_irrefl, fillAll, fillIn, shiftR, shiftV, List.take_succ_cons, List.take_zero, List.drop_succ_cons, List.drop_zero, List.append_nil, Nat.zero_add]
        simp only [i62, Out, resAll, geto, ints, List.getElem?_cons_zero, List.getElem?_cons_succ, resOf, outOf, snap, snapL, ev, getE, List.mapM_cons, List.mapM_nil, Option.bind_some, Option.pure_def, Option.bind_eq_bind, Option.map_some, reduceIte, Nat.reduceEqDiff, true_and, and_true, subA5, arrX, runes, if_true, List.map_nil]
        rfl
      | false =>
        obtain ⟨h4, h5⟩ := h3 rfl
        subst h4
        have ht0 : t = [] := List.length_eq_zero_iff.1 h5
        subst ht0
        simp only [c62, plX, runes, ints, go_sem, ↓reduceIte, Nat.reduceEqDiff, Nat.reduceAdd, Nat.reduceMul, Nat.reduceLeDiff, Nat.reduceLT, Int.reduceToNat, Int.reduceLT, Int.reduceLE, reduceCtorEq, Nat.reduceBEq, subP4a, subP4b, subP4c, subP3, subP3', fillAll, fillIn, shiftR, shiftV, List.take_succ_cons, List.take_zero, List.drop_succ_cons, List.drop_zero, List.append_nil, Nat.zero_add]
        refine goP h35 ?_
        simp only [go_sem, ↓reduceIte, Nat.reduceEqDiff, Nat.reduceAdd, Nat.reduceMul, Nat.reduceLeDiff, Nat.reduceLT, Int.reduceToNat, Int.reduceLT, Int.reduceLE, reduceCtorEq, Nat.reduceBEq, subP4a, subP4b, subP4c, subP3, subP3', fillAll, fillIn, shiftR, shiftV, List.take_succ_cons, List.take_zero, List.drop_succ_cons, List.drop_zero, List.append_nil, Nat.zero_add, bne_self_eq_false, Int.lt_irrefl]
        refine goZ (r' := ints s) h85 rfl ?_
        simp only [ints, go_sem, ↓reduceIte, Nat.reduceEqDiff, Nat.reduceAdd, Nat.reduceMul, Nat.reduceLeDiff, Nat.reduceLT, Int.reduceToNat, Int.reduceLT, Int.reduceLE, reduceCtorEq, Nat.reduceBEq, subP4a, subP4b, subP4c, subP3, subP3', fillAll, fillIn, shiftR, shiftV, List.take_succ_cons, List.take_zero, List.drop_succ_cons, List.drop_zero, List.append_nil, Nat.zero_add]
        refine goZ (r' := runes []) h92 rfl ?_
        simp only [runes, go_sem, ↓reduceIte, Nat.reduceEqDiff, Nat.reduceAdd, Nat.reduceMul, Nat.reduceLeDiff, Nat.reduceLT, Int.reduceToNat, Int.reduceLT, Int.reduceLE, reduceCtorEq, Nat.reduceBEq, subP4a, subP4b, subP4c, subP3, subP3', fillAll, fillIn, shiftR, shiftV, List.take_succ_cons, List.take_zero, List.drop_succ_cons, List.drop_zero, List.append_nil, Nat.zero_add]
        refine mLoop (fun N st => ∃ i : Nat, i ≤ l.length ∧ N = l.length - i ∧ (∀ x ∈ l.take i, RightN x.1 x.2.1 x.2.2) ∧ st = ⟨[(2, .loc 4 0 0), (6, .loc 8 0 0), (65, .sl l.length 3 (nmsC l)), (66, .int .i64 l.length), (67, .int .i64 i)],
          [⟨true, 37, 4, 0, 1, plX s false [] l, false⟩, ⟨false, 3, 1, 0, 0, [], false⟩, ⟨false, 21, 1, 0, 0, [], false⟩, ⟨false, 59, 3, 0, 0, [], false⟩, ⟨true, 28, 5, 0, 1, [.arr 1 0, .bool false, .arr 2 0, .arr 3 0, .bool false], false⟩,
           ⟨false, 3, 1, 0, 0, [], false⟩, ⟨false, 21, 1, 0, 0, [], false⟩, ⟨false, 59, 3, 0, 0, [], false⟩, ⟨true, 28, 5, 0, 1, [ints s, .bool false, runes [], .arr 9 i, .bool true], false⟩, ⟨false, 59, 3, i, i, rtsC ((l.take i).map toRt), false⟩]⟩) l.length
          ⟨_, rfl, 0, by omega, by omega, fun x hx => by simp at hx, by simp [getE, ints, runes, plX, rtsC]⟩ ?_
        rintro N s0 ⟨i, hi, rfl, hr, rfl⟩
        by_cases hlt : i < l.length
        · have hlt' : (i : Int) < (l.length : Int) := by omega
          have hi0 : (0 : Int) ≤ (i : Int) := by omega
          have hi1 : IntKind.i64.wrap ((i : Int) + 1) = ((i + 1 : Nat) : Int) := by rw [wrap_i64 (by omega) (by omega)]; omega
          have hsub := sub_nms hlt
          have hmem : nmAt l i ∈ l := by simp [nmAt, List.getD, hlt]
          obtain ⟨u1, u2, u3, u4⟩ := hu _ hmem
          have htk : l.take (i + 1) = l.take i ++ [nmAt l i] := takeAt hlt
          have hmt : rtsC ((l.take (i + 1)).map toRt) = rtsC ((l.take i).map toRt) ++ rtC (toRt (nmAt l i)) := by rw [htk, List.map_append, List.map_cons, List.map_nil, rtsC_snoc]
          have e1 : (i + 1) * 56 ≤ 140737488355328 := by omega
          have e2 : i + 1 ≤ 140737488355328 := by omega
          have h95 := fun ok h => c119_ok (E := E) (n := (nmAt l i).1) (ok := ok) u1 u2 u3 u4 h
          by_cases hrn : RightN (nmAt l i).1 (nmAt l i).2.1 (nmAt l i).2.2
          · obtain ⟨n', p', q', hn', h95t⟩ := h95 true ⟨fun _ => hrn, fun _ => rfl⟩
            obtain ⟨rfl, rfl, rfl⟩ := hn' rfl
            simp only [ratG, us32] at h95t
            simp only [b62_0, plX, runes, ints, go_sem, ↓reduceIte, Nat.reduceEqDiff, Nat.reduceAdd, Nat.reduceMul, Nat.reduceLeDiff, Nat.reduceLT, Int.reduceToNat, Int.reduceLT, Int.reduceLE, reduceCtorEq, Nat.reduceBEq, subT3, hlt', hi0, Int.toNat_natCast, hsub, nmC, fillAll, fillIn, shiftR, shiftV, List.take_succ_cons, List.take_zero, List.drop_succ_cons, List.drop_zero, List.append_nil, Nat.zero_add]
            refine goP h95t ?_
            simp only [go_sem, ↓reduceIte, Nat.reduceEqDiff, Nat.reduceAdd, Nat.reduceMul, Nat.reduceLeDiff, Nat.reduceLT, Int.reduceToNat, Int.reduceLT, Int.reduceLE, reduceCtorEq, Nat.reduceBEq, subA1', subA3, subT3, fillAll, fillIn, shiftR, shiftV, List.take_succ_cons, List.take_zero, List.drop_succ_cons, List.drop_zero, List.append_nil, Nat.zero_add, hi1, e1, e2, List.flatten_cons, List.flatten_nil, Option.getD_some]
            refine loopQ_go rfl (l.length - (i + 1)) (by omega) ⟨i + 1, by omega, rfl, ?_, ?_⟩
            · intro x hx
              rw [htk] at hx
              rcases List.mem_append.1 hx with hx | hx
              · exact hr x hx
              · simp at hx; subst hx; exact hrn
            · rw [hmt]
              rfl
          · obtain ⟨n', p', q', hn', h95f⟩ := h95 false ⟨fun h => (by cases h), fun h => absurd h hrn⟩
            have := hfalse (fun h => hrn (h.2 _ hmem))
            subst this
            simp only [ratG, us32] at h95f
            simp only [b62_0, plX, runes, ints, go_sem, ↓reduceIte, Nat.reduceEqDiff, Nat.reduceAdd, Nat.reduceMul, Nat.reduceLeDiff, Nat.reduceLT, Int.reduceToNat, Int.reduceLT, Int.reduceLE, reduceCtorEq, Nat.reduceBEq, subT3, hlt', hi0, Int.toNat_natCast, hsub, nmC, fillAll, fillIn, shiftR, shiftV, List.take_succ_cons, List.take_zero, List.drop_succ_cons, List.drop_zero, List.append_nil, Nat.zero_add]
            refine goP h95f ?_
            simp only [go_sem, ↓reduceIte, Nat.reduceEqDiff, Nat.reduceAdd, Nat.reduceMul, Nat.reduceLeDiff, Nat.reduceLT, Int.reduceToNat, Int.reduceLT, Int.reduceLE, reduceCtorEq, Nat.reduceBEq, subA5, subT3, fillAll, fillIn, shiftR, shiftV, List.take_succ_cons, List.take_zero, List.drop_succ_cons, List.drop_zero, List.append_nil, Nat.zero_add]
            simp only [i62, Out, resAll, geto, ints, List.getElem?_cons_zero, List.getElem?_cons_succ, resOf, outOf, snap, snapL, ev, getE, List.mapM_cons, List.mapM_nil, Option.bind_some, Option.pure_def, Option.bind_eq_bind, Option.map_some, reduceIte, Nat.reduceEqDiff, true_and, and_true, subA5, noA, Bool.false_eq_true, if_false]
        · have hlt' : ¬ (i : Int) < (l.length : Int) := by omega
          obtain rfl : i = l.length := by omega
          rw [List.take_length] at hr
          have hokt : ok = true := hok.2 ⟨hsh, hr⟩
          subst hokt
          simp only [b62_0, k62_0, plX, runes, ints, go_sem, ↓reduceIte, Nat.reduceEqDiff, Nat.reduceAdd, Nat.reduceMul, Nat.reduceLeDiff, Nat.reduceLT, Int.reduceToNat, Int.reduceLT, Int.reduceLE, reduceCtorEq, Nat.reduceBEq, subA5, hlt', List.take_length, fillAll, fillIn, shiftR, shiftV, List.take_succ_cons, List.take_zero, List.drop_succ_cons, List.drop_zero, List.append_nil, Nat.zero_add]
          simp only [i62, Out, resAll, geto, ints, List.getElem?_cons_zero, List.getElem?_cons_succ, resOf, outOf, snap, snapL, ev, getE, List.mapM_cons, List.mapM_nil, Option.bind_some, Option.pure_def, Option.bind_eq_bind, Option.map_some, reduceIte, Nat.reduceEqDiff, true_and, and_true, subA5, arrX, runes, if_true, List.length_map]
          rfl
    · have := bad hsh
      subst this
      rw [Shapes_iff] at hsh
      cases ch with
      | true =>
        by_cases h1 : (t.length : Int) = m
        · have h2 : ¬ l.length = 0 := fun h => hsh ⟨m, hc, fun _ => ⟨h1, h⟩, fun h => by cases h⟩
          have q1 : ((t.length : Int) != m) = false := by rw [bne_eq_false_iff_eq]; exact h1
          have q2 : (0 : Int) < (l.length : Int) := by omega
          simp only [c62, plX, runes, ints, go_sem, ↓reduceIte, Nat.reduceEqDiff, Nat.reduceAdd, Nat.reduceMul, Nat.reduceLeDiff, Nat.reduceLT, Int.reduceToNat, Int.reduceLT, Int.reduceLE, reduceCtorEq, Nat.reduceBEq, subP4a, subP4b, subP4c, subP3, subP3', fillAll, fillIn, shiftR, shiftV, List.take_succ_cons, List.take_zero, List.drop_succ_cons, List.drop_zero, List.append_nil, Nat.zero_add]
          refine goP h35 ?_
          simp only [go_sem, ↓reduceIte, Nat.reduceEqDiff, Nat.reduceAdd, Nat.reduceMul, Nat.reduceLeDiff, Nat.reduceLT, Int.reduceToNat, Int.reduceLT, Int.reduceLE, reduceCtorEq, Nat.reduceBEq, subP4a, subP4b, subP4c, subP3, subP3', fillAll, fillIn, shiftR, shiftV, List.take_succ_cons, List.take_zero, List.drop_succ_cons, List.drop_zero, List.append_nil, Nat.zero_add, q1, q2]
          simp only [i62, Out, resAll, geto, ints, List.getElem?_cons_zero, List.getElem?_cons_succ, resOf, outOf, snap, snapL, ev, getE, List.mapM_cons, List.mapM_nil, Option.bind_some, Option.pure_def, Option.bind_eq_bind, Option.map_some, reduceIte, Nat.reduceEqDiff, true_and, and_true, subA5, noA, Bool.false_eq_true, if_false]
        · have q1 : ((t.length : Int) != m) = true := by rw [bne_iff_ne]; exact h1
          simp only [c62, plX, runes, ints, go_sem, ↓reduceIte, Nat.reduceEqDiff, Nat.reduceAdd, Nat.reduceMul, Nat.reduceLeDiff, Nat.reduceLT, Int.reduceToNat, Int.reduceLT, Int.reduceLE, reduceCtorEq, Nat.reduceBEq, subP4a, subP4b, subP4c, subP3, subP3', fillAll, fillIn, shiftR, shiftV, List.take_succ_cons, List.take_zero, List.drop_succ_cons, List.drop_zero, List.append_nil, Nat.zero_add]
          refine goP h35 ?_
          simp only [go_sem, ↓reduceIte, Nat.reduceEqDiff, Nat.reduceAdd, Nat.reduceMul, Nat.reduceLeDiff, Nat.reduceLT, Int.reduceToNat, Int.reduceLT, Int.reduceLE, reduceCtorEq, Nat.reduceBEq, subP4a, subP4b, subP4c, subP3, subP3', fillAll, fillIn, shiftR, shiftV, List.take_succ_cons, List.take_zero, List.drop_succ_cons, List.drop_zero, List.append_nil, Nat.zero_add, q1]
          simp only [i62, Out, resAll, geto, ints, List.getElem?_cons_zero, List.getElem?_cons_succ, resOf, outOf, snap, snapL, ev, getE, List.mapM_cons, List.mapM_nil, Option.bind_some, Option.pure_def, Option.bind_eq_bind, Option.map_some, reduceIte, Nat.reduceEqDiff, true_and, and_true, subA5, noA, Bool.false_eq_true, if_false]
      | false =>
        by_cases h1 : (l.length : Int) = m
        · have h2 : ¬ t.length = 0 := fun h => hsh ⟨m, hc, fun h => (by cases h), fun _ => ⟨h1, h⟩⟩
          have q1 : ((l.length : Int) != m) = false := by rw [bne_eq_false_iff_eq]; exact h1
          have q2 : (0 : Int) < (t.length : Int) := by omega
          simp only [c62, plX, runes, ints, go_sem, ↓reduceIte, Nat.reduceEqDiff, Nat.reduceAdd, Nat.reduceMul, Nat.reduceLeDiff, Nat.reduceLT, Int.reduceToNat, Int.reduceLT, Int.reduceLE, reduceCtorEq, Nat.reduceBEq, subP4a, subP4b, subP4c, subP3, subP3', fillAll, fillIn, shiftR, shiftV, List.take_succ_cons, List.take_zero, List.drop_succ_cons, List.drop_zero, List.append_nil, Nat.zero_add]
          refine goP h35 ?_
          simp only [go_sem, ↓reduceIte, Nat.reduceEqDiff, Nat.reduceAdd, Nat.reduceMul, Nat.reduceLeDiff, Nat.reduceLT, Int.reduceToNat, Int.reduceLT, Int.reduceLE, reduceCtorEq, Nat.reduceBEq, subP4a, subP4b, subP4c, subP3, subP3', fillAll, fillIn, shiftR, shiftV, List.take_succ_cons, List.take_zero, List.drop_succ_cons, List.drop_zero, List.append_nil, Nat.zero_add, q1, q2]
          simp only [i62, Out, resAll, geto, ints, List.getElem?_cons_zero, List.getElem?_cons_succ, resOf, outOf, snap, snapL, ev, getE, List.mapM_cons, List.mapM_nil, Option.bind_some, Option.pure_def, Option.bind_eq_bind, Option.map_some, reduceIte, Nat.reduceEqDiff, true_and, and_true, subA5, noA, Bool.false_eq_true, if_false]
        · have q1 : ((l.length : Int) != m) = true := by rw [bne_iff_ne]; exact h1
          simp only [c62, plX, runes, ints, go_sem, ↓reduceIte, Nat.reduceEqDiff, Nat.reduceAdd, Nat.reduceMul, Nat.reduceLeDiff, Nat.reduceLT, Int.reduceToNat, Int.reduceLT, Int.reduceLE, reduceCtorEq, Nat.reduceBEq, subP4a, subP4b, subP4c, subP3, subP3', fillAll, fillIn, shiftR, shiftV, List.take_succ_cons, List.take_zero, List.drop_succ_cons, List.drop_zero, List.append_nil, Nat.zero_add]
          refine goP h35 ?_
          simp only [go_sem, ↓reduceIte, Nat.reduceEqDiff, Nat.reduceAdd, Nat.reduceMul, Nat.reduceLeDiff, Nat.reduceLT, Int.reduceToNat, Int.reduceLT, Int.reduceLE, reduceCtorEq, Nat.reduceBEq, subP4a, subP4b, subP4c, subP3, subP3', fillAll, fillIn, shiftR, shiftV, List.take_succ_cons, List.take_zero, List.drop_succ_cons, List.drop_zero, List.append_nil, Nat.zero_add, q1]
          simp only [i62, Out, resAll, geto, ints, List.getElem?_cons_zero, List.getElem?_cons_succ, resOf, outOf, snap, snapL, ev, getE, List.mapM_cons, List.mapM_nil, Option.bind_some, Option.pure_def, Option.bind_eq_bind, Option.map_some, reduceIte, Nat.reduceEqDiff, true_and, and_true, subA5, noA, Bool.false_eq_true, if_false]
theorem c19_ok {s t : List Int} {l : List Nm} {ch : Bool} (hs : ∀ d ∈ s, In64 d) (hsl : (s.length : Int) ≤ 1000000000000) (ht : (t.length : Int) ≤ 1000000000000) (hl : (l.length : Int) ≤ 1000000000000) (hu : ∀ x ∈ l, NmU x) (hr : RightP s ch t l) :
    Go.V.Call tab E 19 [.agg (plX s ch t l)] [] (.agg (arrX s ch t (l.map toRt))) [] := by
  refine Go.V.Call.mach i19 c19 rfl rfl rfl rfl ?_
  have h65 := c62_ok (ok := true) hs hsl ht hl hu ⟨fun _ => hr, fun _ => rfl⟩
  simp only [if_true, plX, arrX, runes, ints] at h65
  simp only [c19, plX, runes, ints, go_sem, ↓reduceIte, Nat.reduceEqDiff, Nat.reduceAdd, Nat.reduceMul, Nat.reduceLeDiff, Nat.reduceLT, Int.reduceToNat, Int.reduceLT, Int.reduceLE, reduceCtorEq, Nat.reduceBEq, subP4, fillAll, fillIn, shiftR, shiftV, List.take_succ_cons, List.take_zero, List.drop_succ_cons, List.drop_zero, List.append_nil, Nat.zero_add]
  refine goP h65 ?_
  simp only [go_sem, ↓reduceIte, Nat.reduceEqDiff, Nat.reduceAdd, Nat.reduceMul, Nat.reduceLeDiff, Nat.reduceLT, Int.reduceToNat, Int.reduceLT, Int.reduceLE, reduceCtorEq, Nat.reduceBEq, subA5, fillAll, fillIn, shiftR, shiftV, List.take_succ_cons, List.take_zero, List.drop_succ_cons, List.drop_zero, List.append_nil, Nat.zero_add]
  simp only [i19, Out, resAll, geto, ints, List.getElem?_cons_zero, List.getElem?_cons_succ, resOf, outOf, snap, snapL, ev, getE, List.mapM_cons, List.mapM_nil, Option.bind_some, Option.pure_def, Option.bind_eq_bind, Option.map_some, reduceIte, Nat.reduceEqDiff, true_and, and_true, subA5, arrX, runes]
/-- Is it an array of few elements, and short numbers? -/
def LightP (s : List Int) (ch : Bool) (t : List Int) (l : List Nm) (most : Int) : Prop := (t.length : Int) ≤ most ∧ (l.length : Int) ≤ most ∧ s.length ≤ 8 ∧ (∀ x ∈ l, x.2.1.length ≤ 40 ∧ x.2.2.length ≤ 40) ∧ RightP s ch t l
theorem c17_ok {s t : List Int} {l : List Nm} {ch ok : Bool} {most : Int} (hm : 0 ≤ most ∧ most ≤ 1000000) (hs : ∀ d ∈ s, In64 d)
    (hu : ∀ x ∈ l, U8 x.2.1 ∧ U8 x.2.2) (hok : ok = true ↔ LightP s ch t l most) :
    Go.V.Call tab E 17 [.agg (plX s ch t l), .int .i64 most] [] (.bool ok) [] := by
  refine Go.V.Call.mach i17 c17 rfl rfl rfl rfl ?_
  have hfalse : ¬ LightP s ch t l most → ok = false := fun h => by rw [← Bool.not_eq_true, hok]; exact h
  by_cases h1 : most < (t.length : Int)
  · have := hfalse (fun h => by have := h.1; omega)
    subst this
    simp only [c17, plX, runes, ints, go_sem, ↓reduceIte, Nat.reduceEqDiff, Nat.reduceAdd, Nat.reduceMul, Nat.reduceLeDiff, Nat.reduceLT, Int.reduceToNat, Int.reduceLT, Int.reduceLE, reduceCtorEq, Nat.reduceBEq, subP4a, subP4b, subP4c, subP3, subP3', fillAll, fillIn, shiftR, shiftV, List.take_succ_cons, List.take_zero, List.drop_succ_cons, List.drop_zero, List.append_nil, Nat.zero_add, h1]
    simp only [i17, Out, resAll, geto, ints, List.getElem?_cons_zero, List.getElem?_cons_succ, resOf, outOf, snap, snapL, ev, getE, List.mapM_cons, List.mapM_nil, Option.bind_some, Option.pure_def, Option.bind_eq_bind, Option.map_some, reduceIte, Nat.reduceEqDiff, true_and, and_true]
  by_cases h2 : most < (l.length : Int)
  · have := hfalse (fun h => by have := h.2.1; omega)
    subst this
    simp only [c17, plX, runes, ints, go_sem, ↓reduceIte, Nat.reduceEqDiff, Nat.reduceAdd, Nat.reduceMul, Nat.reduceLeDiff, Nat.reduceLT, Int.reduceToNat, Int.reduceLT, Int.reduceLE, reduceCtorEq, Nat.reduceBEq, subP4a, subP4b, subP4c, subP3, subP3', fillAll, fillIn, shiftR, shiftV, List.take_succ_cons, List.take_zero, List.drop_succ_cons, List.drop_zero, List.append_nil, Nat.zero_add, h1, h2]
    simp only [i17, Out, resAll, geto, ints, List.getElem?_cons_zero, List.getElem?_cons_succ, resOf, outOf, snap, snapL, ev, getE, List.mapM_cons, List.mapM_nil, Option.bind_some, Option.pure_def, Option.bind_eq_bind, Option.map_some, reduceIte, Nat.reduceEqDiff, true_and, and_true]
  by_cases h3 : (8 : Int) < (s.length : Int)
  · have := hfalse (fun h => by have := h.2.2.1; omega)
    subst this
    simp only [c17, plX, runes, ints, go_sem, ↓reduceIte, Nat.reduceEqDiff, Nat.reduceAdd, Nat.reduceMul, Nat.reduceLeDiff, Nat.reduceLT, Int.reduceToNat, Int.reduceLT, Int.reduceLE, reduceCtorEq, Nat.reduceBEq, subP4a, subP4b, subP4c, subP3, subP3', fillAll, fillIn, shiftR, shiftV, List.take_succ_cons, List.take_zero, List.drop_succ_cons, List.drop_zero, List.append_nil, Nat.zero_add, h1, h2, h3]
    simp only [i17, Out, resAll, geto, ints, List.getElem?_cons_zero, List.getElem?_cons_succ, resOf, outOf, snap, snapL, ev, getE, List.mapM_cons, List.mapM_nil, Option.bind_some, Option.pure_def, Option.bind_eq_bind, Option.map_some, reduceIte, Nat.reduceEqDiff, true_and, and_true]
  simp only [c17, plX, runes, ints, go_sem, ↓reduceIte, Nat.reduceEqDiff, Nat.reduceAdd, Nat.reduceMul, Nat.reduceLeDiff, Nat.reduceLT, Int.reduceToNat, Int.reduceLT, Int.reduceLE, reduceCtorEq, Nat.reduceBEq, subP4a, subP4b, subP4c, subP3, subP3', fillAll, fillIn, shiftR, shiftV, List.take_succ_cons, List.take_zero, List.drop_succ_cons, List.drop_zero, List.append_nil, Nat.zero_add, h1, h2, h3]
  refine mLoop (fun N st => ∃ k : Nat, k ≤ l.length ∧ N = l.length - k ∧ (∀ x ∈ l.take k, x.2.1.length ≤ 40 ∧ x.2.2.length ≤ 40) ∧ st = ⟨[(2, .loc 0 0 0), (5, .int .i64 k)], [⟨true, 37, 4, 0, 1, plX s ch t l, false⟩]⟩) l.length
    ⟨_, rfl, 0, by omega, by omega, fun x hx => by simp at hx, rfl⟩ ?_
  rintro N s0 ⟨k, hk, rfl, hr, rfl⟩
  by_cases hlt : k < l.length
  · have hlt' : (k : Int) < (l.length : Int) := by omega
    have hk0 : (0 : Int) ≤ (k : Int) := by omega
    have hk1 : IntKind.i64.wrap ((k : Int) + 1) = ((k + 1 : Nat) : Int) := by rw [wrap_i64 (by omega) (by omega)]; omega
    have hs1 := sub_nms1 hlt
    have hs2 := sub_nms2 hlt
    have hmem : nmAt l k ∈ l := by simp [nmAt, List.getD, hlt]
    have htk : l.take (k + 1) = l.take k ++ [nmAt l k] := takeAt hlt
    by_cases g1 : (40 : Int) < ((nmAt l k).2.1.length : Int)
    · have := hfalse (fun h => by have := (h.2.2.2.1 _ hmem).1; omega)
      subst this
      simp only [b17_0, plX, runes, ints, go_sem, ↓reduceIte, Nat.reduceEqDiff, Nat.reduceAdd, Nat.reduceMul, Nat.reduceLeDiff, Nat.reduceLT, Int.reduceToNat, Int.reduceLT, Int.reduceLE, reduceCtorEq, Nat.reduceBEq, subP3, subP3', hlt', hk0, Int.toNat_natCast, hs1, hs2, bs_size, g1]
      simp only [i17, Out, resAll, geto, ints, List.getElem?_cons_zero, List.getElem?_cons_succ, resOf, outOf, snap, snapL, ev, getE, List.mapM_cons, List.mapM_nil, Option.bind_some, Option.pure_def, Option.bind_eq_bind, Option.map_some, reduceIte, Nat.reduceEqDiff, true_and, and_true]
    · by_cases g2 : (40 : Int) < ((nmAt l k).2.2.length : Int)
      · have := hfalse (fun h => by have := (h.2.2.2.1 _ hmem).2; omega)
        subst this
        simp only [b17_0, plX, runes, ints, go_sem, ↓reduceIte, Nat.reduceEqDiff, Nat.reduceAdd, Nat.reduceMul, Nat.reduceLeDiff, Nat.reduceLT, Int.reduceToNat, Int.reduceLT, Int.reduceLE, reduceCtorEq, Nat.reduceBEq, subP3, subP3', hlt', hk0, Int.toNat_natCast, hs1, hs2, bs_size, g1, g2]
        simp only [i17, Out, resAll, geto, ints, List.getElem?_cons_zero, List.getElem?_cons_succ, resOf, outOf, snap, snapL, ev, getE, List.mapM_cons, List.mapM_nil, Option.bind_some, Option.pure_def, Option.bind_eq_bind, Option.map_some, reduceIte, Nat.reduceEqDiff, true_and, and_true]
      · simp only [b17_0, plX, runes, ints, go_sem, ↓reduceIte, Nat.reduceEqDiff, Nat.reduceAdd, Nat.reduceMul, Nat.reduceLeDiff, Nat.reduceLT, Int.reduceToNat, Int.reduceLT, Int.reduceLE, reduceCtorEq, Nat.reduceBEq, subP3, subP3', hlt', hk0, Int.toNat_natCast, hs1, hs2, bs_size, g1, g2, hk1]
        refine loopQ_go rfl (l.length - (k + 1)) (by omega) ⟨k + 1, by omega, rfl, ?_, rfl⟩
        intro x hx
        rw [htk] at hx
        rcases List.mem_append.1 hx with hx | hx
        · exact hr x hx
        · simp at hx; subst hx; omega
  · have hlt' : ¬ (k : Int) < (l.length : Int) := by omega
    rw [List.take_of_length_le (by omega)] at hr
    have h66 := c60_ok (s := s) (t := t) (l := l) (ch := ch) (ok := ok) hs (by omega) (by omega) (by omega) (fun x hx => ⟨(hu x hx).1, (hu x hx).2, by have := (hr x hx).1; omega, by have := (hr x hx).2; omega⟩) (by
      rw [hok]
      exact ⟨fun h => h.2.2.2.2, fun h => ⟨by omega, by omega, by omega, hr, h⟩⟩)
    simp only [plX, runes, ints] at h66
    simp only [b17_0, k17_0, plX, runes, ints, go_sem, ↓reduceIte, Nat.reduceEqDiff, Nat.reduceAdd, Nat.reduceMul, Nat.reduceLeDiff, Nat.reduceLT, Int.reduceToNat, Int.reduceLT, Int.reduceLE, reduceCtorEq, Nat.reduceBEq, subP4, subP3, subP3', hlt']
    refine goP h66 ?_
    simp only [go_sem, ↓reduceIte, Nat.reduceEqDiff, Nat.reduceAdd, Nat.reduceMul, Nat.reduceLeDiff, Nat.reduceLT, Int.reduceToNat, Int.reduceLT, Int.reduceLE, reduceCtorEq, Nat.reduceBEq]
    simp only [i17, Out, resAll, geto, ints, List.getElem?_cons_zero, List.getElem?_cons_succ, resOf, outOf, snap, snapL, ev, getE, List.mapM_cons, List.mapM_nil, Option.bind_some, Option.pure_def, Option.bind_eq_bind, Option.map_some, reduceIte, Nat.reduceEqDiff, true_and, and_true]
end Go.Proofs.Ytlejgleocnemoaa.I

/- Layer 6: elements at any places. -/
set_option linter.unusedVariables false
set_option linter.unusedSimpArgs false
namespace Go.Proofs.Ytlejgleocnemoaa.I
open Go Go.V
attribute [local go_sem] mNil nat0 beq_self_eq_true mSkip mRet mExit mReg mSeq mCond mTrue mFalse mBlock mLv mCodeE mCodeR mEndN mEndR mEndE mOps mSome mGuard mGtt mGff mGtf mGft mGu mCallP mCallR mCallF mCallO mCallZ mCallG mCallM mCallV loopQ_exit loopQ_ret mO_mov mO_newnil mO_pick mO_alloc mO_box mO_build mO_bsl mO_bslF mO_ldf mO_ld mO_st mO_sta mO_nilchk mO_bin mO_binb mO_binp mO_bins mO_neg mO_com mO_not mO_conv mO_mk mO_mk0 mO_s2b mO_b2s mO_cpy mO_cut mO_faddr mO_fld mO_iaddr mO_iaddrf mO_sidx mO_len mO_lenf mO_slen mO_scut mO_app mO_ext mO_mx mO_mn mO_mkfn evalOp cutOp argsE ev getE putE cellsOf adopt rowOf binV boolV nilV ar_add ar_sub ar_mul ar_quo ar_rem ar_eq ar_ne ar_lt ar_le ar_gt ar_ge ar_and ar_or ar_xor geto bound finRet finNrm ints List.length_cons List.length_nil List.length_append List.getElem?_cons_zero List.getElem?_cons_succ List.nil_append List.cons_append List.map_cons List.map_nil List.mapM_cons List.mapM_nil Option.map_some Option.map_none Option.bind_some Option.pure_def Option.bind_eq_bind List.drop_zero or_self or_false false_or or_true true_or true_and and_true and_self decide_true decide_false Bool.false_eq_true Bool.true_eq_false Bool.not_true Bool.not_false Nat.le_refl eq_self gt_iff_lt ge_iff_le ne_eq not_true_eq_false not_false_eq_true storeOp apartOf freeze_nil refsL refs List.flatMap_cons List.flatMap_nil List.append_nil List.contains_nil List.set_cons_zero List.set_cons_succ snap snapL fill_nums flat_nums nums_length Go.V.freeze List.mapIdx_cons List.mapIdx_nil List.contains_cons Bool.or_false Bool.false_or Bool.or_true Bool.true_or
/-- A character at a place; a blank, if there is none. -/
def pickT (t : List Int) (k : Int) : Int := if 0 ≤ k ∧ k < t.length then t.getD k.toNat 0 else 32
def picksT (ch : Bool) (t ks : List Int) : List Int := if ch then ks.map (pickT t) else []
def picksR (ch : Bool) (l : List Rt) (ks : List Int) : List Rt := if ch then [] else ks.map (pickR l)
theorem c64_ok {s t s' ks : List Int} {l : List Rt} {ch : Bool} (hs : ∀ d ∈ s', In64 d) (hsl : (s'.length : Int) ≤ 1000000000000) (ht : (t.length : Int) ≤ 1000000000000) (hl : (l.length : Int) ≤ 1000000000000) (hks : (ks.length : Int) ≤ 1000000000) :
    Go.V.Call tab E 64 [.agg (arrX s ch t l), ints s', ints ks] [] (.tup [.agg (if fits s' ks.length then arrX s' ch (picksT ch t ks) (picksR ch l ks) else noA), .bool (fits s' ks.length)]) [] := by
  refine Go.V.Call.mach i64 c64 rfl rfl rfl rfl ?_
  have h35 := c83_ok (E := E) hs (by omega)
  have h85 := c102_ok hsl
  simp only [ints] at h35 h85
  cases hc : count s' with
  | none =>
    have hf : fits s' ks.length = false := by simp [fits, hc]
    rw [hc] at h35
    simp only [optP] at h35
    simp only [c64, arrX, runes, ints, go_sem, ↓reduceIte, Nat.reduceEqDiff, Nat.reduceAdd, Nat.reduceMul, Nat.reduceLeDiff, Nat.reduceLT, Int.reduceToNat, Int.reduceLT, Int.reduceLE, reduceCtorEq, Nat.reduceBEq, fillAll, fillIn, shiftR, shiftV, List.take_succ_cons, List.take_zero, List.drop_succ_cons, List.drop_zero, List.append_nil, Nat.zero_add]
    refine goP h35 ?_
    simp only [go_sem, ↓reduceIte, Nat.reduceEqDiff, Nat.reduceAdd, Nat.reduceMul, Nat.reduceLeDiff, Nat.reduceLT, Int.reduceToNat, Int.reduceLT, Int.reduceLE, reduceCtorEq, Nat.reduceBEq, fillAll, fillIn, shiftR, shiftV, List.take_succ_cons, List.take_zero, List.drop_succ_cons, List.drop_zero, List.append_nil, Nat.zero_add]
    simp only [i64, Out, resAll, geto, ints, List.getElem?_cons_zero, List.getElem?_cons_succ, resOf, outOf, snap, snapL, ev, getE, List.mapM_cons, List.mapM_nil, Option.bind_some, Option.pure_def, Option.bind_eq_bind, Option.map_some, reduceIte, Nat.reduceEqDiff, true_and, and_true, subA5, hf, noA, Bool.false_eq_true, if_false]
  | some m =>
    rw [hc] at h35
    simp only [optP] at h35
    by_cases hm : m = (ks.length : Int)
    · subst hm
      have hf : fits s' ks.length = true := by simp [fits, hc]
      rw [hf, if_pos rfl]
      cases ch with
      | true =>
        simp only [c64, arrX, runes, ints, go_sem, ↓reduceIte, Nat.reduceEqDiff, Nat.reduceAdd, Nat.reduceMul, Nat.reduceLeDiff, Nat.reduceLT, Int.reduceToNat, Int.reduceLT, Int.reduceLE, reduceCtorEq, Nat.reduceBEq, fillAll, fillIn, shiftR, shiftV, List.take_succ_cons, List.take_zero, List.drop_succ_cons, List.drop_zero, List.append_nil, Nat.zero_add, subX1]
        refine goP h35 ?_
        simp only [go_sem, ↓reduceIte, Nat.reduceEqDiff, Nat.reduceAdd, Nat.reduceMul, Nat.reduceLeDiff, Nat.reduceLT, Int.reduceToNat, Int.reduceLT, Int.reduceLE, reduceCtorEq, Nat.reduceBEq, fillAll, fillIn, shiftR, shiftV, List.take_succ_cons, List.take_zero, List.drop_succ_cons, List.drop_zero, List.append_nil, Nat.zero_add, bne_self_eq_false, subX1]
        refine goZ (r' := ints s') h85 rfl ?_
        simp only [ints, go_sem, ↓reduceIte, Nat.reduceEqDiff, Nat.reduceAdd, Nat.reduceMul, Nat.reduceLeDiff, Nat.reduceLT, Int.reduceToNat, Int.reduceLT, Int.reduceLE, reduceCtorEq, Nat.reduceBEq, fillAll, fillIn, shiftR, shiftV, List.take_succ_cons, List.take_zero, List.drop_succ_cons, List.drop_zero, List.append_nil, Nat.zero_add, subX1]
        refine mLoop (fun N st => ∃ i : Nat, i ≤ ks.length ∧ N = ks.length - i ∧ st = ⟨[(3, .loc 0 0 0), (6, .loc 4 0 0), (10, .loc 8 0 0), (32, ints ks), (33, .int .i64 ks.length), (34, .int .i64 i)],
          [⟨true, 28, 5, 0, 1, arrX s true t l, false⟩, ⟨false, 3, 1, 0, 0, [], false⟩, ⟨false, 21, 1, 0, 0, [], false⟩, ⟨false, 59, 3, 0, 0, [], false⟩, ⟨true, 28, 5, 0, 1, [.arr 1 0, .bool false, .arr 2 0, .arr 3 0, .bool false], false⟩,
           ⟨false, 3, 1, 0, 0, [], false⟩, ⟨false, 21, 1, 0, 0, [], false⟩, ⟨false, 59, 3, 0, 0, [], false⟩, ⟨true, 28, 5, 0, 1, [ints s', .bool true, .arr 9 i, .arr 10 0, .bool true], false⟩, ⟨false, 21, 1, i, i, nums .i32 ((ks.take i).map (pickT t)), false⟩, ⟨false, 59, 3, 0, 0, [], false⟩]⟩) ks.length
          ⟨_, rfl, 0, by omega, by omega, by simp [getE, ints, runes, arrX, nums]⟩ ?_
        rintro N s0 ⟨i, hi, rfl, rfl⟩
        by_cases hlt : i < ks.length
        · have hlt' : (i : Int) < (ks.length : Int) := by omega
          have hi0 : (0 : Int) ≤ (i : Int) := by omega
          have hi1 : IntKind.i64.wrap ((i : Int) + 1) = ((i + 1 : Nat) : Int) := by rw [wrap_i64 (by omega) (by omega)]; omega
          have hsub := sub_nums (k := .i64) hlt
          have htk : ks.take (i + 1) = ks.take i ++ [ks.getD i 0] := takeAt hlt
          have hmt : nums .i32 ((ks.take (i + 1)).map (pickT t)) = nums .i32 ((ks.take i).map (pickT t)) ++ [.int .i32 (pickT t (ks.getD i 0))] := by rw [htk, List.map_append, nums_app]; rfl
          have e1 : (i + 1) * 4 ≤ 140737488355328 := by omega
          have e2 : i + 1 ≤ 140737488355328 := by omega
          generalize ks.getD i 0 = k at *
          by_cases h1 : k < 0
          · have hp : pickT t k = 32 := by rw [pickT, if_neg (by omega)]
            rw [hp] at hmt
            simp only [b64_0, arrX, runes, ints, go_sem, ↓reduceIte, Nat.reduceEqDiff, Nat.reduceAdd, Nat.reduceMul, Nat.reduceLeDiff, Nat.reduceLT, Int.reduceToNat, Int.reduceLT, Int.reduceLE, reduceCtorEq, Nat.reduceBEq, fillAll, fillIn, shiftR, shiftV, List.take_succ_cons, List.take_zero, List.drop_succ_cons, List.drop_zero, List.append_nil, Nat.zero_add, subX1, subX2, subA3, hlt', hi0, hi1, Int.toNat_natCast, hsub, h1, e1, e2, List.flatten_cons, List.flatten_nil, Option.getD_some]
            refine loopQ_go rfl (ks.length - (i + 1)) (by omega) ⟨i + 1, by omega, rfl, ?_⟩
            rw [hmt]
            rfl
          · by_cases h2 : (t.length : Int) ≤ k
            · have hp : pickT t k = 32 := by rw [pickT, if_neg (by omega)]
              rw [hp] at hmt
              simp only [b64_0, arrX, runes, ints, go_sem, ↓reduceIte, Nat.reduceEqDiff, Nat.reduceAdd, Nat.reduceMul, Nat.reduceLeDiff, Nat.reduceLT, Int.reduceToNat, Int.reduceLT, Int.reduceLE, reduceCtorEq, Nat.reduceBEq, fillAll, fillIn, shiftR, shiftV, List.take_succ_cons, List.take_zero, List.drop_succ_cons, List.drop_zero, List.append_nil, Nat.zero_add, subX1, subX2, subA3, hlt', hi0, hi1, Int.toNat_natCast, hsub, h1, h2, e1, e2, List.flatten_cons, List.flatten_nil, Option.getD_some]
              refine loopQ_go rfl (ks.length - (i + 1)) (by omega) ⟨i + 1, by omega, rfl, ?_⟩
              rw [hmt]
              rfl
            · obtain ⟨j, rfl⟩ := Int.eq_ofNat_of_zero_le (show 0 ≤ k by omega)
              have hp : pickT t (j : Int) = t.getD j 0 := by rw [pickT, if_pos (by omega), Int.toNat_natCast]
              rw [hp] at hmt
              have hsj := sub_nums (k := .i32) (l := t) (i := j) (by omega)
              have h3 : (0 : Int) ≤ (j : Int) := by omega
              have h4 : (j : Int) < (t.length : Int) := by omega
              simp only [b64_0, arrX, runes, ints, go_sem, ↓reduceIte, Nat.reduceEqDiff, Nat.reduceAdd, Nat.reduceMul, Nat.reduceLeDiff, Nat.reduceLT, Int.reduceToNat, Int.reduceLT, Int.reduceLE, reduceCtorEq, Nat.reduceBEq, fillAll, fillIn, shiftR, shiftV, List.take_succ_cons, List.take_zero, List.drop_succ_cons, List.drop_zero, List.append_nil, Nat.zero_add, subX1, subX2, subA3, hlt', hi0, hi1, Int.toNat_natCast, hsub, hsj, h1, h2, h3, h4, e1, e2, List.flatten_cons, List.flatten_nil, Option.getD_some]
              refine loopQ_go rfl (ks.length - (i + 1)) (by omega) ⟨i + 1, by omega, rfl, ?_⟩
              rw [hmt]
              rfl
        · have hlt' : ¬ (i : Int) < (ks.length : Int) := by omega
          obtain rfl : i = ks.length := by omega
          simp only [b64_0, k64_0, arrX, runes, ints, go_sem, ↓reduceIte, Nat.reduceEqDiff, Nat.reduceAdd, Nat.reduceMul, Nat.reduceLeDiff, Nat.reduceLT, Int.reduceToNat, Int.reduceLT, Int.reduceLE, reduceCtorEq, Nat.reduceBEq, subA5, hlt', List.take_length, fillAll, fillIn, shiftR, shiftV, List.take_succ_cons, List.take_zero, List.drop_succ_cons, List.drop_zero, List.append_nil, Nat.zero_add]
          simp only [i64, Out, resAll, geto, ints, List.getElem?_cons_zero, List.getElem?_cons_succ, resOf, outOf, snap, snapL, ev, getE, List.mapM_cons, List.mapM_nil, Option.bind_some, Option.pure_def, Option.bind_eq_bind, Option.map_some, reduceIte, Nat.reduceEqDiff, true_and, and_true, subA5, arrX, runes, picksT, picksR, if_true, List.length_map]
          rfl
      | false =>
        simp only [c64, arrX, runes, ints, go_sem, ↓reduceIte, Nat.reduceEqDiff, Nat.reduceAdd, Nat.reduceMul, Nat.reduceLeDiff, Nat.reduceLT, Int.reduceToNat, Int.reduceLT, Int.reduceLE, reduceCtorEq, Nat.reduceBEq, fillAll, fillIn, shiftR, shiftV, List.take_succ_cons, List.take_zero, List.drop_succ_cons, List.drop_zero, List.append_nil, Nat.zero_add, subX1]
        refine goP h35 ?_
        simp only [go_sem, ↓reduceIte, Nat.reduceEqDiff, Nat.reduceAdd, Nat.reduceMul, Nat.reduceLeDiff, Nat.reduceLT, Int.reduceToNat, Int.reduceLT, Int.reduceLE, reduceCtorEq, Nat.reduceBEq, fillAll, fillIn, shiftR, shiftV, List.take_succ_cons, List.take_zero, List.drop_succ_cons, List.drop_zero, List.append_nil, Nat.zero_add, bne_self_eq_false, subX1]
        refine goZ (r' := ints s') h85 rfl ?_
        simp only [ints, go_sem, ↓reduceIte, Nat.reduceEqDiff, Nat.reduceAdd, Nat.reduceMul, Nat.reduceLeDiff, Nat.reduceLT, Int.reduceToNat, Int.reduceLT, Int.reduceLE, reduceCtorEq, Nat.reduceBEq, fillAll, fillIn, shiftR, shiftV, List.take_succ_cons, List.take_zero, List.drop_succ_cons, List.drop_zero, List.append_nil, Nat.zero_add, subX1]
        refine mLoop (fun N st => ∃ i : Nat, i ≤ ks.length ∧ N = ks.length - i ∧ st = ⟨[(3, .loc 0 0 0), (6, .loc 4 0 0), (10, .loc 8 0 0), (32, ints ks), (33, .int .i64 ks.length), (34, .int .i64 i)],
          [⟨true, 28, 5, 0, 1, arrX s false t l, false⟩, ⟨false, 3, 1, 0, 0, [], false⟩, ⟨false, 21, 1, 0, 0, [], false⟩, ⟨false, 59, 3, 0, 0, [], false⟩, ⟨true, 28, 5, 0, 1, [.arr 1 0, .bool false, .arr 2 0, .arr 3 0, .bool false], false⟩,
           ⟨false, 3, 1, 0, 0, [], false⟩, ⟨false, 21, 1, 0, 0, [], false⟩, ⟨false, 59, 3, 0, 0, [], false⟩, ⟨true, 28, 5, 0, 1, [ints s', .bool false, .arr 9 0, .arr 10 i, .bool true], false⟩, ⟨false, 21, 1, 0, 0, [], false⟩, ⟨false, 59, 3, i, i, rtsC ((ks.take i).map (pickR l)), false⟩]⟩) ks.length
          ⟨_, rfl, 0, by omega, by omega, by simp [getE, ints, runes, arrX, rtsC]⟩ ?_
        rintro N s0 ⟨i, hi, rfl, rfl⟩
        by_cases hlt : i < ks.length
        · have hlt' : (i : Int) < (ks.length : Int) := by omega
          have hi0 : (0 : Int) ≤ (i : Int) := by omega
          have hi1 : IntKind.i64.wrap ((i : Int) + 1) = ((i + 1 : Nat) : Int) := by rw [wrap_i64 (by omega) (by omega)]; omega
          have hsub := sub_nums (k := .i64) hlt
          have htk : ks.take (i + 1) = ks.take i ++ [ks.getD i 0] := takeAt hlt
          have hmt : rtsC ((ks.take (i + 1)).map (pickR l)) = rtsC ((ks.take i).map (pickR l)) ++ rtC (pickR l (ks.getD i 0)) := by rw [htk, List.map_append, List.map_cons, List.map_nil, rtsC_snoc]
          have e1 : (i + 1) * 56 ≤ 140737488355328 := by omega
          have e2 : i + 1 ≤ 140737488355328 := by omega
          have h73 := c25_ok (s := s) (t := t) (ch := false) (k := ks.getD i 0) hl
          simp only [arrX, runes, ints, rtC, ratG, us32] at h73
          generalize ks.getD i 0 = k at *
          simp only [b64_0, arrX, runes, ints, go_sem, ↓reduceIte, Nat.reduceEqDiff, Nat.reduceAdd, Nat.reduceMul, Nat.reduceLeDiff, Nat.reduceLT, Int.reduceToNat, Int.reduceLT, Int.reduceLE, reduceCtorEq, Nat.reduceBEq, fillAll, fillIn, shiftR, shiftV, List.take_succ_cons, List.take_zero, List.drop_succ_cons, List.drop_zero, List.append_nil, Nat.zero_add, subX1, subX2, subA3, subA5, hlt', hi0, Int.toNat_natCast, hsub]
          refine goP h73 ?_
          simp only [go_sem, ↓reduceIte, Nat.reduceEqDiff, Nat.reduceAdd, Nat.reduceMul, Nat.reduceLeDiff, Nat.reduceLT, Int.reduceToNat, Int.reduceLT, Int.reduceLE, reduceCtorEq, Nat.reduceBEq, fillAll, fillIn, shiftR, shiftV, List.take_succ_cons, List.take_zero, List.drop_succ_cons, List.drop_zero, List.append_nil, Nat.zero_add, subX1, subX2, subA3, hi1, e1, e2, List.flatten_cons, List.flatten_nil, Option.getD_some]
          refine loopQ_go rfl (ks.length - (i + 1)) (by omega) ⟨i + 1, by omega, rfl, ?_⟩
          rw [hmt]
          rfl
        · have hlt' : ¬ (i : Int) < (ks.length : Int) := by omega
          obtain rfl : i = ks.length := by omega
          simp only [b64_0, k64_0, arrX, runes, ints, go_sem, ↓reduceIte, Nat.reduceEqDiff, Nat.reduceAdd, Nat.reduceMul, Nat.reduceLeDiff, Nat.reduceLT, Int.reduceToNat, Int.reduceLT, Int.reduceLE, reduceCtorEq, Nat.reduceBEq, subA5, hlt', List.take_length, fillAll, fillIn, shiftR, shiftV, List.take_succ_cons, List.take_zero, List.drop_succ_cons, List.drop_zero, List.append_nil, Nat.zero_add]
          simp only [i64, Out, resAll, geto, ints, List.getElem?_cons_zero, List.getElem?_cons_succ, resOf, outOf, snap, snapL, ev, getE, List.mapM_cons, List.mapM_nil, Option.bind_some, Option.pure_def, Option.bind_eq_bind, Option.map_some, reduceIte, Nat.reduceEqDiff, true_and, and_true, subA5, arrX, runes, picksT, picksR, Bool.false_eq_true, if_false, List.length_map]
          rfl
    · have hf : fits s' ks.length = false := by simp [fits, hc, hm]
      have hm' : (m != (ks.length : Int)) = true := by simpa using hm
      simp only [c64, arrX, runes, ints, go_sem, ↓reduceIte, Nat.reduceEqDiff, Nat.reduceAdd, Nat.reduceMul, Nat.reduceLeDiff, Nat.reduceLT, Int.reduceToNat, Int.reduceLT, Int.reduceLE, reduceCtorEq, Nat.reduceBEq, fillAll, fillIn, shiftR, shiftV, List.take_succ_cons, List.take_zero, List.drop_succ_cons, List.drop_zero, List.append_nil, Nat.zero_add]
      refine goP h35 ?_
      simp only [go_sem, ↓reduceIte, Nat.reduceEqDiff, Nat.reduceAdd, Nat.reduceMul, Nat.reduceLeDiff, Nat.reduceLT, Int.reduceToNat, Int.reduceLT, Int.reduceLE, reduceCtorEq, Nat.reduceBEq, fillAll, fillIn, shiftR, shiftV, List.take_succ_cons, List.take_zero, List.drop_succ_cons, List.drop_zero, List.append_nil, Nat.zero_add, hm']
      simp only [i64, Out, resAll, geto, ints, List.getElem?_cons_zero, List.getElem?_cons_succ, resOf, outOf, snap, snapL, ev, getE, List.mapM_cons, List.mapM_nil, Option.bind_some, Option.pure_def, Option.bind_eq_bind, Option.map_some, reduceIte, Nat.reduceEqDiff, true_and, and_true, subA5, hf, noA, Bool.false_eq_true, if_false]
end Go.Proofs.Ytlejgleocnemoaa.I

/- Layer 6: the document's elements at any places. -/
set_option linter.unusedVariables false
set_option linter.unusedSimpArgs false
namespace Go.Proofs.Ytlejgleocnemoaa.I
open Go Go.V
attribute [local go_sem] mNil nat0 beq_self_eq_true mSkip mRet mExit mReg mSeq mCond mTrue mFalse mBlock mLv mCodeE mCodeR mEndN mEndR mEndE mOps mSome mGuard mGtt mGff mGtf mGft mGu mCallP mCallR mCallF mCallO mCallZ mCallG mCallM mCallV loopQ_exit loopQ_ret mO_mov mO_newnil mO_pick mO_alloc mO_box mO_build mO_bsl mO_bslF mO_ldf mO_ld mO_st mO_sta mO_nilchk mO_bin mO_binb mO_binp mO_bins mO_neg mO_com mO_not mO_conv mO_mk mO_mk0 mO_s2b mO_b2s mO_cpy mO_cut mO_faddr mO_fld mO_iaddr mO_iaddrf mO_sidx mO_len mO_lenf mO_slen mO_scut mO_app mO_ext mO_mx mO_mn mO_mkfn evalOp cutOp argsE ev getE putE cellsOf adopt rowOf binV boolV nilV ar_add ar_sub ar_mul ar_quo ar_rem ar_eq ar_ne ar_lt ar_le ar_gt ar_ge ar_and ar_or ar_xor geto bound finRet finNrm ints List.length_cons List.length_nil List.length_append List.getElem?_cons_zero List.getElem?_cons_succ List.nil_append List.cons_append List.map_cons List.map_nil List.mapM_cons List.mapM_nil Option.map_some Option.map_none Option.bind_some Option.pure_def Option.bind_eq_bind List.drop_zero or_self or_false false_or or_true true_or true_and and_true and_self decide_true decide_false Bool.false_eq_true Bool.true_eq_false Bool.not_true Bool.not_false Nat.le_refl eq_self gt_iff_lt ge_iff_le ne_eq not_true_eq_false not_false_eq_true storeOp apartOf freeze_nil refsL refs List.flatMap_cons List.flatMap_nil List.append_nil List.contains_nil List.set_cons_zero List.set_cons_succ snap snapL fill_nums flat_nums nums_length Go.V.freeze List.mapIdx_cons List.mapIdx_nil List.contains_cons Bool.or_false Bool.false_or Bool.or_true Bool.true_or
def pickN (l : List Nm) (k : Int) : Nm := if 0 ≤ k ∧ k < l.length then nmAt l k.toNat else (false, [48], [49])
def picksN (ch : Bool) (l : List Nm) (ks : List Int) : List Nm := if ch then [] else ks.map (pickN l)
theorem dn_pos {q : Nat} (h : q ≠ 0) : dn q = q := by
  unfold dn
  rw [if_neg h]
/-- What is right on the page is the same when it comes back. -/
theorem back_nm {x : Nm} (h : RightN x.1 x.2.1 x.2.2) : toNm (toRt x) = x := by
  obtain ⟨n, a, b⟩ := x
  obtain ⟨hRa, hRb, t1, t2, hb48, _, _⟩ := h
  have ea : decL (sval a) = a := by rw [← trimS_dec hRa.1 (fun h0 => by have := hRa.2.1; rw [h0] at this; simp at this)]; exact t1
  have eb : decL (sval b) = b := by rw [← trimS_dec hRb.1 (fun h0 => by have := hRb.2.1; rw [h0] at this; simp at this)]; exact t2
  have hq : sval b ≠ 0 := fun h => hb48 ((right_zero hRb t2).1 h)
  have hd := dn_pos hq
  simp only [toNm, toRt]
  rw [hd, ea, eb]
theorem back_nms {l : List Nm} (h : ∀ x ∈ l, RightN x.1 x.2.1 x.2.2) : (l.map toRt).map toNm = l := by
  rw [List.map_map]
  conv => rhs; rw [← List.map_id l]
  exact List.map_congr_left fun x hx => back_nm (h x hx)
theorem right_ok {x : Nm} (h : RightN x.1 x.2.1 x.2.2) : RtOk (toRt x) := by
  obtain ⟨hRa, hRb, t1, t2, hb48, _, _⟩ := h
  refine ⟨Right_lim hRa, ?_⟩
  have hq : sval x.2.2 ≠ 0 := fun h => hb48 ((right_zero hRb t2).1 h)
  show dn (sval x.2.2) < lim2000
  rw [dn_pos hq]
  exact Right_lim hRb
end Go.Proofs.Ytlejgleocnemoaa.I

/- Layer 6: ArrayCounts. -/
set_option linter.unusedVariables false
set_option linter.unusedSimpArgs false
namespace Go.Proofs.Ytlejgleocnemoaa.I
open Go Go.V
end Go.Proofs.Ytlejgleocnemoaa.I

/- Layer 6: ArrayPicks. -/
set_option linter.unusedVariables false
set_option linter.unusedSimpArgs false
namespace Go.Proofs.Ytlejgleocnemoaa.I
open Go Go.V
attribute [local go_sem] mNil nat0 beq_self_eq_true mSkip mRet mExit mReg mSeq mCond mTrue mFalse mBlock mLv mCodeE mCodeR mEndN mEndR mEndE mOps mSome mGuard mGtt mGff mGtf mGft mGu mCallP mCallR mCallF mCallO mCallZ mCallG mCallM mCallV loopQ_exit loopQ_ret mO_mov mO_newnil mO_pick mO_alloc mO_box mO_build mO_bsl mO_bslF mO_ldf mO_ld mO_st mO_sta mO_nilchk mO_bin mO_binb mO_binp mO_bins mO_neg mO_com mO_not mO_conv mO_mk mO_mk0 mO_s2b mO_b2s mO_cpy mO_cut mO_faddr mO_fld mO_iaddr mO_iaddrf mO_sidx mO_len mO_lenf mO_slen mO_scut mO_app mO_ext mO_mx mO_mn mO_mkfn evalOp cutOp argsE ev getE putE cellsOf adopt rowOf binV boolV nilV ar_add ar_sub ar_mul ar_quo ar_rem ar_eq ar_ne ar_lt ar_le ar_gt ar_ge ar_and ar_or ar_xor geto bound finRet finNrm ints List.length_cons List.length_nil List.length_append List.getElem?_cons_zero List.getElem?_cons_succ List.nil_append List.cons_append List.map_cons List.map_nil List.mapM_cons List.mapM_nil Option.map_some Option.map_none Option.bind_some Option.pure_def Option.bind_eq_bind List.drop_zero or_self or_false false_or or_true true_or true_and and_true and_self decide_true decide_false Bool.false_eq_true Bool.true_eq_false Bool.not_true Bool.not_false Nat.le_refl eq_self gt_iff_lt ge_iff_le ne_eq not_true_eq_false not_false_eq_true storeOp apartOf freeze_nil refsL refs List.flatMap_cons List.flatMap_nil List.append_nil List.contains_nil List.set_cons_zero List.set_cons_succ snap snapL fill_nums flat_nums nums_length Go.V.freeze List.mapIdx_cons List.mapIdx_nil List.contains_cons Bool.or_false Bool.false_or Bool.or_true Bool.true_or
end Go.Proofs.Ytlejgleocnemoaa.I

/- Layer 7: places. -/
set_option linter.unusedVariables false
set_option linter.unusedSimpArgs false
namespace Go.Proofs.Ytlejgleocnemoaa.I
open Go Go.V
attribute [local go_sem] mNil nat0 beq_self_eq_true mSkip mRet mExit mReg mSeq mCond mTrue mFalse mBlock mLv mCodeE mCodeR mEndN mEndR mEndE mOps mSome mGuard mGtt mGff mGtf mGft mGu mCallP mCallR mCallF mCallO mCallZ mCallG mCallM mCallV loopQ_exit loopQ_ret mO_mov mO_newnil mO_pick mO_alloc mO_box mO_build mO_bsl mO_bslF mO_ldf mO_ld mO_st mO_sta mO_nilchk mO_bin mO_binb mO_binp mO_bins mO_neg mO_com mO_not mO_conv mO_mk mO_mk0 mO_s2b mO_b2s mO_cpy mO_cut mO_faddr mO_fld mO_iaddr mO_iaddrf mO_sidx mO_len mO_lenf mO_slen mO_scut mO_app mO_ext mO_mx mO_mn mO_mkfn evalOp cutOp argsE ev getE putE cellsOf adopt rowOf binV boolV nilV ar_add ar_sub ar_mul ar_quo ar_rem ar_eq ar_ne ar_lt ar_le ar_gt ar_ge ar_and ar_or ar_xor geto bound finRet finNrm ints List.length_cons List.length_nil List.length_append List.getElem?_cons_zero List.getElem?_cons_succ List.nil_append List.cons_append List.map_cons List.map_nil List.mapM_cons List.mapM_nil Option.map_some Option.map_none Option.bind_some Option.pure_def Option.bind_eq_bind List.drop_zero or_self or_false false_or or_true true_or true_and and_true and_self decide_true decide_false Bool.false_eq_true Bool.true_eq_false Bool.not_true Bool.not_false Nat.le_refl eq_self gt_iff_lt ge_iff_le ne_eq not_true_eq_false not_false_eq_true storeOp apartOf freeze_nil refsL refs List.flatMap_cons List.flatMap_nil List.append_nil List.contains_nil List.set_cons_zero List.set_cons_succ snap snapL fill_nums flat_nums nums_length Go.V.freeze List.mapIdx_cons List.mapIdx_nil List.contains_cons Bool.or_false Bool.false_or Bool.or_true Bool.true_or

def pl : Int → List Int → List Int → Option Int
  | n, d :: ds, x :: xs => if x < 0 ∨ d ≤ x then none else pl (n * d + x) ds xs
  | n, _, _ => some n
def place (s idx : List Int) : Option Int := if count s = none ∨ s.length ≠ idx.length then none else pl 0 s idx

section
variable {E : CallRel}

/-- What is known ahead of number k. -/
def PlI (s idx : List Int) (k : Nat) (n : Int) : Prop :=
  count s ≠ none → ∃ most m, count s = cnt most m (s.drop k) ∧ 1 ≤ most ∧ most ≤ 4096 ∧ 0 ≤ n ∧ n < most ∧ pl 0 s idx = pl n (s.drop k) (idx.drop k)

theorem PlI.zero {s idx : List Int} : PlI s idx 0 0 := fun h => by
  refine ⟨1, 1, ?_, by omega, by omega, by omega, by omega, by simp⟩
  unfold count at h ⊢
  split
  · rename_i h8; rw [if_pos h8] at h; exact absurd rfl h
  · simp

theorem PlI.step {s idx : List Int} {k : Nat} {n : Int} (h : PlI s idx k n) (h1 : k < s.length) (h2 : k < idx.length) (hx : ¬ idx.getD k 0 < 0) (hd : ¬ s.getD k 0 ≤ idx.getD k 0) :
    PlI s idx (k + 1) (IntKind.i64.wrap (IntKind.i64.wrap (n * s.getD k 0) + idx.getD k 0)) := by
  intro hc
  obtain ⟨most, m, g1, g2, g3, g4, g5, g6⟩ := h hc
  rw [getD_drop h1] at g1 g6
  rw [getD_drop h2] at g6
  generalize s.getD k 0 = d at *
  generalize idx.getD k 0 = x at *
  rw [cnt] at g1
  split at g1
  · exact absurd g1 hc
  · rename_i hno
    have hm : max 1 d = d := by rw [max1, if_pos (by omega)]
    rw [hm] at g1 hno
    have b1 : n * d ≤ (most - 1) * d := Int.mul_le_mul_of_nonneg_right (by omega) (by omega)
    have b2 : 0 ≤ n * d := Int.mul_nonneg g4 (by omega)
    have b3 : (most - 1) * d = most * d - d := by rw [Int.sub_mul]; omega
    have w1 : IntKind.i64.wrap (n * d) = n * d := wrap_i64 (by omega) (by omega)
    have w2 : IntKind.i64.wrap (n * d + x) = n * d + x := wrap_i64 (by omega) (by omega)
    rw [w1, w2]
    refine ⟨most * d, m * d, g1, by omega, by omega, by omega, by omega, ?_⟩
    rw [g6, pl, if_neg (by omega)]

theorem PlI.done {s idx : List Int} {k : Nat} {n : Int} (h : PlI s idx k n) (h1 : s.length ≤ k ∨ idx.length ≤ k) (hc : count s ≠ none) : 0 ≤ n ∧ pl 0 s idx = some n := by
  obtain ⟨most, m, g1, g2, g3, g4, g5, g6⟩ := h hc
  refine ⟨g4, ?_⟩
  rw [g6]
  rcases h1 with h1 | h1
  · rw [List.drop_eq_nil_of_le h1, pl]
    intro _ _ _ _ h; cases h
  · rw [List.drop_eq_nil_of_le h1, pl]
    intro _ _ _ _ _ h; cases h

end
end Go.Proofs.Ytlejgleocnemoaa.I

/- Layer 7: the index of a place. -/
set_option linter.unusedVariables false
set_option linter.unusedSimpArgs false
namespace Go.Proofs.Ytlejgleocnemoaa.I
open Go Go.V

def ix : List Int → Int → List Int × Int
  | [], a => ([], a)
  | d :: ds, a => ((ix ds a).2 % d :: (ix ds a).1, (ix ds a).2 / d)
def index (s : List Int) (a : Int) : Option (List Int) :=
  match count s with
  | none => none
  | some n => if a < 0 ∨ n ≤ a then none else some (ix s a).1
def optL : Option (List Int) → AV
  | some l => .tup [ints l, .bool true]
  | none => .tup [.sl 0 1 [], .bool false]

section
variable {E : CallRel}
end
end Go.Proofs.Ytlejgleocnemoaa.I

/- Layer 7: strides. -/
set_option linter.unusedVariables false
set_option linter.unusedSimpArgs false
namespace Go.Proofs.Ytlejgleocnemoaa.I
open Go Go.V
def prodR : List Int → Int
  | [] => 1
  | d :: ds => IntKind.i64.wrap (prodR ds * d)
def str : List Int → List Int
  | [] => []
  | _ :: ds => prodR ds :: str ds
section
variable {E : CallRel}
end
end Go.Proofs.Ytlejgleocnemoaa.I

/- Layer 7: products. -/
set_option linter.unusedVariables false
set_option linter.unusedSimpArgs false
namespace Go.Proofs.Ytlejgleocnemoaa.I
open Go Go.V
def prodW (s : List Int) : Int := s.foldl (fun n d => IntKind.i64.wrap (n * d)) 1
section
variable {E : CallRel}
end
end Go.Proofs.Ytlejgleocnemoaa.I

/- Layer 7: the document's strides. -/
set_option linter.unusedVariables false
set_option linter.unusedSimpArgs false
namespace Go.Proofs.Ytlejgleocnemoaa.I
open Go Go.V
def strW : List Int → List Int
  | [] => []
  | _ :: ds => prodW ds :: strW ds
section
variable {E : CallRel}
end
end Go.Proofs.Ytlejgleocnemoaa.I

/- Layer 7, in plain numbers: products, the index of a place and the place of an index, counting up. -/
set_option linter.unusedVariables false
set_option linter.unusedSimpArgs false
namespace Go.Proofs.Ytlejgleocnemoaa.I
open Go Go.V

def prd : List Int → Int
  | [] => 1
  | d :: ds => d * prd ds

theorem cnt_prd : ∀ {s : List Int} {most m n : Int}, cnt most m s = some n → n = m * prd s
  | [], most, m, n, h => by rw [cnt] at h; rw [prd, Int.mul_one]; exact (Option.some.inj h).symm
  | d :: ds, most, m, n, h => by
    rw [cnt] at h
    split at h
    · cases h
    · rw [cnt_prd h, prd, Int.mul_assoc]
theorem count_prd {s : List Int} {n : Int} (h : count s = some n) : n = prd s := by
  unfold count at h
  split at h
  · cases h
  · rw [cnt_prd h, Int.one_mul]

/-- Counting up by one, the last number first; was it the last one? -/
def inc : List Int → List Int → List Int × Bool
  | d :: ds, x :: xs => if (inc ds xs).2 then (if x + 1 < d then ((x + 1) :: (inc ds xs).1, false) else (0 :: (inc ds xs).1, true)) else (x :: (inc ds xs).1, false)
  | _, _ => ([], true)
/-- All indexes, as the document makes them. -/
def allS (L : List (List Int)) (d : Nat) : List (List Int) := L.flatMap fun p => (List.range d).map fun n : Nat => p ++ [(n : Int)]
def allL (s : List Int) : List (List Int) := s.foldl (fun L d => allS L d.toNat) [[]]

end Go.Proofs.Ytlejgleocnemoaa.I

/- Layer 7: the document's list of all indexes. -/
set_option linter.unusedVariables false
set_option linter.unusedSimpArgs false
namespace Go.Proofs.Ytlejgleocnemoaa.I
open Go Go.V

def rows (L : List (List Int)) : AV := .sl L.length 1 (L.map ints)

theorem cnt_bound : ∀ {s : List Int} {most m n : Int}, cnt most m s = some n → 1 ≤ most → most ≤ 4096 → (∀ d ∈ s, 0 ≤ d ∧ d ≤ 4096) ∧ ∀ k, 0 ≤ prd (s.take k) ∧ most * prd (s.take k) ≤ 4096
  | [], most, m, n, h, h1, h2 => ⟨fun d hd => by simp at hd, fun k => by simp [prd]; omega⟩
  | d :: ds, most, m, n, h, h1, h2 => by
    rw [cnt] at h
    split at h
    · cases h
    · rename_i hno
      have hmx : 1 ≤ max 1 d ∧ d ≤ max 1 d := by rw [max1]; split <;> omega
      have hmm : 1 ≤ most * max 1 d := by
        have := Int.mul_le_mul_of_nonneg_left (a := 1) (b := max 1 d) (c := most) hmx.1 (by omega)
        omega
      have hd : d ≤ most * max 1 d := by
        have := Int.mul_le_mul_of_nonneg_right (a := 1) (b := most) (c := max 1 d) h1 (by omega)
        omega
      obtain ⟨g1, g2⟩ := cnt_bound h hmm (by omega)
      refine ⟨fun x hx => ?_, fun k => ?_⟩
      · rcases List.mem_cons.1 hx with rfl | hx
        · omega
        · exact g1 x hx
      · cases k with
        | zero => simp [prd]; omega
        | succ k =>
          rw [List.take_succ_cons, prd]
          obtain ⟨e1, e2⟩ := g2 k
          have e3 : d * prd (ds.take k) ≤ max 1 d * prd (ds.take k) := Int.mul_le_mul_of_nonneg_right hmx.2 e1
          have e4 := Int.mul_le_mul_of_nonneg_left (c := most) e3 (by omega)
          rw [← Int.mul_assoc] at e4
          rw [← Int.mul_assoc] at e4
          refine ⟨Int.mul_nonneg (by omega) e1, ?_⟩
          rw [← Int.mul_assoc]
          omega
theorem count_bound {s : List Int} {n : Int} (h : count s = some n) : s.length ≤ 8 ∧ (∀ d ∈ s, 0 ≤ d ∧ d ≤ 4096) ∧ ∀ k, 0 ≤ prd (s.take k) ∧ prd (s.take k) ≤ 4096 := by
  unfold count at h
  split at h
  · cases h
  · obtain ⟨h1, h2⟩ := cnt_bound h (by omega) (by omega)
    exact ⟨by omega, h1, fun k => by have := h2 k; rwa [Int.one_mul] at this⟩

section
variable {E : CallRel}
end
end Go.Proofs.Ytlejgleocnemoaa.I

/- Layer 7: shapes joined; lists compared. -/
set_option linter.unusedVariables false
set_option linter.unusedSimpArgs false
namespace Go.Proofs.Ytlejgleocnemoaa.I
open Go Go.V
attribute [local go_sem] mNil nat0 beq_self_eq_true mSkip mRet mExit mReg mSeq mCond mTrue mFalse mBlock mLv mCodeE mCodeR mEndN mEndR mEndE mOps mSome mGuard mGtt mGff mGtf mGft mGu mCallP mCallR mCallF mCallO mCallZ mCallG mCallM mCallV loopQ_exit loopQ_ret mO_mov mO_newnil mO_pick mO_alloc mO_box mO_build mO_bsl mO_bslF mO_ldf mO_ld mO_st mO_sta mO_nilchk mO_bin mO_binb mO_binp mO_bins mO_neg mO_com mO_not mO_conv mO_mk mO_mk0 mO_s2b mO_b2s mO_cpy mO_cut mO_faddr mO_fld mO_iaddr mO_iaddrf mO_sidx mO_len mO_lenf mO_slen mO_scut mO_app mO_ext mO_mx mO_mn mO_mkfn evalOp cutOp argsE ev getE putE cellsOf adopt rowOf binV boolV nilV ar_add ar_sub ar_mul ar_quo ar_rem ar_eq ar_ne ar_lt ar_le ar_gt ar_ge ar_and ar_or ar_xor geto bound finRet finNrm ints List.length_cons List.length_nil List.length_append List.getElem?_cons_zero List.getElem?_cons_succ List.nil_append List.cons_append List.map_cons List.map_nil List.mapM_cons List.mapM_nil Option.map_some Option.map_none Option.bind_some Option.pure_def Option.bind_eq_bind List.drop_zero or_self or_false false_or or_true true_or true_and and_true and_self decide_true decide_false Bool.false_eq_true Bool.true_eq_false Bool.not_true Bool.not_false Nat.le_refl eq_self gt_iff_lt ge_iff_le ne_eq not_true_eq_false not_false_eq_true storeOp apartOf freeze_nil refsL refs List.flatMap_cons List.flatMap_nil List.append_nil List.contains_nil List.set_cons_zero List.set_cons_succ snap snapL fill_nums flat_nums nums_length Go.V.freeze List.mapIdx_cons List.mapIdx_nil List.contains_cons Bool.or_false Bool.false_or Bool.or_true Bool.true_or
section
variable {E : CallRel}
end

def lensum (L : List (List Int)) : Nat := L.flatten.length
end Go.Proofs.Ytlejgleocnemoaa.I

/- Layers 2, 3 and 6: whole and exact numbers compared; ArraySames. -/
set_option linter.unusedVariables false
set_option linter.unusedSimpArgs false
namespace Go.Proofs.Ytlejgleocnemoaa.I
open Go Go.V
attribute [local go_sem] mNil nat0 beq_self_eq_true mSkip mRet mExit mReg mSeq mCond mTrue mFalse mBlock mLv mCodeE mCodeR mEndN mEndR mEndE mOps mSome mGuard mGtt mGff mGtf mGft mGu mCallP mCallR mCallF mCallO mCallZ mCallG mCallM mCallV loopQ_exit loopQ_ret mO_mov mO_newnil mO_pick mO_alloc mO_box mO_build mO_bsl mO_bslF mO_ldf mO_ld mO_st mO_sta mO_nilchk mO_bin mO_binb mO_binp mO_bins mO_neg mO_com mO_not mO_conv mO_mk mO_mk0 mO_s2b mO_b2s mO_cpy mO_cut mO_faddr mO_fld mO_iaddr mO_iaddrf mO_sidx mO_len mO_lenf mO_slen mO_scut mO_app mO_ext mO_mx mO_mn mO_mkfn evalOp cutOp argsE ev getE putE cellsOf adopt rowOf binV boolV nilV ar_add ar_sub ar_mul ar_quo ar_rem ar_eq ar_ne ar_lt ar_le ar_gt ar_ge ar_and ar_or ar_xor geto bound finRet finNrm ints List.length_cons List.length_nil List.length_append List.getElem?_cons_zero List.getElem?_cons_succ List.nil_append List.cons_append List.map_cons List.map_nil List.mapM_cons List.mapM_nil Option.map_some Option.map_none Option.bind_some Option.pure_def Option.bind_eq_bind List.drop_zero or_self or_false false_or or_true true_or true_and and_true and_self decide_true decide_false Bool.false_eq_true Bool.true_eq_false Bool.not_true Bool.not_false Nat.le_refl eq_self gt_iff_lt ge_iff_le ne_eq not_true_eq_false not_false_eq_true storeOp apartOf freeze_nil refsL refs List.flatMap_cons List.flatMap_nil List.append_nil List.contains_nil List.set_cons_zero List.set_cons_succ snap snapL fill_nums flat_nums nums_length Go.V.freeze List.mapIdx_cons List.mapIdx_nil List.contains_cons Bool.or_false Bool.false_or Bool.or_true Bool.true_or
/-- A whole number of the program: the sign, the size. -/
def whC (n : Bool) (p : Nat) : List AV := [us32 (limG p), .bool n]
/-- Which of two whole numbers is more. -/
def wcmp (n : Bool) (p : Nat) (m : Bool) (q : Nat) : Int := if n = true ∧ m = false then -1 else if n = false ∧ m = true then 1 else if n = true then cmpZ q p else cmpZ p q
theorem subW0 {a b : AV} : sub true 1 [a, b] 0 = some (.agg [a]) := rfl
theorem subW1 {a b : AV} : sub false 1 [a, b] 1 = some b := rfl
section
variable {E : CallRel}
/-- Which of two exact numbers is more. -/
def rcmp (x y : Rt) : Int := wcmp ((x.1 != false) && decide (x.2.1 * dn y.2.2 ≠ 0)) (x.2.1 * dn y.2.2) ((y.1 != false) && decide (y.2.1 * dn x.2.2 ≠ 0)) (y.2.1 * dn x.2.2)
end
/-- Numbers without a common divisor, and no nought of a sign. -/
def RtRed (x : Rt) : Prop := RtOk x ∧ x.2.2 ≠ 0 ∧ Nat.gcd x.2.1 x.2.2 = 1 ∧ (x.1 = true → x.2.1 ≠ 0)
end Go.Proofs.Ytlejgleocnemoaa.I

/- Layer 3: exact numbers in 64 bits, and how long they are. -/
set_option linter.unusedVariables false
set_option linter.unusedSimpArgs false
namespace Go.Proofs.Ytlejgleocnemoaa.I
open Go Go.V
attribute [local go_sem] mNil nat0 beq_self_eq_true mSkip mRet mExit mReg mSeq mCond mTrue mFalse mBlock mLv mCodeE mCodeR mEndN mEndR mEndE mOps mSome mGuard mGtt mGff mGtf mGft mGu mCallP mCallR mCallF mCallO mCallZ mCallG mCallM mCallV loopQ_exit loopQ_ret mO_mov mO_newnil mO_pick mO_alloc mO_box mO_build mO_bsl mO_bslF mO_ldf mO_ld mO_st mO_sta mO_nilchk mO_bin mO_binb mO_binp mO_bins mO_neg mO_com mO_not mO_conv mO_mk mO_mk0 mO_s2b mO_b2s mO_cpy mO_cut mO_faddr mO_fld mO_iaddr mO_iaddrf mO_sidx mO_len mO_lenf mO_slen mO_scut mO_app mO_ext mO_mx mO_mn mO_mkfn evalOp cutOp argsE ev getE putE cellsOf adopt rowOf binV boolV nilV ar_add ar_sub ar_mul ar_quo ar_rem ar_eq ar_ne ar_lt ar_le ar_gt ar_ge ar_and ar_or ar_xor geto bound finRet finNrm ints List.length_cons List.length_nil List.length_append List.getElem?_cons_zero List.getElem?_cons_succ List.nil_append List.cons_append List.map_cons List.map_nil List.mapM_cons List.mapM_nil Option.map_some Option.map_none Option.bind_some Option.pure_def Option.bind_eq_bind List.drop_zero or_self or_false false_or or_true true_or true_and and_true and_self decide_true decide_false Bool.false_eq_true Bool.true_eq_false Bool.not_true Bool.not_false Nat.le_refl eq_self gt_iff_lt ge_iff_le ne_eq not_true_eq_false not_false_eq_true storeOp apartOf freeze_nil refsL refs List.flatMap_cons List.flatMap_nil List.append_nil List.contains_nil List.set_cons_zero List.set_cons_succ snap snapL fill_nums flat_nums nums_length Go.V.freeze List.mapIdx_cons List.mapIdx_nil List.contains_cons Bool.or_false Bool.false_or Bool.or_true Bool.true_or
theorem subT2 {a b c : AV} : sub true 2 [a, b, c] 0 = some (.agg [a, b]) := rfl
def wint (n : Bool) (p : Nat) : Option Int := if n = true then (if p ≤ 9223372036854775808 then some (-(p : Int)) else none) else if p < 9223372036854775808 then some (p : Int) else none
def rint (x : Rt) : Option Int := if dn x.2.2 = 1 then wint x.1 x.2.1 else none
section
variable {E : CallRel}
theorem c156_ok {n : Nat} : Go.V.Call tab E 156 [natC n] [] (.bool (decide (n = 1))) [] := by
  refine Go.V.Call.mach i156 c156 rfl rfl rfl rfl ?_
  by_cases h0 : n = 0
  · subst h0
    simp only [c156, natC, us32, limG_zero, nums, go_sem, ↓reduceIte, Nat.reduceEqDiff, Nat.reduceAdd, Nat.reduceMul, Nat.reduceLeDiff, Nat.reduceLT, Int.reduceToNat, Int.reduceLT, Int.reduceLE, reduceCtorEq, Nat.reduceBEq, sub, fillAll, fillIn, shiftR, shiftV, List.take_succ_cons, List.take_zero, List.drop_succ_cons, List.drop_zero, List.append_nil, Nat.zero_add, show (((0 : Nat) : Int) == 1) = false from rfl, show ((0 : Int) == 1) = false from rfl]
    simp only [i156, Out, resAll, geto, ints, List.getElem?_cons_zero, List.getElem?_cons_succ, resOf, outOf, snap, snapL, ev, getE, List.mapM_cons, List.mapM_nil, Option.bind_some, Option.pure_def, Option.bind_eq_bind, Option.map_some, reduceIte, Nat.reduceEqDiff, true_and, and_true, show decide ((0 : Nat) = 1) = false from rfl]
  · by_cases h1 : n < 4294967296
    · have hl : limG n = [(n : Int)] := by rw [limG_pos h0, show n / 4294967296 = 0 by omega, limG_zero, Nat.mod_eq_of_lt h1]
      have hb : ((n : Int) == 1) = decide (n = 1) := by
        by_cases h : n = 1
        · subst h; rfl
        · rw [decide_eq_false h, beq_eq_false_iff_ne]; omega
      have e0 : ((1 : Int) == 1) = true := rfl
      simp only [c156, natC, us32, hl, nums, go_sem, ↓reduceIte, Nat.reduceEqDiff, Nat.reduceAdd, Nat.reduceMul, Nat.reduceLeDiff, Nat.reduceLT, Int.reduceToNat, Int.reduceLT, Int.reduceLE, reduceCtorEq, Nat.reduceBEq, sub, fillAll, fillIn, shiftR, shiftV, List.take_succ_cons, List.take_zero, List.drop_succ_cons, List.drop_zero, List.append_nil, Nat.zero_add, e0, hb, show (0 : Int) < ((1 : Nat) : Int) from by decide, show (((1 : Nat) : Int) == 1) = true from rfl, show ((0 : Nat) + 1) = 1 from rfl, List.length_singleton]
      simp only [i156, Out, resAll, geto, ints, List.getElem?_cons_zero, List.getElem?_cons_succ, resOf, outOf, snap, snapL, ev, getE, List.mapM_cons, List.mapM_nil, Option.bind_some, Option.pure_def, Option.bind_eq_bind, Option.map_some, reduceIte, Nat.reduceEqDiff, true_and, and_true]
    · have hne : limG n ≠ [] := fun h => h0 (limG_len0 (by rw [h]; rfl))
      have hl : (((limG n).length : Int) == 1) = false := by
        rw [limG_pos h0, List.length_cons, beq_eq_false_iff_ne]
        intro h
        have : limG (n / 4294967296) = [] := List.length_eq_zero_iff.1 (by omega)
        have := limG_len0 (n := n / 4294967296) (by rw [this]; rfl)
        omega
      simp only [c156, natC, us32, go_sem, ↓reduceIte, Nat.reduceEqDiff, Nat.reduceAdd, Nat.reduceMul, Nat.reduceLeDiff, Nat.reduceLT, Int.reduceToNat, Int.reduceLT, Int.reduceLE, reduceCtorEq, Nat.reduceBEq, sub, fillAll, fillIn, shiftR, shiftV, List.take_succ_cons, List.take_zero, List.drop_succ_cons, List.drop_zero, List.append_nil, Nat.zero_add, hl]
      simp only [i156, Out, resAll, geto, ints, List.getElem?_cons_zero, List.getElem?_cons_succ, resOf, outOf, snap, snapL, ev, getE, List.mapM_cons, List.mapM_nil, Option.bind_some, Option.pure_def, Option.bind_eq_bind, Option.map_some, reduceIte, Nat.reduceEqDiff, true_and, and_true, show decide (n = 1) = false from decide_eq_false (by omega)]
theorem c147_gen {n : Bool} {p q : Nat} : Go.V.Call tab E 147 [.agg (ratG n p q)] [] (.bool (decide (dn q = 1))) [] := by
  refine Go.V.Call.mach i147 c147 rfl rfl rfl rfl ?_
  have h100 := c79_gen (E := E) (n := n) (p := p) (q := q)
  have h130 := c156_ok (E := E) (n := dn q)
  simp only [natC, ratG, us32] at h100 h130
  simp only [c147, ratG, us32, go_sem, ↓reduceIte, Nat.reduceEqDiff, Nat.reduceAdd, Nat.reduceMul, Nat.reduceLeDiff, Nat.reduceLT, Int.reduceToNat, Int.reduceLT, Int.reduceLE, reduceCtorEq, Nat.reduceBEq, subT3, fillAll, fillIn, shiftR, shiftV, List.take_succ_cons, List.take_zero, List.drop_succ_cons, List.drop_zero, List.append_nil, Nat.zero_add]
  refine goP h100 ?_
  simp only [go_sem, ↓reduceIte, Nat.reduceEqDiff, Nat.reduceAdd, Nat.reduceMul, Nat.reduceLeDiff, Nat.reduceLT, Int.reduceToNat, Int.reduceLT, Int.reduceLE, reduceCtorEq, Nat.reduceBEq]
  refine goP h130 ?_
  simp only [go_sem, ↓reduceIte, Nat.reduceEqDiff, Nat.reduceAdd, Nat.reduceMul, Nat.reduceLeDiff, Nat.reduceLT, Int.reduceToNat, Int.reduceLT, Int.reduceLE, reduceCtorEq, Nat.reduceBEq]
  simp only [i147, Out, resAll, geto, ints, List.getElem?_cons_zero, List.getElem?_cons_succ, resOf, outOf, snap, snapL, ev, getE, List.mapM_cons, List.mapM_nil, Option.bind_some, Option.pure_def, Option.bind_eq_bind, Option.map_some, reduceIte, Nat.reduceEqDiff, true_and, and_true]
theorem c148_gen {n : Bool} {p : Nat} : Go.V.Call tab E 148 [.agg (whC n p)] [] (optP (wint n p)) [] := by
  refine Go.V.Call.mach i148 c148 rfl rfl rfl rfl ?_
  by_cases hp : p < 18446744073709551616
  · have h131 := c152_nat (E := E) hp
    simp only [natC, us32] at h131
    simp only [c148, whC, us32, go_sem, ↓reduceIte, Nat.reduceEqDiff, Nat.reduceAdd, Nat.reduceMul, Nat.reduceLeDiff, Nat.reduceLT, Int.reduceToNat, Int.reduceLT, Int.reduceLE, reduceCtorEq, Nat.reduceBEq, subW0, fillAll, fillIn, shiftR, shiftV, List.take_succ_cons, List.take_zero, List.drop_succ_cons, List.drop_zero, List.append_nil, Nat.zero_add]
    refine goP h131 ?_
    by_cases h1 : 9223372036854775808 < p
    · have h1' : (9223372036854775808 : Int) < (p : Int) := by omega
      have hw : wint n p = none := by unfold wint; split <;> rw [if_neg (by omega)]
      simp only [go_sem, ↓reduceIte, Nat.reduceEqDiff, Nat.reduceAdd, Nat.reduceMul, Nat.reduceLeDiff, Nat.reduceLT, Int.reduceToNat, Int.reduceLT, Int.reduceLE, reduceCtorEq, Nat.reduceBEq, h1']
      simp only [i148, Out, resAll, geto, ints, List.getElem?_cons_zero, List.getElem?_cons_succ, resOf, outOf, snap, snapL, ev, getE, List.mapM_cons, List.mapM_nil, Option.bind_some, Option.pure_def, Option.bind_eq_bind, Option.map_some, reduceIte, Nat.reduceEqDiff, true_and, and_true, hw, optP]
    · have h1' : ¬ (9223372036854775808 : Int) < (p : Int) := by omega
      cases n with
      | true =>
        have hw : wint true p = some (-(p : Int)) := by unfold wint; rw [if_pos rfl, if_pos (by omega)]
        have e : ((p : Int) == 9223372036854775808) = true ∨ ((p : Int) == 9223372036854775808) = false := by cases h : ((p : Int) == 9223372036854775808) <;> simp
        by_cases h0 : p = 0
        · subst h0
          have e1 : IntKind.u64.wrap (0 - 1) = 18446744073709551615 := by decide
          have e2 : IntKind.i64.wrap 18446744073709551615 = -1 := by decide
          have e3 : IntKind.i64.wrap (0 - (-1)) = 1 := by decide
          have e4 : IntKind.i64.wrap (1 - 1) = 0 := by decide
          have e5 : ((0 : Int) == 9223372036854775808) = false := rfl
          have e6 : ((0 : Nat) : Int) = 0 := rfl
          simp only [go_sem, ↓reduceIte, Nat.reduceEqDiff, Nat.reduceAdd, Nat.reduceMul, Nat.reduceLeDiff, Nat.reduceLT, Int.reduceToNat, Int.reduceLT, Int.reduceLE, reduceCtorEq, Nat.reduceBEq, subW1, h1', e1, e2, e3, e4, e5, e6]
          simp only [i148, Out, resAll, geto, ints, List.getElem?_cons_zero, List.getElem?_cons_succ, resOf, outOf, snap, snapL, ev, getE, List.mapM_cons, List.mapM_nil, Option.bind_some, Option.pure_def, Option.bind_eq_bind, Option.map_some, reduceIte, Nat.reduceEqDiff, true_and, and_true, hw, optP]
          rfl
        · have e1 : IntKind.u64.wrap ((p : Int) - 1) = (p : Int) - 1 := wrap_u64 (by omega) (by omega)
          have e2 : IntKind.i64.wrap ((p : Int) - 1) = (p : Int) - 1 := wrap_i64 (by omega) (by omega)
          have e3 : IntKind.i64.wrap (0 - ((p : Int) - 1)) = 1 - (p : Int) := by rw [wrap_i64 (by omega) (by omega)]; omega
          have e4 : IntKind.i64.wrap (1 - (p : Int) - 1) = -(p : Int) := by rw [wrap_i64 (by omega) (by omega)]; omega
          rcases e with e | e
          · simp only [go_sem, ↓reduceIte, Nat.reduceEqDiff, Nat.reduceAdd, Nat.reduceMul, Nat.reduceLeDiff, Nat.reduceLT, Int.reduceToNat, Int.reduceLT, Int.reduceLE, reduceCtorEq, Nat.reduceBEq, subW1, h1', e, e1, e2, e3, e4]
            simp only [i148, Out, resAll, geto, ints, List.getElem?_cons_zero, List.getElem?_cons_succ, resOf, outOf, snap, snapL, ev, getE, List.mapM_cons, List.mapM_nil, Option.bind_some, Option.pure_def, Option.bind_eq_bind, Option.map_some, reduceIte, Nat.reduceEqDiff, true_and, and_true, hw, optP]
          · simp only [go_sem, ↓reduceIte, Nat.reduceEqDiff, Nat.reduceAdd, Nat.reduceMul, Nat.reduceLeDiff, Nat.reduceLT, Int.reduceToNat, Int.reduceLT, Int.reduceLE, reduceCtorEq, Nat.reduceBEq, subW1, h1', e, e1, e2, e3, e4]
            simp only [i148, Out, resAll, geto, ints, List.getElem?_cons_zero, List.getElem?_cons_succ, resOf, outOf, snap, snapL, ev, getE, List.mapM_cons, List.mapM_nil, Option.bind_some, Option.pure_def, Option.bind_eq_bind, Option.map_some, reduceIte, Nat.reduceEqDiff, true_and, and_true, hw, optP]
      | false =>
        by_cases h2 : p = 9223372036854775808
        · subst h2
          have e : (((9223372036854775808 : Nat) : Int) == 9223372036854775808) = true := rfl
          have hw : wint false 9223372036854775808 = none := rfl
          simp only [go_sem, ↓reduceIte, Nat.reduceEqDiff, Nat.reduceAdd, Nat.reduceMul, Nat.reduceLeDiff, Nat.reduceLT, Int.reduceToNat, Int.reduceLT, Int.reduceLE, reduceCtorEq, Nat.reduceBEq, subW1, h1', e]
          simp only [i148, Out, resAll, geto, ints, List.getElem?_cons_zero, List.getElem?_cons_succ, resOf, outOf, snap, snapL, ev, getE, List.mapM_cons, List.mapM_nil, Option.bind_some, Option.pure_def, Option.bind_eq_bind, Option.map_some, reduceIte, Nat.reduceEqDiff, true_and, and_true, hw, optP]
        · have e : ((p : Int) == 9223372036854775808) = false := by rw [beq_eq_false_iff_ne]; omega
          have hw : wint false p = some (p : Int) := by unfold wint; rw [if_neg (by simp), if_pos (by omega)]
          have e1 : IntKind.i64.wrap (p : Int) = (p : Int) := wrap_i64 (by omega) (by omega)
          simp only [go_sem, ↓reduceIte, Nat.reduceEqDiff, Nat.reduceAdd, Nat.reduceMul, Nat.reduceLeDiff, Nat.reduceLT, Int.reduceToNat, Int.reduceLT, Int.reduceLE, reduceCtorEq, Nat.reduceBEq, subW1, h1', e, e1]
          simp only [i148, Out, resAll, geto, ints, List.getElem?_cons_zero, List.getElem?_cons_succ, resOf, outOf, snap, snapL, ev, getE, List.mapM_cons, List.mapM_nil, Option.bind_some, Option.pure_def, Option.bind_eq_bind, Option.map_some, reduceIte, Nat.reduceEqDiff, true_and, and_true, hw, optP]
  · have h131 := c152_big (E := E) (n := p) (by omega)
    have hw : wint n p = none := by unfold wint; split <;> rw [if_neg (by omega)]
    simp only [natC, us32] at h131
    simp only [c148, whC, us32, go_sem, ↓reduceIte, Nat.reduceEqDiff, Nat.reduceAdd, Nat.reduceMul, Nat.reduceLeDiff, Nat.reduceLT, Int.reduceToNat, Int.reduceLT, Int.reduceLE, reduceCtorEq, Nat.reduceBEq, subW0, fillAll, fillIn, shiftR, shiftV, List.take_succ_cons, List.take_zero, List.drop_succ_cons, List.drop_zero, List.append_nil, Nat.zero_add]
    refine goP h131 ?_
    simp only [go_sem, ↓reduceIte, Nat.reduceEqDiff, Nat.reduceAdd, Nat.reduceMul, Nat.reduceLeDiff, Nat.reduceLT, Int.reduceToNat, Int.reduceLT, Int.reduceLE, reduceCtorEq, Nat.reduceBEq]
    simp only [i148, Out, resAll, geto, ints, List.getElem?_cons_zero, List.getElem?_cons_succ, resOf, outOf, snap, snapL, ev, getE, List.mapM_cons, List.mapM_nil, Option.bind_some, Option.pure_def, Option.bind_eq_bind, Option.map_some, reduceIte, Nat.reduceEqDiff, true_and, and_true, hw, optP]
theorem c128_gen {x : Rt} : Go.V.Call tab E 128 [.agg (rtC x)] [] (optP (rint x)) [] := by
  obtain ⟨n, p, q⟩ := x
  refine Go.V.Call.mach i128 c128 rfl rfl rfl rfl ?_
  have h112 := c147_gen (E := E) (n := n) (p := p) (q := q)
  have h113 := c148_gen (E := E) (n := n) (p := p)
  simp only [ratG, whC, us32] at h112 h113
  by_cases h : dn q = 1
  · rw [decide_eq_true h] at h112
    simp only [c128, rtC, ratG, us32, go_sem, ↓reduceIte, Nat.reduceEqDiff, Nat.reduceAdd, Nat.reduceMul, Nat.reduceLeDiff, Nat.reduceLT, Int.reduceToNat, Int.reduceLT, Int.reduceLE, reduceCtorEq, Nat.reduceBEq, subT3, fillAll, fillIn, shiftR, shiftV, List.take_succ_cons, List.take_zero, List.drop_succ_cons, List.drop_zero, List.append_nil, Nat.zero_add]
    refine goP h112 ?_
    simp only [go_sem, ↓reduceIte, Nat.reduceEqDiff, Nat.reduceAdd, Nat.reduceMul, Nat.reduceLeDiff, Nat.reduceLT, Int.reduceToNat, Int.reduceLT, Int.reduceLE, reduceCtorEq, Nat.reduceBEq, subT2]
    refine goP h113 ?_
    cases hw : wint n p with
    | none =>
      simp only [optP, go_sem, ↓reduceIte, Nat.reduceEqDiff, Nat.reduceAdd, Nat.reduceMul, Nat.reduceLeDiff, Nat.reduceLT, Int.reduceToNat, Int.reduceLT, Int.reduceLE, reduceCtorEq, Nat.reduceBEq]
      simp only [i128, Out, resAll, geto, ints, List.getElem?_cons_zero, List.getElem?_cons_succ, resOf, outOf, snap, snapL, ev, getE, List.mapM_cons, List.mapM_nil, Option.bind_some, Option.pure_def, Option.bind_eq_bind, Option.map_some, reduceIte, Nat.reduceEqDiff, true_and, and_true, rint, h, hw, optP, if_true]
    | some z =>
      simp only [optP, go_sem, ↓reduceIte, Nat.reduceEqDiff, Nat.reduceAdd, Nat.reduceMul, Nat.reduceLeDiff, Nat.reduceLT, Int.reduceToNat, Int.reduceLT, Int.reduceLE, reduceCtorEq, Nat.reduceBEq]
      simp only [i128, Out, resAll, geto, ints, List.getElem?_cons_zero, List.getElem?_cons_succ, resOf, outOf, snap, snapL, ev, getE, List.mapM_cons, List.mapM_nil, Option.bind_some, Option.pure_def, Option.bind_eq_bind, Option.map_some, reduceIte, Nat.reduceEqDiff, true_and, and_true, rint, h, hw, optP, if_true]
  · rw [decide_eq_false h] at h112
    simp only [c128, rtC, ratG, us32, go_sem, ↓reduceIte, Nat.reduceEqDiff, Nat.reduceAdd, Nat.reduceMul, Nat.reduceLeDiff, Nat.reduceLT, Int.reduceToNat, Int.reduceLT, Int.reduceLE, reduceCtorEq, Nat.reduceBEq, subT3, fillAll, fillIn, shiftR, shiftV, List.take_succ_cons, List.take_zero, List.drop_succ_cons, List.drop_zero, List.append_nil, Nat.zero_add]
    refine goP h112 ?_
    simp only [go_sem, ↓reduceIte, Nat.reduceEqDiff, Nat.reduceAdd, Nat.reduceMul, Nat.reduceLeDiff, Nat.reduceLT, Int.reduceToNat, Int.reduceLT, Int.reduceLE, reduceCtorEq, Nat.reduceBEq]
    simp only [i128, Out, resAll, geto, ints, List.getElem?_cons_zero, List.getElem?_cons_succ, resOf, outOf, snap, snapL, ev, getE, List.mapM_cons, List.mapM_nil, Option.bind_some, Option.pure_def, Option.bind_eq_bind, Option.map_some, reduceIte, Nat.reduceEqDiff, true_and, and_true, rint, h, optP, if_false]
/-- How many limbs, above or below the line. -/
def rlimbs (x : Rt) : Nat := max (limG x.2.1).length (limG (dn x.2.2)).length
/-- Digits with a sign, on the page. -/
def wdC (n : Bool) (p : Nat) : List AV := [.bool n, .str (dec p)]
end
end Go.Proofs.Ytlejgleocnemoaa.I

/- Layer 6: arrays as whole numbers, their elements, limbs and bytes. -/
set_option linter.unusedVariables false
set_option linter.unusedSimpArgs false
namespace Go.Proofs.Ytlejgleocnemoaa.I
open Go Go.V
attribute [local go_sem] mNil nat0 beq_self_eq_true mSkip mRet mExit mReg mSeq mCond mTrue mFalse mBlock mLv mCodeE mCodeR mEndN mEndR mEndE mOps mSome mGuard mGtt mGff mGtf mGft mGu mCallP mCallR mCallF mCallO mCallZ mCallG mCallM mCallV loopQ_exit loopQ_ret mO_mov mO_newnil mO_pick mO_alloc mO_box mO_build mO_bsl mO_bslF mO_ldf mO_ld mO_st mO_sta mO_nilchk mO_bin mO_binb mO_binp mO_bins mO_neg mO_com mO_not mO_conv mO_mk mO_mk0 mO_s2b mO_b2s mO_cpy mO_cut mO_faddr mO_fld mO_iaddr mO_iaddrf mO_sidx mO_len mO_lenf mO_slen mO_scut mO_app mO_ext mO_mx mO_mn mO_mkfn evalOp cutOp argsE ev getE putE cellsOf adopt rowOf binV boolV nilV ar_add ar_sub ar_mul ar_quo ar_rem ar_eq ar_ne ar_lt ar_le ar_gt ar_ge ar_and ar_or ar_xor geto bound finRet finNrm ints List.length_cons List.length_nil List.length_append List.getElem?_cons_zero List.getElem?_cons_succ List.nil_append List.cons_append List.map_cons List.map_nil List.mapM_cons List.mapM_nil Option.map_some Option.map_none Option.bind_some Option.pure_def Option.bind_eq_bind List.drop_zero or_self or_false false_or or_true true_or true_and and_true and_self decide_true decide_false Bool.false_eq_true Bool.true_eq_false Bool.not_true Bool.not_false Nat.le_refl eq_self gt_iff_lt ge_iff_le ne_eq not_true_eq_false not_false_eq_true storeOp apartOf freeze_nil refsL refs List.flatMap_cons List.flatMap_nil List.append_nil List.contains_nil List.set_cons_zero List.set_cons_succ snap snapL fill_nums flat_nums nums_length Go.V.freeze List.mapIdx_cons List.mapIdx_nil List.contains_cons Bool.or_false Bool.false_or Bool.or_true Bool.true_or
def rv (x : Rt) : Int := (rint x).getD 0
def WhO (l : List Rt) : Prop := ∀ x ∈ l, (rint x).isSome = true
theorem WhO_take {l : List Rt} {i : Nat} (h : i < l.length) : WhO (l.take (i + 1)) ↔ WhO (l.take i) ∧ (rint (rtAt l i)).isSome = true := by
  have : l.take (i + 1) = l.take i ++ [rtAt l i] := takeAt h
  rw [this]
  unfold WhO
  simp only [List.mem_append, List.mem_singleton]
  exact ⟨fun h => ⟨fun x hx => h x (.inl hx), h _ (.inr rfl)⟩, fun h x hx => hx.elim (h.1 x) (fun e => e ▸ h.2)⟩
theorem rtAt_mem {l : List Rt} {i : Nat} (h : i < l.length) : rtAt l i ∈ l := by simp [rtAt, List.getD, h]
theorem rv_of {x : Rt} {z : Int} (h : rint x = some z) : rv x = z := by rw [rv, h]; rfl
theorem RtOk.len {x : Rt} (h : RtOk x) : (decL x.2.1).length ≤ 1000000000 ∧ (decL (dn x.2.2)).length ≤ 1000000000 := ⟨Nat.le_trans (lim2000_len h.1) (by omega), Nat.le_trans (lim2000_len h.2) (by omega)⟩
/-- The most limbs of a list. -/
def lmax (l : List Rt) : Nat := l.foldl (fun a x => max a (rlimbs x)) 0
def rbytes (x : Rt) : Nat := 8 + 4 * ((limG x.2.1).length + (limG (dn x.2.2)).length)
def bsum (l : List Rt) : Nat := l.foldl (fun a x => a + rbytes x) 0
def runeAt (t : List Int) (k : Int) : Int := if 0 ≤ k ∧ k < t.length then t.getD k.toNat 0 else 0
theorem subX3 {a b c d e : AV} : sub false 1 [a, b, c, d, e] 3 = some d := rfl
theorem c91_X {s t : List Int} {l : List Rt} {ch ok : Bool} (ht : (t.length : Int) ≤ 1000000000000) (hl : (l.length : Int) ≤ 1000000000000) (hok : ok = true ↔ ¬ (ch = true ∧ 0 < t.length + l.length) ∧ WhO l) :
    Go.V.Call tab E 91 [.agg (arrX s ch t l)] [] (.tup [.arr 0 0, .bool ok]) [rowI (if ok then l.map rv else [])] := by
  refine Go.V.Call.mach i91 c91 rfl rfl rfl rfl ?_
  have hfalse : ¬ (¬ (ch = true ∧ 0 < t.length + l.length) ∧ WhO l) → ok = false := fun h => by rw [← Bool.not_eq_true, hok]; exact h
  have h54 := c23_X (s := s) (ch := ch) ht hl
  simp only [arrX, runes, ints] at h54
  have main : ¬ (ch = true ∧ 0 < t.length + l.length) → Mach (Go.V.Call tab E) (Fin i91 [] (.tup [.arr 0 0, .bool ok]) [rowI (if ok then l.map rv else [])]) [.code (.seq (.seq (.reg none [⟨some 16, .faddr 3 (.t 1), none⟩,
      ⟨some 17, .ld false 1 (.t 16), none⟩, ⟨some 18, .lenf (.t 17), none⟩, ⟨some 19, .mov (.k (.int .i64 0)), none⟩]) (.lv [4, 17, 18, 19] (.block 0 (.loop [4, 17, 18, 19] (some (3, [])) b91_0)))) k91_0)] .nrm
      ⟨[(1, .loc 0 0 0), (4, .arr 2 0)], [⟨true, 28, 5, 0, 1, arrX s ch t l, false⟩, ⟨false, 3, 1, 0, 0, [], false⟩, ⟨false, 3, 1, 0, 0, [], false⟩]⟩ := fun hch => by
    simp only [arrX, runes, ints, go_sem, ↓reduceIte, Nat.reduceEqDiff, Nat.reduceAdd, Nat.reduceMul, Nat.reduceLeDiff, Nat.reduceLT, Int.reduceToNat, Int.reduceLT, Int.reduceLE, reduceCtorEq, Nat.reduceBEq, subX3, fillAll, fillIn, shiftR, shiftV, List.take_succ_cons, List.take_zero, List.drop_succ_cons, List.drop_zero, List.append_nil, Nat.zero_add]
    refine mLoop (fun N st => ∃ (i : Nat), i ≤ l.length ∧ N = l.length - i ∧ WhO (l.take i) ∧
      st = ⟨[(4, .arr 2 i), (17, .sl l.length 3 (rtsC l)), (18, .int .i64 l.length), (19, .int .i64 i)],
        [⟨true, 28, 5, 0, 1, arrX s ch t l, false⟩, ⟨false, 3, 1, 0, 0, [], false⟩, ⟨false, 3, 1, i, i, nums .i64 ((l.take i).map rv), false⟩]⟩) l.length
      ⟨_, rfl, 0, by omega, by omega, fun x hx => by simp at hx, by simp [nums, getE, ints, arrX, runes]⟩ ?_
    rintro N s0 ⟨i, hi, rfl, hw, rfl⟩
    by_cases hlt : i < l.length
    · have hlt' : (i : Int) < (l.length : Int) := by omega
      have hi0 : (0 : Int) ≤ (i : Int) := by omega
      have hi1 : IntKind.i64.wrap ((i : Int) + 1) = ((i + 1 : Nat) : Int) := by rw [wrap_i64 (by omega) (by omega)]; omega
      have hsub := sub_rts hlt
      have htk : l.take (i + 1) = l.take i ++ [rtAt l i] := takeAt hlt
      have hwt := WhO_take hlt
      have e1 : (i + 1) * 8 ≤ 140737488355328 := by omega
      have e2 : i + 1 ≤ 140737488355328 := by omega
      have h88 := c128_gen (E := E) (x := rtAt l i)
      cases hr : rint (rtAt l i) with
      | none =>
        have := hfalse (fun h => by have := h.2 _ (rtAt_mem hlt); rw [hr] at this; cases this)
        subst this
        rw [hr] at h88
        simp only [optP, rtC, ratG, us32] at h88
        simp only [b91_0, arrX, runes, ints, go_sem, ↓reduceIte, Nat.reduceEqDiff, Nat.reduceAdd, Nat.reduceMul, Nat.reduceLeDiff, Nat.reduceLT, Int.reduceToNat, Int.reduceLT, Int.reduceLE, reduceCtorEq, Nat.reduceBEq, hlt', hi0, Int.toNat_natCast, hsub, rtC, ratG, us32, subT3, fillAll, fillIn, shiftR, shiftV, List.take_succ_cons, List.take_zero, List.drop_succ_cons, List.drop_zero, List.append_nil, Nat.zero_add]
        refine goR h88 rfl ?_
        simp only [go_sem, ↓reduceIte, Nat.reduceEqDiff, Nat.reduceAdd, Nat.reduceMul, Nat.reduceLeDiff, Nat.reduceLT, Int.reduceToNat, Int.reduceLT, Int.reduceLE, reduceCtorEq, Nat.reduceBEq, fillAll, fillIn, shiftR, shiftV, List.take_succ_cons, List.take_zero, List.drop_succ_cons, List.drop_zero, List.append_nil, Nat.zero_add]
        simp only [i91, Out, resAll, geto, ints, List.getElem?_cons_zero, List.getElem?_cons_succ, resOf, outOf, snap, snapL, ev, getE, List.mapM_cons, List.mapM_nil, Option.bind_some, Option.pure_def, Option.bind_eq_bind, Option.map_some, reduceIte, Nat.reduceEqDiff, true_and, and_true, ownOut, ownL, ownV, scalar, List.contains_nil, List.length_nil, List.length_cons, List.nil_append, List.cons_append, storeOp, apartOf, freeze_nil, refsL, refs, List.flatMap_cons, List.flatMap_nil, List.append_nil, List.contains_nil, List.set_cons_zero, List.set_cons_succ, snap, snapL, fill_nums, flat_nums, nums_length, reduceCtorEq, Bool.false_eq_true, and_self, not_false_eq_true, beq_self_eq_true, Nat.zero_add]
        rfl
      | some z =>
        have hz : rv (rtAt l i) = z := rv_of hr
        rw [hr] at h88 hwt
        simp only [optP, rtC, ratG, us32] at h88
        simp only [b91_0, arrX, runes, ints, go_sem, ↓reduceIte, Nat.reduceEqDiff, Nat.reduceAdd, Nat.reduceMul, Nat.reduceLeDiff, Nat.reduceLT, Int.reduceToNat, Int.reduceLT, Int.reduceLE, reduceCtorEq, Nat.reduceBEq, hlt', hi0, Int.toNat_natCast, hsub, rtC, ratG, us32, subT3, fillAll, fillIn, shiftR, shiftV, List.take_succ_cons, List.take_zero, List.drop_succ_cons, List.drop_zero, List.append_nil, Nat.zero_add]
        refine goR h88 rfl ?_
        simp only [go_sem, ↓reduceIte, Nat.reduceEqDiff, Nat.reduceAdd, Nat.reduceMul, Nat.reduceLeDiff, Nat.reduceLT, Int.reduceToNat, Int.reduceLT, Int.reduceLE, reduceCtorEq, Nat.reduceBEq, fillAll, fillIn, shiftR, shiftV, List.take_succ_cons, List.take_zero, List.drop_succ_cons, List.drop_zero, List.append_nil, Nat.zero_add, hi1, e1, e2, List.flatten_cons, List.flatten_nil, Option.getD_some]
        refine loopQ_go rfl (l.length - (i + 1)) (by omega) ⟨i + 1, by omega, rfl, hwt.2 ⟨hw, rfl⟩, ?_⟩
        rw [htk]
        simp only [nums, List.map_append, List.map_cons, List.map_nil, hz, arrX, runes, ints]
        rfl
    · have hlt' : ¬ (i : Int) < (l.length : Int) := by omega
      obtain rfl : i = l.length := by omega
      rw [List.take_length] at hw
      have := hok.2 ⟨hch, hw⟩
      subst this
      simp only [b91_0, k91_0, arrX, runes, ints, go_sem, ↓reduceIte, Nat.reduceEqDiff, Nat.reduceAdd, Nat.reduceMul, Nat.reduceLeDiff, Nat.reduceLT, Int.reduceToNat, Int.reduceLT, Int.reduceLE, reduceCtorEq, Nat.reduceBEq, hlt', List.take_length, Int.lt_irrefl]
      simp only [i91, Out, resAll, geto, ints, List.getElem?_cons_zero, List.getElem?_cons_succ, resOf, outOf, snap, snapL, ev, getE, List.mapM_cons, List.mapM_nil, Option.bind_some, Option.pure_def, Option.bind_eq_bind, Option.map_some, reduceIte, Nat.reduceEqDiff, true_and, and_true, ownOut, ownL, ownV, scalar, List.contains_nil, List.length_nil, List.length_cons, List.nil_append, List.cons_append, storeOp, apartOf, freeze_nil, refsL, refs, List.flatMap_cons, List.flatMap_nil, List.append_nil, List.contains_nil, List.set_cons_zero, List.set_cons_succ, snap, snapL, fill_nums, flat_nums, nums_length, reduceCtorEq, Bool.false_eq_true, and_self, not_false_eq_true, beq_self_eq_true, Nat.zero_add]
      simp [rowI]
  cases ch with
  | true =>
    simp only [c91, arrX, runes, ints, go_sem, ↓reduceIte, Nat.reduceEqDiff, Nat.reduceAdd, Nat.reduceMul, Nat.reduceLeDiff, Nat.reduceLT, Int.reduceToNat, Int.reduceLT, Int.reduceLE, reduceCtorEq, Nat.reduceBEq, subX1, subA5, fillAll, fillIn, shiftR, shiftV, List.take_succ_cons, List.take_zero, List.drop_succ_cons, List.drop_zero, List.append_nil, Nat.zero_add]
    refine goP h54 ?_
    by_cases h0 : 0 < t.length + l.length
    · have h0' : (0 : Int) < ((t.length + l.length : Nat) : Int) := by omega
      have := hfalse (fun h => h.1 ⟨rfl, h0⟩)
      subst this
      simp only [go_sem, ↓reduceIte, Nat.reduceEqDiff, Nat.reduceAdd, Nat.reduceMul, Nat.reduceLeDiff, Nat.reduceLT, Int.reduceToNat, Int.reduceLT, Int.reduceLE, reduceCtorEq, Nat.reduceBEq, h0']
      simp only [i91, Out, resAll, geto, ints, List.getElem?_cons_zero, List.getElem?_cons_succ, resOf, outOf, snap, snapL, ev, getE, List.mapM_cons, List.mapM_nil, Option.bind_some, Option.pure_def, Option.bind_eq_bind, Option.map_some, reduceIte, Nat.reduceEqDiff, true_and, and_true, ownOut, ownL, ownV, scalar, List.contains_nil, List.length_nil, List.length_cons, List.nil_append, List.cons_append, storeOp, apartOf, freeze_nil, refsL, refs, List.flatMap_cons, List.flatMap_nil, List.append_nil, List.contains_nil, List.set_cons_zero, List.set_cons_succ, snap, snapL, fill_nums, flat_nums, nums_length, reduceCtorEq, Bool.false_eq_true, and_self, not_false_eq_true, beq_self_eq_true, Nat.zero_add]
      rfl
    · have h0' : ¬ (0 : Int) < ((t.length + l.length : Nat) : Int) := by omega
      have hm := main (fun h => h0 h.2)
      simp only [arrX, runes, ints, go_sem, ↓reduceIte, Nat.reduceEqDiff, Nat.reduceAdd, Nat.reduceMul, Nat.reduceLeDiff, Nat.reduceLT, Int.reduceToNat, Int.reduceLT, Int.reduceLE, reduceCtorEq, Nat.reduceBEq, subX3, fillAll, fillIn, shiftR, shiftV, List.take_succ_cons, List.take_zero, List.drop_succ_cons, List.drop_zero, List.append_nil, Nat.zero_add] at hm
      simp only [go_sem, ↓reduceIte, Nat.reduceEqDiff, Nat.reduceAdd, Nat.reduceMul, Nat.reduceLeDiff, Nat.reduceLT, Int.reduceToNat, Int.reduceLT, Int.reduceLE, reduceCtorEq, Nat.reduceBEq, h0', subX3]
      exact hm
  | false =>
    have hm := main (fun h => by cases h.1)
    simp only [arrX, runes, ints, go_sem, ↓reduceIte, Nat.reduceEqDiff, Nat.reduceAdd, Nat.reduceMul, Nat.reduceLeDiff, Nat.reduceLT, Int.reduceToNat, Int.reduceLT, Int.reduceLE, reduceCtorEq, Nat.reduceBEq, subX3, fillAll, fillIn, shiftR, shiftV, List.take_succ_cons, List.take_zero, List.drop_succ_cons, List.drop_zero, List.append_nil, Nat.zero_add] at hm
    simp only [c91, arrX, runes, ints, go_sem, ↓reduceIte, Nat.reduceEqDiff, Nat.reduceAdd, Nat.reduceMul, Nat.reduceLeDiff, Nat.reduceLT, Int.reduceToNat, Int.reduceLT, Int.reduceLE, reduceCtorEq, Nat.reduceBEq, subX1, subX3, subA5, fillAll, fillIn, shiftR, shiftV, List.take_succ_cons, List.take_zero, List.drop_succ_cons, List.drop_zero, List.append_nil, Nat.zero_add]
    exact hm
theorem c66_X {s t : List Int} {l : List Rt} {ch : Bool} (hs : (s.length : Int) ≤ 1000000000000) : Go.V.Call tab E 66 [.agg (arrX s ch t l)] [] (.int .i64 s.length) [] := by
  refine Go.V.Call.mach i66 c66 rfl rfl rfl rfl ?_
  have h69 := c44_X (s := s) (t := t) (l := l) (ch := ch) hs
  simp only [arrX, runes, ints] at h69
  simp only [c66, arrX, runes, ints, go_sem, ↓reduceIte, Nat.reduceEqDiff, Nat.reduceAdd, Nat.reduceMul, Nat.reduceLeDiff, Nat.reduceLT, Int.reduceToNat, Int.reduceLT, Int.reduceLE, reduceCtorEq, Nat.reduceBEq, subA5, fillAll, fillIn, shiftR, shiftV, List.take_succ_cons, List.take_zero, List.drop_succ_cons, List.drop_zero, List.append_nil, Nat.zero_add]
  refine goP h69 ?_
  simp only [go_sem, ↓reduceIte, Nat.reduceEqDiff, Nat.reduceAdd, Nat.reduceMul, Nat.reduceLeDiff, Nat.reduceLT, Int.reduceToNat, Int.reduceLT, Int.reduceLE, reduceCtorEq, Nat.reduceBEq, fillAll, fillIn, shiftR, shiftV, List.take_succ_cons, List.take_zero, List.drop_succ_cons, List.drop_zero, List.append_nil, Nat.zero_add]
  simp only [i66, Out, resAll, geto, ints, List.getElem?_cons_zero, List.getElem?_cons_succ, resOf, outOf, snap, snapL, ev, getE, List.mapM_cons, List.mapM_nil, Option.bind_some, Option.pure_def, Option.bind_eq_bind, Option.map_some, reduceIte, Nat.reduceEqDiff, true_and, and_true]
/-- How much room an array takes. -/
def roomX (s t : List Int) (l : List Rt) : Nat := 16 + 4 * s.length + t.length + bsum l
end Go.Proofs.Ytlejgleocnemoaa.I

/- SEAT YtlejgleocnemoaaGreat. Layer 8: lists of an array, picks, what is shown, other shapes. -/
set_option linter.unusedVariables false
set_option linter.unusedSimpArgs false
namespace Go.Proofs.Ytlejgleocnemoaa.I
open Go Go.V
attribute [local go_sem] mNil nat0 beq_self_eq_true mSkip mRet mExit mReg mSeq mCond mTrue mFalse mBlock mLv mCodeE mCodeR mEndN mEndR mEndE mOps mSome mGuard mGtt mGff mGtf mGft mGu mCallP mCallR mCallF mCallO mCallZ mCallG mCallM mCallV loopQ_exit loopQ_ret mO_mov mO_newnil mO_pick mO_alloc mO_box mO_build mO_bsl mO_bslF mO_ldf mO_ld mO_st mO_sta mO_nilchk mO_bin mO_binb mO_binp mO_bins mO_neg mO_com mO_not mO_conv mO_mk mO_mk0 mO_s2b mO_b2s mO_cpy mO_cut mO_faddr mO_fld mO_iaddr mO_iaddrf mO_sidx mO_len mO_lenf mO_slen mO_scut mO_app mO_ext mO_mx mO_mn mO_mkfn evalOp cutOp argsE ev getE putE cellsOf adopt rowOf binV boolV nilV ar_add ar_sub ar_mul ar_quo ar_rem ar_eq ar_ne ar_lt ar_le ar_gt ar_ge ar_and ar_or ar_xor geto bound finRet finNrm ints List.length_cons List.length_nil List.length_append List.getElem?_cons_zero List.getElem?_cons_succ List.nil_append List.cons_append List.map_cons List.map_nil List.mapM_cons List.mapM_nil Option.map_some Option.map_none Option.bind_some Option.pure_def Option.bind_eq_bind List.drop_zero or_self or_false false_or or_true true_or true_and and_true and_self decide_true decide_false Bool.false_eq_true Bool.true_eq_false Bool.not_true Bool.not_false Nat.le_refl eq_self gt_iff_lt ge_iff_le ne_eq not_true_eq_false not_false_eq_true storeOp apartOf freeze_nil refsL refs List.flatMap_cons List.flatMap_nil List.append_nil List.contains_nil List.set_cons_zero List.set_cons_succ snap snapL fill_nums flat_nums nums_length Go.V.freeze List.mapIdx_cons List.mapIdx_nil List.contains_cons Bool.or_false Bool.false_or Bool.or_true Bool.true_or
/-- A whole number of 64 bits as an exact one. -/
def zR (z : Int) : Rt := (decide (z < 0), z.natAbs, 1)
theorem ratC_zR {z : Int} (hz : In64 z) : ratC z = rtC (zR z) := by
  obtain ⟨h1, h2⟩ := hz
  rw [ratC, lim_limG (by omega)]
  show _ = [us32 (limG z.natAbs), AV.bool (decide (z < 0)), us32 (limG 1)]
  rw [limG_one (d := 1) (by omega) (by omega)]
  rfl
theorem ratsC_zR {l : List Int} (hl : ∀ z ∈ l, In64 z) : ratsC l = rtsC (l.map zR) := by
  induction l with
  | nil => rfl
  | cons z l ih =>
    have e1 : ratsC (z :: l) = ratC z ++ ratsC l := by simp [ratsC]
    have e2 : rtsC ((z :: l).map zR) = rtC (zR z) ++ rtsC (l.map zR) := by simp [rtsC]
    rw [e1, e2, ratC_zR (hl z (by simp)), ih fun y hy => hl y (by simp [hy])]
theorem arrV_X {s l : List Int} (hl : ∀ z ∈ l, In64 z) : arrV s l = arrX s false [] (l.map zR) := by
  rw [arrV, arrX, ratsC_zR hl, List.length_map]
  rfl
theorem rint_zR {z : Int} (hz : In64 z) : rint (zR z) = some z := by
  obtain ⟨h1, h2⟩ := hz
  have hd : dn (zR z).2.2 = 1 := rfl
  rw [rint, if_pos hd]
  show wint (decide (z < 0)) z.natAbs = some z
  by_cases h : z < 0
  · rw [decide_eq_true h, wint, if_pos rfl, if_pos (by omega)]
    congr 1; omega
  · rw [decide_eq_false h, wint, if_neg (by simp), if_pos (by omega)]
    congr 1; omega
theorem rv_zR {z : Int} (hz : In64 z) : rv (zR z) = z := rv_of (rint_zR hz)
theorem map_rv_zR {l : List Int} (hl : ∀ z ∈ l, In64 z) : (l.map zR).map rv = l := by
  rw [List.map_map]
  conv => rhs; rw [← List.map_id l]
  exact List.map_congr_left fun x hx => rv_zR (hl x hx)
theorem wint_64 {n : Bool} {p : Nat} {z : Int} (h : wint n p = some z) : In64 z := by
  unfold wint at h
  split at h
  · split at h
    · simp at h; subst h; unfold In64; omega
    · cases h
  · split at h
    · simp at h; subst h; unfold In64; omega
    · cases h
theorem rv_64 {x : Rt} : In64 (rv x) := by
  unfold rv
  cases h : rint x with
  | none => exact ⟨by decide, by decide⟩
  | some z =>
    unfold rint at h
    split at h
    · exact wint_64 h
    · cases h
/-- Are its elements whole numbers? -/
def wholeB (ch : Bool) (t : List Int) (L : List Rt) : Bool := !(ch && decide (0 < t.length + L.length)) && L.all fun x => (rint x).isSome
theorem wholeB_iff {ch : Bool} {t : List Int} {L : List Rt} : wholeB ch t L = true ↔ ¬ (ch = true ∧ 0 < t.length + L.length) ∧ WhO L := by
  unfold wholeB WhO
  simp only [Bool.and_eq_true, Bool.not_eq_true', List.all_eq_true]
  refine and_congr_left' ?_
  cases ch <;> simp
def lisV (s : List Int) (ch : Bool) (t : List Int) (L : List Rt) : List Int := if s.length ≤ 1 ∧ wholeB ch t L = true then L.map rv else []
def lisE (s : List Int) (ch : Bool) (t : List Int) (L : List Rt) : Int := if 1 < s.length then 23 else if wholeB ch t L = true then 0 else 22
/-- No array of the page. -/
def noP : List AV := plX [] false [] []
/-- What is the same is shown. -/
theorem c32_yes {s t : List Int} {ch : Bool} {L : List Rt} (hs : (s.length : Int) ≤ 1000000000) (ht : (t.length : Int) ≤ 1000000000) (hl : (L.length : Int) ≤ 1000000000) (hlk : ∀ x ∈ L, RtOk x) :
    Go.V.Call tab E 32 [.agg (arrX s ch t L), .int .i64 0, .agg (plX s ch t (L.map toNm)), .int .i64 0] [] (.bool true) [] := by
  refine Go.V.Call.mach i32 c32 rfl rfl rfl rfl ?_
  have hlm : (L.map toNm).length = L.length := by simp
  have hu : ∀ x ∈ L.map toNm, NmU x := fun z hz => by
    obtain ⟨x, hx, rfl⟩ := List.mem_map.1 hz
    exact ⟨(decL_dig _).u8, (decL_dig _).u8, (hlk x hx).len.1, (hlk x hx).len.2⟩
  have h31 := c35_X (s := s) (t := t) (l := L) (ch := ch) (by omega) (by omega) (by omega) hlk
  have h29 := c33_gen (s := s) (s' := s) (t := t) (t' := t) (l := L.map toNm) (l' := L.map toNm) (ch := ch) (ch' := ch) (by omega) (by omega) (by omega) (by omega) (by omega) (by omega) hu hu
  rw [decide_eq_true ⟨rfl, rfl, rfl, rfl⟩] at h29
  simp only [plX, arrX, runes, ints] at h31 h29
  simp only [c32, plX, arrX, runes, ints, go_sem, ↓reduceIte, Nat.reduceEqDiff, Nat.reduceAdd, Nat.reduceMul, Nat.reduceLeDiff, Nat.reduceLT, Int.reduceToNat, Int.reduceLT, Int.reduceLE, reduceCtorEq, Nat.reduceBEq, fillAll, fillIn, shiftR, shiftV, List.take_succ_cons, List.take_zero, List.drop_succ_cons, List.drop_zero, List.append_nil, Nat.zero_add, subA5, subP4, bne_self_eq_false]
  refine goP h31 ?_
  simp only [go_sem, ↓reduceIte, Nat.reduceEqDiff, Nat.reduceAdd, Nat.reduceMul, Nat.reduceLeDiff, Nat.reduceLT, Int.reduceToNat, Int.reduceLT, Int.reduceLE, reduceCtorEq, Nat.reduceBEq, fillAll, fillIn, shiftR, shiftV, List.take_succ_cons, List.take_zero, List.drop_succ_cons, List.drop_zero, List.append_nil, Nat.zero_add, subA5, subP4]
  refine goP h29 ?_
  simp only [go_sem, ↓reduceIte, Nat.reduceEqDiff, Nat.reduceAdd, Nat.reduceMul, Nat.reduceLeDiff, Nat.reduceLT, Int.reduceToNat, Int.reduceLT, Int.reduceLE, reduceCtorEq, Nat.reduceBEq]
  simp only [i32, Out, resAll, geto, ints, List.getElem?_cons_zero, List.getElem?_cons_succ, resOf, outOf, snap, snapL, ev, getE, List.mapM_cons, List.mapM_nil, Option.bind_some, Option.pure_def, Option.bind_eq_bind, Option.map_some, reduceIte, Nat.reduceEqDiff, true_and, and_true]
theorem c27_ok {s t : List Int} {l : List Nm} {ch ok : Bool} (hs : ∀ d ∈ s, In64 d) (hu : ∀ x ∈ l, U8 x.2.1 ∧ U8 x.2.2) (hok : ok = true ↔ LightP s ch t l 250) : Go.V.Call tab E 27 [.agg (plX s ch t l)] [] (.bool ok) [] := by
  refine Go.V.Call.mach i27 c27 rfl rfl rfl rfl ?_
  have h := c17_ok (s := s) (t := t) (l := l) (ch := ch) (ok := ok) (most := 250) (by omega) hs hu hok
  simp only [plX, runes, ints] at h
  simp only [c27, plX, runes, ints, go_sem, ↓reduceIte, Nat.reduceEqDiff, Nat.reduceAdd, Nat.reduceMul, Nat.reduceLeDiff, Nat.reduceLT, Int.reduceToNat, Int.reduceLT, Int.reduceLE, reduceCtorEq, Nat.reduceBEq, fillAll, fillIn, shiftR, shiftV, List.take_succ_cons, List.take_zero, List.drop_succ_cons, List.drop_zero, List.append_nil, Nat.zero_add, subP4]
  refine goP h ?_
  simp only [go_sem, ↓reduceIte, Nat.reduceEqDiff, Nat.reduceAdd, Nat.reduceMul, Nat.reduceLeDiff, Nat.reduceLT, Int.reduceToNat, Int.reduceLT, Int.reduceLE, reduceCtorEq, Nat.reduceBEq]
  simp only [i27, Out, resAll, geto, ints, List.getElem?_cons_zero, List.getElem?_cons_succ, resOf, outOf, snap, snapL, ev, getE, List.mapM_cons, List.mapM_nil, Option.bind_some, Option.pure_def, Option.bind_eq_bind, Option.map_some, reduceIte, Nat.reduceEqDiff, true_and, and_true]
/-- The axis, and whether there is one. -/
def axA (s : List Int) (a : Int) : Int := if a < 0 then (s.length : Int) - 1 else a
def axB (s : List Int) (a : Int) : Bool := decide (0 ≤ axA s a) && decide (axA s a < (s.length : Int))
theorem c11_X {l : List Int} (hl : (l.length : Int) ≤ 1000000000000) (hz : ∀ z ∈ l, In64 z) : Go.V.Call tab E 11 [ints l] [] (.agg (arrX [(l.length : Int)] false [] (l.map zR))) [] := by
  rw [← arrV_X hz]
  exact c11_ok hl hz
theorem c30_ok {s t : List Int} {ch : Bool} {L : List Rt} (hs : ∀ d ∈ s, In64 d) (hsl : (s.length : Int) ≤ 1000000000) : Go.V.Call tab E 30 [.agg (arrX s ch t L)] [] (.agg (arrX [(s.length : Int)] false [] (s.map zR))) [] := by
  refine Go.V.Call.mach i30 c30 rfl rfl rfl rfl ?_
  have h48 := c44_X (s := s) (t := t) (l := L) (ch := ch) (by omega)
  have h45 := c11_X (l := s) (by omega) hs
  simp only [arrX, runes, ints] at h48 h45
  simp only [c30, arrX, runes, ints, go_sem, ↓reduceIte, Nat.reduceEqDiff, Nat.reduceAdd, Nat.reduceMul, Nat.reduceLeDiff, Nat.reduceLT, Int.reduceToNat, Int.reduceLT, Int.reduceLE, reduceCtorEq, Nat.reduceBEq, fillAll, fillIn, shiftR, shiftV, List.take_succ_cons, List.take_zero, List.drop_succ_cons, List.drop_zero, List.append_nil, Nat.zero_add, subA5]
  refine goP h48 ?_
  simp only [go_sem, ↓reduceIte, Nat.reduceEqDiff, Nat.reduceAdd, Nat.reduceMul, Nat.reduceLeDiff, Nat.reduceLT, Int.reduceToNat, Int.reduceLT, Int.reduceLE, reduceCtorEq, Nat.reduceBEq, fillAll, fillIn, shiftR, shiftV, List.take_succ_cons, List.take_zero, List.drop_succ_cons, List.drop_zero, List.append_nil, Nat.zero_add, subA5]
  refine goP h45 ?_
  simp only [go_sem, ↓reduceIte, Nat.reduceEqDiff, Nat.reduceAdd, Nat.reduceMul, Nat.reduceLeDiff, Nat.reduceLT, Int.reduceToNat, Int.reduceLT, Int.reduceLE, reduceCtorEq, Nat.reduceBEq, fillAll, fillIn, shiftR, shiftV, List.take_succ_cons, List.take_zero, List.drop_succ_cons, List.drop_zero, List.append_nil, Nat.zero_add, subA5]
  simp only [i30, Out, resAll, geto, ints, List.getElem?_cons_zero, List.getElem?_cons_succ, resOf, outOf, snap, snapL, ev, getE, List.mapM_cons, List.mapM_nil, Option.bind_some, Option.pure_def, Option.bind_eq_bind, Option.map_some, reduceIte, Nat.reduceEqDiff, true_and, and_true, subA5]
theorem c84_ok {s t s' ks : List Int} {L : List Rt} {ch : Bool} (hs : ∀ d ∈ s', In64 d) (hsl : (s'.length : Int) ≤ 1000000000000) (ht : (t.length : Int) ≤ 1000000000000) (hl : (L.length : Int) ≤ 1000000000000) (hks : (ks.length : Int) ≤ 1000000000) :
    Go.V.Call tab E 84 [.agg (arrX s ch t L), ints s', ints ks] [] (.tup [.agg (if fits s' ks.length then arrX s' ch (picksT ch t ks) (picksR ch L ks) else noA), .int .i64 (if fits s' ks.length then 0 else 26)]) [] := by
  refine Go.V.Call.mach i84 c84 rfl rfl rfl rfl ?_
  have h49 := c64_ok (s := s) (t := t) (s' := s') (ks := ks) (l := L) (ch := ch) hs hsl ht hl hks
  simp only [arrX, runes, ints] at h49
  cases hf : fits s' ks.length with
  | true =>
    rw [hf] at h49
    simp only [if_true] at h49
    simp only [c84, arrX, runes, ints, go_sem, ↓reduceIte, Nat.reduceEqDiff, Nat.reduceAdd, Nat.reduceMul, Nat.reduceLeDiff, Nat.reduceLT, Int.reduceToNat, Int.reduceLT, Int.reduceLE, reduceCtorEq, Nat.reduceBEq, fillAll, fillIn, shiftR, shiftV, List.take_succ_cons, List.take_zero, List.drop_succ_cons, List.drop_zero, List.append_nil, Nat.zero_add, subA5]
    refine goP h49 ?_
    simp only [go_sem, ↓reduceIte, Nat.reduceEqDiff, Nat.reduceAdd, Nat.reduceMul, Nat.reduceLeDiff, Nat.reduceLT, Int.reduceToNat, Int.reduceLT, Int.reduceLE, reduceCtorEq, Nat.reduceBEq, fillAll, fillIn, shiftR, shiftV, List.take_succ_cons, List.take_zero, List.drop_succ_cons, List.drop_zero, List.append_nil, Nat.zero_add, subA5]
    simp only [i84, Out, resAll, geto, ints, List.getElem?_cons_zero, List.getElem?_cons_succ, resOf, outOf, snap, snapL, ev, getE, List.mapM_cons, List.mapM_nil, Option.bind_some, Option.pure_def, Option.bind_eq_bind, Option.map_some, reduceIte, Nat.reduceEqDiff, true_and, and_true, subA5, if_true, arrX, runes, ints]
  | false =>
    rw [hf] at h49
    simp only [Bool.false_eq_true, if_false, noA] at h49
    simp only [c84, arrX, runes, ints, go_sem, ↓reduceIte, Nat.reduceEqDiff, Nat.reduceAdd, Nat.reduceMul, Nat.reduceLeDiff, Nat.reduceLT, Int.reduceToNat, Int.reduceLT, Int.reduceLE, reduceCtorEq, Nat.reduceBEq, fillAll, fillIn, shiftR, shiftV, List.take_succ_cons, List.take_zero, List.drop_succ_cons, List.drop_zero, List.append_nil, Nat.zero_add, subA5]
    refine goP h49 ?_
    simp only [go_sem, ↓reduceIte, Nat.reduceEqDiff, Nat.reduceAdd, Nat.reduceMul, Nat.reduceLeDiff, Nat.reduceLT, Int.reduceToNat, Int.reduceLT, Int.reduceLE, reduceCtorEq, Nat.reduceBEq, fillAll, fillIn, shiftR, shiftV, List.take_succ_cons, List.take_zero, List.drop_succ_cons, List.drop_zero, List.append_nil, Nat.zero_add, subA5]
    simp only [i84, Out, resAll, geto, ints, List.getElem?_cons_zero, List.getElem?_cons_succ, resOf, outOf, snap, snapL, ev, getE, List.mapM_cons, List.mapM_nil, Option.bind_some, Option.pure_def, Option.bind_eq_bind, Option.map_some, reduceIte, Nat.reduceEqDiff, true_and, and_true, subA5, Bool.false_eq_true, if_false, noA]
theorem c82_ok {s t : List Int} {ch : Bool} {L : List Rt} (hs : (s.length : Int) ≤ 1000000000) (ht : (t.length : Int) ≤ 1000000000000) (hl : (L.length : Int) ≤ 1000000000000) :
    Go.V.Call tab E 82 [.agg (arrX s ch t L)] [] (.tup [.arr 0 0, .int .i64 (lisE s ch t L)]) [rowI (lisV s ch t L)] := by
  refine Go.V.Call.mach i82 c82 rfl rfl rfl rfl ?_
  have h56 := c66_X (s := s) (t := t) (l := L) (ch := ch) (by omega)
  have h100 := c91_X (s := s) (t := t) (l := L) (ch := ch) (ok := wholeB ch t L) ht hl wholeB_iff
  simp only [arrX, runes, ints] at h56 h100
  by_cases h1 : (1 : Int) < (s.length : Int)
  · have hE : lisE s ch t L = 23 := if_pos (by omega)
    have hV : lisV s ch t L = [] := if_neg (by omega)
    simp only [c82, arrX, runes, ints, go_sem, ↓reduceIte, Nat.reduceEqDiff, Nat.reduceAdd, Nat.reduceMul, Nat.reduceLeDiff, Nat.reduceLT, Int.reduceToNat, Int.reduceLT, Int.reduceLE, reduceCtorEq, Nat.reduceBEq, fillAll, fillIn, shiftR, shiftV, List.take_succ_cons, List.take_zero, List.drop_succ_cons, List.drop_zero, List.append_nil, Nat.zero_add, subA5]
    refine goP h56 ?_
    simp only [go_sem, ↓reduceIte, Nat.reduceEqDiff, Nat.reduceAdd, Nat.reduceMul, Nat.reduceLeDiff, Nat.reduceLT, Int.reduceToNat, Int.reduceLT, Int.reduceLE, reduceCtorEq, Nat.reduceBEq, fillAll, fillIn, shiftR, shiftV, List.take_succ_cons, List.take_zero, List.drop_succ_cons, List.drop_zero, List.append_nil, Nat.zero_add, subA5, h1]
    simp only [i82, Out, resAll, geto, ints, List.getElem?_cons_zero, List.getElem?_cons_succ, resOf, outOf, snap, snapL, ev, getE, List.mapM_cons, List.mapM_nil, Option.bind_some, Option.pure_def, Option.bind_eq_bind, Option.map_some, reduceIte, Nat.reduceEqDiff, true_and, and_true, ownOut, ownL, ownV, scalar, List.contains_nil, List.length_nil, List.length_cons, List.nil_append, List.cons_append, storeOp, apartOf, freeze_nil, refsL, refs, List.flatMap_cons, List.flatMap_nil, List.append_nil, List.contains_nil, List.set_cons_zero, List.set_cons_succ, snap, snapL, fill_nums, flat_nums, nums_length, reduceCtorEq, Bool.false_eq_true, and_self, not_false_eq_true, beq_self_eq_true, Nat.zero_add, hE, hV]
    rfl
  · cases hw : wholeB ch t L with
    | true =>
      have hE : lisE s ch t L = 0 := by rw [lisE, if_neg (by omega), if_pos hw]
      have hV : lisV s ch t L = L.map rv := if_pos ⟨by omega, hw⟩
      rw [hw] at h100
      simp only [if_true, rowI] at h100
      simp only [c82, arrX, runes, ints, go_sem, ↓reduceIte, Nat.reduceEqDiff, Nat.reduceAdd, Nat.reduceMul, Nat.reduceLeDiff, Nat.reduceLT, Int.reduceToNat, Int.reduceLT, Int.reduceLE, reduceCtorEq, Nat.reduceBEq, fillAll, fillIn, shiftR, shiftV, List.take_succ_cons, List.take_zero, List.drop_succ_cons, List.drop_zero, List.append_nil, Nat.zero_add, subA5]
      refine goP h56 ?_
      simp only [go_sem, ↓reduceIte, Nat.reduceEqDiff, Nat.reduceAdd, Nat.reduceMul, Nat.reduceLeDiff, Nat.reduceLT, Int.reduceToNat, Int.reduceLT, Int.reduceLE, reduceCtorEq, Nat.reduceBEq, fillAll, fillIn, shiftR, shiftV, List.take_succ_cons, List.take_zero, List.drop_succ_cons, List.drop_zero, List.append_nil, Nat.zero_add, subA5, h1]
      refine goO h100 rfl rfl ?_
      simp only [go_sem, ↓reduceIte, Nat.reduceEqDiff, Nat.reduceAdd, Nat.reduceMul, Nat.reduceLeDiff, Nat.reduceLT, Int.reduceToNat, Int.reduceLT, Int.reduceLE, reduceCtorEq, Nat.reduceBEq, fillAll, fillIn, shiftR, shiftV, List.take_succ_cons, List.take_zero, List.drop_succ_cons, List.drop_zero, List.append_nil, Nat.zero_add, subA5]
      simp only [i82, Out, resAll, geto, ints, List.getElem?_cons_zero, List.getElem?_cons_succ, resOf, outOf, snap, snapL, ev, getE, List.mapM_cons, List.mapM_nil, Option.bind_some, Option.pure_def, Option.bind_eq_bind, Option.map_some, reduceIte, Nat.reduceEqDiff, true_and, and_true, ownOut, ownL, ownV, scalar, List.contains_nil, List.length_nil, List.length_cons, List.nil_append, List.cons_append, storeOp, apartOf, freeze_nil, refsL, refs, List.flatMap_cons, List.flatMap_nil, List.append_nil, List.contains_nil, List.set_cons_zero, List.set_cons_succ, snap, snapL, fill_nums, flat_nums, nums_length, reduceCtorEq, Bool.false_eq_true, and_self, not_false_eq_true, beq_self_eq_true, Nat.zero_add, hE, hV]
      rfl
    | false =>
      have hE : lisE s ch t L = 22 := by rw [lisE, if_neg (by omega), if_neg (by rw [hw]; simp)]
      have hV : lisV s ch t L = [] := if_neg (by rw [hw]; simp)
      rw [hw] at h100
      simp only [Bool.false_eq_true, if_false, rowI] at h100
      simp only [c82, arrX, runes, ints, go_sem, ↓reduceIte, Nat.reduceEqDiff, Nat.reduceAdd, Nat.reduceMul, Nat.reduceLeDiff, Nat.reduceLT, Int.reduceToNat, Int.reduceLT, Int.reduceLE, reduceCtorEq, Nat.reduceBEq, fillAll, fillIn, shiftR, shiftV, List.take_succ_cons, List.take_zero, List.drop_succ_cons, List.drop_zero, List.append_nil, Nat.zero_add, subA5]
      refine goP h56 ?_
      simp only [go_sem, ↓reduceIte, Nat.reduceEqDiff, Nat.reduceAdd, Nat.reduceMul, Nat.reduceLeDiff, Nat.reduceLT, Int.reduceToNat, Int.reduceLT, Int.reduceLE, reduceCtorEq, Nat.reduceBEq, fillAll, fillIn, shiftR, shiftV, List.take_succ_cons, List.take_zero, List.drop_succ_cons, List.drop_zero, List.append_nil, Nat.zero_add, subA5, h1]
      refine goO h100 rfl rfl ?_
      simp only [go_sem, ↓reduceIte, Nat.reduceEqDiff, Nat.reduceAdd, Nat.reduceMul, Nat.reduceLeDiff, Nat.reduceLT, Int.reduceToNat, Int.reduceLT, Int.reduceLE, reduceCtorEq, Nat.reduceBEq, fillAll, fillIn, shiftR, shiftV, List.take_succ_cons, List.take_zero, List.drop_succ_cons, List.drop_zero, List.append_nil, Nat.zero_add, subA5]
      simp only [i82, Out, resAll, geto, ints, List.getElem?_cons_zero, List.getElem?_cons_succ, resOf, outOf, snap, snapL, ev, getE, List.mapM_cons, List.mapM_nil, Option.bind_some, Option.pure_def, Option.bind_eq_bind, Option.map_some, reduceIte, Nat.reduceEqDiff, true_and, and_true, ownOut, ownL, ownV, scalar, List.contains_nil, List.length_nil, List.length_cons, List.nil_append, List.cons_append, storeOp, apartOf, freeze_nil, refsL, refs, List.flatMap_cons, List.flatMap_nil, List.append_nil, List.contains_nil, List.set_cons_zero, List.set_cons_succ, snap, snapL, fill_nums, flat_nums, nums_length, reduceCtorEq, Bool.false_eq_true, and_self, not_false_eq_true, beq_self_eq_true, Nat.zero_add, hE, hV]
      rfl
end Go.Proofs.Ytlejgleocnemoaa.I

/- SEAT YtlejgleocnemoaaGreat. Layer 8: other shapes; MoldShapes. -/
set_option linter.unusedVariables false
set_option linter.unusedSimpArgs false
namespace Go.Proofs.Ytlejgleocnemoaa.I
open Go Go.V
attribute [local go_sem] mNil nat0 beq_self_eq_true mSkip mRet mExit mReg mSeq mCond mTrue mFalse mBlock mLv mCodeE mCodeR mEndN mEndR mEndE mOps mSome mGuard mGtt mGff mGtf mGft mGu mCallP mCallR mCallF mCallO mCallZ mCallG mCallM mCallV loopQ_exit loopQ_ret mO_mov mO_newnil mO_pick mO_alloc mO_box mO_build mO_bsl mO_bslF mO_ldf mO_ld mO_st mO_sta mO_nilchk mO_bin mO_binb mO_binp mO_bins mO_neg mO_com mO_not mO_conv mO_mk mO_mk0 mO_s2b mO_b2s mO_cpy mO_cut mO_faddr mO_fld mO_iaddr mO_iaddrf mO_sidx mO_len mO_lenf mO_slen mO_scut mO_app mO_ext mO_mx mO_mn mO_mkfn evalOp cutOp argsE ev getE putE cellsOf adopt rowOf binV boolV nilV ar_add ar_sub ar_mul ar_quo ar_rem ar_eq ar_ne ar_lt ar_le ar_gt ar_ge ar_and ar_or ar_xor geto bound finRet finNrm ints List.length_cons List.length_nil List.length_append List.getElem?_cons_zero List.getElem?_cons_succ List.nil_append List.cons_append List.map_cons List.map_nil List.mapM_cons List.mapM_nil Option.map_some Option.map_none Option.bind_some Option.pure_def Option.bind_eq_bind List.drop_zero or_self or_false false_or or_true true_or true_and and_true and_self decide_true decide_false Bool.false_eq_true Bool.true_eq_false Bool.not_true Bool.not_false Nat.le_refl eq_self gt_iff_lt ge_iff_le ne_eq not_true_eq_false not_false_eq_true storeOp apartOf freeze_nil refsL refs List.flatMap_cons List.flatMap_nil List.append_nil List.contains_nil List.set_cons_zero List.set_cons_succ snap snapL fill_nums flat_nums nums_length Go.V.freeze List.mapIdx_cons List.mapIdx_nil List.contains_cons Bool.or_false Bool.false_or Bool.or_true Bool.true_or
theorem count_nat {s : List Int} {m : Int} (h : count s = some m) : ∃ n : Nat, m = n ∧ n ≤ 4096 ∧ s.length ≤ 8 ∧ prd s = n := by
  obtain ⟨h1, h2, h3⟩ := count_bound h
  have h4 := h3 s.length
  rw [List.take_length, ← count_prd h] at h4
  exact ⟨m.toNat, by omega, by omega, h1, by rw [← count_prd h]; omega⟩
theorem fits_of {s : List Int} {n : Nat} (h : count s = some (n : Int)) : fits s n = true := by rw [fits, h]; simp
/-- A row that is filled from its start on. -/
theorem fill_row {ks : List Int} {i n : Nat} (hn : ks.length = n) (hi : i < n) : (ks.take i ++ List.replicate (n - i) 0).take i ++ ks.getD i 0 :: (ks.take i ++ List.replicate (n - i) 0).drop (i + 1) = ks.take (i + 1) ++ List.replicate (n - (i + 1)) 0 := by
  have h1 : (ks.take i).length = i := by rw [List.length_take]; omega
  rw [List.take_left' h1, List.drop_append, h1, List.drop_eq_nil_of_le (by omega), List.nil_append, List.drop_replicate, take_snoc (by omega), List.append_assoc]
  rw [show n - i - (i + 1 - i) = n - (i + 1) by omega]
  rfl
theorem row_len {ks : List Int} {i n : Nat} (hn : ks.length = n) (hi : i ≤ n) : (ks.take i ++ List.replicate (n - i) 0).length = n := by
  rw [List.length_append, List.length_take, List.length_replicate]; omega
theorem set_twice {y : List Int} {m : Nat} {v u : Int} (h : m < y.length) : (y.take m ++ v :: y.drop (m + 1)).take m ++ u :: (y.take m ++ v :: y.drop (m + 1)).drop (m + 1) = y.take m ++ u :: y.drop (m + 1) := by
  have h1 : (y.take m).length = m := by rw [List.length_take]; omega
  rw [List.take_left' h1, List.drop_append, h1, List.drop_eq_nil_of_le (by omega), List.nil_append, show m + 1 - m = 1 by omega]
  rfl
/-- An array of picks, or none. -/
def outA (e : Int) (s ks : List Int) (ch : Bool) (t : List Int) (L : List Rt) : List AV := if e = 0 then arrX s ch (picksT ch t ks) (picksR ch L ks) else noA
def outP (e : Int) (s ks : List Int) (ch : Bool) (t : List Int) (l : List Nm) : List AV := if e = 0 then plX s ch (picksT ch t ks) (picksN ch l ks) else noP
def negB (w : List Int) : Bool := w.any fun d => decide (d < 0)
def resE (e0 : Int) (w : List Int) : Int := if e0 ≠ 0 then e0 else if negB w = true then 22 else match count w with | none => if 8 < w.length then 23 else 26 | some _ => 0
def cyc (w : List Int) (len : Nat) : List Int := (List.range (prd w).toNat).map fun i => if len = 0 then (-1 : Int) else ((i % len : Nat) : Int)
theorem cyc_len {w : List Int} {len : Nat} : (cyc w len).length = (prd w).toNat := by simp [cyc]
theorem cyc_get {w : List Int} {len i : Nat} (h : i < (prd w).toNat) : (cyc w len).getD i 0 = if len = 0 then (-1 : Int) else ((i % len : Nat) : Int) := by simp [cyc, List.getD, h]
theorem negB_take {w : List Int} {i : Nat} (h : ∀ d ∈ w.take i, 0 ≤ d) (hi : i < w.length) (hd : w.getD i 0 < 0) : negB w = true := by
  rw [negB, List.any_eq_true]
  exact ⟨w.getD i 0, by simp [List.getD, hi], by simpa using hd⟩
theorem negB_no {w : List Int} (h : ∀ d ∈ w, 0 ≤ d) : negB w = false := by
  rw [← Bool.not_eq_true, negB, List.any_eq_true]
  rintro ⟨d, hd, hn⟩
  have := h d hd
  simp at hn
  omega
set_option maxHeartbeats 1000000 in
theorem c29_ok {sb tb s t : List Int} {cb ch : Bool} {Lb L : List Rt} (hsb : (sb.length : Int) ≤ 1000000000) (htb : (tb.length : Int) ≤ 1000000000) (hlb : (Lb.length : Int) ≤ 1000000000)
    (hs : (s.length : Int) ≤ 1000000000) (ht : (t.length : Int) ≤ 1000000000) (hl : (L.length : Int) ≤ 1000000000) :
    Go.V.Call tab E 29 [.agg (arrX sb cb tb Lb), .agg (arrX s ch t L)] [] (.tup [.agg (outA (resE (lisE sb cb tb Lb) (lisV sb cb tb Lb)) (lisV sb cb tb Lb) (cyc (lisV sb cb tb Lb) (t.length + L.length)) ch t L), .int .i64 (resE (lisE sb cb tb Lb) (lisV sb cb tb Lb))]) [] := by
  refine Go.V.Call.mach i29 c29 rfl rfl rfl rfl ?_
  have h89 := c82_ok (s := sb) (t := tb) (ch := cb) (L := Lb) hsb (by omega) (by omega)
  have hw64 : ∀ d ∈ lisV sb cb tb Lb, In64 d := fun d hd => by
    unfold lisV at hd
    split at hd
    · obtain ⟨x, _, rfl⟩ := List.mem_map.1 hd; exact rv_64
    · simp at hd
  have hwl : ((lisV sb cb tb Lb).length : Int) ≤ 1000000000 := by
    unfold lisV
    split <;> simp <;> omega
  have h55 := c23_X (s := s) (t := t) (l := L) (ch := ch) (by omega) (by omega)
  generalize hwd : lisV sb cb tb Lb = w at *
  generalize hed : lisE sb cb tb Lb = e0 at *
  clear hwd hed
  obtain ⟨len, hlen⟩ : ∃ len, len = t.length + L.length := ⟨_, rfl⟩
  rw [← hlen] at h55 ⊢
  simp only [arrX, runes, ints, rowI] at h89 h55
  by_cases he : e0 = 0
  · subst he
    have q0 : ((0 : Int) != 0) = false := rfl
    simp only [c29, arrX, runes, ints, go_sem, ↓reduceIte, Nat.reduceEqDiff, Nat.reduceAdd, Nat.reduceMul, Nat.reduceLeDiff, Nat.reduceLT, Int.reduceToNat, Int.reduceLT, Int.reduceLE, reduceCtorEq, Nat.reduceBEq, fillAll, fillIn, shiftR, shiftV, List.take_succ_cons, List.take_zero, List.drop_succ_cons, List.drop_zero, List.append_nil, Nat.zero_add, subA5]
    refine goO h89 rfl rfl ?_
    simp only [go_sem, ↓reduceIte, Nat.reduceEqDiff, Nat.reduceAdd, Nat.reduceMul, Nat.reduceLeDiff, Nat.reduceLT, Int.reduceToNat, Int.reduceLT, Int.reduceLE, reduceCtorEq, Nat.reduceBEq, fillAll, fillIn, shiftR, shiftV, List.take_succ_cons, List.take_zero, List.drop_succ_cons, List.drop_zero, List.append_nil, Nat.zero_add, subA5, q0]
    refine mLoop (fun N st => ∃ i : Nat, i ≤ w.length ∧ N = w.length - i ∧ (∀ d ∈ w.take i, 0 ≤ d) ∧
      st = ⟨[(3, .loc 1 0 0), (4, .loc 5 0 0), (6, .arr 6 0), (23, .arr 6 0), (24, .int .i64 w.length), (25, .int .i64 i)],
        [⟨true, 28, 5, 0, 1, arrX sb cb tb Lb, false⟩, ⟨true, 28, 5, 0, 1, arrX s ch t L, false⟩, ⟨false, 3, 1, 0, 0, [], false⟩, ⟨false, 21, 1, 0, 0, [], false⟩, ⟨false, 59, 3, 0, 0, [], false⟩,
         ⟨true, 28, 5, 0, 1, [.arr 2 0, .bool false, .arr 3 0, .arr 4 0, .bool false], false⟩, ⟨false, 3, 1, 0, w.length, nums .i64 w, false⟩]⟩) w.length
      ⟨_, rfl, 0, by omega, by omega, fun x hx => by simp at hx, by simp [getE, arrX, runes, ints]⟩ ?_
    rintro N s0 ⟨i, hi, rfl, hneg, rfl⟩
    by_cases hlt : i < w.length
    · have hlt' : (i : Int) < (w.length : Int) := by omega
      have hi0 : (0 : Int) ≤ (i : Int) := by omega
      have hi1 : IntKind.i64.wrap ((i : Int) + 1) = ((i + 1 : Nat) : Int) := by rw [wrap_i64 (by omega) (by omega)]; omega
      have hsub := sub_nums (k := .i64) hlt
      by_cases hd : w.getD i 0 < 0
      · have hr : resE 0 w = 22 := by rw [resE, if_neg (by omega), if_pos (negB_take hneg hlt hd)]
        simp only [b29_0, arrX, runes, ints, go_sem, ↓reduceIte, Nat.reduceEqDiff, Nat.reduceAdd, Nat.reduceMul, Nat.reduceLeDiff, Nat.reduceLT, Int.reduceToNat, Int.reduceLT, Int.reduceLE, reduceCtorEq, Nat.reduceBEq, fillAll, fillIn, shiftR, shiftV, List.take_succ_cons, List.take_zero, List.drop_succ_cons, List.drop_zero, List.append_nil, Nat.zero_add, hlt', hi0, Int.toNat_natCast, hsub, hd]
        simp only [i29, Out, resAll, geto, ints, List.getElem?_cons_zero, List.getElem?_cons_succ, resOf, outOf, snap, snapL, ev, getE, List.mapM_cons, List.mapM_nil, Option.bind_some, Option.pure_def, Option.bind_eq_bind, Option.map_some, reduceIte, Nat.reduceEqDiff, true_and, and_true, subA5, hr, outA, noA]
        rfl
      · simp only [b29_0, arrX, runes, ints, go_sem, ↓reduceIte, Nat.reduceEqDiff, Nat.reduceAdd, Nat.reduceMul, Nat.reduceLeDiff, Nat.reduceLT, Int.reduceToNat, Int.reduceLT, Int.reduceLE, reduceCtorEq, Nat.reduceBEq, hlt', hi0, Int.toNat_natCast, hsub, hd, hi1]
        refine loopQ_go rfl (w.length - (i + 1)) (by omega) ⟨i + 1, by omega, rfl, ?_, by simp only [arrX, runes, ints]; rfl⟩
        intro d hdm
        rw [take_snoc hlt] at hdm
        rcases List.mem_append.1 hdm with h | h
        · exact hneg d h
        · have := List.mem_singleton.1 h; omega
    · have hlt' : ¬ (i : Int) < (w.length : Int) := by omega
      obtain rfl : i = w.length := by omega
      rw [List.take_length] at hneg
      have hnb := negB_no hneg
      have h90 := c83_ok (E := E) hw64 (by omega)
      simp only [ints] at h90
      cases hc : count w with
      | none =>
        rw [hc] at h90
        simp only [optP] at h90
        by_cases h8 : 8 < w.length
        · have h8' : (8 : Int) < (w.length : Int) := by omega
          have hr : resE 0 w = 23 := by rw [resE, if_neg (by omega), if_neg (by rw [hnb]; simp), hc]; exact if_pos h8
          simp only [b29_0, k29_1, arrX, runes, ints, go_sem, ↓reduceIte, Nat.reduceEqDiff, Nat.reduceAdd, Nat.reduceMul, Nat.reduceLeDiff, Nat.reduceLT, Int.reduceToNat, Int.reduceLT, Int.reduceLE, reduceCtorEq, Nat.reduceBEq, fillAll, fillIn, shiftR, shiftV, List.take_succ_cons, List.take_zero, List.drop_succ_cons, List.drop_zero, List.append_nil, Nat.zero_add, hlt', Int.lt_irrefl]
          refine goR h90 rfl ?_
          simp only [go_sem, ↓reduceIte, Nat.reduceEqDiff, Nat.reduceAdd, Nat.reduceMul, Nat.reduceLeDiff, Nat.reduceLT, Int.reduceToNat, Int.reduceLT, Int.reduceLE, reduceCtorEq, Nat.reduceBEq, fillAll, fillIn, shiftR, shiftV, List.take_succ_cons, List.take_zero, List.drop_succ_cons, List.drop_zero, List.append_nil, Nat.zero_add, h8']
          simp only [i29, Out, resAll, geto, ints, List.getElem?_cons_zero, List.getElem?_cons_succ, resOf, outOf, snap, snapL, ev, getE, List.mapM_cons, List.mapM_nil, Option.bind_some, Option.pure_def, Option.bind_eq_bind, Option.map_some, reduceIte, Nat.reduceEqDiff, true_and, and_true, subA5, hr, outA, noA]
          rfl
        · have h8' : ¬ (8 : Int) < (w.length : Int) := by omega
          have hr : resE 0 w = 26 := by rw [resE, if_neg (by omega), if_neg (by rw [hnb]; simp), hc]; exact if_neg h8
          simp only [b29_0, k29_1, arrX, runes, ints, go_sem, ↓reduceIte, Nat.reduceEqDiff, Nat.reduceAdd, Nat.reduceMul, Nat.reduceLeDiff, Nat.reduceLT, Int.reduceToNat, Int.reduceLT, Int.reduceLE, reduceCtorEq, Nat.reduceBEq, fillAll, fillIn, shiftR, shiftV, List.take_succ_cons, List.take_zero, List.drop_succ_cons, List.drop_zero, List.append_nil, Nat.zero_add, hlt', Int.lt_irrefl]
          refine goR h90 rfl ?_
          simp only [go_sem, ↓reduceIte, Nat.reduceEqDiff, Nat.reduceAdd, Nat.reduceMul, Nat.reduceLeDiff, Nat.reduceLT, Int.reduceToNat, Int.reduceLT, Int.reduceLE, reduceCtorEq, Nat.reduceBEq, fillAll, fillIn, shiftR, shiftV, List.take_succ_cons, List.take_zero, List.drop_succ_cons, List.drop_zero, List.append_nil, Nat.zero_add, h8']
          simp only [i29, Out, resAll, geto, ints, List.getElem?_cons_zero, List.getElem?_cons_succ, resOf, outOf, snap, snapL, ev, getE, List.mapM_cons, List.mapM_nil, Option.bind_some, Option.pure_def, Option.bind_eq_bind, Option.map_some, reduceIte, Nat.reduceEqDiff, true_and, and_true, subA5, hr, outA, noA]
          rfl
      | some m =>
        obtain ⟨n, rfl, hn4, hw8, hp⟩ := count_nat hc
        have hr : resE 0 w = 0 := by rw [resE, if_neg (by omega), if_neg (by rw [hnb]; simp), hc]
        rw [hc] at h90
        simp only [optP] at h90
        have hkl : (cyc w len).length = n := by rw [cyc_len, hp]; rfl
        have hkg : ∀ i, i < n → (cyc w len).getD i 0 = if len = 0 then (-1 : Int) else ((i % len : Nat) : Int) := fun i hi => cyc_get (by rw [hp]; exact hi)
        rw [hr]
        generalize cyc w len = ks at *
        have h91 := c84_ok (s := s) (t := t) (s' := w) (ks := ks) (L := L) (ch := ch) hw64 (by omega) (by omega) (by omega) (by omega)
        rw [hkl, fits_of hc] at h91
        simp only [if_true, arrX, runes, ints] at h91
        have b1 : (0 : Int) ≤ (n : Int) := by omega
        have b2 : 8 * n ≤ 140737488355328 := by omega
        have b3 : (n : Int) ≤ 140737488355328 := by omega
        simp only [b29_0, k29_1, arrX, runes, ints, go_sem, ↓reduceIte, Nat.reduceEqDiff, Nat.reduceAdd, Nat.reduceMul, Nat.reduceLeDiff, Nat.reduceLT, Int.reduceToNat, Int.reduceLT, Int.reduceLE, reduceCtorEq, Nat.reduceBEq, fillAll, fillIn, shiftR, shiftV, List.take_succ_cons, List.take_zero, List.drop_succ_cons, List.drop_zero, List.append_nil, Nat.zero_add, hlt', Int.lt_irrefl]
        refine goR h90 rfl ?_
        simp only [go_sem, ↓reduceIte, Nat.reduceEqDiff, Nat.reduceAdd, Nat.reduceMul, Nat.reduceLeDiff, Nat.reduceLT, Int.reduceToNat, Int.reduceLT, Int.reduceLE, reduceCtorEq, Nat.reduceBEq, fillAll, fillIn, shiftR, shiftV, List.take_succ_cons, List.take_zero, List.drop_succ_cons, List.drop_zero, List.append_nil, Nat.zero_add, b1, b2, b3, Int.toNat_natCast, flat_nums]
        refine mLoop (fun N st => ∃ i : Nat, i ≤ n ∧ N = n - i ∧
          st = ⟨[(3, .loc 1 0 0), (4, .loc 5 0 0), (6, .arr 6 0), (12, .arr 7 0), (54, .int .i64 n), (55, .int .i64 i)],
            [⟨true, 28, 5, 0, 1, arrX sb cb tb Lb, false⟩, ⟨true, 28, 5, 0, 1, arrX s ch t L, false⟩, ⟨false, 3, 1, 0, 0, [], false⟩, ⟨false, 21, 1, 0, 0, [], false⟩, ⟨false, 59, 3, 0, 0, [], false⟩,
             ⟨true, 28, 5, 0, 1, [.arr 2 0, .bool false, .arr 3 0, .arr 4 0, .bool false], false⟩, ⟨false, 3, 1, 0, w.length, nums .i64 w, false⟩, ⟨false, 3, 1, 0, n, nums .i64 (ks.take i ++ List.replicate (n - i) 0), false⟩]⟩) n
          ⟨_, rfl, 0, by omega, by omega, by simp [getE, arrX, runes, ints]⟩ ?_
        clear hi hlt hlt' hneg
        rintro N s0 ⟨i, hi, rfl, rfl⟩
        by_cases hlt : i < n
        · have hlt' : (i : Int) < (n : Int) := by omega
          have hi0 : (0 : Int) ≤ (i : Int) := by omega
          have hi1 : IntKind.i64.wrap ((i : Int) + 1) = ((i + 1 : Nat) : Int) := by rw [wrap_i64 (by omega) (by omega)]; omega
          have hyl := row_len (i := i) hkl (by omega)
          have hfill := fill_row hkl hlt
          have hv := hkg i hlt
          rw [hv] at hfill
          generalize ks.take i ++ List.replicate (n - i) 0 = Y at *
          have t1 : i * 1 + 1 ≤ Y.length := by omega
          have t2 : i * 1 + 1 ≤ (Y.take i).length + ((Y.drop (i + 1)).length + 1) := by rw [List.length_take, List.length_drop]; omega
          by_cases hz : len = 0
          · have hz' : ¬ (0 : Int) < (len : Int) := by omega
            rw [if_pos hz] at hfill
            simp only [b29_1, arrX, runes, ints, go_sem, ↓reduceIte, Nat.reduceEqDiff, Nat.reduceAdd, Nat.reduceMul, Nat.reduceLeDiff, Nat.reduceLT, Int.reduceToNat, Int.reduceLT, Int.reduceLE, reduceCtorEq, Nat.reduceBEq, subA5, hlt', hi0, Int.toNat_natCast, t1]
            refine goP h55 ?_
            simp only [go_sem, ↓reduceIte, Nat.reduceEqDiff, Nat.reduceAdd, Nat.reduceMul, Nat.reduceLeDiff, Nat.reduceLT, Int.reduceToNat, Int.reduceLT, Int.reduceLE, reduceCtorEq, Nat.reduceBEq, hz', hi1]
            refine loopQ_go rfl (n - (i + 1)) (by omega) ⟨i + 1, by omega, rfl, ?_⟩
            rw [hfill]
            simp only [arrX, runes, ints]
            rfl
          · have hz' : (0 : Int) < (len : Int) := by omega
            have hz2 : ¬ (len : Int) = 0 := by omega
            rw [if_neg hz] at hfill
            have hst := set_twice (y := Y) (m := i) (v := -1) (u := ((i % len : Nat) : Int)) (by omega)
            have hmod := tmodN i len
            simp only [b29_1, arrX, runes, ints, go_sem, ↓reduceIte, Nat.reduceEqDiff, Nat.reduceAdd, Nat.reduceMul, Nat.reduceLeDiff, Nat.reduceLT, Int.reduceToNat, Int.reduceLT, Int.reduceLE, reduceCtorEq, Nat.reduceBEq, subA5, hlt', hi0, Int.toNat_natCast, t1]
            refine goP h55 ?_
            simp only [go_sem, ↓reduceIte, Nat.reduceEqDiff, Nat.reduceAdd, Nat.reduceMul, Nat.reduceLeDiff, Nat.reduceLT, Int.reduceToNat, Int.reduceLT, Int.reduceLE, reduceCtorEq, Nat.reduceBEq, subA5, hz']
            refine goP h55 ?_
            simp only [go_sem, ↓reduceIte, Nat.reduceEqDiff, Nat.reduceAdd, Nat.reduceMul, Nat.reduceLeDiff, Nat.reduceLT, Int.reduceToNat, Int.reduceLT, Int.reduceLE, reduceCtorEq, Nat.reduceBEq, hz', hz2, hmod, hi1, hlt', hi0, Int.toNat_natCast, t2, hst]
            refine loopQ_go rfl (n - (i + 1)) (by omega) ⟨i + 1, by omega, rfl, ?_⟩
            rw [hfill]
            simp only [arrX, runes, ints]
            rfl
        · have hlt' : ¬ (i : Int) < (n : Int) := by omega
          obtain rfl : i = n := by omega
          have hfin : ks.take i ++ List.replicate (i - i) 0 = ks := by rw [Nat.sub_self, List.replicate_zero, List.append_nil, List.take_of_length_le (by omega)]
          rw [hkl] at h91
          simp only [b29_1, k29_0, arrX, runes, ints, go_sem, ↓reduceIte, Nat.reduceEqDiff, Nat.reduceAdd, Nat.reduceMul, Nat.reduceLeDiff, Nat.reduceLT, Int.reduceToNat, Int.reduceLT, Int.reduceLE, reduceCtorEq, Nat.reduceBEq, fillAll, fillIn, shiftR, shiftV, List.take_succ_cons, List.take_zero, List.drop_succ_cons, List.drop_zero, List.append_nil, Nat.zero_add, subA5, hlt', Int.lt_irrefl, hfin]
          refine goF h91 ?_
          simp only [go_sem, ↓reduceIte, Nat.reduceEqDiff, Nat.reduceAdd, Nat.reduceMul, Nat.reduceLeDiff, Nat.reduceLT, Int.reduceToNat, Int.reduceLT, Int.reduceLE, reduceCtorEq, Nat.reduceBEq, fillAll, fillIn, shiftR, shiftV, List.take_succ_cons, List.take_zero, List.drop_succ_cons, List.drop_zero, List.append_nil, Nat.zero_add, subA5]
          simp only [i29, Out, resAll, geto, ints, List.getElem?_cons_zero, List.getElem?_cons_succ, resOf, outOf, snap, snapL, ev, getE, List.mapM_cons, List.mapM_nil, Option.bind_some, Option.pure_def, Option.bind_eq_bind, Option.map_some, reduceIte, Nat.reduceEqDiff, true_and, and_true, subA5, outA, arrX, runes, ints, if_true]
  · have q0 : (e0 != 0) = true := by rw [bne_iff_ne]; exact he
    have hr : resE e0 w = e0 := if_pos he
    simp only [c29, arrX, runes, ints, go_sem, ↓reduceIte, Nat.reduceEqDiff, Nat.reduceAdd, Nat.reduceMul, Nat.reduceLeDiff, Nat.reduceLT, Int.reduceToNat, Int.reduceLT, Int.reduceLE, reduceCtorEq, Nat.reduceBEq, fillAll, fillIn, shiftR, shiftV, List.take_succ_cons, List.take_zero, List.drop_succ_cons, List.drop_zero, List.append_nil, Nat.zero_add, subA5]
    refine goO h89 rfl rfl ?_
    simp only [go_sem, ↓reduceIte, Nat.reduceEqDiff, Nat.reduceAdd, Nat.reduceMul, Nat.reduceLeDiff, Nat.reduceLT, Int.reduceToNat, Int.reduceLT, Int.reduceLE, reduceCtorEq, Nat.reduceBEq, fillAll, fillIn, shiftR, shiftV, List.take_succ_cons, List.take_zero, List.drop_succ_cons, List.drop_zero, List.append_nil, Nat.zero_add, subA5, q0]
    simp only [i29, Out, resAll, geto, ints, List.getElem?_cons_zero, List.getElem?_cons_succ, resOf, outOf, snap, snapL, ev, getE, List.mapM_cons, List.mapM_nil, Option.bind_some, Option.pure_def, Option.bind_eq_bind, Option.map_some, reduceIte, Nat.reduceEqDiff, true_and, and_true, subA5, hr, outA, he, if_false, noA]
end Go.Proofs.Ytlejgleocnemoaa.I

/- SEAT Ytlejgleocnemoaa. Layer 8: MoldRavel. -/
set_option linter.unusedVariables false
set_option linter.unusedSimpArgs false
namespace Go.Proofs.Ytlejgleocnemoaa.I
open Go Go.V
attribute [local go_sem] mNil nat0 beq_self_eq_true mSkip mRet mExit mReg mSeq mCond mTrue mFalse mBlock mLv mCodeE mCodeR mEndN mEndR mEndE mOps mSome mGuard mGtt mGff mGtf mGft mGu mCallP mCallR mCallF mCallO mCallZ mCallG mCallM mCallV loopQ_exit loopQ_ret mO_mov mO_newnil mO_pick mO_alloc mO_box mO_build mO_bsl mO_bslF mO_ldf mO_ld mO_st mO_sta mO_nilchk mO_bin mO_binb mO_binp mO_bins mO_neg mO_com mO_not mO_conv mO_mk mO_mk0 mO_s2b mO_b2s mO_cpy mO_cut mO_faddr mO_fld mO_iaddr mO_iaddrf mO_sidx mO_len mO_lenf mO_slen mO_scut mO_app mO_ext mO_mx mO_mn mO_mkfn evalOp cutOp argsE ev getE putE cellsOf adopt rowOf binV boolV nilV ar_add ar_sub ar_mul ar_quo ar_rem ar_eq ar_ne ar_lt ar_le ar_gt ar_ge ar_and ar_or ar_xor geto bound finRet finNrm ints List.length_cons List.length_nil List.length_append List.getElem?_cons_zero List.getElem?_cons_succ List.nil_append List.cons_append List.map_cons List.map_nil List.mapM_cons List.mapM_nil Option.map_some Option.map_none Option.bind_some Option.pure_def Option.bind_eq_bind List.drop_zero or_self or_false false_or or_true true_or true_and and_true and_self decide_true decide_false Bool.false_eq_true Bool.true_eq_false Bool.not_true Bool.not_false Nat.le_refl eq_self gt_iff_lt ge_iff_le ne_eq not_true_eq_false not_false_eq_true storeOp apartOf freeze_nil refsL refs List.flatMap_cons List.flatMap_nil List.append_nil List.contains_nil List.set_cons_zero List.set_cons_succ snap snapL fill_nums flat_nums nums_length Go.V.freeze List.mapIdx_cons List.mapIdx_nil List.contains_cons Bool.or_false Bool.false_or Bool.or_true Bool.true_or
theorem rint_all {s : List Int} (hs : ∀ d ∈ s, In64 d) : wholeB false [] (s.map zR) = true := by
  rw [wholeB_iff]
  refine ⟨by simp, ?_⟩
  intro x hx
  obtain ⟨d, hd, rfl⟩ := List.mem_map.1 hx
  rw [rint_zR (hs d hd)]; rfl
theorem lis_zR {s : List Int} {n : Int} (hs : ∀ d ∈ s, In64 d) : lisV [n] false [] (s.map zR) = s ∧ lisE [n] false [] (s.map zR) = 0 := by
  constructor
  · rw [lisV, if_pos ⟨by simp, rint_all hs⟩, map_rv_zR hs]
  · rw [lisE, if_neg (by simp), if_pos (rint_all hs)]
theorem res_count {s : List Int} {n : Int} (h : count s = some n) : resE 0 s = 0 := by
  rw [resE, if_neg (by omega), if_neg (by rw [negB_no fun d hd => ((count_bound h).2.1 d hd).1]; simp), h]
theorem cyc_self {s : List Int} {len : Nat} (h : count s = some (len : Int)) : cyc s len = (List.range len).map fun i : Nat => (i : Int) := by
  rw [cyc, ← count_prd h, Int.toNat_natCast]
  refine List.map_congr_left fun i hi => ?_
  have := List.mem_range.1 hi
  rw [if_neg (by omega), Nat.mod_eq_of_lt this]
theorem self_pick {α : Type} {d : α} {t : List α} {f : Int → α} (hf : ∀ i : Nat, i < t.length → f i = t.getD i d) : ((List.range t.length).map fun i : Nat => (i : Int)).map f = t := by
  refine List.ext_getElem (by simp) fun i h1 h2 => ?_
  have h3 : i < t.length := h2
  simp only [List.getElem_map, List.getElem_range]
  rw [hf i h3]
  simp [List.getD, h3]
theorem self_T {t : List Int} {n : Nat} (h : n = t.length) : picksT true t ((List.range n).map fun i : Nat => (i : Int)) = t := by
  subst h
  rw [picksT, if_pos rfl]
  refine self_pick (d := 0) fun i hi => ?_
  rw [pickT, if_pos ⟨by omega, by omega⟩, Int.toNat_natCast]
theorem self_R {l : List Rt} {n : Nat} (h : n = l.length) : picksR false l ((List.range n).map fun i : Nat => (i : Int)) = l := by
  subst h
  rw [picksR, if_neg (by simp)]
  refine self_pick (d := (false, 0, 0)) fun i hi => ?_
  rw [pickR, if_pos ⟨by omega, by omega⟩, Int.toNat_natCast]
  rfl
theorem self_X {s t : List Int} {ch : Bool} {l : List Nm} (h : RightP s ch t l) : cyc s (t.length + (l.map toRt).length) = (List.range (t.length + l.length)).map (fun i : Nat => (i : Int)) ∧ count s = some ((t.length + l.length : Nat) : Int) ∧
    picksT ch t ((List.range (t.length + l.length)).map fun i : Nat => (i : Int)) = t ∧ picksR ch (l.map toRt) ((List.range (t.length + l.length)).map fun i : Nat => (i : Int)) = l.map toRt := by
  have h1 := h.1
  unfold Shapes at h1
  rw [List.length_map]
  cases ch with
  | true =>
    simp only [if_true] at h1
    obtain ⟨h1, h2⟩ := h1
    rw [h2, Nat.add_zero]
    have h3 : l = [] := List.length_eq_zero_iff.1 h2
    subst h3
    exact ⟨cyc_self h1, h1, self_T rfl, rfl⟩
  | false =>
    simp only [Bool.false_eq_true, if_false] at h1
    obtain ⟨h1, rfl⟩ := h1
    rw [List.length_nil, Nat.zero_add]
    exact ⟨cyc_self h1, h1, rfl, self_R (by simp)⟩
theorem c28_awake : Go.V.Call tab E 28 [] [] (.bool true) [] := Go.V.Call.run (ext := ext) (fun h => h) (fuel := 400) (n := 40) (by kernel_rfl)
set_option maxHeartbeats 2000000 in
theorem c5_ok {s t : List Int} {l : List Nm} {ch : Bool} (hs : ∀ d ∈ s, In64 d) (hu : ∀ x ∈ l, U8 x.2.1 ∧ U8 x.2.2) :
    Go.V.Call tab E 5 [.agg (plX s ch t l)] [] (.bool true) [] := by
  refine Go.V.Call.mach i5 c5 rfl rfl rfl rfl ?_
  have h27 := fun ok h => c27_ok (s := s) (t := t) (l := l) (ch := ch) (ok := ok) hs hu h
  by_cases hL : LightP s ch t l 250
  · have h27t := h27 true ⟨fun _ => hL, fun _ => rfl⟩
    obtain ⟨l1, l2, l3, l4, hR⟩ := hL
    have hU : ∀ x ∈ l, NmU x := fun x hx => ⟨(hu x hx).1, (hu x hx).2, by have := (l4 x hx).1; omega, by have := (l4 x hx).2; omega⟩
    have h19 := c19_ok hs (by omega) (by omega) (by omega) hU hR
    have h30 := c30_ok (s := s) (t := t) (ch := ch) (L := l.map toRt) hs (by omega)
    have h31 := c31_ok (s := s) (t := t) (ch := ch) (l := l.map toRt) (by omega) (by simp; omega)
    have h29 := c29_ok (sb := [(s.length : Int)]) (tb := []) (cb := false) (Lb := s.map zR) (s := [((t.length + (l.map toRt).length : Nat) : Int)]) (t := t) (ch := ch) (L := l.map toRt) (by simp) (by simp) (by simp; omega) (by simp) (by omega) (by simp; omega)
    obtain ⟨g1, g2, g3, g4⟩ := self_X hR
    rw [(lis_zR hs).1, (lis_zR hs).2, res_count g2, g1, outA, if_pos rfl, g3, g4] at h29
    have h32 := c32_yes (s := s) (t := t) (ch := ch) (L := l.map toRt) (by omega) (by omega) (by simp; omega) fun z hz => by
      obtain ⟨x, hx, rfl⟩ := List.mem_map.1 hz
      exact right_ok (hR.2 x hx)
    rw [back_nms hR.2] at h32
    generalize l.map toRt = L at *
    simp only [plX, arrX, runes, ints] at h27t h19 h30 h31 h29 h32
    simp only [c5, plX, runes, ints, go_sem, ↓reduceIte, Nat.reduceEqDiff, Nat.reduceAdd, Nat.reduceMul, Nat.reduceLeDiff, Nat.reduceLT, Int.reduceToNat, Int.reduceLT, Int.reduceLE, reduceCtorEq, Nat.reduceBEq, fillAll, fillIn, shiftR, shiftV, List.take_succ_cons, List.take_zero, List.drop_succ_cons, List.drop_zero, List.append_nil, Nat.zero_add, subP4]
    refine goP h27t ?_
    simp only [go_sem, ↓reduceIte, Nat.reduceEqDiff, Nat.reduceAdd, Nat.reduceMul, Nat.reduceLeDiff, Nat.reduceLT, Int.reduceToNat, Int.reduceLT, Int.reduceLE, reduceCtorEq, Nat.reduceBEq, fillAll, fillIn, shiftR, shiftV, List.take_succ_cons, List.take_zero, List.drop_succ_cons, List.drop_zero, List.append_nil, Nat.zero_add, subP4]
    refine goP h19 ?_
    simp only [go_sem, ↓reduceIte, Nat.reduceEqDiff, Nat.reduceAdd, Nat.reduceMul, Nat.reduceLeDiff, Nat.reduceLT, Int.reduceToNat, Int.reduceLT, Int.reduceLE, reduceCtorEq, Nat.reduceBEq, fillAll, fillIn, shiftR, shiftV, List.take_succ_cons, List.take_zero, List.drop_succ_cons, List.drop_zero, List.append_nil, Nat.zero_add, subP4, subA5]
    refine goF h30 ?_
    simp only [go_sem, ↓reduceIte, Nat.reduceEqDiff, Nat.reduceAdd, Nat.reduceMul, Nat.reduceLeDiff, Nat.reduceLT, Int.reduceToNat, Int.reduceLT, Int.reduceLE, reduceCtorEq, Nat.reduceBEq, fillAll, fillIn, shiftR, shiftV, List.take_succ_cons, List.take_zero, List.drop_succ_cons, List.drop_zero, List.append_nil, Nat.zero_add, subP4, subA5]
    refine goF h31 ?_
    simp only [go_sem, ↓reduceIte, Nat.reduceEqDiff, Nat.reduceAdd, Nat.reduceMul, Nat.reduceLeDiff, Nat.reduceLT, Int.reduceToNat, Int.reduceLT, Int.reduceLE, reduceCtorEq, Nat.reduceBEq, fillAll, fillIn, shiftR, shiftV, List.take_succ_cons, List.take_zero, List.drop_succ_cons, List.drop_zero, List.append_nil, Nat.zero_add, subP4, subA5]
    refine goP h29 ?_
    simp only [go_sem, ↓reduceIte, Nat.reduceEqDiff, Nat.reduceAdd, Nat.reduceMul, Nat.reduceLeDiff, Nat.reduceLT, Int.reduceToNat, Int.reduceLT, Int.reduceLE, reduceCtorEq, Nat.reduceBEq, fillAll, fillIn, shiftR, shiftV, List.take_succ_cons, List.take_zero, List.drop_succ_cons, List.drop_zero, List.append_nil, Nat.zero_add, subP4, subA5]
    refine goR h32 rfl ?_
    simp only [go_sem, ↓reduceIte, Nat.reduceEqDiff, Nat.reduceAdd, Nat.reduceMul, Nat.reduceLeDiff, Nat.reduceLT, Int.reduceToNat, Int.reduceLT, Int.reduceLE, reduceCtorEq, Nat.reduceBEq, fillAll, fillIn, shiftR, shiftV, List.take_succ_cons, List.take_zero, List.drop_succ_cons, List.drop_zero, List.append_nil, Nat.zero_add, subP4]
    refine goP c28_awake ?_
    simp only [go_sem, ↓reduceIte, Nat.reduceEqDiff, Nat.reduceAdd, Nat.reduceMul, Nat.reduceLeDiff, Nat.reduceLT, Int.reduceToNat, Int.reduceLT, Int.reduceLE, reduceCtorEq, Nat.reduceBEq]
    simp only [i5, Out, resAll, geto, ints, List.getElem?_cons_zero, List.getElem?_cons_succ, resOf, outOf, snap, snapL, ev, getE, List.mapM_cons, List.mapM_nil, Option.bind_some, Option.pure_def, Option.bind_eq_bind, Option.map_some, reduceIte, Nat.reduceEqDiff, true_and, and_true]
  · have h27f := h27 false ⟨fun h => (by cases h), fun h => absurd h hL⟩
    simp only [plX, runes, ints] at h27f
    simp only [c5, plX, runes, ints, go_sem, ↓reduceIte, Nat.reduceEqDiff, Nat.reduceAdd, Nat.reduceMul, Nat.reduceLeDiff, Nat.reduceLT, Int.reduceToNat, Int.reduceLT, Int.reduceLE, reduceCtorEq, Nat.reduceBEq, fillAll, fillIn, shiftR, shiftV, List.take_succ_cons, List.take_zero, List.drop_succ_cons, List.drop_zero, List.append_nil, Nat.zero_add, subP4]
    refine goP h27f ?_
    simp only [go_sem, ↓reduceIte, Nat.reduceEqDiff, Nat.reduceAdd, Nat.reduceMul, Nat.reduceLeDiff, Nat.reduceLT, Int.reduceToNat, Int.reduceLT, Int.reduceLE, reduceCtorEq, Nat.reduceBEq]
    refine goP c28_awake ?_
    simp only [go_sem, ↓reduceIte, Nat.reduceEqDiff, Nat.reduceAdd, Nat.reduceMul, Nat.reduceLeDiff, Nat.reduceLT, Int.reduceToNat, Int.reduceLT, Int.reduceLE, reduceCtorEq, Nat.reduceBEq]
    simp only [i5, Out, resAll, geto, ints, List.getElem?_cons_zero, List.getElem?_cons_succ, resOf, outOf, snap, snapL, ev, getE, List.mapM_cons, List.mapM_nil, Option.bind_some, Option.pure_def, Option.bind_eq_bind, Option.map_some, reduceIte, Nat.reduceEqDiff, true_and, and_true]
end Go.Proofs.Ytlejgleocnemoaa.I

-- PRINTED BY print.sh 35421559b90ae4d0a3588c463048766b98c2df88dd9212a6774a882060cdf62d: not written by this session
-- PRINTED WORDS (module Derived/Print/Sized.lean): go-gate-2's, for the rows of laws over slices: an AI agent of Go's test side, Tue Nov 17 2026; no person has read it. Lean checks it.
namespace Go.Proofs.YtlejgleocnemoaaW.PrintWords
open Go.ChangeShapes Go.WideShapes
end Go.Proofs.YtlejgleocnemoaaW.PrintWords

/- An argument that is a list of numbers on the page, or an array on the page, opened. Conditions: the types are what the names say. -/
set_option linter.unusedVariables false
set_option linter.unusedSimpArgs false
namespace Go.Proofs.Ytlejgleocnemoaa.I
open Go Go.V Go.ChangeShapes Go.WideShapes Go.Deep
section
variable {H : Type} {enc : TypeId × Value → H} {P : Program} {w : World} {spare : Nat → Bool} {held : Bool}
/-- One number: its three cells. -/
theorem open_num1 {e : TypeId} {f0 f1 f2 : Field} {fuel : Nat} {a : Addr} {cs : List Value} {y : DataW H × List MemPlace} (he : P.underlying e = some (.struct #[f0, f1, f2])) (hone : oneCellFields P #[f0, f1, f2] = true)
    (h0 : P.underlying f0.type = some .bool) (h1 : P.underlying f1.type = some .string) (h2 : P.underlying f2.type = some .string) (hc : w.cells? 0 a 3 = some cs) (h : DataW.trod enc P w 0 spare held fuel e cs = some y) :
    ∃ q : Nm, (w.cell? (a.add 0) = some (.bool q.1) ∧ w.cell? (a.add 1) = some (.string (bs q.2.1)) ∧ w.cell? (a.add 2) = some (.string (bs q.2.2))) ∧ U8 q.2.1 ∧ U8 q.2.2 ∧ q.2.1.length ≤ maxLen ∧ q.2.2.length ≤ maxLen := by
  obtain ⟨_, hlen, hcell⟩ := World.cells?_some hc
  obtain ⟨xs, k, _, _, _, hxl, hf⟩ := DataW.trod_struct he h
  obtain ⟨o0, k0⟩ := hone_of hone 0 f0 rfl
  obtain ⟨o1, k1⟩ := hone_of hone 1 f1 rfl
  obtain ⟨o2, k2⟩ := hone_of hone 2 f2 rfl
  match xs, hxl, cs, hlen with
  | [y0, y1, y2], _, [v0, v1, v2], _ =>
    have g0 := hf 0 f0 rfl
    have g1 := hf 1 f1 rfl
    have g2 := hf 2 f2 rfl
    simp [o0, k0] at g0
    simp [o1, k1] at g1
    simp [o2, k2] at g2
    obtain ⟨b, hb, _⟩ := DataW.trod_bool h0 g0
    obtain ⟨s1, hs1, _, hm1⟩ := DataW.trod_string h1 g1
    obtain ⟨s2, hs2, _, hm2⟩ := DataW.trod_string h2 g2
    obtain ⟨l1, hu1, rfl⟩ := bs_all s1
    obtain ⟨l2, hu2, rfl⟩ := bs_all s2
    simp only [List.cons.injEq, and_true] at hb hs1 hs2
    subst hb; subst hs1; subst hs2
    have c0 := hcell 0 (by omega)
    have c1 := hcell 1 (by omega)
    have c2 := hcell 2 (by omega)
    rw [bs_size] at hm1 hm2
    exact ⟨(b, l1, l2), ⟨by simpa using c0, by simpa using c1, by simpa using c2⟩, hu1, hu2, hm1, hm2⟩
/-- A list of them. -/
theorem open_nums {t e : TypeId} {f0 f1 f2 : Field} {fuel : Nat} {cs : List Value} {x : DataW H × List MemPlace} (ht : P.underlying t = some (.slice e)) (he : P.underlying e = some (.struct #[f0, f1, f2])) (hone : oneCellFields P #[f0, f1, f2] = true)
    (hC : P.cellsOf e = 3) (h0 : P.underlying f0.type = some .bool) (h1 : P.underlying f1.type = some .string) (h2 : P.underlying f2.type = some .string) (h : DataW.trod enc P w 0 spare held fuel t cs = some x) :
    ∃ (a : Option Addr) (len cap : Nat) (l : List Nm), cs = [.slice a len cap] ∧ l.length = len ∧ len ≤ maxLen ∧ (∀ q ∈ l, U8 q.2.1 ∧ U8 q.2.2 ∧ q.2.1.length ≤ maxLen ∧ q.2.2.length ≤ maxLen) ∧ RG w (fun b => b < w.heap.size) (.sl l.length 3 (nmsC l)) (.slice a len cap) := by
  rcases open_slice ht h with ⟨rfl, _⟩ | ⟨a, len, cap, m, n, D, Pl, rfl, _, hl, hm, hmm, _, hx⟩
  · exact ⟨none, 0, 0, [], rfl, rfl, Nat.zero_le _, fun q hq => by simp at hq, .sl0⟩
  have hlm : len ≤ m := by rw [hmm]; split <;> omega
  rw [hC] at hx
  have each : ∀ i, i < len → ∃ q : Nm, (w.cell? (a.add (i * 3)) = some (.bool q.1) ∧ w.cell? (a.add (i * 3 + 1)) = some (.string (bs q.2.1)) ∧ w.cell? (a.add (i * 3 + 2)) = some (.string (bs q.2.2))) ∧ U8 q.2.1 ∧ U8 q.2.2 ∧ q.2.1.length ≤ maxLen ∧ q.2.2.length ≤ maxLen := fun i hi => by
    obtain ⟨cs', hc, hy⟩ := hx i (by omega)
    obtain ⟨q, ⟨g0, g1, g2⟩, hq⟩ := open_num1 he hone h0 h1 h2 hc hy
    rw [add_add] at g0 g1 g2
    exact ⟨q, ⟨g0, g1, g2⟩, hq⟩
  obtain ⟨f, hf⟩ := choose_lt (α := Nm) each
  refine ⟨some a, len, cap, (List.range len).map f, rfl, by simp, Nat.le_trans hl hm, fun q hq => ?_, ?_⟩
  · obtain ⟨i, hi, rfl⟩ := List.mem_map.1 hq
    exact (hf i (List.mem_range.1 hi)).2
  · have hll : ((List.range len).map f).length = len := by simp
    rw [hll]
    by_cases hz : len = 0
    · subst hz; exact .sl0
    obtain ⟨b, o, sp⟩ := a
    have hc0 := (hf 0 (by omega)).1.1
    have hsp : sp = none := by
      simp only [Addr.add, Nat.zero_mul, if_true, World.cell?] at hc0
      split at hc0
      · split at hc0
        · cases hc0
        · rename_i hh; simpa using hh
      · cases hc0
    subst hsp
    have addE : ∀ i, (⟨b, o, none⟩ : Addr).add i = ⟨b, o + i, none⟩ := fun i => by
      unfold Addr.add
      split
      · rename_i h; rw [h]; rfl
      · rfl
    have hb : b < w.heap.size := by
      rw [addE] at hc0
      unfold World.cell? at hc0
      split at hc0
      · rename_i hh; exact (Array.getElem?_eq_some_iff.1 hh).1
      · cases hc0
    have hat : ∀ i, i < len → ((List.range len).map f).getD i (false, [], []) = f i := fun i hi => by simp [List.getD, hi]
    have vlen : ∀ l : List Nm, (l.flatMap fun q => [Value.bool q.1, .string (bs q.2.1), .string (bs q.2.2)]).length = l.length * 3 := fun l => by
      induction l with
      | nil => rfl
      | cons q l ih => rw [List.flatMap_cons, List.length_append, ih, List.length_cons]; simp; omega
    have vget : ∀ (l : List Nm) (i k : Nat), i < l.length → k < 3 → (l.flatMap fun q => [Value.bool q.1, .string (bs q.2.1), .string (bs q.2.2)])[i * 3 + k]? = ([Value.bool (l.getD i (false, [], [])).1, .string (bs (l.getD i (false, [], [])).2.1), .string (bs (l.getD i (false, [], [])).2.2)])[k]? := fun l => by
      induction l with
      | nil => intro i k h; simp at h
      | cons q l ih =>
        intro i k hi hk
        cases i with
        | zero => rw [List.flatMap_cons, Nat.zero_mul, Nat.zero_add, List.getElem?_append_left (by simp; omega)]; rfl
        | succ i =>
          rw [List.flatMap_cons, List.getElem?_append_right (by simp; omega)]
          have e : (i + 1) * 3 + k - [Value.bool q.1, .string (bs q.2.1), .string (bs q.2.2)].length = i * 3 + k := by simp; omega
          rw [e, ih i k (by simpa using hi) hk]
          rfl
    have cget : ∀ (l : List Nm) (i k : Nat), i < l.length → k < 3 → (nmsC l)[i * 3 + k]? = (nmC (l.getD i (false, [], [])))[k]? := fun l i k hi hk => by
      rw [← flat_get (f := nmC) (fun _ => rfl) hi, List.getElem?_take, if_pos hk, List.getElem?_drop]
      rfl
    have split3 : ∀ j, j < len * 3 → ∃ i k, i < len ∧ k < 3 ∧ j = i * 3 + k := fun j hj => ⟨j / 3, j % 3, by omega, by omega, by omega⟩
    refine .sl (vs := ((List.range len).map f).flatMap fun q => [Value.bool q.1, .string (bs q.2.1), .string (bs q.2.2)]) (by omega) hl (by rw [nmsC, flat_len (fun _ => rfl), hll]) (by rw [vlen, nmsC, flat_len (fun _ => rfl)]) hb (fun u hu => ?_) (fun j u hu => ?_) (fun j c u hc hu => ?_)
    · obtain ⟨q, _, hq⟩ := List.mem_flatMap.1 hu
      simp only [List.mem_cons, List.not_mem_nil, or_false] at hq
      rcases hq with rfl | rfl | rfl <;> rfl
    · have hj := (List.getElem?_eq_some_iff.1 hu).1
      rw [vlen, hll] at hj
      obtain ⟨i, k, hi, hk, rfl⟩ := split3 j hj
      rw [vget _ i k (by rw [hll]; exact hi) hk, hat i hi] at hu
      obtain ⟨⟨g0, g1, g2⟩, _⟩ := hf i hi
      rw [addE] at g0 g1 g2
      match k, hk with
      | 0, _ => simp at hu; subst hu; exact g0
      | 1, _ => simp at hu; subst hu; exact g1
      | 2, _ => simp at hu; subst hu; exact g2
    · have hj := (List.getElem?_eq_some_iff.1 hu).1
      rw [vlen, hll] at hj
      obtain ⟨i, k, hi, hk, rfl⟩ := split3 j hj
      rw [vget _ i k (by rw [hll]; exact hi) hk] at hu
      rw [cget _ i k (by rw [hll]; exact hi) hk] at hc
      match k, hk with
      | 0, _ => simp [nmC] at hu hc; subst hu; subst hc; exact .bool
      | 1, _ => simp [nmC] at hu hc; subst hu; subst hc; exact .str
      | 2, _ => simp [nmC] at hu hc; subst hu; subst hc; exact .str
end
end Go.Proofs.Ytlejgleocnemoaa.I
