/- The texts L17g L17h L17i WSized LNum, one behind the other. Conditions: each text's own. -/
import Derived.Test.YtcmbaabkfihdmaaGreatG08
import Derived.SizedLaws
import Derived.ChangeSlices
import Derived.Test.YtcmbaabkfihdmaaGreatG02
import Derived.Test.YtcmbaabkfihdmaaGreatG07
import Derived.Deep.Slices
import Derived.Deep.Fields
import Derived.ChangeArms
/- SEAT YtcmbaabkfihdmaaGreat. Layer 17: draw.Roll. -/
set_option linter.unusedVariables false
set_option linter.unusedSimpArgs false
namespace Go.Proofs.YtcmbaabkfihdmaaGreat.I
open Go Go.V
attribute [local go_sem] mNil nat0 beq_self_eq_true mSkip mRet mExit mReg mSeq mCond mTrue mFalse mBlock mLv mCodeE mCodeR mEndN mEndR mEndE mOps mSome mGuard mGtt mGff mGtf mGft mGu mCallP mCallR mCallF mCallO mCallZ mCallG mCallM mCallV loopQ_exit loopQ_ret mO_mov mO_newnil mO_pick mO_alloc mO_box mO_build mO_bsl mO_bslF mO_ldf mO_ld mO_st mO_sta mO_nilchk mO_bin mO_binb mO_binp mO_bins mO_neg mO_com mO_not mO_conv mO_mk mO_mk0 mO_s2b mO_b2s mO_cpy mO_cut mO_faddr mO_fld mO_iaddr mO_iaddrf mO_sidx mO_len mO_lenf mO_slen mO_scut mO_app mO_ext mO_mx mO_mn mO_mkfn evalOp cutOp argsE ev getE putE cellsOf adopt rowOf binV boolV nilV ar_add ar_sub ar_mul ar_quo ar_rem ar_eq ar_ne ar_lt ar_le ar_gt ar_ge ar_and ar_or ar_xor geto bound finRet finNrm ints List.length_cons List.length_nil List.length_append List.getElem?_cons_zero List.getElem?_cons_succ List.nil_append List.cons_append List.map_cons List.map_nil List.mapM_cons List.mapM_nil Option.map_some Option.map_none Option.bind_some Option.pure_def Option.bind_eq_bind List.drop_zero or_self or_false false_or or_true true_or true_and and_true and_self decide_true decide_false Bool.false_eq_true Bool.true_eq_false Bool.not_true Bool.not_false Nat.le_refl eq_self gt_iff_lt ge_iff_le ne_eq not_true_eq_false not_false_eq_true storeOp apartOf freeze_nil refsL refs List.flatMap_cons List.flatMap_nil List.append_nil List.contains_nil List.set_cons_zero List.set_cons_succ snap snapL fill_nums flat_nums nums_length Go.V.freeze List.mapIdx_cons List.mapIdx_nil List.contains_cons Bool.or_false Bool.false_or Bool.or_true Bool.true_or
/-- What is rolled. -/
def rolled (l w : List Int) (o : Int) (i : Nat) : List Int := (List.range i).map fun j : Nat => l.getD (1 + j) 0 % w.getD j 0 + o
theorem rolled_len {l w : List Int} {o : Int} {i : Nat} : (rolled l w o i).length = i := by simp [rolled]
theorem rolled_snoc {l w : List Int} {o : Int} {i : Nat} : rolled l w o (i + 1) = rolled l w o i ++ [l.getD (1 + i) 0 % w.getD i 0 + o] := by
  rw [rolled, rolled, List.range_succ, List.map_append]; rfl
def rowZ (q : List Int) (k : Nat) : List AV := ratsC q ++ (List.replicate k [AV.sl 0 1 [], .bool false, .sl 0 1 []]).flatten
theorem flat_three : ∀ {k : Nat}, ((List.replicate k [AV.sl 0 1 [], .bool false, .sl 0 1 []]).flatten).length = k * 3
  | 0 => rfl
  | k + 1 => by rw [List.replicate_succ, List.flatten_cons, List.length_append, flat_three]; simp only [List.length_cons, List.length_nil]; omega
theorem rowZ_len {q : List Int} {k : Nat} : (rowZ q k).length = (q.length + k) * 3 := by
  rw [rowZ, List.length_append, ratsC_len, flat_three]; omega
theorem rowZ_fill {q : List Int} {k : Nat} {v : Int} : fillIn (rowZ q (k + 1)) (q.length * 3) (ratC v) = rowZ (q ++ [v]) k := by
  have h3 : (ratC v).length = 3 := rfl
  rw [fillIn, h3, rowZ, rowZ, ratsC_snoc, List.take_left' ratsC_len, List.drop_append, ratsC_len, List.drop_eq_nil_of_le (by rw [ratsC_len]; omega), List.nil_append,
    show q.length * 3 + 3 - q.length * 3 = 3 by omega, List.replicate_succ, List.flatten_cons]
  rfl
theorem rowZ_fill' {q : List Int} {k i : Nat} {v : Int} (h : q.length = i) : fillIn (rowZ q (k + 1)) (i * 3) (ratC v) = rowZ (q ++ [v]) k := by subst h; exact rowZ_fill
theorem rowZ_none {q : List Int} : rowZ q 0 = ratsC q := by rw [rowZ]; simp
theorem fits_yes {s : List Int} {n : Nat} (h : count s = some (n : Int)) : fits s n = true := by rw [fits, h]; simp
theorem roll_facts {x d o : Int} (hx : 0 ≤ x ∧ x ≤ 18446744073709551615) (hd1 : 1 ≤ d) (hd : In64 d) (ho : 0 ≤ o ∧ o ≤ 1) :
    IntKind.u64.wrap d = d ∧ (¬ d = 0 ∧ Int.tmod x d = x % d ∧ IntKind.i64.wrap (x % d) = x % d) ∧ In64 (x % d) ∧ In64 o ∧ In64 (x % d + o) := by
  obtain ⟨h1, h2⟩ := hd
  have r1 := Int.emod_nonneg x (show d ≠ 0 by omega)
  have r2 := Int.emod_lt_of_pos x (show 0 < d by omega)
  have r3 : Int.tmod x d = x % d := Int.tmod_eq_emod_of_nonneg hx.1
  generalize x % d = r at *
  refine ⟨wrap_u64 (by omega) (by omega), ⟨by omega, r3, wrap_i64 (by omega) (by omega)⟩, ⟨by omega, by omega⟩, ⟨by omega, by omega⟩, by omega, by omega⟩
/-- The memory behind a roll. -/
def mYes (s t w q : List Int) (ch : Bool) (L : List Rt) : List AObj :=
  [⟨true, 36, 5, 0, 1, arrX s ch t L, false⟩, ⟨false, 3, 1, 0, 0, [], false⟩, ⟨false, 21, 1, 0, 0, [], false⟩, ⟨false, 62, 3, 0, 0, [], false⟩, ⟨true, 36, 5, 0, 1, arrG s false [] q, false⟩, rowI w,
   ⟨false, 62, 3, 0, w.length, ratsC q, true⟩, ⟨false, 3, 1, 0, 0, [], false⟩, ⟨false, 21, 1, 0, 0, [], false⟩, ⟨false, 62, 3, 0, 0, [], false⟩, ⟨true, 36, 5, 0, 1, arrG s false [] q, false⟩]
def mNo (s t w : List Int) (ch : Bool) (L : List Rt) : List AObj :=
  [⟨true, 36, 5, 0, 1, arrX s ch t L, false⟩, ⟨false, 3, 1, 0, 0, [], false⟩, ⟨false, 21, 1, 0, 0, [], false⟩, ⟨false, 62, 3, 0, 0, [], false⟩, ⟨true, 36, 5, 0, 1, [.arr 9 0, .bool false, .arr 10 0, .arr 11 0, .bool false], false⟩, rowI w,
   ⟨false, 3, 1, 0, 0, [], false⟩, ⟨false, 21, 1, 0, 0, [], false⟩, ⟨false, 62, 3, 0, 0, [], false⟩]
theorem c8_no {s t l w : List Int} {ch ok : Bool} {L : List Rt} {o : Int} {B : AObj} (hsl : (s.length : Int) ≤ 1000000000) (ht : (t.length : Int) ≤ 1000000000) (hL : (L.length : Int) ≤ 1000000000)
    (hok : ok = true ↔ ¬ (ch = true ∧ 0 < t.length + L.length) ∧ WhO L) (hw : (if ok then L.map rv else []) = w) (hno : ok = true → ∃ d ∈ w, d < 1) :
    Go.V.Call tab E 8 [.agg (arrX s ch t L), .loc 2 0 0, .int .i64 o] [B, srcR l, srcB1 1] (.tup [.agg [.arr 9 0, .bool false, .arr 10 0, .arr 11 0, .bool false], .int .i64 22]) ([B, srcR l, srcB1 1] ++ mNo s t w ch L) := by
  refine Go.V.Call.mach i8 c8 rfl rfl rfl rfl ?_
  have h19 := c19_X (s := s) (t := t) (l := L) (ch := ch) (ok := ok) (by omega) (by omega) hok
  have hwl : (w.length : Int) ≤ 1000000000 := by
    rw [← hw]
    split
    · rw [List.length_map]; exact hL
    · simp
  rw [hw] at h19
  simp only [arrX, runes, ints, rowI] at h19
  simp only [c8, arrX, runes, ints, srcR, srcB1, go_sem, ↓reduceIte, Nat.reduceEqDiff, Nat.reduceAdd, Nat.reduceMul, Nat.reduceLeDiff, Nat.reduceLT, Int.reduceToNat, Int.reduceLT, Int.reduceLE, reduceCtorEq, Nat.reduceBEq, fillAll, fillIn, shiftR, shiftV, List.take_succ_cons, List.take_zero, List.drop_succ_cons, List.drop_zero, List.append_nil, Nat.zero_add, subA5]
  refine goO h19 rfl rfl ?_
  cases ok with
  | false =>
    simp only [go_sem, ↓reduceIte, Nat.reduceEqDiff, Nat.reduceAdd, Nat.reduceMul, Nat.reduceLeDiff, Nat.reduceLT, Int.reduceToNat, Int.reduceLT, Int.reduceLE, reduceCtorEq, Nat.reduceBEq, fillAll, fillIn, shiftR, shiftV, List.take_succ_cons, List.take_zero, List.drop_succ_cons, List.drop_zero, List.append_nil, Nat.zero_add, subA5, List.cons_append, List.nil_append]
    simp only [i8, Out, resAll, geto, ints, List.getElem?_cons_zero, List.getElem?_cons_succ, resOf, outOf, snap, snapL, ev, getE, List.mapM_cons, List.mapM_nil, Option.bind_some, Option.pure_def, Option.bind_eq_bind, Option.map_some, reduceIte, Nat.reduceEqDiff, true_and, and_true, subA5, noA, mNo, arrX, runes, ints, rowI, List.cons_append, List.nil_append]
  | true =>
    obtain ⟨d0, hd0, hd1⟩ := hno rfl
    simp only [go_sem, ↓reduceIte, Nat.reduceEqDiff, Nat.reduceAdd, Nat.reduceMul, Nat.reduceLeDiff, Nat.reduceLT, Int.reduceToNat, Int.reduceLT, Int.reduceLE, reduceCtorEq, Nat.reduceBEq, fillAll, fillIn, shiftR, shiftV, List.take_succ_cons, List.take_zero, List.drop_succ_cons, List.drop_zero, List.append_nil, Nat.zero_add, subA5, List.cons_append, List.nil_append]
    refine mLoop (fun N st => ∃ i : Nat, i ≤ w.length ∧ N = w.length - i ∧ (∀ d ∈ w.take i, 1 ≤ d) ∧ st = ⟨[(1, .loc 2 0 0), (2, .int .i64 o), (3, .loc 3 0 0), (6, .loc 7 0 0), (8, .arr 8 0), (25, .arr 8 0), (26, .int .i64 w.length), (27, .int .i64 i)],
      [B, srcR l, srcB1 1, ⟨true, 36, 5, 0, 1, arrX s ch t L, false⟩, ⟨false, 3, 1, 0, 0, [], false⟩, ⟨false, 21, 1, 0, 0, [], false⟩, ⟨false, 62, 3, 0, 0, [], false⟩, ⟨true, 36, 5, 0, 1, [.arr 4 0, .bool false, .arr 5 0, .arr 6 0, .bool false], false⟩, rowI w]⟩) w.length
      ⟨_, rfl, 0, by omega, by omega, fun d hd => (by simp at hd), by simp [getE, ints, runes, arrX, rowI, srcR, srcB1]⟩ ?_
    rintro N s0 ⟨i, hi, rfl, hall, rfl⟩
    by_cases hlt : i < w.length
    · have hlt' : (i : Int) < (w.length : Int) := by omega
      have hi0 : (0 : Int) ≤ (i : Int) := by omega
      have hi1 : IntKind.i64.wrap ((i : Int) + 1) = ((i + 1 : Nat) : Int) := by rw [wrap_i64 (by omega) (by omega)]; omega
      have hsub := sub_nums (k := .i64) hlt
      by_cases hd : w.getD i 0 < 1
      · simp only [b8_0, rowI, arrX, runes, ints, srcR, srcB1, go_sem, ↓reduceIte, Nat.reduceEqDiff, Nat.reduceAdd, Nat.reduceMul, Nat.reduceLeDiff, Nat.reduceLT, Int.reduceToNat, Int.reduceLT, Int.reduceLE, reduceCtorEq, Nat.reduceBEq, fillAll, fillIn, shiftR, shiftV, List.take_succ_cons, List.take_zero, List.drop_succ_cons, List.drop_zero, List.append_nil, Nat.zero_add, subA5, hlt', hi0, Int.toNat_natCast, hsub, hd, hi1]
        simp only [i8, Out, resAll, geto, ints, List.getElem?_cons_zero, List.getElem?_cons_succ, resOf, outOf, snap, snapL, ev, getE, List.mapM_cons, List.mapM_nil, Option.bind_some, Option.pure_def, Option.bind_eq_bind, Option.map_some, reduceIte, Nat.reduceEqDiff, true_and, and_true, subA5, noA, mNo, arrX, runes, ints, rowI, List.cons_append, List.nil_append]
      · simp only [b8_0, rowI, go_sem, ↓reduceIte, Nat.reduceEqDiff, Nat.reduceAdd, Nat.reduceMul, Nat.reduceLeDiff, Nat.reduceLT, Int.reduceToNat, Int.reduceLT, Int.reduceLE, reduceCtorEq, Nat.reduceBEq, hlt', hi0, Int.toNat_natCast, hsub, hd, hi1]
        refine loopQ_go rfl (w.length - (i + 1)) (by omega) ⟨i + 1, by omega, rfl, ?_, rfl⟩
        intro d hdm
        rw [take_snoc hlt] at hdm
        rcases List.mem_append.1 hdm with h | h
        · exact hall d h
        · have := List.mem_singleton.1 h; omega
    · obtain rfl : i = w.length := by omega
      rw [List.take_length] at hall
      have := hall d0 hd0
      omega
theorem c8_yes {s t l w : List Int} {ch : Bool} {L : List Rt} {o : Int} {B : AObj} (hs : ∀ d ∈ s, In64 d) (hsl : (s.length : Int) ≤ 1000000000) (ht : (t.length : Int) ≤ 1000000000) (hL : (L.length : Int) ≤ 1000000000)
    (hok : ¬ (ch = true ∧ 0 < t.length + L.length) ∧ WhO L) (hw : L.map rv = w) (hw64 : ∀ d ∈ w, In64 d) (hpos : ∀ d ∈ w, 1 ≤ d) (hc : count s = some (w.length : Int)) (hl : ∀ d ∈ l, 0 ≤ d ∧ d ≤ 18446744073709551615) (ho : 0 ≤ o ∧ o ≤ 1) :
    Go.V.Call tab E 8 [.agg (arrX s ch t L), .loc 2 0 0, .int .i64 o] [B, srcR l, srcB1 1] (.tup [.agg (arrG s false [] (rolled l w o w.length)), .int .i64 0]) ([B, srcR l, srcB1 (1 + w.length)] ++ mYes s t w (rolled l w o w.length) ch L) := by
  refine Go.V.Call.mach i8 c8 rfl rfl rfl rfl ?_
  have h19 := c19_X (s := s) (t := t) (l := L) (ch := ch) (ok := true) (by omega) (by omega) ⟨fun _ => hok, fun _ => rfl⟩
  rw [if_pos rfl, hw] at h19
  have hwl : (w.length : Int) ≤ 1000000000 := by rw [← hw, List.length_map]; exact hL
  have h23 := c23_X (s := s) (t := t) (l := L) (ch := ch) (by omega)
  simp only [arrX, runes, ints, rowI] at h19 h23
  simp only [c8, arrX, runes, ints, srcR, srcB1, go_sem, ↓reduceIte, Nat.reduceEqDiff, Nat.reduceAdd, Nat.reduceMul, Nat.reduceLeDiff, Nat.reduceLT, Int.reduceToNat, Int.reduceLT, Int.reduceLE, reduceCtorEq, Nat.reduceBEq, fillAll, fillIn, shiftR, shiftV, List.take_succ_cons, List.take_zero, List.drop_succ_cons, List.drop_zero, List.append_nil, Nat.zero_add, subA5]
  refine goO h19 rfl rfl ?_
  simp only [go_sem, ↓reduceIte, Nat.reduceEqDiff, Nat.reduceAdd, Nat.reduceMul, Nat.reduceLeDiff, Nat.reduceLT, Int.reduceToNat, Int.reduceLT, Int.reduceLE, reduceCtorEq, Nat.reduceBEq, fillAll, fillIn, shiftR, shiftV, List.take_succ_cons, List.take_zero, List.drop_succ_cons, List.drop_zero, List.append_nil, Nat.zero_add, subA5, List.cons_append, List.nil_append]
  refine mLoop (fun N st => ∃ i : Nat, i ≤ w.length ∧ N = w.length - i ∧ st = ⟨[(1, .loc 2 0 0), (2, .int .i64 o), (3, .loc 3 0 0), (6, .loc 7 0 0), (8, .arr 8 0), (25, .arr 8 0), (26, .int .i64 w.length), (27, .int .i64 i)],
      [B, srcR l, srcB1 1, ⟨true, 36, 5, 0, 1, arrX s ch t L, false⟩, ⟨false, 3, 1, 0, 0, [], false⟩, ⟨false, 21, 1, 0, 0, [], false⟩, ⟨false, 62, 3, 0, 0, [], false⟩, ⟨true, 36, 5, 0, 1, [.arr 4 0, .bool false, .arr 5 0, .arr 6 0, .bool false], false⟩, rowI w]⟩) w.length
      ⟨_, rfl, 0, by omega, by omega, by simp [getE, ints, runes, arrX, rowI, srcR, srcB1]⟩ ?_
  rintro N s0 ⟨i, hi, rfl, rfl⟩
  by_cases hlt : i < w.length
  · have hlt' : (i : Int) < (w.length : Int) := by omega
    have hi0 : (0 : Int) ≤ (i : Int) := by omega
    have hi1 : IntKind.i64.wrap ((i : Int) + 1) = ((i + 1 : Nat) : Int) := by rw [wrap_i64 (by omega) (by omega)]; omega
    have hsub := sub_nums (k := .i64) hlt
    have hd : ¬ w.getD i 0 < 1 := by
      have := hpos _ (show w.getD i 0 ∈ w by simp [List.getD, hlt])
      omega
    simp only [b8_0, rowI, go_sem, ↓reduceIte, Nat.reduceEqDiff, Nat.reduceAdd, Nat.reduceMul, Nat.reduceLeDiff, Nat.reduceLT, Int.reduceToNat, Int.reduceLT, Int.reduceLE, reduceCtorEq, Nat.reduceBEq, hlt', hi0, Int.toNat_natCast, hsub, hd, hi1]
    exact loopQ_go rfl (w.length - (i + 1)) (by omega) ⟨i + 1, by omega, rfl, rfl⟩
  · have hlt' : ¬ (i : Int) < (w.length : Int) := by omega
    obtain rfl : i = w.length := by omega
    have m1 : (0 : Int) ≤ (w.length : Int) := by omega
    have m2 : 56 * w.length ≤ 140737488355328 := by omega
    have m3 : (w.length : Int) ≤ 140737488355328 := by omega
    simp only [b8_0, k8_1, rowI, go_sem, ↓reduceIte, Nat.reduceEqDiff, Nat.reduceAdd, Nat.reduceMul, Nat.reduceLeDiff, Nat.reduceLT, Int.reduceToNat, Int.reduceLT, Int.reduceLE, reduceCtorEq, Nat.reduceBEq, hlt', m1, m2, m3, Int.toNat_natCast]
    refine mLoop (fun N st => ∃ i : Nat, i ≤ w.length ∧ N = w.length - i ∧ st = ⟨[(1, .loc 2 0 0), (2, .int .i64 o), (3, .loc 3 0 0), (6, .loc 7 0 0), (12, .arr 9 0), (38, .arr 8 0), (39, .int .i64 w.length), (40, .int .i64 i)],
      [B, srcR l, srcB1 (1 + i), ⟨true, 36, 5, 0, 1, arrX s ch t L, false⟩, ⟨false, 3, 1, 0, 0, [], false⟩, ⟨false, 21, 1, 0, 0, [], false⟩, ⟨false, 62, 3, 0, 0, [], false⟩, ⟨true, 36, 5, 0, 1, [.arr 4 0, .bool false, .arr 5 0, .arr 6 0, .bool false], false⟩, rowI w,
       ⟨false, 62, 3, 0, w.length, rowZ (rolled l w o i) (w.length - i), false⟩]⟩) w.length
      ⟨_, rfl, 0, by omega, by omega, rfl⟩ ?_
    rintro N s0 ⟨i, hi, rfl, rfl⟩
    by_cases hlt : i < w.length
    · have hlt' : (i : Int) < (w.length : Int) := by omega
      have hi0 : (0 : Int) ≤ (i : Int) := by omega
      have hi1 : IntKind.i64.wrap ((i : Int) + 1) = ((i + 1 : Nat) : Int) := by rw [wrap_i64 (by omega) (by omega)]; omega
      have hsub := sub_nums (k := .i64) hlt
      have hdm : w.getD i 0 ∈ w := by simp [List.getD, hlt]
      have hd1 := hpos _ hdm
      have hd64 := hw64 _ hdm
      have hx : 0 ≤ l.getD (1 + i) 0 ∧ l.getD (1 + i) 0 ≤ 18446744073709551615 := by
        by_cases hjl : 1 + i < l.length
        · exact hl _ (by simp [List.getD, hjl])
        · simp only [List.getD]
          rw [List.getElem?_eq_none (by omega)]
          simp
      have hsn := rolled_snoc (l := l) (w := w) (o := o) (i := i)
      have hrl := rolled_len (l := l) (w := w) (o := o) (i := i)
      have hnx := fun M => c7_next (l := l) (i := 1 + i) (B := B) (M := M) (by omega)
      generalize l.getD (1 + i) 0 = x at *
      generalize w.getD i 0 = d at *
      generalize hq1 : rolled l w o (i + 1) = q1 at *
      generalize hqe : rolled l w o i = q at *
      obtain ⟨hv0, hv1, hv2, hv3, hv4⟩ := roll_facts hx hd1 hd64 ho
      have h21 := c21_int (a := x % d) (b := o) hv2 hv3 hv4
      have h20 := c20_ok (E := E) hv2
      have h20o := c20_ok (E := E) hv3
      have hst : i * 3 + 3 ≤ (rowZ q (w.length - i)).length := by rw [rowZ_len, hrl]; omega
      have hfill : fillIn (rowZ q (w.length - i)) (i * 3) (ratC (x % d + o)) = rowZ q1 (w.length - (i + 1)) := by
        rw [hsn, show w.length - i = (w.length - (i + 1)) + 1 by omega]
        exact rowZ_fill' hrl
      simp only [b8_1, rowI, go_sem, ↓reduceIte, Nat.reduceEqDiff, Nat.reduceAdd, Nat.reduceMul, Nat.reduceLeDiff, Nat.reduceLT, Int.reduceToNat, Int.reduceLT, Int.reduceLE, reduceCtorEq, Nat.reduceBEq, hlt', hi0, Int.toNat_natCast, hsub]
      refine goM (hnx _) ?_
      simp only [go_sem, ↓reduceIte, Nat.reduceEqDiff, Nat.reduceAdd, Nat.reduceMul, Nat.reduceLeDiff, Nat.reduceLT, Int.reduceToNat, Int.reduceLT, Int.reduceLE, reduceCtorEq, Nat.reduceBEq, hv0, hv1]
      simp only [ratC, us32] at h20 h20o h21 hfill
      refine goP h20 ?_
      simp only [go_sem, ↓reduceIte, Nat.reduceEqDiff, Nat.reduceAdd, Nat.reduceMul, Nat.reduceLeDiff, Nat.reduceLT, Int.reduceToNat, Int.reduceLT, Int.reduceLE, reduceCtorEq, Nat.reduceBEq, fillAll, fillIn, shiftR, shiftV, List.take_succ_cons, List.take_zero, List.drop_succ_cons, List.drop_zero, List.append_nil, Nat.zero_add]
      refine goF h20o ?_
      simp only [go_sem, ↓reduceIte, Nat.reduceEqDiff, Nat.reduceAdd, Nat.reduceMul, Nat.reduceLeDiff, Nat.reduceLT, Int.reduceToNat, Int.reduceLT, Int.reduceLE, reduceCtorEq, Nat.reduceBEq, fillAll, fillIn, shiftR, shiftV, List.take_succ_cons, List.take_zero, List.drop_succ_cons, List.drop_zero, List.append_nil, Nat.zero_add]
      refine goP h21 ?_
      simp only [go_sem, ↓reduceIte, Nat.reduceEqDiff, Nat.reduceAdd, Nat.reduceMul, Nat.reduceLeDiff, Nat.reduceLT, Int.reduceToNat, Int.reduceLT, Int.reduceLE, reduceCtorEq, Nat.reduceBEq, fillAll, fillIn, shiftR, shiftV, List.take_succ_cons, List.take_zero, List.drop_succ_cons, List.drop_zero, List.append_nil, Nat.zero_add, hlt', hi0, hi1, hst, Int.toNat_natCast]
      exact loopQ_go rfl (w.length - (i + 1)) (by omega) ⟨i + 1, by omega, rfl, by rw [hq1, ← hfill]; rfl⟩
    · have hlt' : ¬ (i : Int) < (w.length : Int) := by omega
      obtain rfl : i = w.length := by omega
      have hql := rolled_len (l := l) (w := w) (o := o) (i := w.length)
      have h22 := c22_ok (s := s) (l := rolled l w o w.length) hs (by omega) (by omega)
      rw [hql, fits_yes hc, if_pos rfl] at h22
      generalize rolled l w o w.length = q at *
      simp only [arrG, ints, runes] at h22
      simp only [b8_1, k8_0, arrX, runes, ints, rowI, go_sem, ↓reduceIte, Nat.reduceEqDiff, Nat.reduceAdd, Nat.reduceMul, Nat.reduceLeDiff, Nat.reduceLT, Int.reduceToNat, Int.reduceLT, Int.reduceLE, reduceCtorEq, Nat.reduceBEq, fillAll, fillIn, shiftR, shiftV, List.take_succ_cons, List.take_zero, List.drop_succ_cons, List.drop_zero, List.append_nil, Nat.zero_add, subA5, hlt', Nat.sub_self, rowZ_none]
      refine goF h23 ?_
      simp only [go_sem, ↓reduceIte, Nat.reduceEqDiff, Nat.reduceAdd, Nat.reduceMul, Nat.reduceLeDiff, Nat.reduceLT, Int.reduceToNat, Int.reduceLT, Int.reduceLE, reduceCtorEq, Nat.reduceBEq, fillAll, fillIn, shiftR, shiftV, List.take_succ_cons, List.take_zero, List.drop_succ_cons, List.drop_zero, List.append_nil, Nat.zero_add, subA5]
      refine goF h22 ?_
      simp only [go_sem, ↓reduceIte, Nat.reduceEqDiff, Nat.reduceAdd, Nat.reduceMul, Nat.reduceLeDiff, Nat.reduceLT, Int.reduceToNat, Int.reduceLT, Int.reduceLE, reduceCtorEq, Nat.reduceBEq, fillAll, fillIn, shiftR, shiftV, List.take_succ_cons, List.take_zero, List.drop_succ_cons, List.drop_zero, List.append_nil, Nat.zero_add, subA5]
      simp only [i8, Out, resAll, geto, ints, List.getElem?_cons_zero, List.getElem?_cons_succ, resOf, outOf, snap, snapL, ev, getE, List.mapM_cons, List.mapM_nil, Option.bind_some, Option.pure_def, Option.bind_eq_bind, Option.map_some, reduceIte, Nat.reduceEqDiff, true_and, and_true, subA5, mYes, arrG, arrX, runes, ints, rowI, List.cons_append, List.nil_append]
      exact ⟨rfl, rfl⟩
end Go.Proofs.YtcmbaabkfihdmaaGreat.I

/- SEAT YtcmbaabkfihdmaaGreat. Layer 17: the document's Roll. -/
set_option linter.unusedVariables false
set_option linter.unusedSimpArgs false
namespace Go.Proofs.YtcmbaabkfihdmaaGreat.I
open Go Go.V
attribute [local go_sem] mNil nat0 beq_self_eq_true mSkip mRet mExit mReg mSeq mCond mTrue mFalse mBlock mLv mCodeE mCodeR mEndN mEndR mEndE mOps mSome mGuard mGtt mGff mGtf mGft mGu mCallP mCallR mCallF mCallO mCallZ mCallG mCallM mCallV loopQ_exit loopQ_ret mO_mov mO_newnil mO_pick mO_alloc mO_box mO_build mO_bsl mO_bslF mO_ldf mO_ld mO_st mO_sta mO_nilchk mO_bin mO_binb mO_binp mO_bins mO_neg mO_com mO_not mO_conv mO_mk mO_mk0 mO_s2b mO_b2s mO_cpy mO_cut mO_faddr mO_fld mO_iaddr mO_iaddrf mO_sidx mO_len mO_lenf mO_slen mO_scut mO_app mO_ext mO_mx mO_mn mO_mkfn evalOp cutOp argsE ev getE putE cellsOf adopt rowOf binV boolV nilV ar_add ar_sub ar_mul ar_quo ar_rem ar_eq ar_ne ar_lt ar_le ar_gt ar_ge ar_and ar_or ar_xor geto bound finRet finNrm ints List.length_cons List.length_nil List.length_append List.getElem?_cons_zero List.getElem?_cons_succ List.nil_append List.cons_append List.map_cons List.map_nil List.mapM_cons List.mapM_nil Option.map_some Option.map_none Option.bind_some Option.pure_def Option.bind_eq_bind List.drop_zero or_self or_false false_or or_true true_or true_and and_true and_self decide_true decide_false Bool.false_eq_true Bool.true_eq_false Bool.not_true Bool.not_false Nat.le_refl eq_self gt_iff_lt ge_iff_le ne_eq not_true_eq_false not_false_eq_true storeOp apartOf freeze_nil refsL refs List.flatMap_cons List.flatMap_nil List.append_nil List.contains_nil List.set_cons_zero List.set_cons_succ snap snapL fill_nums flat_nums nums_length Go.V.freeze List.mapIdx_cons List.mapIdx_nil List.contains_cons Bool.or_false Bool.false_or Bool.or_true Bool.true_or
theorem numsC_snoc1 {l : List Int} {z : Int} : numsC (l ++ [z]) = numsC l ++ numC z := by simp [numsC]
theorem c11_yes {s t l w : List Int} {ch : Bool} {L : List Rt} {o : Int} (ht : (t.length : Int) ≤ 1000000000) (hL : (L.length : Int) ≤ 1000000000) (hlk : ∀ x ∈ L, RtOk x)
    (hok : t.length = 0 ∧ WhO L) (hw : L.map rv = w) (hw64 : ∀ d ∈ w, In64 d) (hpos : ∀ d ∈ w, 1 ≤ d) (hl : ∀ d ∈ l, 0 ≤ d ∧ d ≤ 18446744073709551615) (ho : 0 ≤ o ∧ o ≤ 1) :
    Go.V.Call tab E 11 [.agg (plX s ch t (L.map toNm)), us l, .int .i64 1, .int .i64 o] [] (.tup [.agg (plG s false [] (rolled l w o w.length)), .int .i64 ((1 + w.length : Nat) : Int), .int .i64 0]) [] := by
  refine Go.V.Call.mach i11 c11 rfl rfl rfl rfl ?_
  have h25 := c25_ok (s := s) (t := t) (l := L) (ch := ch) (ok := true) (by omega) (by omega) hlk ⟨fun _ => hok, fun _ => rfl⟩
  rw [if_pos rfl, hw] at h25
  have hwl : (w.length : Int) ≤ 1000000000 := by rw [← hw, List.length_map]; exact hL
  simp only [plX, runes, ints, rowI] at h25
  simp only [c11, plX, runes, ints, us, go_sem, ↓reduceIte, Nat.reduceEqDiff, Nat.reduceAdd, Nat.reduceMul, Nat.reduceLeDiff, Nat.reduceLT, Int.reduceToNat, Int.reduceLT, Int.reduceLE, reduceCtorEq, Nat.reduceBEq, fillAll, fillIn, shiftR, shiftV, List.take_succ_cons, List.take_zero, List.drop_succ_cons, List.drop_zero, List.append_nil, Nat.zero_add, subP4]
  refine goO h25 rfl rfl ?_
  simp only [go_sem, ↓reduceIte, Nat.reduceEqDiff, Nat.reduceAdd, Nat.reduceMul, Nat.reduceLeDiff, Nat.reduceLT, Int.reduceToNat, Int.reduceLT, Int.reduceLE, reduceCtorEq, Nat.reduceBEq, fillAll, fillIn, shiftR, shiftV, List.take_succ_cons, List.take_zero, List.drop_succ_cons, List.drop_zero, List.append_nil, Nat.zero_add, subP4, subP4a, subP4b]
  refine mLoop (fun N st => ∃ i : Nat, i ≤ w.length ∧ N = w.length - i ∧ st = ⟨[(1, us l), (2, .int .i64 1), (3, .int .i64 o), (8, .loc 4 0 0), (11, .arr 5 0), (13, .loc 9 0 0), (14, .int .i64 i)],
      [⟨true, 26, 4, 0, 1, plX s ch t (L.map toNm), false⟩, ⟨false, 3, 1, 0, 0, [], false⟩, ⟨false, 21, 1, 0, 0, [], false⟩, ⟨false, 71, 3, 0, 0, [], false⟩, ⟨true, 26, 4, 0, 1, [.arr 1 0, .bool false, .arr 2 0, .arr 3 0], false⟩,
       rowI w, ⟨false, 3, 1, 0, 0, [], false⟩, ⟨false, 21, 1, 0, 0, [], false⟩, ⟨false, 71, 3, 0, 0, [], false⟩, ⟨true, 26, 4, 0, 1, [ints s, .bool false, .arr 10 0, .arr 11 i], false⟩, ⟨false, 21, 1, 0, 0, [], false⟩, ⟨false, 71, 3, i, i, numsC (rolled l w o i), false⟩]⟩) w.length
      ⟨_, rfl, 0, by omega, by omega, by simp [getE, ints, runes, plX, us, rowI, rolled, numsC, nums]⟩ ?_
  rintro N s0 ⟨i, hi, rfl, rfl⟩
  by_cases hlt : i < w.length
  · have hlt' : (i : Int) < (w.length : Int) := by omega
    have hi0 : (0 : Int) ≤ (i : Int) := by omega
    have hi1 : IntKind.i64.wrap ((i : Int) + 1) = ((i + 1 : Nat) : Int) := by rw [wrap_i64 (by omega) (by omega)]; omega
    have hat : IntKind.i64.wrap (1 + (i : Int)) = ((1 + i : Nat) : Int) := by rw [wrap_i64 (by omega) (by omega)]; omega
    have hsub := sub_nums (k := .i64) hlt
    have hdm : w.getD i 0 ∈ w := by simp [List.getD, hlt]
    have hd1 := hpos _ hdm
    have hd64 := hw64 _ hdm
    have hx : 0 ≤ l.getD (1 + i) 0 ∧ l.getD (1 + i) 0 ≤ 18446744073709551615 := by
      by_cases hjl : 1 + i < l.length
      · exact hl _ (by simp [List.getD, hjl])
      · simp only [List.getD]
        rw [List.getElem?_eq_none (by omega)]
        simp
    have hsn := rolled_snoc (l := l) (w := w) (o := o) (i := i)
    have h12 := c12_ok (E := E) (l := l) (i := 1 + i) (by omega)
    simp only [us] at h12
    generalize l.getD (1 + i) 0 = x at *
    generalize w.getD i 0 = d at *
    generalize hq1 : rolled l w o (i + 1) = q1 at *
    generalize hqe : rolled l w o i = q at *
    obtain ⟨hv0, hv1, hv2, hv3, hv4⟩ := roll_facts hx hd1 hd64 ho
    have hge : ¬ d < 1 := by omega
    have h26 := c26_int (a := x % d) (b := o) hv2 hv3
    have h27 := c27_ok (E := E) hv2
    have h27o := c27_ok (E := E) hv3
    have hmt : numsC q1 = numsC q ++ numC (x % d + o) := by rw [hsn, numsC_snoc1]
    have e1 : (i + 1) * 40 ≤ 140737488355328 := by omega
    have e2 : i + 1 ≤ 140737488355328 := by omega
    simp only [numC] at h26 h27 h27o
    simp only [b11_0, plX, runes, ints, us, rowI, go_sem, ↓reduceIte, Nat.reduceEqDiff, Nat.reduceAdd, Nat.reduceMul, Nat.reduceLeDiff, Nat.reduceLT, Int.reduceToNat, Int.reduceLT, Int.reduceLE, reduceCtorEq, Nat.reduceBEq, fillAll, fillIn, shiftR, shiftV, List.take_succ_cons, List.take_zero, List.drop_succ_cons, List.drop_zero, List.append_nil, Nat.zero_add, subP4, subP4a, subP4b, subP4c, subP3', hlt', hi0, Int.toNat_natCast, hsub, hge, hat]
    refine goP h12 ?_
    simp only [go_sem, ↓reduceIte, Nat.reduceEqDiff, Nat.reduceAdd, Nat.reduceMul, Nat.reduceLeDiff, Nat.reduceLT, Int.reduceToNat, Int.reduceLT, Int.reduceLE, reduceCtorEq, Nat.reduceBEq, fillAll, fillIn, shiftR, shiftV, List.take_succ_cons, List.take_zero, List.drop_succ_cons, List.drop_zero, List.append_nil, Nat.zero_add, subP4, subP4a, subP4b, subP4c, subP3', hlt', hi0, Int.toNat_natCast, hsub, hv0, hv1]
    refine goP h27 ?_
    simp only [go_sem, ↓reduceIte, Nat.reduceEqDiff, Nat.reduceAdd, Nat.reduceMul, Nat.reduceLeDiff, Nat.reduceLT, Int.reduceToNat, Int.reduceLT, Int.reduceLE, reduceCtorEq, Nat.reduceBEq, fillAll, fillIn, shiftR, shiftV, List.take_succ_cons, List.take_zero, List.drop_succ_cons, List.drop_zero, List.append_nil, Nat.zero_add]
    refine goP h27o ?_
    simp only [go_sem, ↓reduceIte, Nat.reduceEqDiff, Nat.reduceAdd, Nat.reduceMul, Nat.reduceLeDiff, Nat.reduceLT, Int.reduceToNat, Int.reduceLT, Int.reduceLE, reduceCtorEq, Nat.reduceBEq, fillAll, fillIn, shiftR, shiftV, List.take_succ_cons, List.take_zero, List.drop_succ_cons, List.drop_zero, List.append_nil, Nat.zero_add]
    refine goP h26 ?_
    simp only [go_sem, ↓reduceIte, Nat.reduceEqDiff, Nat.reduceAdd, Nat.reduceMul, Nat.reduceLeDiff, Nat.reduceLT, Int.reduceToNat, Int.reduceLT, Int.reduceLE, reduceCtorEq, Nat.reduceBEq, fillAll, fillIn, shiftR, shiftV, List.take_succ_cons, List.take_zero, List.drop_succ_cons, List.drop_zero, List.append_nil, Nat.zero_add, subP4, subP4a, subP4b, subP4c, subP3', hi1, e1, e2, List.flatten_cons, List.flatten_nil, Option.getD_some]
    refine loopQ_go rfl (w.length - (i + 1)) (by omega) ⟨i + 1, by omega, rfl, ?_⟩
    rw [hq1, hmt]
    rfl
  · have hlt' : ¬ (i : Int) < (w.length : Int) := by omega
    obtain rfl : i = w.length := by omega
    have hql := rolled_len (l := l) (w := w) (o := o) (i := w.length)
    have hat : IntKind.i64.wrap (1 + (w.length : Int)) = ((1 + w.length : Nat) : Int) := by rw [wrap_i64 (by omega) (by omega)]; omega
    generalize rolled l w o w.length = q at *
    simp only [b11_0, k11_0, plX, runes, ints, us, rowI, go_sem, ↓reduceIte, Nat.reduceEqDiff, Nat.reduceAdd, Nat.reduceMul, Nat.reduceLeDiff, Nat.reduceLT, Int.reduceToNat, Int.reduceLT, Int.reduceLE, reduceCtorEq, Nat.reduceBEq, fillAll, fillIn, shiftR, shiftV, List.take_succ_cons, List.take_zero, List.drop_succ_cons, List.drop_zero, List.append_nil, Nat.zero_add, subP4, subP4a, subP4b, hlt', hat]
    simp only [i11, Out, resAll, geto, ints, List.getElem?_cons_zero, List.getElem?_cons_succ, resOf, outOf, snap, snapL, ev, getE, List.mapM_cons, List.mapM_nil, Option.bind_some, Option.pure_def, Option.bind_eq_bind, Option.map_some, reduceIte, Nat.reduceEqDiff, true_and, and_true, subP4, plG, runes, ints, hql]
    rfl
theorem c11_no {s t l w : List Int} {ch ok : Bool} {L : List Rt} {o : Int} (ht : (t.length : Int) ≤ 1000000000) (hL : (L.length : Int) ≤ 1000000000) (hlk : ∀ x ∈ L, RtOk x)
    (hok : ok = true ↔ t.length = 0 ∧ WhO L) (hw : (if ok then L.map rv else []) = w) (hw64 : ∀ d ∈ w, In64 d) (hno : ok = true → ∃ d ∈ w, d < 1) (hl : ∀ d ∈ l, 0 ≤ d ∧ d ≤ 18446744073709551615) (ho : 0 ≤ o ∧ o ≤ 1) :
    Go.V.Call tab E 11 [.agg (plX s ch t (L.map toNm)), us l, .int .i64 1, .int .i64 o] [] (.tup [.agg (plX [] false [] []), .int .i64 1, .int .i64 22]) [] := by
  refine Go.V.Call.mach i11 c11 rfl rfl rfl rfl ?_
  have h25 := c25_ok (s := s) (t := t) (l := L) (ch := ch) (ok := ok) (by omega) (by omega) hlk hok
  have hwl : (w.length : Int) ≤ 1000000000 := by
    rw [← hw]
    split
    · rw [List.length_map]; exact hL
    · simp
  rw [hw] at h25
  simp only [plX, runes, ints, rowI] at h25
  simp only [c11, plX, runes, ints, us, go_sem, ↓reduceIte, Nat.reduceEqDiff, Nat.reduceAdd, Nat.reduceMul, Nat.reduceLeDiff, Nat.reduceLT, Int.reduceToNat, Int.reduceLT, Int.reduceLE, reduceCtorEq, Nat.reduceBEq, fillAll, fillIn, shiftR, shiftV, List.take_succ_cons, List.take_zero, List.drop_succ_cons, List.drop_zero, List.append_nil, Nat.zero_add, subP4]
  refine goO h25 rfl rfl ?_
  cases ok with
  | false =>
    simp only [go_sem, ↓reduceIte, Nat.reduceEqDiff, Nat.reduceAdd, Nat.reduceMul, Nat.reduceLeDiff, Nat.reduceLT, Int.reduceToNat, Int.reduceLT, Int.reduceLE, reduceCtorEq, Nat.reduceBEq, fillAll, fillIn, shiftR, shiftV, List.take_succ_cons, List.take_zero, List.drop_succ_cons, List.drop_zero, List.append_nil, Nat.zero_add, subP4, subP4a, subP4b]
    simp only [i11, Out, resAll, geto, ints, List.getElem?_cons_zero, List.getElem?_cons_succ, resOf, outOf, snap, snapL, ev, getE, List.mapM_cons, List.mapM_nil, Option.bind_some, Option.pure_def, Option.bind_eq_bind, Option.map_some, reduceIte, Nat.reduceEqDiff, true_and, and_true, subP4]
    rfl
  | true =>
    obtain ⟨d0, hd0, hd00⟩ := hno rfl
    simp only [go_sem, ↓reduceIte, Nat.reduceEqDiff, Nat.reduceAdd, Nat.reduceMul, Nat.reduceLeDiff, Nat.reduceLT, Int.reduceToNat, Int.reduceLT, Int.reduceLE, reduceCtorEq, Nat.reduceBEq, fillAll, fillIn, shiftR, shiftV, List.take_succ_cons, List.take_zero, List.drop_succ_cons, List.drop_zero, List.append_nil, Nat.zero_add, subP4, subP4a, subP4b]
    refine mLoop (fun N st => ∃ i : Nat, i ≤ w.length ∧ N = w.length - i ∧ (∀ d ∈ w.take i, 1 ≤ d) ∧ st = ⟨[(1, us l), (2, .int .i64 1), (3, .int .i64 o), (8, .loc 4 0 0), (11, .arr 5 0), (13, .loc 9 0 0), (14, .int .i64 i)],
      [⟨true, 26, 4, 0, 1, plX s ch t (L.map toNm), false⟩, ⟨false, 3, 1, 0, 0, [], false⟩, ⟨false, 21, 1, 0, 0, [], false⟩, ⟨false, 71, 3, 0, 0, [], false⟩, ⟨true, 26, 4, 0, 1, [.arr 1 0, .bool false, .arr 2 0, .arr 3 0], false⟩,
       rowI w, ⟨false, 3, 1, 0, 0, [], false⟩, ⟨false, 21, 1, 0, 0, [], false⟩, ⟨false, 71, 3, 0, 0, [], false⟩, ⟨true, 26, 4, 0, 1, [ints s, .bool false, .arr 10 0, .arr 11 i], false⟩, ⟨false, 21, 1, 0, 0, [], false⟩, ⟨false, 71, 3, i, i, numsC (rolled l w o i), false⟩]⟩) w.length
      ⟨_, rfl, 0, by omega, by omega, fun d hd => (by simp at hd), by simp [getE, ints, runes, plX, us, rowI, rolled, numsC, nums]⟩ ?_
    rintro N s0 ⟨i, hi, rfl, hall, rfl⟩
    by_cases hlt : i < w.length
    · have hlt' : (i : Int) < (w.length : Int) := by omega
      have hi0 : (0 : Int) ≤ (i : Int) := by omega
      have hi1 : IntKind.i64.wrap ((i : Int) + 1) = ((i + 1 : Nat) : Int) := by rw [wrap_i64 (by omega) (by omega)]; omega
      have hat : IntKind.i64.wrap (1 + (i : Int)) = ((1 + i : Nat) : Int) := by rw [wrap_i64 (by omega) (by omega)]; omega
      have hsub := sub_nums (k := .i64) hlt
      have hdm : w.getD i 0 ∈ w := by simp [List.getD, hlt]
      have hd64 := hw64 _ hdm
      by_cases hge : w.getD i 0 < 1
      · simp only [b11_0, plX, runes, ints, us, rowI, go_sem, ↓reduceIte, Nat.reduceEqDiff, Nat.reduceAdd, Nat.reduceMul, Nat.reduceLeDiff, Nat.reduceLT, Int.reduceToNat, Int.reduceLT, Int.reduceLE, reduceCtorEq, Nat.reduceBEq, fillAll, fillIn, shiftR, shiftV, List.take_succ_cons, List.take_zero, List.drop_succ_cons, List.drop_zero, List.append_nil, Nat.zero_add, subP4, subP4a, subP4b, subP4c, subP3', hlt', hi0, Int.toNat_natCast, hsub, hge]
        simp only [i11, Out, resAll, geto, ints, List.getElem?_cons_zero, List.getElem?_cons_succ, resOf, outOf, snap, snapL, ev, getE, List.mapM_cons, List.mapM_nil, Option.bind_some, Option.pure_def, Option.bind_eq_bind, Option.map_some, reduceIte, Nat.reduceEqDiff, true_and, and_true, subP4]
        rfl
      · have hall' : ∀ d ∈ w.take (i + 1), 1 ≤ d := by
          intro d hdm
          rw [take_snoc hlt] at hdm
          rcases List.mem_append.1 hdm with h | h
          · exact hall d h
          · have := List.mem_singleton.1 h; omega
        have hx : 0 ≤ l.getD (1 + i) 0 ∧ l.getD (1 + i) 0 ≤ 18446744073709551615 := by
          by_cases hjl : 1 + i < l.length
          · exact hl _ (by simp [List.getD, hjl])
          · simp only [List.getD]
            rw [List.getElem?_eq_none (by omega)]
            simp
        have hsn := rolled_snoc (l := l) (w := w) (o := o) (i := i)
        have h12 := c12_ok (E := E) (l := l) (i := 1 + i) (by omega)
        simp only [us] at h12
        generalize l.getD (1 + i) 0 = x at *
        generalize w.getD i 0 = d at *
        generalize hq1 : rolled l w o (i + 1) = q1 at *
        generalize hqe : rolled l w o i = q at *
        obtain ⟨hv0, hv1, hv2, hv3, hv4⟩ := roll_facts hx (show 1 ≤ d by omega) hd64 ho
        have h26 := c26_int (a := x % d) (b := o) hv2 hv3
        have h27 := c27_ok (E := E) hv2
        have h27o := c27_ok (E := E) hv3
        have hmt : numsC q1 = numsC q ++ numC (x % d + o) := by rw [hsn, numsC_snoc1]
        have e1 : (i + 1) * 40 ≤ 140737488355328 := by omega
        have e2 : i + 1 ≤ 140737488355328 := by omega
        simp only [numC] at h26 h27 h27o
        simp only [b11_0, plX, runes, ints, us, rowI, go_sem, ↓reduceIte, Nat.reduceEqDiff, Nat.reduceAdd, Nat.reduceMul, Nat.reduceLeDiff, Nat.reduceLT, Int.reduceToNat, Int.reduceLT, Int.reduceLE, reduceCtorEq, Nat.reduceBEq, fillAll, fillIn, shiftR, shiftV, List.take_succ_cons, List.take_zero, List.drop_succ_cons, List.drop_zero, List.append_nil, Nat.zero_add, subP4, subP4a, subP4b, subP4c, subP3', hlt', hi0, Int.toNat_natCast, hsub, hge, hat]
        refine goP h12 ?_
        simp only [go_sem, ↓reduceIte, Nat.reduceEqDiff, Nat.reduceAdd, Nat.reduceMul, Nat.reduceLeDiff, Nat.reduceLT, Int.reduceToNat, Int.reduceLT, Int.reduceLE, reduceCtorEq, Nat.reduceBEq, fillAll, fillIn, shiftR, shiftV, List.take_succ_cons, List.take_zero, List.drop_succ_cons, List.drop_zero, List.append_nil, Nat.zero_add, subP4, subP4a, subP4b, subP4c, subP3', hlt', hi0, Int.toNat_natCast, hsub, hv0, hv1]
        refine goP h27 ?_
        simp only [go_sem, ↓reduceIte, Nat.reduceEqDiff, Nat.reduceAdd, Nat.reduceMul, Nat.reduceLeDiff, Nat.reduceLT, Int.reduceToNat, Int.reduceLT, Int.reduceLE, reduceCtorEq, Nat.reduceBEq, fillAll, fillIn, shiftR, shiftV, List.take_succ_cons, List.take_zero, List.drop_succ_cons, List.drop_zero, List.append_nil, Nat.zero_add]
        refine goP h27o ?_
        simp only [go_sem, ↓reduceIte, Nat.reduceEqDiff, Nat.reduceAdd, Nat.reduceMul, Nat.reduceLeDiff, Nat.reduceLT, Int.reduceToNat, Int.reduceLT, Int.reduceLE, reduceCtorEq, Nat.reduceBEq, fillAll, fillIn, shiftR, shiftV, List.take_succ_cons, List.take_zero, List.drop_succ_cons, List.drop_zero, List.append_nil, Nat.zero_add]
        refine goP h26 ?_
        simp only [go_sem, ↓reduceIte, Nat.reduceEqDiff, Nat.reduceAdd, Nat.reduceMul, Nat.reduceLeDiff, Nat.reduceLT, Int.reduceToNat, Int.reduceLT, Int.reduceLE, reduceCtorEq, Nat.reduceBEq, fillAll, fillIn, shiftR, shiftV, List.take_succ_cons, List.take_zero, List.drop_succ_cons, List.drop_zero, List.append_nil, Nat.zero_add, subP4, subP4a, subP4b, subP4c, subP3', hi1, e1, e2, List.flatten_cons, List.flatten_nil, Option.getD_some]
        refine loopQ_go rfl (w.length - (i + 1)) (by omega) ⟨i + 1, by omega, rfl, hall', ?_⟩
        rw [hq1, hmt]
        rfl
    · obtain rfl : i = w.length := by omega
      rw [List.take_length] at hall
      have := hall d0 hd0
      omega
end Go.Proofs.YtcmbaabkfihdmaaGreat.I

/- SEAT YtcmbaabkfihdmaaGreat. Layer 17: DrawRolls. -/
set_option linter.unusedVariables false
set_option linter.unusedSimpArgs false
namespace Go.Proofs.YtcmbaabkfihdmaaGreat.I
open Go Go.V
attribute [local go_sem] mNil nat0 beq_self_eq_true mSkip mRet mExit mReg mSeq mCond mTrue mFalse mBlock mLv mCodeE mCodeR mEndN mEndR mEndE mOps mSome mGuard mGtt mGff mGtf mGft mGu mCallP mCallR mCallF mCallO mCallZ mCallG mCallM mCallV loopQ_exit loopQ_ret mO_mov mO_newnil mO_pick mO_alloc mO_box mO_build mO_bsl mO_bslF mO_ldf mO_ld mO_st mO_sta mO_nilchk mO_bin mO_binb mO_binp mO_bins mO_neg mO_com mO_not mO_conv mO_mk mO_mk0 mO_s2b mO_b2s mO_cpy mO_cut mO_faddr mO_fld mO_iaddr mO_iaddrf mO_sidx mO_len mO_lenf mO_slen mO_scut mO_app mO_ext mO_mx mO_mn mO_mkfn evalOp cutOp argsE ev getE putE cellsOf adopt rowOf binV boolV nilV ar_add ar_sub ar_mul ar_quo ar_rem ar_eq ar_ne ar_lt ar_le ar_gt ar_ge ar_and ar_or ar_xor geto bound finRet finNrm ints List.length_cons List.length_nil List.length_append List.getElem?_cons_zero List.getElem?_cons_succ List.nil_append List.cons_append List.map_cons List.map_nil List.mapM_cons List.mapM_nil Option.map_some Option.map_none Option.bind_some Option.pure_def Option.bind_eq_bind List.drop_zero or_self or_false false_or or_true true_or true_and and_true and_self decide_true decide_false Bool.false_eq_true Bool.true_eq_false Bool.not_true Bool.not_false Nat.le_refl eq_self gt_iff_lt ge_iff_le ne_eq not_true_eq_false not_false_eq_true storeOp apartOf freeze_nil refsL refs List.flatMap_cons List.flatMap_nil List.append_nil List.contains_nil List.set_cons_zero List.set_cons_succ snap snapL fill_nums flat_nums nums_length Go.V.freeze List.mapIdx_cons List.mapIdx_nil List.contains_cons Bool.or_false Bool.false_or Bool.or_true Bool.true_or
theorem wint64 {n : Bool} {p : Nat} {z : Int} (h : wint n p = some z) : In64 z := by
  unfold wint at h
  split at h
  · split at h
    · simp at h; subst h; unfold In64; omega
    · cases h
  · split at h
    · simp at h; subst h; unfold In64; omega
    · cases h
theorem rv64 {x : Rt} : In64 (rv x) := by
  unfold rv
  cases h : rint x with
  | none => exact ⟨by decide, by decide⟩
  | some z =>
    unfold rint at h
    split at h
    · exact wint64 h
    · cases h
theorem w64 {ok : Bool} {L : List Rt} : ∀ d ∈ (if ok then L.map rv else []), In64 d := fun d hd => by
  split at hd
  · obtain ⟨x, _, rfl⟩ := List.mem_map.1 hd; exact rv64
  · simp at hd
theorem wh_two {s t : List Int} {ch : Bool} {l : List Nm} (h : RightP s ch t l) : (¬ (ch = true ∧ 0 < t.length + (l.map toRt).length) ∧ WhO (l.map toRt)) ↔ (t.length = 0 ∧ WhO (l.map toRt)) := by
  have h1 := h.1
  unfold Shapes at h1
  refine and_congr_left' ?_
  rw [List.length_map]
  cases ch with
  | true => simp only [if_true] at h1; rw [h1.2]; simp
  | false => simp only [Bool.false_eq_true, if_false] at h1; rw [h1.2]; simp
theorem count_wh {s t : List Int} {ch : Bool} {l : List Nm} (h : RightP s ch t l) (h0 : t.length = 0) : count s = some (((l.map toRt).map rv).length : Int) := by
  have h1 := h.1
  unfold Shapes at h1
  rw [List.length_map, List.length_map]
  cases ch with
  | true => simp only [if_true] at h1; rw [h1.1, h1.2, h0]
  | false => simp only [Bool.false_eq_true, if_false] at h1; exact h1.1
theorem rolled_64 {l w : List Int} {o z : Int} (hl : ∀ d ∈ l, 0 ≤ d ∧ d ≤ 18446744073709551615) (hw : ∀ d ∈ w, 1 ≤ d) (hw64 : ∀ d ∈ w, In64 d) (ho : 0 ≤ o ∧ o ≤ 1) (hz : z ∈ rolled l w o w.length) : In64 z := by
  obtain ⟨j, hj, rfl⟩ := List.mem_map.1 hz
  have hjw : w.getD j 0 ∈ w := by simp [List.getD, List.mem_range.1 hj]
  have hx : 0 ≤ l.getD (1 + j) 0 ∧ l.getD (1 + j) 0 ≤ 18446744073709551615 := by
    by_cases hjl : 1 + j < l.length
    · exact hl _ (by simp [List.getD, hjl])
    · simp only [List.getD]
      rw [List.getElem?_eq_none (by omega)]
      simp
  exact (roll_facts hx (hw _ hjw) (hw64 _ hjw) ho).2.2.2.2
set_option maxHeartbeats 2000000 in
theorem c3_ok {s t l : List Int} {l0 : List Nm} {ch one : Bool} (hs : ∀ d ∈ s, In64 d) (hu : ∀ x ∈ l0, U8 x.2.1 ∧ U8 x.2.2) (hl0 : (l.length : Int) ≤ 100000000000000) (hl : ∀ d ∈ l, 0 ≤ d ∧ d ≤ 18446744073709551615) :
    Go.V.Call tab E 3 [.agg (plX s ch t l0), us l, .bool one] [] (.bool true) [] := by
  refine Go.V.Call.mach i3 c3 rfl rfl rfl rfl ?_
  have h4 := fun ok h => c4_ok (s := s) (t := t) (l := l0) (ch := ch) (ok := ok) hs hu h
  by_cases hL : LightP s ch t l0 200
  · have h4t := h4 true ⟨fun _ => hL, fun _ => rfl⟩
    by_cases h1 : 300 < l.length
    · have h1' : (300 : Int) < (l.length : Int) := by omega
      simp only [plX, runes, ints] at h4t
      simp only [c3, plX, runes, ints, us, go_sem, ↓reduceIte, Nat.reduceEqDiff, Nat.reduceAdd, Nat.reduceMul, Nat.reduceLeDiff, Nat.reduceLT, Int.reduceToNat, Int.reduceLT, Int.reduceLE, reduceCtorEq, Nat.reduceBEq, fillAll, fillIn, shiftR, shiftV, List.take_succ_cons, List.take_zero, List.drop_succ_cons, List.drop_zero, List.append_nil, Nat.zero_add, subP4]
      refine goP h4t ?_
      simp only [go_sem, ↓reduceIte, Nat.reduceEqDiff, Nat.reduceAdd, Nat.reduceMul, Nat.reduceLeDiff, Nat.reduceLT, Int.reduceToNat, Int.reduceLT, Int.reduceLE, reduceCtorEq, Nat.reduceBEq, h1']
      refine goP c5_ok ?_
      simp only [go_sem, ↓reduceIte, Nat.reduceEqDiff, Nat.reduceAdd, Nat.reduceMul, Nat.reduceLeDiff, Nat.reduceLT, Int.reduceToNat, Int.reduceLT, Int.reduceLE, reduceCtorEq, Nat.reduceBEq]
      simp only [i3, Out, resAll, geto, ints, List.getElem?_cons_zero, List.getElem?_cons_succ, resOf, outOf, snap, snapL, ev, getE, List.mapM_cons, List.mapM_nil, Option.bind_some, Option.pure_def, Option.bind_eq_bind, Option.map_some, reduceIte, Nat.reduceEqDiff, true_and, and_true]
    · have h1' : ¬ (300 : Int) < (l.length : Int) := by omega
      obtain ⟨k1, k2, k3, k4, hR⟩ := hL
      have hU : ∀ x ∈ l0, NmU x := fun x hx => ⟨(hu x hx).1, (hu x hx).2, by have := (k4 x hx).1; omega, by have := (k4 x hx).2; omega⟩
      have h9 := c9_ok hs (by omega) (by omega) (by omega) hU hR
      have h10 := c10_ok (E := E) (b := one)
      have ho : (0 : Int) ≤ (if one = true then 1 else 0) ∧ (if one = true then (1 : Int) else 0) ≤ 1 := by cases one <;> simp
      generalize (if one = true then (1 : Int) else 0) = o at *
      have hbk := back_nms hR.2
      have hlk : ∀ x ∈ l0.map toRt, RtOk x := fun z hz => by
        obtain ⟨x, hx, rfl⟩ := List.mem_map.1 hz
        exact right_ok (hR.2 x hx)
      have hLl : ((l0.map toRt).length : Int) ≤ 1000000000 := by rw [List.length_map]; omega
      have hwh := wh_two hR
      have hcw := fun h => count_wh hR h
      have h6 := c6_ok (E := E) (l := l) (by omega)
      have h12 := c12_ok (E := E) (l := l) (i := 0) (by omega)
      have h7 := fun B => c7_next (l := l) (i := 0) (B := B) (M := []) (by omega)
      have h14 := fun i => c14_ok (E := E) (l := l) (i := i)
      generalize l.getD 0 0 = x0 at *
      by_cases hyes : (t.length = 0 ∧ WhO (l0.map toRt)) ∧ ∀ d ∈ (l0.map toRt).map rv, 1 ≤ d
      · obtain ⟨hw1, hw2⟩ := hyes
        have h8 := fun B => c8_yes (s := s) (t := t) (l := l) (ch := ch) (L := l0.map toRt) (o := o) (B := B) hs (by omega) (by omega) hLl (hwh.2 hw1) rfl (w64 (ok := true)) hw2 (hcw hw1.1) hl ho
        have h11 := c11_yes (s := s) (t := t) (l := l) (ch := ch) (L := l0.map toRt) (o := o) (by omega) hLl hlk hw1 rfl (w64 (ok := true)) hw2 hl ho
        have hq64 : ∀ z ∈ rolled l ((l0.map toRt).map rv) o ((l0.map toRt).map rv).length, In64 z := fun z hz => rolled_64 hl hw2 (w64 (ok := true)) ho hz
        have h13 := c13_yes (s := s) (l := rolled l ((l0.map toRt).map rv) o ((l0.map toRt).map rv).length) (by omega) (by rw [rolled_len, List.length_map]; exact hLl) hq64
        rw [hbk] at h11
        have h14i := h14 (1 + ((l0.map toRt).map rv).length)
        clear hwh hcw hq64 hw2 hw1 hbk
        generalize hwe : (l0.map toRt).map rv = w at *
        generalize l0.map toRt = L at *
        generalize rolled l w o w.length = q at *
        simp only [plX, arrX, plG, arrG, runes, ints, us, srcR, srcB, srcB1, mYes, rowI, List.cons_append, List.nil_append] at h4t h9 h6 h12 h7 h14i h8 h11 h13
        simp only [c3, plX, runes, ints, us, go_sem, ↓reduceIte, Nat.reduceEqDiff, Nat.reduceAdd, Nat.reduceMul, Nat.reduceLeDiff, Nat.reduceLT, Int.reduceToNat, Int.reduceLT, Int.reduceLE, reduceCtorEq, Nat.reduceBEq, fillAll, fillIn, shiftR, shiftV, List.take_succ_cons, List.take_zero, List.drop_succ_cons, List.drop_zero, List.append_nil, Nat.zero_add, subP4]
        refine goP h4t ?_
        simp only [go_sem, ↓reduceIte, Nat.reduceEqDiff, Nat.reduceAdd, Nat.reduceMul, Nat.reduceLeDiff, Nat.reduceLT, Int.reduceToNat, Int.reduceLT, Int.reduceLE, reduceCtorEq, Nat.reduceBEq, h1']
        refine goB h6 rfl rfl ?_
        simp only [go_sem, ↓reduceIte, Nat.reduceEqDiff, Nat.reduceAdd, Nat.reduceMul, Nat.reduceLeDiff, Nat.reduceLT, Int.reduceToNat, Int.reduceLT, Int.reduceLE, reduceCtorEq, Nat.reduceBEq, shiftR, shiftV, List.length_nil, List.length_cons, shiftO, Nat.add_zero, Nat.zero_add, List.cons_append, List.nil_append]
        refine goM (h7 _) ?_
        simp only [go_sem, ↓reduceIte, Nat.reduceEqDiff, Nat.reduceAdd, Nat.reduceMul, Nat.reduceLeDiff, Nat.reduceLT, Int.reduceToNat, Int.reduceLT, Int.reduceLE, reduceCtorEq, Nat.reduceBEq, fillAll, fillIn, shiftR, shiftV, List.take_succ_cons, List.take_zero, List.drop_succ_cons, List.drop_zero, List.append_nil, Nat.zero_add, subP4, Nat.zero_add]
        refine goP h9 ?_
        simp only [go_sem, ↓reduceIte, Nat.reduceEqDiff, Nat.reduceAdd, Nat.reduceMul, Nat.reduceLeDiff, Nat.reduceLT, Int.reduceToNat, Int.reduceLT, Int.reduceLE, reduceCtorEq, Nat.reduceBEq, fillAll, fillIn, shiftR, shiftV, List.take_succ_cons, List.take_zero, List.drop_succ_cons, List.drop_zero, List.append_nil, Nat.zero_add, subP4]
        refine goP h10 ?_
        simp only [go_sem, ↓reduceIte, Nat.reduceEqDiff, Nat.reduceAdd, Nat.reduceMul, Nat.reduceLeDiff, Nat.reduceLT, Int.reduceToNat, Int.reduceLT, Int.reduceLE, reduceCtorEq, Nat.reduceBEq, fillAll, fillIn, shiftR, shiftV, List.take_succ_cons, List.take_zero, List.drop_succ_cons, List.drop_zero, List.append_nil, Nat.zero_add, subP4]
        refine goM (h8 _) ?_
        simp only [go_sem, ↓reduceIte, Nat.reduceEqDiff, Nat.reduceAdd, Nat.reduceMul, Nat.reduceLeDiff, Nat.reduceLT, Int.reduceToNat, Int.reduceLT, Int.reduceLE, reduceCtorEq, Nat.reduceBEq, fillAll, fillIn, shiftR, shiftV, List.take_succ_cons, List.take_zero, List.drop_succ_cons, List.drop_zero, List.append_nil, Nat.zero_add, subP4, subA5]
        refine goP h10 ?_
        simp only [go_sem, ↓reduceIte, Nat.reduceEqDiff, Nat.reduceAdd, Nat.reduceMul, Nat.reduceLeDiff, Nat.reduceLT, Int.reduceToNat, Int.reduceLT, Int.reduceLE, reduceCtorEq, Nat.reduceBEq, fillAll, fillIn, shiftR, shiftV, List.take_succ_cons, List.take_zero, List.drop_succ_cons, List.drop_zero, List.append_nil, Nat.zero_add, subP4, subA5]
        refine goP h11 ?_
        simp only [go_sem, ↓reduceIte, Nat.reduceEqDiff, Nat.reduceAdd, Nat.reduceMul, Nat.reduceLeDiff, Nat.reduceLT, Int.reduceToNat, Int.reduceLT, Int.reduceLE, reduceCtorEq, Nat.reduceBEq, fillAll, fillIn, shiftR, shiftV, List.take_succ_cons, List.take_zero, List.drop_succ_cons, List.drop_zero, List.append_nil, Nat.zero_add, subP4, subA5]
        refine goP h12 ?_
        simp only [go_sem, ↓reduceIte, Nat.reduceEqDiff, Nat.reduceAdd, Nat.reduceMul, Nat.reduceLeDiff, Nat.reduceLT, Int.reduceToNat, Int.reduceLT, Int.reduceLE, reduceCtorEq, Nat.reduceBEq, fillAll, fillIn, shiftR, shiftV, List.take_succ_cons, List.take_zero, List.drop_succ_cons, List.drop_zero, List.append_nil, Nat.zero_add, subP4, subA5, beq_self_eq_true]
        refine goR h13 rfl ?_
        simp only [go_sem, ↓reduceIte, Nat.reduceEqDiff, Nat.reduceAdd, Nat.reduceMul, Nat.reduceLeDiff, Nat.reduceLT, Int.reduceToNat, Int.reduceLT, Int.reduceLE, reduceCtorEq, Nat.reduceBEq, fillAll, fillIn, shiftR, shiftV, List.take_succ_cons, List.take_zero, List.drop_succ_cons, List.drop_zero, List.append_nil, Nat.zero_add, subP4, subA5, beq_self_eq_true]
        refine goR h14i rfl ?_
        simp only [go_sem, ↓reduceIte, Nat.reduceEqDiff, Nat.reduceAdd, Nat.reduceMul, Nat.reduceLeDiff, Nat.reduceLT, Int.reduceToNat, Int.reduceLT, Int.reduceLE, reduceCtorEq, Nat.reduceBEq, fillAll, fillIn, shiftR, shiftV, List.take_succ_cons, List.take_zero, List.drop_succ_cons, List.drop_zero, List.append_nil, Nat.zero_add, subP4, subA5, beq_self_eq_true]
        refine goP c5_ok ?_
        simp only [go_sem, ↓reduceIte, Nat.reduceEqDiff, Nat.reduceAdd, Nat.reduceMul, Nat.reduceLeDiff, Nat.reduceLT, Int.reduceToNat, Int.reduceLT, Int.reduceLE, reduceCtorEq, Nat.reduceBEq]
        simp only [i3, Out, resAll, geto, ints, List.getElem?_cons_zero, List.getElem?_cons_succ, resOf, outOf, snap, snapL, ev, getE, List.mapM_cons, List.mapM_nil, Option.bind_some, Option.pure_def, Option.bind_eq_bind, Option.map_some, reduceIte, Nat.reduceEqDiff, true_and, and_true]
      · obtain ⟨ok, hok⟩ : ∃ ok : Bool, ok = true ↔ (t.length = 0 ∧ WhO (l0.map toRt)) := by
          by_cases h : t.length = 0 ∧ WhO (l0.map toRt)
          · exact ⟨true, fun _ => h, fun _ => rfl⟩
          · exact ⟨false, fun h2 => (by cases h2), fun h2 => absurd h2 h⟩
        have hno : ok = true → ∃ d ∈ (if ok then (l0.map toRt).map rv else []), d < 1 := fun hk => by
          rw [if_pos hk]
          by_cases hex : ∃ d ∈ (l0.map toRt).map rv, d < 1
          · exact hex
          · exact absurd ⟨hok.1 hk, fun d hd => (by by_cases h : d < 1; exact absurd ⟨d, hd, h⟩ hex; omega)⟩ hyes
        have h8 := fun B => c8_no (s := s) (t := t) (l := l) (ch := ch) (ok := ok) (L := l0.map toRt) (o := o) (B := B) (by omega) (by omega) hLl (hok.trans hwh.symm) rfl hno
        have h11 := c11_no (s := s) (t := t) (l := l) (ch := ch) (ok := ok) (L := l0.map toRt) (o := o) (by omega) hLl hlk hok rfl w64 hno hl ho
        have h13 := c13_err (e := 22) (by omega)
        rw [hbk] at h11
        have h14i := h14 1
        clear hwh hcw hno hok hyes hbk
        generalize hwe : (if ok then (l0.map toRt).map rv else []) = w at *
        generalize l0.map toRt = L at *
        simp only [plX, arrX, noA, runes, ints, us, srcR, srcB, srcB1, mNo, rowI, nums, nmsC, List.flatMap_nil, List.map_nil, List.length_nil, List.cons_append, List.nil_append] at h4t h9 h6 h12 h7 h14i h8 h11 h13
        simp only [c3, plX, runes, ints, us, nums, nmsC, go_sem, ↓reduceIte, Nat.reduceEqDiff, Nat.reduceAdd, Nat.reduceMul, Nat.reduceLeDiff, Nat.reduceLT, Int.reduceToNat, Int.reduceLT, Int.reduceLE, reduceCtorEq, Nat.reduceBEq, fillAll, fillIn, shiftR, shiftV, List.take_succ_cons, List.take_zero, List.drop_succ_cons, List.drop_zero, List.append_nil, Nat.zero_add, subP4]
        refine goP h4t ?_
        simp only [go_sem, ↓reduceIte, Nat.reduceEqDiff, Nat.reduceAdd, Nat.reduceMul, Nat.reduceLeDiff, Nat.reduceLT, Int.reduceToNat, Int.reduceLT, Int.reduceLE, reduceCtorEq, Nat.reduceBEq, h1']
        refine goB h6 rfl rfl ?_
        simp only [go_sem, ↓reduceIte, Nat.reduceEqDiff, Nat.reduceAdd, Nat.reduceMul, Nat.reduceLeDiff, Nat.reduceLT, Int.reduceToNat, Int.reduceLT, Int.reduceLE, reduceCtorEq, Nat.reduceBEq, shiftR, shiftV, List.length_nil, List.length_cons, shiftO, Nat.add_zero, Nat.zero_add, List.cons_append, List.nil_append]
        refine goM (h7 _) ?_
        simp only [go_sem, ↓reduceIte, Nat.reduceEqDiff, Nat.reduceAdd, Nat.reduceMul, Nat.reduceLeDiff, Nat.reduceLT, Int.reduceToNat, Int.reduceLT, Int.reduceLE, reduceCtorEq, Nat.reduceBEq, fillAll, fillIn, shiftR, shiftV, List.take_succ_cons, List.take_zero, List.drop_succ_cons, List.drop_zero, List.append_nil, Nat.zero_add, subP4, Nat.zero_add]
        refine goP h9 ?_
        simp only [go_sem, ↓reduceIte, Nat.reduceEqDiff, Nat.reduceAdd, Nat.reduceMul, Nat.reduceLeDiff, Nat.reduceLT, Int.reduceToNat, Int.reduceLT, Int.reduceLE, reduceCtorEq, Nat.reduceBEq, fillAll, fillIn, shiftR, shiftV, List.take_succ_cons, List.take_zero, List.drop_succ_cons, List.drop_zero, List.append_nil, Nat.zero_add, subP4]
        refine goP h10 ?_
        simp only [go_sem, ↓reduceIte, Nat.reduceEqDiff, Nat.reduceAdd, Nat.reduceMul, Nat.reduceLeDiff, Nat.reduceLT, Int.reduceToNat, Int.reduceLT, Int.reduceLE, reduceCtorEq, Nat.reduceBEq, fillAll, fillIn, shiftR, shiftV, List.take_succ_cons, List.take_zero, List.drop_succ_cons, List.drop_zero, List.append_nil, Nat.zero_add, subP4]
        refine goM (h8 _) ?_
        simp only [go_sem, ↓reduceIte, Nat.reduceEqDiff, Nat.reduceAdd, Nat.reduceMul, Nat.reduceLeDiff, Nat.reduceLT, Int.reduceToNat, Int.reduceLT, Int.reduceLE, reduceCtorEq, Nat.reduceBEq, fillAll, fillIn, shiftR, shiftV, List.take_succ_cons, List.take_zero, List.drop_succ_cons, List.drop_zero, List.append_nil, Nat.zero_add, subP4, subA5]
        refine goP h10 ?_
        simp only [go_sem, ↓reduceIte, Nat.reduceEqDiff, Nat.reduceAdd, Nat.reduceMul, Nat.reduceLeDiff, Nat.reduceLT, Int.reduceToNat, Int.reduceLT, Int.reduceLE, reduceCtorEq, Nat.reduceBEq, fillAll, fillIn, shiftR, shiftV, List.take_succ_cons, List.take_zero, List.drop_succ_cons, List.drop_zero, List.append_nil, Nat.zero_add, subP4, subA5]
        refine goP h11 ?_
        simp only [go_sem, ↓reduceIte, Nat.reduceEqDiff, Nat.reduceAdd, Nat.reduceMul, Nat.reduceLeDiff, Nat.reduceLT, Int.reduceToNat, Int.reduceLT, Int.reduceLE, reduceCtorEq, Nat.reduceBEq, fillAll, fillIn, shiftR, shiftV, List.take_succ_cons, List.take_zero, List.drop_succ_cons, List.drop_zero, List.append_nil, Nat.zero_add, subP4, subA5]
        refine goP h12 ?_
        simp only [go_sem, ↓reduceIte, Nat.reduceEqDiff, Nat.reduceAdd, Nat.reduceMul, Nat.reduceLeDiff, Nat.reduceLT, Int.reduceToNat, Int.reduceLT, Int.reduceLE, reduceCtorEq, Nat.reduceBEq, fillAll, fillIn, shiftR, shiftV, List.take_succ_cons, List.take_zero, List.drop_succ_cons, List.drop_zero, List.append_nil, Nat.zero_add, subP4, subA5, beq_self_eq_true]
        refine goR h13 rfl ?_
        simp only [go_sem, ↓reduceIte, Nat.reduceEqDiff, Nat.reduceAdd, Nat.reduceMul, Nat.reduceLeDiff, Nat.reduceLT, Int.reduceToNat, Int.reduceLT, Int.reduceLE, reduceCtorEq, Nat.reduceBEq, fillAll, fillIn, shiftR, shiftV, List.take_succ_cons, List.take_zero, List.drop_succ_cons, List.drop_zero, List.append_nil, Nat.zero_add, subP4, subA5, beq_self_eq_true]
        refine goR h14i rfl ?_
        simp only [go_sem, ↓reduceIte, Nat.reduceEqDiff, Nat.reduceAdd, Nat.reduceMul, Nat.reduceLeDiff, Nat.reduceLT, Int.reduceToNat, Int.reduceLT, Int.reduceLE, reduceCtorEq, Nat.reduceBEq, fillAll, fillIn, shiftR, shiftV, List.take_succ_cons, List.take_zero, List.drop_succ_cons, List.drop_zero, List.append_nil, Nat.zero_add, subP4, subA5, show (((1 : Nat) : Int) == 1) = true from rfl]
        refine goP c5_ok ?_
        simp only [go_sem, ↓reduceIte, Nat.reduceEqDiff, Nat.reduceAdd, Nat.reduceMul, Nat.reduceLeDiff, Nat.reduceLT, Int.reduceToNat, Int.reduceLT, Int.reduceLE, reduceCtorEq, Nat.reduceBEq]
        simp only [i3, Out, resAll, geto, ints, List.getElem?_cons_zero, List.getElem?_cons_succ, resOf, outOf, snap, snapL, ev, getE, List.mapM_cons, List.mapM_nil, Option.bind_some, Option.pure_def, Option.bind_eq_bind, Option.map_some, reduceIte, Nat.reduceEqDiff, true_and, and_true]
  · have h4f := h4 false ⟨fun h => (by cases h), fun h => absurd h hL⟩
    simp only [plX, runes, ints] at h4f
    simp only [c3, plX, runes, ints, us, go_sem, ↓reduceIte, Nat.reduceEqDiff, Nat.reduceAdd, Nat.reduceMul, Nat.reduceLeDiff, Nat.reduceLT, Int.reduceToNat, Int.reduceLT, Int.reduceLE, reduceCtorEq, Nat.reduceBEq, fillAll, fillIn, shiftR, shiftV, List.take_succ_cons, List.take_zero, List.drop_succ_cons, List.drop_zero, List.append_nil, Nat.zero_add, subP4]
    refine goP h4f ?_
    simp only [go_sem, ↓reduceIte, Nat.reduceEqDiff, Nat.reduceAdd, Nat.reduceMul, Nat.reduceLeDiff, Nat.reduceLT, Int.reduceToNat, Int.reduceLT, Int.reduceLE, reduceCtorEq, Nat.reduceBEq]
    refine goP c5_ok ?_
    simp only [go_sem, ↓reduceIte, Nat.reduceEqDiff, Nat.reduceAdd, Nat.reduceMul, Nat.reduceLeDiff, Nat.reduceLT, Int.reduceToNat, Int.reduceLT, Int.reduceLE, reduceCtorEq, Nat.reduceBEq]
    simp only [i3, Out, resAll, geto, ints, List.getElem?_cons_zero, List.getElem?_cons_succ, resOf, outOf, snap, snapL, ev, getE, List.mapM_cons, List.mapM_nil, Option.bind_some, Option.pure_def, Option.bind_eq_bind, Option.map_some, reduceIte, Nat.reduceEqDiff, true_and, and_true]
end Go.Proofs.YtcmbaabkfihdmaaGreat.I

-- PRINTED BY print.sh 35421559b90ae4d0a3588c463048766b98c2df88dd9212a6774a882060cdf62d: not written by this session
-- PRINTED WORDS (module Derived/Print/Sized.lean): go-gate-2's, for the rows of laws over slices: an AI agent of Go's test side, Tue Nov 17 2026; no person has read it. Lean checks it.
namespace Go.Proofs.YtcmbaabkfihdmaaGreatW.PrintWords
open Go.ChangeShapes Go.WideShapes
/-- A row's slice of whole numbers is no longer than its weight allows. -/
theorem sized_ints {H : Type} {enc : TypeId × Value → H} {P : Program} {W : World} {base : Nat} {spare : Nat → Bool} {held : Bool} {t e : TypeId} {k : IntKind} {a : Option Addr} {len cap : Nat} {d : DataW H} {ps : List MemPlace} {ts : List TypeId} {ds : List (DataW H)} {j : Nat}
    (hsz : (DataW.weightsEach P ts ds).all (· ≤ reachBytes) = true) (ht : ts[j]? = some t) (hd : ds[j]? = some d) (hu : P.underlying t = some (.slice e)) (he : P.underlying e = some (.int k)) (hc : P.cellsOf e = 1) {B : Nat} (hB : P.bytesOf e = B)
    (h : DataW.Trod enc P W base spare held t (.slice a len cap) d ps) : len * B ≤ 140737488351232 := by
  obtain ⟨fuel, hf⟩ := h
  rcases open_ints hu he hc hf with ⟨hcs, _⟩ | ⟨x, l, c, zs, hcs, _, hl, _, hz, hx, _, _⟩
  · simp [Value.cells] at hcs
    obtain ⟨rfl, rfl, rfl⟩ := hcs
    simp
  · simp [Value.cells] at hcs
    obtain ⟨rfl, rfl, rfl⟩ := hcs
    obtain ⟨hx, _⟩ := Prod.mk.inj hx
    subst hx
    have z := sized_slice hsz ht hd hu
    rw [hB] at z
    have hl2 : len ≤ zs.length := by
      rw [hz]
      split
      · exact hl
      · exact Nat.le_refl _
    have h1 : (lits (H := H) k (zs.take len)).length + (lits (H := H) k (zs.drop len)).length = zs.length := by
      simp [lits]
      omega
    rw [h1] at z
    exact Nat.le_trans (Nat.mul_le_mul_right _ hl2) z
end Go.Proofs.YtcmbaabkfihdmaaGreatW.PrintWords

/- An argument that is a list of numbers on the page, or an array on the page, opened. Conditions: the types are what the names say. -/
set_option linter.unusedVariables false
set_option linter.unusedSimpArgs false
namespace Go.Proofs.YtcmbaabkfihdmaaGreat.I
open Go Go.V Go.ChangeShapes Go.WideShapes Go.Deep
section
variable {H : Type} {enc : TypeId × Value → H} {P : Program} {w : World} {spare : Nat → Bool} {held : Bool}
/-- One number: its three cells. -/
theorem open_num1 {e : TypeId} {f0 f1 f2 : Field} {fuel : Nat} {a : Addr} {cs : List Value} {y : DataW H × List MemPlace} (he : P.underlying e = some (.struct #[f0, f1, f2])) (hone : oneCellFields P #[f0, f1, f2] = true)
    (h0 : P.underlying f0.type = some .bool) (h1 : P.underlying f1.type = some .string) (h2 : P.underlying f2.type = some .string) (hc : w.cells? 0 a 3 = some cs) (h : DataW.trod enc P w 0 spare held fuel e cs = some y) :
    ∃ q : Nm, (w.cell? (a.add 0) = some (.bool q.1) ∧ w.cell? (a.add 1) = some (.string (bs q.2.1)) ∧ w.cell? (a.add 2) = some (.string (bs q.2.2))) ∧ U8 q.2.1 ∧ U8 q.2.2 ∧ q.2.1.length ≤ maxLen ∧ q.2.2.length ≤ maxLen := by
  obtain ⟨_, hlen, hcell⟩ := World.cells?_some hc
  obtain ⟨xs, k, _, _, _, hxl, hf⟩ := DataW.trod_struct he h
  obtain ⟨o0, k0⟩ := hone_of hone 0 f0 rfl
  obtain ⟨o1, k1⟩ := hone_of hone 1 f1 rfl
  obtain ⟨o2, k2⟩ := hone_of hone 2 f2 rfl
  match xs, hxl, cs, hlen with
  | [y0, y1, y2], _, [v0, v1, v2], _ =>
    have g0 := hf 0 f0 rfl
    have g1 := hf 1 f1 rfl
    have g2 := hf 2 f2 rfl
    simp [o0, k0] at g0
    simp [o1, k1] at g1
    simp [o2, k2] at g2
    obtain ⟨b, hb, _⟩ := DataW.trod_bool h0 g0
    obtain ⟨s1, hs1, _, hm1⟩ := DataW.trod_string h1 g1
    obtain ⟨s2, hs2, _, hm2⟩ := DataW.trod_string h2 g2
    obtain ⟨l1, hu1, rfl⟩ := bs_all s1
    obtain ⟨l2, hu2, rfl⟩ := bs_all s2
    simp only [List.cons.injEq, and_true] at hb hs1 hs2
    subst hb; subst hs1; subst hs2
    have c0 := hcell 0 (by omega)
    have c1 := hcell 1 (by omega)
    have c2 := hcell 2 (by omega)
    rw [bs_size] at hm1 hm2
    exact ⟨(b, l1, l2), ⟨by simpa using c0, by simpa using c1, by simpa using c2⟩, hu1, hu2, hm1, hm2⟩
/-- A list of them. -/
theorem open_nums {t e : TypeId} {f0 f1 f2 : Field} {fuel : Nat} {cs : List Value} {x : DataW H × List MemPlace} (ht : P.underlying t = some (.slice e)) (he : P.underlying e = some (.struct #[f0, f1, f2])) (hone : oneCellFields P #[f0, f1, f2] = true)
    (hC : P.cellsOf e = 3) (h0 : P.underlying f0.type = some .bool) (h1 : P.underlying f1.type = some .string) (h2 : P.underlying f2.type = some .string) (h : DataW.trod enc P w 0 spare held fuel t cs = some x) :
    ∃ (a : Option Addr) (len cap : Nat) (l : List Nm), cs = [.slice a len cap] ∧ l.length = len ∧ len ≤ maxLen ∧ (∀ q ∈ l, U8 q.2.1 ∧ U8 q.2.2 ∧ q.2.1.length ≤ maxLen ∧ q.2.2.length ≤ maxLen) ∧ RG w (fun b => b < w.heap.size) (.sl l.length 3 (nmsC l)) (.slice a len cap) := by
  rcases open_slice ht h with ⟨rfl, _⟩ | ⟨a, len, cap, m, n, D, Pl, rfl, _, hl, hm, hmm, _, hx⟩
  · exact ⟨none, 0, 0, [], rfl, rfl, Nat.zero_le _, fun q hq => by simp at hq, .sl0⟩
  have hlm : len ≤ m := by rw [hmm]; split <;> omega
  rw [hC] at hx
  have each : ∀ i, i < len → ∃ q : Nm, (w.cell? (a.add (i * 3)) = some (.bool q.1) ∧ w.cell? (a.add (i * 3 + 1)) = some (.string (bs q.2.1)) ∧ w.cell? (a.add (i * 3 + 2)) = some (.string (bs q.2.2))) ∧ U8 q.2.1 ∧ U8 q.2.2 ∧ q.2.1.length ≤ maxLen ∧ q.2.2.length ≤ maxLen := fun i hi => by
    obtain ⟨cs', hc, hy⟩ := hx i (by omega)
    obtain ⟨q, ⟨g0, g1, g2⟩, hq⟩ := open_num1 he hone h0 h1 h2 hc hy
    rw [add_add] at g0 g1 g2
    exact ⟨q, ⟨g0, g1, g2⟩, hq⟩
  obtain ⟨f, hf⟩ := choose_lt (α := Nm) each
  refine ⟨some a, len, cap, (List.range len).map f, rfl, by simp, Nat.le_trans hl hm, fun q hq => ?_, ?_⟩
  · obtain ⟨i, hi, rfl⟩ := List.mem_map.1 hq
    exact (hf i (List.mem_range.1 hi)).2
  · have hll : ((List.range len).map f).length = len := by simp
    rw [hll]
    by_cases hz : len = 0
    · subst hz; exact .sl0
    obtain ⟨b, o, sp⟩ := a
    have hc0 := (hf 0 (by omega)).1.1
    have hsp : sp = none := by
      simp only [Addr.add, Nat.zero_mul, if_true, World.cell?] at hc0
      split at hc0
      · split at hc0
        · cases hc0
        · rename_i hh; simpa using hh
      · cases hc0
    subst hsp
    have addE : ∀ i, (⟨b, o, none⟩ : Addr).add i = ⟨b, o + i, none⟩ := fun i => by
      unfold Addr.add
      split
      · rename_i h; rw [h]; rfl
      · rfl
    have hb : b < w.heap.size := by
      rw [addE] at hc0
      unfold World.cell? at hc0
      split at hc0
      · rename_i hh; exact (Array.getElem?_eq_some_iff.1 hh).1
      · cases hc0
    have hat : ∀ i, i < len → ((List.range len).map f).getD i (false, [], []) = f i := fun i hi => by simp [List.getD, hi]
    have vlen : ∀ l : List Nm, (l.flatMap fun q => [Value.bool q.1, .string (bs q.2.1), .string (bs q.2.2)]).length = l.length * 3 := fun l => by
      induction l with
      | nil => rfl
      | cons q l ih => rw [List.flatMap_cons, List.length_append, ih, List.length_cons]; simp; omega
    have vget : ∀ (l : List Nm) (i k : Nat), i < l.length → k < 3 → (l.flatMap fun q => [Value.bool q.1, .string (bs q.2.1), .string (bs q.2.2)])[i * 3 + k]? = ([Value.bool (l.getD i (false, [], [])).1, .string (bs (l.getD i (false, [], [])).2.1), .string (bs (l.getD i (false, [], [])).2.2)])[k]? := fun l => by
      induction l with
      | nil => intro i k h; simp at h
      | cons q l ih =>
        intro i k hi hk
        cases i with
        | zero => rw [List.flatMap_cons, Nat.zero_mul, Nat.zero_add, List.getElem?_append_left (by simp; omega)]; rfl
        | succ i =>
          rw [List.flatMap_cons, List.getElem?_append_right (by simp; omega)]
          have e : (i + 1) * 3 + k - [Value.bool q.1, .string (bs q.2.1), .string (bs q.2.2)].length = i * 3 + k := by simp; omega
          rw [e, ih i k (by simpa using hi) hk]
          rfl
    have cget : ∀ (l : List Nm) (i k : Nat), i < l.length → k < 3 → (nmsC l)[i * 3 + k]? = (nmC (l.getD i (false, [], [])))[k]? := fun l i k hi hk => by
      rw [← flat_get (f := nmC) (fun _ => rfl) hi, List.getElem?_take, if_pos hk, List.getElem?_drop]
      rfl
    have split3 : ∀ j, j < len * 3 → ∃ i k, i < len ∧ k < 3 ∧ j = i * 3 + k := fun j hj => ⟨j / 3, j % 3, by omega, by omega, by omega⟩
    refine .sl (vs := ((List.range len).map f).flatMap fun q => [Value.bool q.1, .string (bs q.2.1), .string (bs q.2.2)]) (by omega) hl (by rw [nmsC, flat_len (fun _ => rfl), hll]) (by rw [vlen, nmsC, flat_len (fun _ => rfl)]) hb (fun u hu => ?_) (fun j u hu => ?_) (fun j c u hc hu => ?_)
    · obtain ⟨q, _, hq⟩ := List.mem_flatMap.1 hu
      simp only [List.mem_cons, List.not_mem_nil, or_false] at hq
      rcases hq with rfl | rfl | rfl <;> rfl
    · have hj := (List.getElem?_eq_some_iff.1 hu).1
      rw [vlen, hll] at hj
      obtain ⟨i, k, hi, hk, rfl⟩ := split3 j hj
      rw [vget _ i k (by rw [hll]; exact hi) hk, hat i hi] at hu
      obtain ⟨⟨g0, g1, g2⟩, _⟩ := hf i hi
      rw [addE] at g0 g1 g2
      match k, hk with
      | 0, _ => simp at hu; subst hu; exact g0
      | 1, _ => simp at hu; subst hu; exact g1
      | 2, _ => simp at hu; subst hu; exact g2
    · have hj := (List.getElem?_eq_some_iff.1 hu).1
      rw [vlen, hll] at hj
      obtain ⟨i, k, hi, hk, rfl⟩ := split3 j hj
      rw [vget _ i k (by rw [hll]; exact hi) hk] at hu
      rw [cget _ i k (by rw [hll]; exact hi) hk] at hc
      match k, hk with
      | 0, _ => simp [nmC] at hu hc; subst hu; subst hc; exact .bool
      | 1, _ => simp [nmC] at hu hc; subst hu; subst hc; exact .str
      | 2, _ => simp [nmC] at hu hc; subst hu; subst hc; exact .str
end
end Go.Proofs.YtcmbaabkfihdmaaGreat.I
