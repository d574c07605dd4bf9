/- The texts L08k L08l L08m L08n L08o WSized LNum, one behind the other. Conditions: each text's own. -/
import Derived.Test.YtlejgleocnemoaaGreatG07
import Derived.SizedLaws
import Derived.ChangeSlices
import Derived.Test.YtlejgleocnemoaaGreatG02
import Derived.Test.YtlejgleocnemoaaGreatG06
import Derived.Deep.Slices
import Derived.Deep.Fields
import Derived.ChangeArms
set_option linter.unusedSimpArgs false
set_option linter.unusedVariables false
namespace Go.Proofs.YtlejgleocnemoaaGreat.I
open Go Go.V
attribute [local go_sem_proc ↓] reduceIte
attribute [local go_sem_proc] Nat.reduceEqDiff Nat.reduceAdd Nat.reduceMul Nat.reduceLeDiff Nat.reduceLT Int.reduceToNat Int.reduceLT Int.reduceLE reduceCtorEq Nat.reduceBEq
attribute [local go_sem] mNil nat0 beq_self_eq_true mSkip mRet mExit mReg mSeq mCond mTrue mFalse mBlock mLv mCodeE mCodeR mEndN mEndR mEndE mOps mSome mGuard mGtt mGff mGtf mGft mGu mCallP mCallR mCallF mCallO mCallZ mCallG mCallM mCallV loopQ_exit loopQ_ret mO_mov mO_newnil mO_pick mO_alloc mO_box mO_build mO_bsl mO_bslF mO_ldf mO_ld mO_st mO_sta mO_nilchk mO_bin mO_binb mO_binp mO_bins mO_neg mO_com mO_not mO_conv mO_mk mO_mk0 mO_s2b mO_b2s mO_cpy mO_cut mO_faddr mO_fld mO_iaddr mO_iaddrf mO_sidx mO_len mO_lenf mO_slen mO_scut mO_app mO_ext mO_mx mO_mn mO_mkfn evalOp cutOp argsE ev getE putE cellsOf adopt rowOf binV boolV nilV ar_add ar_sub ar_mul ar_quo ar_rem ar_eq ar_ne ar_lt ar_le ar_gt ar_ge ar_and ar_or ar_xor geto bound finRet finNrm ints List.length_cons List.length_nil List.length_append List.getElem?_cons_zero List.getElem?_cons_succ List.nil_append List.cons_append List.map_cons List.map_nil List.mapM_cons List.mapM_nil Option.map_some Option.map_none Option.bind_some Option.pure_def Option.bind_eq_bind List.drop_zero or_self or_false false_or or_true true_or true_and and_true and_self decide_true decide_false Bool.false_eq_true Bool.true_eq_false Bool.not_true Bool.not_false Nat.le_refl eq_self gt_iff_lt ge_iff_le ne_eq not_true_eq_false not_false_eq_true storeOp apartOf freeze_nil refsL refs List.flatMap_cons List.flatMap_nil List.append_nil List.contains_nil List.set_cons_zero List.set_cons_succ snap snapL fill_nums flat_nums nums_length Go.V.freeze List.mapIdx_cons List.mapIdx_nil List.contains_cons Bool.or_false Bool.false_or Bool.or_true Bool.true_or
section
variable {sb tb s t w : List Int} {cb ch : Bool} {Lb L : List Rt} {a : Int} {k : Nat}
def oneB (sb : List Int) (n : Nat) : Bool := decide (sb.length = 0) || (decide (n = 1) && decide (sb.length = 1))
theorem c42_one (hsbl : (sb.length : Int) ≤ 1000000000) (htb : (tb.length : Int) ≤ 1000000000) (hlb : (Lb.length : Int) ≤ 1000000000) (hok : ¬ (cb = true ∧ 0 < tb.length + Lb.length) ∧ WhO Lb) (hw : Lb.map rv = w) (hsl : (s.length : Int) ≤ 1000000000) (hks : k < s.length) (hb : axB s a = true) (hk : axA s a = (k : Int)) {ks : List Int} (hone : oneB sb (tb.length + Lb.length) = true)
    (h97 : Go.V.Call tab E 97 [.agg (arrX s ch t L), .int .i64 k, .fn 102 [.ptr [.bool true] 0, .ptr [ints w] 0]] [] (.tup [.agg (arrX s ch (picksT ch t ks) (picksR ch L ks)), .int .i64 0]) []) :
    Go.V.Call tab E 42 [.agg (arrX sb cb tb Lb), .agg (arrX s ch t L), .int .i64 a] [] (.tup [.agg (arrX s ch (picksT ch t ks) (picksR ch L ks)), .int .i64 0]) [] := by
  refine Go.V.Call.mach i42 c42 rfl rfl rfl rfl ?_
  have h100 := c100_X (s := sb) (t := tb) (l := Lb) (ch := cb) (ok := true) (by omega) (by omega) ⟨fun _ => hok, fun _ => rfl⟩
  rw [if_pos rfl, hw] at h100
  have h56 := c56_X (s := s) (t := t) (l := L) (ch := ch) (by omega)
  have h27 := c27_ok (s := s) (t := t) (ch := ch) (L := L) (a := a) hsl
  rw [hb, hk] at h27
  have h48 := c48_X (s := s) (t := t) (l := L) (ch := ch) (by omega)
  have h101 := c101_ok (s := s) (a := (k : Int)) (by omega) ⟨by omega, by omega⟩
  have h56b := c56_X (s := sb) (t := tb) (l := Lb) (ch := cb) (by omega)
  have h55b := c55_X (s := sb) (t := tb) (l := Lb) (ch := cb) (by omega) (by omega)
  have h48b := c48_X (s := sb) (t := tb) (l := Lb) (ch := cb) (by omega)
  have hwol := wo_len (s := s) (a := (k : Int))
  have h57 := c57_ok (E := E) (s := sb) (t := wo s (k : Int)) (by omega) (by omega)
  have hq : ((s.length : Int) == 0) = false := beq_eq_false_iff_ne.2 (by omega)
  generalize wo s (k : Int) = rest at *
  simp only [arrX, runes, ints, rowI] at h100 h56 h27 h48 h101 h56b h55b h48b h57 h97
  simp only [c42, arrX, runes, ints, go_sem, fillAll, fillIn, shiftR, shiftV, List.take_succ_cons, List.take_zero, List.drop_succ_cons, List.drop_zero, List.append_nil, Nat.zero_add, subA5]
  refine goO h100 rfl rfl ?_
  simp only [go_sem, fillAll, fillIn, shiftR, shiftV, List.take_succ_cons, List.take_zero, List.drop_succ_cons, List.drop_zero, List.append_nil, Nat.zero_add, subA5, subOne]
  refine goP h56 ?_
  simp only [go_sem, fillAll, fillIn, shiftR, shiftV, List.take_succ_cons, List.take_zero, List.drop_succ_cons, List.drop_zero, List.append_nil, Nat.zero_add, subA5, subOne, hq]
  refine goP h27 ?_
  simp only [go_sem, fillAll, fillIn, shiftR, shiftV, List.take_succ_cons, List.take_zero, List.drop_succ_cons, List.drop_zero, List.append_nil, Nat.zero_add, subA5, subOne]
  refine goP h48 ?_
  simp only [go_sem, fillAll, fillIn, shiftR, shiftV, List.take_succ_cons, List.take_zero, List.drop_succ_cons, List.drop_zero, List.append_nil, Nat.zero_add, subA5, subOne]
  refine goP h101 ?_
  simp only [go_sem, fillAll, fillIn, shiftR, shiftV, List.take_succ_cons, List.take_zero, List.drop_succ_cons, List.drop_zero, List.append_nil, Nat.zero_add, subA5, subOne]
  refine goP h56b ?_
  by_cases h0 : sb.length = 0
  · have hq0 : ((sb.length : Int) == 0) = true := by rw [h0]; rfl
    simp only [go_sem, fillAll, fillIn, shiftR, shiftV, List.take_succ_cons, List.take_zero, List.drop_succ_cons, List.drop_zero, List.append_nil, Nat.zero_add, subA5, subOne, hq0]
    refine goF h97 ?_
    simp only [go_sem, fillAll, fillIn, shiftR, shiftV, List.take_succ_cons, List.take_zero, List.drop_succ_cons, List.drop_zero, List.append_nil, Nat.zero_add, subA5, subOne]
    simp only [i42, Out, resAll, geto, ints, List.getElem?_cons_zero, List.getElem?_cons_succ, resOf, outOf, snap, snapL, ev, getE, List.mapM_cons, List.mapM_nil, Option.bind_some, Option.pure_def, Option.bind_eq_bind, Option.map_some, reduceIte, Nat.reduceEqDiff, true_and, and_true, subA5]
  · have hq0 : ((sb.length : Int) == 0) = false := beq_eq_false_iff_ne.2 (by omega)
    have ho := hone
    rw [oneB, decide_eq_false h0, Bool.false_or, Bool.and_eq_true, decide_eq_true_eq, decide_eq_true_eq] at ho
    have hq1 : (((tb.length + Lb.length : Nat) : Int) == 1) = true := by rw [ho.1]; rfl
    have hq2 : ((sb.length : Int) == 1) = true := by rw [ho.2]; rfl
    simp only [go_sem, fillAll, fillIn, shiftR, shiftV, List.take_succ_cons, List.take_zero, List.drop_succ_cons, List.drop_zero, List.append_nil, Nat.zero_add, subA5, subOne, hq0]
    refine goP h55b ?_
    simp only [go_sem, fillAll, fillIn, shiftR, shiftV, List.take_succ_cons, List.take_zero, List.drop_succ_cons, List.drop_zero, List.append_nil, Nat.zero_add, subA5, subOne, hq1]
    refine goP h56b ?_
    simp only [go_sem, fillAll, fillIn, shiftR, shiftV, List.take_succ_cons, List.take_zero, List.drop_succ_cons, List.drop_zero, List.append_nil, Nat.zero_add, subA5, subOne, hq2]
    refine goF h97 ?_
    simp only [go_sem, fillAll, fillIn, shiftR, shiftV, List.take_succ_cons, List.take_zero, List.drop_succ_cons, List.drop_zero, List.append_nil, Nat.zero_add, subA5, subOne]
    simp only [i42, Out, resAll, geto, ints, List.getElem?_cons_zero, List.getElem?_cons_succ, resOf, outOf, snap, snapL, ev, getE, List.mapM_cons, List.mapM_nil, Option.bind_some, Option.pure_def, Option.bind_eq_bind, Option.map_some, reduceIte, Nat.reduceEqDiff, true_and, and_true, subA5]
theorem c42_rows (hsbl : (sb.length : Int) ≤ 1000000000) (htb : (tb.length : Int) ≤ 1000000000) (hlb : (Lb.length : Int) ≤ 1000000000) (hok : ¬ (cb = true ∧ 0 < tb.length + Lb.length) ∧ WhO Lb) (hw : Lb.map rv = w) (hsl : (s.length : Int) ≤ 1000000000) (hks : k < s.length) (hb : axB s a = true) (hk : axA s a = (k : Int)) {ks : List Int} (hone : oneB sb (tb.length + Lb.length) = false) (hse : sb = wo s (k : Int))
    (h97 : Go.V.Call tab E 97 [.agg (arrX s ch t L), .int .i64 k, .fn 102 [.ptr [.bool false] 0, .ptr [ints w] 0]] [] (.tup [.agg (arrX s ch (picksT ch t ks) (picksR ch L ks)), .int .i64 0]) []) :
    Go.V.Call tab E 42 [.agg (arrX sb cb tb Lb), .agg (arrX s ch t L), .int .i64 a] [] (.tup [.agg (arrX s ch (picksT ch t ks) (picksR ch L ks)), .int .i64 0]) [] := by
  refine Go.V.Call.mach i42 c42 rfl rfl rfl rfl ?_
  have h100 := c100_X (s := sb) (t := tb) (l := Lb) (ch := cb) (ok := true) (by omega) (by omega) ⟨fun _ => hok, fun _ => rfl⟩
  rw [if_pos rfl, hw] at h100
  have h56 := c56_X (s := s) (t := t) (l := L) (ch := ch) (by omega)
  have h27 := c27_ok (s := s) (t := t) (ch := ch) (L := L) (a := a) hsl
  rw [hb, hk] at h27
  have h48 := c48_X (s := s) (t := t) (l := L) (ch := ch) (by omega)
  have h101 := c101_ok (s := s) (a := (k : Int)) (by omega) ⟨by omega, by omega⟩
  have h56b := c56_X (s := sb) (t := tb) (l := Lb) (ch := cb) (by omega)
  have h55b := c55_X (s := sb) (t := tb) (l := Lb) (ch := cb) (by omega) (by omega)
  have h48b := c48_X (s := sb) (t := tb) (l := Lb) (ch := cb) (by omega)
  have hwol := wo_len (s := s) (a := (k : Int))
  have h57 := c57_ok (E := E) (s := sb) (t := wo s (k : Int)) (by omega) (by omega)
  have hq : ((s.length : Int) == 0) = false := beq_eq_false_iff_ne.2 (by omega)
  rw [decide_eq_true hse] at h57
  have hrk : ((sb.length : Int) != ((wo s (k : Int)).length : Int)) = false := by rw [← hse]; simp
  clear hse
  generalize wo s (k : Int) = rest at *
  simp only [arrX, runes, ints, rowI] at h100 h56 h27 h48 h101 h56b h55b h48b h57 h97
  simp only [c42, arrX, runes, ints, go_sem, fillAll, fillIn, shiftR, shiftV, List.take_succ_cons, List.take_zero, List.drop_succ_cons, List.drop_zero, List.append_nil, Nat.zero_add, subA5]
  refine goO h100 rfl rfl ?_
  simp only [go_sem, fillAll, fillIn, shiftR, shiftV, List.take_succ_cons, List.take_zero, List.drop_succ_cons, List.drop_zero, List.append_nil, Nat.zero_add, subA5, subOne]
  refine goP h56 ?_
  simp only [go_sem, fillAll, fillIn, shiftR, shiftV, List.take_succ_cons, List.take_zero, List.drop_succ_cons, List.drop_zero, List.append_nil, Nat.zero_add, subA5, subOne, hq]
  refine goP h27 ?_
  simp only [go_sem, fillAll, fillIn, shiftR, shiftV, List.take_succ_cons, List.take_zero, List.drop_succ_cons, List.drop_zero, List.append_nil, Nat.zero_add, subA5, subOne]
  refine goP h48 ?_
  simp only [go_sem, fillAll, fillIn, shiftR, shiftV, List.take_succ_cons, List.take_zero, List.drop_succ_cons, List.drop_zero, List.append_nil, Nat.zero_add, subA5, subOne]
  refine goP h101 ?_
  simp only [go_sem, fillAll, fillIn, shiftR, shiftV, List.take_succ_cons, List.take_zero, List.drop_succ_cons, List.drop_zero, List.append_nil, Nat.zero_add, subA5, subOne]
  refine goP h56b ?_
  have ho := hone
  rw [oneB, Bool.or_eq_false_iff, Bool.and_eq_false_iff, decide_eq_false_iff_not, decide_eq_false_iff_not, decide_eq_false_iff_not] at ho
  obtain ⟨h0, h1⟩ := ho
  have hq0 : ((sb.length : Int) == 0) = false := beq_eq_false_iff_ne.2 (by omega)
  simp only [go_sem, fillAll, fillIn, shiftR, shiftV, List.take_succ_cons, List.take_zero, List.drop_succ_cons, List.drop_zero, List.append_nil, Nat.zero_add, subA5, subOne, hq0]
  refine goP h55b ?_
  by_cases hl1 : tb.length + Lb.length = 1
  · have hq1 : (((tb.length + Lb.length : Nat) : Int) == 1) = true := by rw [hl1]; rfl
    have hq2 : ((sb.length : Int) == 1) = false := beq_eq_false_iff_ne.2 (by omega)
    simp only [go_sem, fillAll, fillIn, shiftR, shiftV, List.take_succ_cons, List.take_zero, List.drop_succ_cons, List.drop_zero, List.append_nil, Nat.zero_add, subA5, subOne, hq1]
    refine goP h56b ?_
    simp only [go_sem, fillAll, fillIn, shiftR, shiftV, List.take_succ_cons, List.take_zero, List.drop_succ_cons, List.drop_zero, List.append_nil, Nat.zero_add, subA5, subOne, hq2]
    refine goP h56b ?_
    simp only [go_sem, fillAll, fillIn, shiftR, shiftV, List.take_succ_cons, List.take_zero, List.drop_succ_cons, List.drop_zero, List.append_nil, Nat.zero_add, subA5, subOne, hrk]
    refine goP h48b ?_
    simp only [go_sem, fillAll, fillIn, shiftR, shiftV, List.take_succ_cons, List.take_zero, List.drop_succ_cons, List.drop_zero, List.append_nil, Nat.zero_add, subA5, subOne]
    refine goP h57 ?_
    simp only [go_sem, fillAll, fillIn, shiftR, shiftV, List.take_succ_cons, List.take_zero, List.drop_succ_cons, List.drop_zero, List.append_nil, Nat.zero_add, subA5, subOne]
    refine goF h97 ?_
    simp only [go_sem, fillAll, fillIn, shiftR, shiftV, List.take_succ_cons, List.take_zero, List.drop_succ_cons, List.drop_zero, List.append_nil, Nat.zero_add, subA5, subOne]
    simp only [i42, Out, resAll, geto, ints, List.getElem?_cons_zero, List.getElem?_cons_succ, resOf, outOf, snap, snapL, ev, getE, List.mapM_cons, List.mapM_nil, Option.bind_some, Option.pure_def, Option.bind_eq_bind, Option.map_some, reduceIte, Nat.reduceEqDiff, true_and, and_true, subA5]
  · have hq1 : (((tb.length + Lb.length : Nat) : Int) == 1) = false := beq_eq_false_iff_ne.2 (by omega)
    simp only [go_sem, fillAll, fillIn, shiftR, shiftV, List.take_succ_cons, List.take_zero, List.drop_succ_cons, List.drop_zero, List.append_nil, Nat.zero_add, subA5, subOne, hq1]
    refine goP h56b ?_
    simp only [go_sem, fillAll, fillIn, shiftR, shiftV, List.take_succ_cons, List.take_zero, List.drop_succ_cons, List.drop_zero, List.append_nil, Nat.zero_add, subA5, subOne, hrk]
    refine goP h48b ?_
    simp only [go_sem, fillAll, fillIn, shiftR, shiftV, List.take_succ_cons, List.take_zero, List.drop_succ_cons, List.drop_zero, List.append_nil, Nat.zero_add, subA5, subOne]
    refine goP h57 ?_
    simp only [go_sem, fillAll, fillIn, shiftR, shiftV, List.take_succ_cons, List.take_zero, List.drop_succ_cons, List.drop_zero, List.append_nil, Nat.zero_add, subA5, subOne]
    refine goF h97 ?_
    simp only [go_sem, fillAll, fillIn, shiftR, shiftV, List.take_succ_cons, List.take_zero, List.drop_succ_cons, List.drop_zero, List.append_nil, Nat.zero_add, subA5, subOne]
    simp only [i42, Out, resAll, geto, ints, List.getElem?_cons_zero, List.getElem?_cons_succ, resOf, outOf, snap, snapL, ev, getE, List.mapM_cons, List.mapM_nil, Option.bind_some, Option.pure_def, Option.bind_eq_bind, Option.map_some, reduceIte, Nat.reduceEqDiff, true_and, and_true, subA5]
theorem c42_bad (hsbl : (sb.length : Int) ≤ 1000000000) (htb : (tb.length : Int) ≤ 1000000000) (hlb : (Lb.length : Int) ≤ 1000000000) (hok : ¬ (cb = true ∧ 0 < tb.length + Lb.length) ∧ WhO Lb) (hw : Lb.map rv = w) (hsl : (s.length : Int) ≤ 1000000000) (hks : k < s.length) (hb : axB s a = true) (hk : axA s a = (k : Int)) (hone : oneB sb (tb.length + Lb.length) = false) (hse : sb ≠ wo s (k : Int)) :
    Go.V.Call tab E 42 [.agg (arrX sb cb tb Lb), .agg (arrX s ch t L), .int .i64 a] [] (.tup [.agg noA, .int .i64 (if sb.length ≠ (wo s (k : Int)).length then 23 else 24)]) [] := by
  refine Go.V.Call.mach i42 c42 rfl rfl rfl rfl ?_
  have h100 := c100_X (s := sb) (t := tb) (l := Lb) (ch := cb) (ok := true) (by omega) (by omega) ⟨fun _ => hok, fun _ => rfl⟩
  rw [if_pos rfl, hw] at h100
  have h56 := c56_X (s := s) (t := t) (l := L) (ch := ch) (by omega)
  have h27 := c27_ok (s := s) (t := t) (ch := ch) (L := L) (a := a) hsl
  rw [hb, hk] at h27
  have h48 := c48_X (s := s) (t := t) (l := L) (ch := ch) (by omega)
  have h101 := c101_ok (s := s) (a := (k : Int)) (by omega) ⟨by omega, by omega⟩
  have h56b := c56_X (s := sb) (t := tb) (l := Lb) (ch := cb) (by omega)
  have h55b := c55_X (s := sb) (t := tb) (l := Lb) (ch := cb) (by omega) (by omega)
  have h48b := c48_X (s := sb) (t := tb) (l := Lb) (ch := cb) (by omega)
  have hwol := wo_len (s := s) (a := (k : Int))
  have h57 := c57_ok (E := E) (s := sb) (t := wo s (k : Int)) (by omega) (by omega)
  have hq : ((s.length : Int) == 0) = false := beq_eq_false_iff_ne.2 (by omega)
  rw [decide_eq_false hse] at h57
  generalize wo s (k : Int) = rest at *
  simp only [arrX, runes, ints, rowI] at h100 h56 h27 h48 h101 h56b h55b h48b h57
  simp only [c42, arrX, runes, ints, go_sem, fillAll, fillIn, shiftR, shiftV, List.take_succ_cons, List.take_zero, List.drop_succ_cons, List.drop_zero, List.append_nil, Nat.zero_add, subA5]
  refine goO h100 rfl rfl ?_
  simp only [go_sem, fillAll, fillIn, shiftR, shiftV, List.take_succ_cons, List.take_zero, List.drop_succ_cons, List.drop_zero, List.append_nil, Nat.zero_add, subA5, subOne]
  refine goP h56 ?_
  simp only [go_sem, fillAll, fillIn, shiftR, shiftV, List.take_succ_cons, List.take_zero, List.drop_succ_cons, List.drop_zero, List.append_nil, Nat.zero_add, subA5, subOne, hq]
  refine goP h27 ?_
  simp only [go_sem, fillAll, fillIn, shiftR, shiftV, List.take_succ_cons, List.take_zero, List.drop_succ_cons, List.drop_zero, List.append_nil, Nat.zero_add, subA5, subOne]
  refine goP h48 ?_
  simp only [go_sem, fillAll, fillIn, shiftR, shiftV, List.take_succ_cons, List.take_zero, List.drop_succ_cons, List.drop_zero, List.append_nil, Nat.zero_add, subA5, subOne]
  refine goP h101 ?_
  simp only [go_sem, fillAll, fillIn, shiftR, shiftV, List.take_succ_cons, List.take_zero, List.drop_succ_cons, List.drop_zero, List.append_nil, Nat.zero_add, subA5, subOne]
  refine goP h56b ?_
  have ho := hone
  rw [oneB, Bool.or_eq_false_iff, Bool.and_eq_false_iff, decide_eq_false_iff_not, decide_eq_false_iff_not, decide_eq_false_iff_not] at ho
  obtain ⟨h0, h1⟩ := ho
  have hq0 : ((sb.length : Int) == 0) = false := beq_eq_false_iff_ne.2 (by omega)
  simp only [go_sem, fillAll, fillIn, shiftR, shiftV, List.take_succ_cons, List.take_zero, List.drop_succ_cons, List.drop_zero, List.append_nil, Nat.zero_add, subA5, subOne, hq0]
  refine goP h55b ?_
  by_cases hl1 : tb.length + Lb.length = 1
  · have hq1 : (((tb.length + Lb.length : Nat) : Int) == 1) = true := by rw [hl1]; rfl
    have hq2 : ((sb.length : Int) == 1) = false := beq_eq_false_iff_ne.2 (by omega)
    simp only [go_sem, fillAll, fillIn, shiftR, shiftV, List.take_succ_cons, List.take_zero, List.drop_succ_cons, List.drop_zero, List.append_nil, Nat.zero_add, subA5, subOne, hq1]
    refine goP h56b ?_
    simp only [go_sem, fillAll, fillIn, shiftR, shiftV, List.take_succ_cons, List.take_zero, List.drop_succ_cons, List.drop_zero, List.append_nil, Nat.zero_add, subA5, subOne, hq2]
    refine goP h56b ?_
    by_cases hrl : sb.length = rest.length
    · have hrk : ((sb.length : Int) != (rest.length : Int)) = false := by rw [hrl]; simp
      simp only [go_sem, fillAll, fillIn, shiftR, shiftV, List.take_succ_cons, List.take_zero, List.drop_succ_cons, List.drop_zero, List.append_nil, Nat.zero_add, subA5, subOne, hrk]
      refine goP h48b ?_
      simp only [go_sem, fillAll, fillIn, shiftR, shiftV, List.take_succ_cons, List.take_zero, List.drop_succ_cons, List.drop_zero, List.append_nil, Nat.zero_add, subA5, subOne]
      refine goP h57 ?_
      simp only [go_sem, fillAll, fillIn, shiftR, shiftV, List.take_succ_cons, List.take_zero, List.drop_succ_cons, List.drop_zero, List.append_nil, Nat.zero_add, subA5, subOne]
      rw [if_neg (fun h => h hrl)]
      simp only [i42, Out, resAll, geto, ints, List.getElem?_cons_zero, List.getElem?_cons_succ, resOf, outOf, snap, snapL, ev, getE, List.mapM_cons, List.mapM_nil, Option.bind_some, Option.pure_def, Option.bind_eq_bind, Option.map_some, reduceIte, Nat.reduceEqDiff, true_and, and_true, subA5, noA]
    · have hrk : ((sb.length : Int) != (rest.length : Int)) = true := by rw [bne_iff_ne]; omega
      simp only [go_sem, fillAll, fillIn, shiftR, shiftV, List.take_succ_cons, List.take_zero, List.drop_succ_cons, List.drop_zero, List.append_nil, Nat.zero_add, subA5, subOne, hrk]
      rw [if_pos hrl]
      simp only [i42, Out, resAll, geto, ints, List.getElem?_cons_zero, List.getElem?_cons_succ, resOf, outOf, snap, snapL, ev, getE, List.mapM_cons, List.mapM_nil, Option.bind_some, Option.pure_def, Option.bind_eq_bind, Option.map_some, reduceIte, Nat.reduceEqDiff, true_and, and_true, subA5, noA]
  · have hq1 : (((tb.length + Lb.length : Nat) : Int) == 1) = false := beq_eq_false_iff_ne.2 (by omega)
    simp only [go_sem, fillAll, fillIn, shiftR, shiftV, List.take_succ_cons, List.take_zero, List.drop_succ_cons, List.drop_zero, List.append_nil, Nat.zero_add, subA5, subOne, hq1]
    refine goP h56b ?_
    by_cases hrl : sb.length = rest.length
    · have hrk : ((sb.length : Int) != (rest.length : Int)) = false := by rw [hrl]; simp
      simp only [go_sem, fillAll, fillIn, shiftR, shiftV, List.take_succ_cons, List.take_zero, List.drop_succ_cons, List.drop_zero, List.append_nil, Nat.zero_add, subA5, subOne, hrk]
      refine goP h48b ?_
      simp only [go_sem, fillAll, fillIn, shiftR, shiftV, List.take_succ_cons, List.take_zero, List.drop_succ_cons, List.drop_zero, List.append_nil, Nat.zero_add, subA5, subOne]
      refine goP h57 ?_
      simp only [go_sem, fillAll, fillIn, shiftR, shiftV, List.take_succ_cons, List.take_zero, List.drop_succ_cons, List.drop_zero, List.append_nil, Nat.zero_add, subA5, subOne]
      rw [if_neg (fun h => h hrl)]
      simp only [i42, Out, resAll, geto, ints, List.getElem?_cons_zero, List.getElem?_cons_succ, resOf, outOf, snap, snapL, ev, getE, List.mapM_cons, List.mapM_nil, Option.bind_some, Option.pure_def, Option.bind_eq_bind, Option.map_some, reduceIte, Nat.reduceEqDiff, true_and, and_true, subA5, noA]
    · have hrk : ((sb.length : Int) != (rest.length : Int)) = true := by rw [bne_iff_ne]; omega
      simp only [go_sem, fillAll, fillIn, shiftR, shiftV, List.take_succ_cons, List.take_zero, List.drop_succ_cons, List.drop_zero, List.append_nil, Nat.zero_add, subA5, subOne, hrk]
      rw [if_pos hrl]
      simp only [i42, Out, resAll, geto, ints, List.getElem?_cons_zero, List.getElem?_cons_succ, resOf, outOf, snap, snapL, ev, getE, List.mapM_cons, List.mapM_nil, Option.bind_some, Option.pure_def, Option.bind_eq_bind, Option.map_some, reduceIte, Nat.reduceEqDiff, true_and, and_true, subA5, noA]
end
theorem rot_doc {x m y : Int} : (y + Int.tmod x m) % m = (y + x) % m := by
  have h1 := Int.tmod_add_mul_tdiv x m
  have h2 : y + x = (y + Int.tmod x m) + m * Int.tdiv x m := by omega
  rw [h2, Int.add_mul_emod_self_left]
section
variable {sb tb s t w : List Int} {cb ch : Bool} {Lb : List Rt} {l : List Nm} {a : Int} {k : Nat}
theorem c43_dom (htb : (tb.length : Int) ≤ 1000000000) (hlb : (Lb.length : Int) ≤ 1000000000) (hlk : ∀ x ∈ Lb, RtOk x) (hno : ¬ (tb.length = 0 ∧ WhO Lb)) :
    Go.V.Call tab E 43 [.agg (plX sb cb tb (Lb.map toNm)), .agg (plX s ch t l), .int .i64 a] [] (.tup [.agg noP, .int .i64 22]) [] := by
  refine Go.V.Call.mach i43 c43 rfl rfl rfl rfl ?_
  have h103 := c103_ok (s := sb) (t := tb) (l := Lb) (ch := cb) (ok := false) (by omega) (by omega) hlk ⟨fun h => (by cases h), fun h => absurd h hno⟩
  simp only [plX, runes, ints, rowI] at h103
  simp only [c43, plX, runes, ints, go_sem, fillAll, fillIn, shiftR, shiftV, List.take_succ_cons, List.take_zero, List.drop_succ_cons, List.drop_zero, List.append_nil, Nat.zero_add, subP4]
  refine goO h103 rfl rfl ?_
  simp only [go_sem, fillAll, fillIn, shiftR, shiftV, List.take_succ_cons, List.take_zero, List.drop_succ_cons, List.drop_zero, List.append_nil, Nat.zero_add, subP4]
  simp only [i43, Out, resAll, geto, ints, List.getElem?_cons_zero, List.getElem?_cons_succ, resOf, outOf, snap, snapL, ev, getE, List.mapM_cons, List.mapM_nil, Option.bind_some, Option.pure_def, Option.bind_eq_bind, Option.map_some, reduceIte, Nat.reduceEqDiff, true_and, and_true, subP4, noP, plX]
  rfl
theorem c43_none (htb : (tb.length : Int) ≤ 1000000000) (hlb : (Lb.length : Int) ≤ 1000000000) (hlk : ∀ x ∈ Lb, RtOk x) (hok : tb.length = 0 ∧ WhO Lb) (hw : Lb.map rv = w) (h : s.length = 0 ∧ a < 0) :
    Go.V.Call tab E 43 [.agg (plX sb cb tb (Lb.map toNm)), .agg (plX s ch t l), .int .i64 a] [] (if tb.length + Lb.length = 1 then .tup [.agg (plX s ch t l), .int .i64 0] else .tup [.agg noP, .int .i64 23]) [] := by
  refine Go.V.Call.mach i43 c43 rfl rfl rfl rfl ?_
  have h103 := c103_ok (s := sb) (t := tb) (l := Lb) (ch := cb) (ok := true) (by omega) (by omega) hlk ⟨fun _ => hok, fun _ => rfl⟩
  rw [if_pos rfl, hw] at h103
  have h20 := c20_ok (s := sb) (t := tb) (l := Lb.map toNm) (ch := cb) (by omega) (by simp; omega)
  rw [List.length_map] at h20
  obtain ⟨h1, h2⟩ := h
  have hq : ((s.length : Int) == 0) = true := by rw [h1]; rfl
  simp only [plX, runes, ints, rowI, List.length_map] at h103 h20
  simp only [c43, plX, runes, ints, List.length_map, go_sem, fillAll, fillIn, shiftR, shiftV, List.take_succ_cons, List.take_zero, List.drop_succ_cons, List.drop_zero, List.append_nil, Nat.zero_add, subP4]
  refine goO h103 rfl rfl ?_
  simp only [go_sem, fillAll, fillIn, shiftR, shiftV, List.take_succ_cons, List.take_zero, List.drop_succ_cons, List.drop_zero, List.append_nil, Nat.zero_add, subP4, subP4a, hq, h2]
  refine goP h20 ?_
  by_cases hl1 : tb.length + Lb.length = 1
  · have hb : (((tb.length + Lb.length : Nat) : Int) != 1) = false := by rw [hl1]; rfl
    simp only [go_sem, fillAll, fillIn, shiftR, shiftV, List.take_succ_cons, List.take_zero, List.drop_succ_cons, List.drop_zero, List.append_nil, Nat.zero_add, subP4, hb]
    simp only [i43, Out, resAll, geto, ints, List.getElem?_cons_zero, List.getElem?_cons_succ, resOf, outOf, snap, snapL, ev, getE, List.mapM_cons, List.mapM_nil, Option.bind_some, Option.pure_def, Option.bind_eq_bind, Option.map_some, reduceIte, Nat.reduceEqDiff, true_and, and_true, subP4, hl1, if_true, plX, runes, ints]
  · have hb : (((tb.length + Lb.length : Nat) : Int) != 1) = true := by rw [bne_iff_ne]; omega
    simp only [go_sem, fillAll, fillIn, shiftR, shiftV, List.take_succ_cons, List.take_zero, List.drop_succ_cons, List.drop_zero, List.append_nil, Nat.zero_add, subP4, hb]
    simp only [i43, Out, resAll, geto, ints, List.getElem?_cons_zero, List.getElem?_cons_succ, resOf, outOf, snap, snapL, ev, getE, List.mapM_cons, List.mapM_nil, Option.bind_some, Option.pure_def, Option.bind_eq_bind, Option.map_some, reduceIte, Nat.reduceEqDiff, true_and, and_true, subP4, hl1, if_false, noP, plX]
    rfl
theorem c43_axis (htb : (tb.length : Int) ≤ 1000000000) (hlb : (Lb.length : Int) ≤ 1000000000) (hlk : ∀ x ∈ Lb, RtOk x) (hok : tb.length = 0 ∧ WhO Lb) (hw : Lb.map rv = w) (hsl : (s.length : Int) ≤ 1000000000) (h : ¬ (s.length = 0 ∧ a < 0)) (hb : axB s a = false) :
    Go.V.Call tab E 43 [.agg (plX sb cb tb (Lb.map toNm)), .agg (plX s ch t l), .int .i64 a] [] (.tup [.agg noP, .int .i64 23]) [] := by
  refine Go.V.Call.mach i43 c43 rfl rfl rfl rfl ?_
  have h103 := c103_ok (s := sb) (t := tb) (l := Lb) (ch := cb) (ok := true) (by omega) (by omega) hlk ⟨fun _ => hok, fun _ => rfl⟩
  rw [if_pos rfl, hw] at h103
  have h28 := c28_ok (s := s) (t := t) (ch := ch) (l := l) (a := a) hsl
  rw [hb] at h28
  have hq : ((s.length : Int) == 0) = decide (s.length = 0) := by
    by_cases h1 : s.length = 0
    · rw [h1]; rfl
    · rw [decide_eq_false h1]; exact beq_eq_false_iff_ne.2 (by omega)
  simp only [plX, runes, ints, rowI] at h103 h28
  simp only [c43, plX, runes, ints, go_sem, fillAll, fillIn, shiftR, shiftV, List.take_succ_cons, List.take_zero, List.drop_succ_cons, List.drop_zero, List.append_nil, Nat.zero_add, subP4]
  refine goO h103 rfl rfl ?_
  by_cases h1 : s.length = 0
  · have h2 : ¬ a < 0 := fun h2 => h ⟨h1, h2⟩
    simp only [h1] at h28
    simp only [go_sem, fillAll, fillIn, shiftR, shiftV, List.take_succ_cons, List.take_zero, List.drop_succ_cons, List.drop_zero, List.append_nil, Nat.zero_add, subP4, subP4a, hq, h1, h2, decide_true]
    refine goP h28 ?_
    simp only [go_sem, fillAll, fillIn, shiftR, shiftV, List.take_succ_cons, List.take_zero, List.drop_succ_cons, List.drop_zero, List.append_nil, Nat.zero_add, subP4]
    simp only [i43, Out, resAll, geto, ints, List.getElem?_cons_zero, List.getElem?_cons_succ, resOf, outOf, snap, snapL, ev, getE, List.mapM_cons, List.mapM_nil, Option.bind_some, Option.pure_def, Option.bind_eq_bind, Option.map_some, reduceIte, Nat.reduceEqDiff, true_and, and_true, subP4, noP, plX]
    rfl
  · simp only [go_sem, fillAll, fillIn, shiftR, shiftV, List.take_succ_cons, List.take_zero, List.drop_succ_cons, List.drop_zero, List.append_nil, Nat.zero_add, subP4, subP4a, hq, h1, decide_false]
    refine goP h28 ?_
    simp only [go_sem, fillAll, fillIn, shiftR, shiftV, List.take_succ_cons, List.take_zero, List.drop_succ_cons, List.drop_zero, List.append_nil, Nat.zero_add, subP4]
    simp only [i43, Out, resAll, geto, ints, List.getElem?_cons_zero, List.getElem?_cons_succ, resOf, outOf, snap, snapL, ev, getE, List.mapM_cons, List.mapM_nil, Option.bind_some, Option.pure_def, Option.bind_eq_bind, Option.map_some, reduceIte, Nat.reduceEqDiff, true_and, and_true, subP4, noP, plX]
    rfl
end
def oneD (sb : List Int) : Bool := decide (sb.length = 0) || (decide (sb.length = 1) && decide (sb.getD 0 0 = 1))
theorem wo_at {s : List Int} {k : Nat} (h : k < s.length) : wo s (k : Int) = s.take k ++ s.drop (k + 1) := by rw [wo, if_pos ⟨by omega, by omega⟩, Int.toNat_natCast]
theorem count_wo {s : List Int} {n : Int} {k : Nat} (hc : count s = some n) (h : k < s.length) : count (s.take k ++ s.drop (k + 1)) ≠ none := by
  obtain ⟨h1, h2, h3⟩ := count_iff.2 (show count s ≠ none by rw [hc]; simp)
  have hs : s = s.take k ++ s.getD k 0 :: s.drop (k + 1) := by rw [← getD_drop h, List.take_append_drop]
  have hm := mprd_append (s := s.take k) (t := s.getD k 0 :: s.drop (k + 1))
  rw [← hs, mprd] at hm
  have p1 := mprd_pos (s := s.take k)
  have p2 := mprd_pos (s := s.drop (k + 1))
  have h4 : 1 ≤ max 1 (s.getD k 0) := by rw [max1]; split <;> omega
  have q1 := Int.mul_le_mul_of_nonneg_right (a := 1) (b := max 1 (s.getD k 0)) (c := mprd (s.drop (k + 1))) h4 (by omega)
  have q2 := Int.mul_le_mul_of_nonneg_left (c := mprd (s.take k)) q1 (by omega)
  rw [Int.one_mul] at q2
  rw [count_iff.1 ⟨by simp; omega, fun d hd => ?_, by rw [mprd_append]; omega⟩]
  · simp
  · rcases List.mem_append.1 hd with hd | hd
    · exact h2 d (List.mem_of_mem_take hd)
    · exact h2 d (List.mem_of_mem_drop hd)
section
variable {sb tb s t w : List Int} {cb ch : Bool} {Lb : List Rt} {l : List Nm} {a : Int} {k : Nat}
theorem c43_bad (hsbl : (sb.length : Int) ≤ 1000000000) (htb : (tb.length : Int) ≤ 1000000000) (hlb : (Lb.length : Int) ≤ 1000000000) (hlk : ∀ x ∈ Lb, RtOk x) (hok : tb.length = 0 ∧ WhO Lb) (hw : Lb.map rv = w) (hsl : (s.length : Int) ≤ 1000000000) (hks : k < s.length) (hb : axB s a = true) (hk : axA s a = (k : Int)) (hone : oneD sb = false) (hse : sb ≠ wo s (k : Int)) :
    Go.V.Call tab E 43 [.agg (plX sb cb tb (Lb.map toNm)), .agg (plX s ch t l), .int .i64 a] [] (.tup [.agg noP, .int .i64 (if sb.length ≠ (wo s (k : Int)).length then 23 else 24)]) [] := by
  refine Go.V.Call.mach i43 c43 rfl rfl rfl rfl ?_
  have h103 := c103_ok (s := sb) (t := tb) (l := Lb) (ch := cb) (ok := true) (by omega) (by omega) hlk ⟨fun _ => hok, fun _ => rfl⟩
  rw [if_pos rfl, hw] at h103
  have h28 := c28_ok (s := s) (t := t) (ch := ch) (l := l) (a := a) hsl
  rw [hb, hk] at h28
  have h104 := c104_ok (E := E) (s := s) (a := (k : Int)) (by omega)
  have hwol := wo_len (s := s) (a := (k : Int))
  have h65 := c65_ok (E := E) (s := sb) (t := wo s (k : Int)) (by omega) (by omega)
  have hqz : ((s.length : Int) == 0) = false := beq_eq_false_iff_ne.2 (by omega)
  rw [decide_eq_false hse] at h65
  generalize wo s (k : Int) = rest at *
  simp only [plX, runes, ints, rowI] at h103 h28 h104 h65
  simp only [c43, plX, runes, ints, go_sem, fillAll, fillIn, shiftR, shiftV, List.take_succ_cons, List.take_zero, List.drop_succ_cons, List.drop_zero, List.append_nil, Nat.zero_add, subP4]
  refine goO h103 rfl rfl ?_
  simp only [go_sem, fillAll, fillIn, shiftR, shiftV, List.take_succ_cons, List.take_zero, List.drop_succ_cons, List.drop_zero, List.append_nil, Nat.zero_add, subP4, subP4a, hqz]
  refine goP h28 ?_
  simp only [go_sem, fillAll, fillIn, shiftR, shiftV, List.take_succ_cons, List.take_zero, List.drop_succ_cons, List.drop_zero, List.append_nil, Nat.zero_add, subP4, subP4a]
  refine goP h104 ?_
  have ho := hone
  rw [oneD, Bool.or_eq_false_iff, Bool.and_eq_false_iff, decide_eq_false_iff_not, decide_eq_false_iff_not, decide_eq_false_iff_not] at ho
  obtain ⟨h0, h1⟩ := ho
  have hq0 : ((sb.length : Int) == 0) = false := beq_eq_false_iff_ne.2 (by omega)
  by_cases hl1 : sb.length = 1
  · have hq1 : ((sb.length : Int) == 1) = true := by rw [hl1]; rfl
    have hv : (sb.getD 0 0 == 1) = false := beq_eq_false_iff_ne.2 (by omega)
    have hsub : sub false 1 (nums .i64 sb) 0 = some (.int .i64 (sb.getD 0 0)) := sub_nums (k := .i64) (l := sb) (i := 0) (by omega)
    have hlt0 : (0 : Int) < (sb.length : Int) := by omega
    by_cases hrl : sb.length = rest.length
    · have hrk : ((sb.length : Int) != (rest.length : Int)) = false := by rw [hrl]; simp
      simp only [go_sem, fillAll, fillIn, shiftR, shiftV, List.take_succ_cons, List.take_zero, List.drop_succ_cons, List.drop_zero, List.append_nil, Nat.zero_add, subP4, subP4a, hq0, hq1, hv, hsub, hlt0, Int.le_refl, Int.toNat_zero, Nat.zero_mul, hrk]
      refine goP h65 ?_
      simp only [go_sem, fillAll, fillIn, shiftR, shiftV, List.take_succ_cons, List.take_zero, List.drop_succ_cons, List.drop_zero, List.append_nil, Nat.zero_add, subP4, subP4a]
      rw [if_neg (fun h => h hrl)]
      simp only [i43, Out, resAll, geto, ints, List.getElem?_cons_zero, List.getElem?_cons_succ, resOf, outOf, snap, snapL, ev, getE, List.mapM_cons, List.mapM_nil, Option.bind_some, Option.pure_def, Option.bind_eq_bind, Option.map_some, reduceIte, Nat.reduceEqDiff, true_and, and_true, subP4, noP, plX]
      rfl
    · have hrk : ((sb.length : Int) != (rest.length : Int)) = true := by rw [bne_iff_ne]; omega
      simp only [go_sem, fillAll, fillIn, shiftR, shiftV, List.take_succ_cons, List.take_zero, List.drop_succ_cons, List.drop_zero, List.append_nil, Nat.zero_add, subP4, subP4a, hq0, hq1, hv, hsub, hlt0, Int.le_refl, Int.toNat_zero, Nat.zero_mul, hrk]
      rw [if_pos hrl]
      simp only [i43, Out, resAll, geto, ints, List.getElem?_cons_zero, List.getElem?_cons_succ, resOf, outOf, snap, snapL, ev, getE, List.mapM_cons, List.mapM_nil, Option.bind_some, Option.pure_def, Option.bind_eq_bind, Option.map_some, reduceIte, Nat.reduceEqDiff, true_and, and_true, subP4, noP, plX]
      rfl
  · have hq1 : ((sb.length : Int) == 1) = false := beq_eq_false_iff_ne.2 (by omega)
    by_cases hrl : sb.length = rest.length
    · have hrk : ((sb.length : Int) != (rest.length : Int)) = false := by rw [hrl]; simp
      simp only [go_sem, fillAll, fillIn, shiftR, shiftV, List.take_succ_cons, List.take_zero, List.drop_succ_cons, List.drop_zero, List.append_nil, Nat.zero_add, subP4, subP4a, hq0, hq1, hrk]
      refine goP h65 ?_
      simp only [go_sem, fillAll, fillIn, shiftR, shiftV, List.take_succ_cons, List.take_zero, List.drop_succ_cons, List.drop_zero, List.append_nil, Nat.zero_add, subP4, subP4a]
      rw [if_neg (fun h => h hrl)]
      simp only [i43, Out, resAll, geto, ints, List.getElem?_cons_zero, List.getElem?_cons_succ, resOf, outOf, snap, snapL, ev, getE, List.mapM_cons, List.mapM_nil, Option.bind_some, Option.pure_def, Option.bind_eq_bind, Option.map_some, reduceIte, Nat.reduceEqDiff, true_and, and_true, subP4, noP, plX]
      rfl
    · have hrk : ((sb.length : Int) != (rest.length : Int)) = true := by rw [bne_iff_ne]; omega
      simp only [go_sem, fillAll, fillIn, shiftR, shiftV, List.take_succ_cons, List.take_zero, List.drop_succ_cons, List.drop_zero, List.append_nil, Nat.zero_add, subP4, subP4a, hq0, hq1, hrk]
      rw [if_pos hrl]
      simp only [i43, Out, resAll, geto, ints, List.getElem?_cons_zero, List.getElem?_cons_succ, resOf, outOf, snap, snapL, ev, getE, List.mapM_cons, List.mapM_nil, Option.bind_some, Option.pure_def, Option.bind_eq_bind, Option.map_some, reduceIte, Nat.reduceEqDiff, true_and, and_true, subP4, noP, plX]
      rfl
set_option maxHeartbeats 1000000 in
theorem c43_one {q m n : Nat} (hsbl : (sb.length : Int) ≤ 1000000000) (htb : (tb.length : Int) ≤ 1000000000) (hlb : (Lb.length : Int) ≤ 1000000000) (hlk : ∀ x ∈ Lb, RtOk x) (hok : tb.length = 0 ∧ WhO Lb) (hw : Lb.map rv = w) (hsl : (s.length : Int) ≤ 1000000000) (hks : k < s.length) (hb : axB s a = true) (hk : axA s a = (k : Int)) (hone : oneD sb = true) (hwl : 0 < w.length) (hw64 : ∀ d ∈ w, In64 d)
    (hch : (ch = true → l = []) ∧ (ch = false → t = [])) (ht : (t.length : Int) ≤ 1000000000) (hl : (l.length : Int) ≤ 1000000000) (hc : count s = some ((q * m * n : Nat) : Int)) (hq : prd (s.take k) = q) (hm : s.getD k 0 = m) (hn : prd (s.drop (k + 1)) = n) (h4 : q * m * n ≤ 4096) (hm4 : m ≤ 4096) :
    Go.V.Call tab E 43 [.agg (plX sb cb tb (Lb.map toNm)), .agg (plX s ch t l), .int .i64 a] [] (.tup [.agg (plX s ch (picksT ch t (alos m n (rotV w true m) (q * m * n))) (picksN ch l (alos m n (rotV w true m) (q * m * n)))), .int .i64 0]) [] := by
  refine Go.V.Call.mach i43 c43 rfl rfl rfl rfl ?_
  have h103 := c103_ok (s := sb) (t := tb) (l := Lb) (ch := cb) (ok := true) (by omega) (by omega) hlk ⟨fun _ => hok, fun _ => rfl⟩
  rw [if_pos rfl, hw] at h103
  have h28 := c28_ok (s := s) (t := t) (ch := ch) (l := l) (a := a) hsl
  rw [hb, hk] at h28
  have h104 := c104_ok (E := E) (s := s) (a := (k : Int)) (by omega)
  have hwol := wo_len (s := s) (a := (k : Int))
  have h65 := c65_ok (E := E) (s := sb) (t := wo s (k : Int)) (by omega) (by omega)
  have hqz : ((s.length : Int) == 0) = false := beq_eq_false_iff_ne.2 (by omega)
  have hl8 := (count_bound hc).1
  obtain ⟨hall, hget⟩ := allL_all hc
  have h80 := c80_ok (E := E) hc
  have h53 := c53_ok (s := s) (t := t) (s' := s) (ks := alos m n (rotV w true m) (q * m * n)) (l := l) (ch := ch) hch (by omega) (by omega) (by rw [alos_len]; omega)
  simp only [plX, runes, ints] at h53
  simp only [ints, rows] at h80
  have hwo := wo_at hks
  clear h65
  generalize hre : wo s (k : Int) = rest at *
  simp only [plX, runes, ints, rowI] at h103 h28 h104
  simp only [c43, plX, runes, ints, go_sem, fillAll, fillIn, shiftR, shiftV, List.take_succ_cons, List.take_zero, List.drop_succ_cons, List.drop_zero, List.append_nil, Nat.zero_add, subP4]
  refine goO h103 rfl rfl ?_
  simp only [go_sem, fillAll, fillIn, shiftR, shiftV, List.take_succ_cons, List.take_zero, List.drop_succ_cons, List.drop_zero, List.append_nil, Nat.zero_add, subP4, subP4a, hqz]
  refine goP h28 ?_
  simp only [go_sem, fillAll, fillIn, shiftR, shiftV, List.take_succ_cons, List.take_zero, List.drop_succ_cons, List.drop_zero, List.append_nil, Nat.zero_add, subP4, subP4a]
  refine goP h104 ?_
  have hloop : Mach (Go.V.Call tab E) (Go.V.Fin i43 [] (.tup [.agg (plX s ch (picksT ch t (alos m n (rotV w true m) (q * m * n))) (picksN ch l (alos m n (rotV w true m) (q * m * n)))), .int .i64 0]) []) [.code (.loop [4, 6, 8, 10, 12, 13, 14, 15, 16] (some (8, [])) b43_0), .endb 0, .code k43_0] .nrm ⟨[(4, .loc 1 0 0), (6, .loc 5 0 0), (8, .arr 6 0), (10, .int .i64 k), (12, .sl rest.length 1 (nums .i64 rest)), (13, .bool true), (14, .sl (allL s).length 1 ((allL s).map ints)), (15, .arr 7 0), (16, .int .i64 0)], [⟨true, 26, 4, 0, 1, [.sl sb.length 1 (nums .i64 sb), .bool cb, .sl tb.length 1 (nums .i32 tb), .sl (Lb.map toNm).length 3 (nmsC (Lb.map toNm))], false⟩, ⟨true, 26, 4, 0, 1, [.sl s.length 1 (nums .i64 s), .bool ch, .sl t.length 1 (nums .i32 t), .sl l.length 3 (nmsC l)], false⟩, ⟨false, 3, 1, 0, 0, [], false⟩, ⟨false, 21, 1, 0, 0, [], false⟩, ⟨false, 72, 3, 0, 0, [], false⟩, ⟨true, 26, 4, 0, 1, [.arr 2 0, .bool false, .arr 3 0, .arr 4 0], false⟩, ⟨false, 3, 1, 0, w.length, nums .i64 w, false⟩, ⟨false, 3, 1, 0, 0, [], false⟩]⟩ := by
    refine mLoop (fun N st => ∃ i : Nat, i ≤ q * m * n ∧ N = q * m * n - i ∧ st = ⟨[(4, .loc 1 0 0), (6, .loc 5 0 0), (8, .arr 6 0), (10, .int .i64 k), (12, .sl rest.length 1 (nums .i64 rest)), (13, .bool true), (14, .sl (allL s).length 1 ((allL s).map ints)), (15, .arr 7 i), (16, .int .i64 i)], [⟨true, 26, 4, 0, 1, [.sl sb.length 1 (nums .i64 sb), .bool cb, .sl tb.length 1 (nums .i32 tb), .sl (Lb.map toNm).length 3 (nmsC (Lb.map toNm))], false⟩, ⟨true, 26, 4, 0, 1, [.sl s.length 1 (nums .i64 s), .bool ch, .sl t.length 1 (nums .i32 t), .sl l.length 3 (nmsC l)], false⟩, ⟨false, 3, 1, 0, 0, [], false⟩, ⟨false, 21, 1, 0, 0, [], false⟩, ⟨false, 72, 3, 0, 0, [], false⟩, ⟨true, 26, 4, 0, 1, [.arr 2 0, .bool false, .arr 3 0, .arr 4 0], false⟩, ⟨false, 3, 1, 0, w.length, nums .i64 w, false⟩, ⟨false, 3, 1, i, i, nums .i64 (alos m n (rotV w true m) i), false⟩]⟩) (q * m * n)
      ⟨_, rfl, 0, by omega, by omega, by simp [getE, alos, nums]⟩ ?_
    rintro N s0 ⟨i, hi, rfl, rfl⟩
    by_cases hlt : i < q * m * n
    · have hlt' : (i : Int) < ((allL s).length : Int) := by rw [hall]; omega
      have hi0 : (0 : Int) ≤ (i : Int) := by omega
      have hi1 : IntKind.i64.wrap ((i : Int) + 1) = ((i + 1 : Nat) : Int) := by rw [wrap_i64 (by omega) (by omega)]; omega
      have hsub := sub_rows (L := allL s) (j := i) (by omega)
      rw [hget i hlt] at hsub
      have hN : ((q * m * n : Nat) : Int) ≠ 0 := by omega
      have hpos := count_pos hc hN
      have hnp : 0 < n := by rcases Nat.eq_zero_or_pos n with h | h; subst h; simp at hlt; exact h
      have hmp : 0 < m := by rcases Nat.eq_zero_or_pos m with h | h; subst h; simp at hlt; exact h
      have him : i / n % m < m := Nat.mod_lt _ hmp
      obtain ⟨hrv, hrx⟩ := rotV_lt (w := w) (one := true) (m := m) (a := (i / n / m) * n + i % n) (i := i / n % m) hmp
      obtain ⟨g1, g2, g3⟩ := pl_axis (s := s) (c := i) (x := ((rotV w true m ((i / n / m) * n + i % n) (i / n % m) : Nat) : Int)) hks hpos hq hm hn hlt ⟨by omega, by omega⟩
      have hix := ix_len (s := s) (a := (i : Int))
      have hsn : alos m n (rotV w true m) (i + 1) = alos m n (rotV w true m) i ++ [alo m n (rotV w true m) i] := by rw [alos, List.range_succ, List.map_append]; rfl
      have halo : alo m n (rotV w true m) i = (((i / n / m : Nat) : Int) * m + ((rotV w true m ((i / n / m) * n + i % n) (i / n % m) : Nat) : Int)) * n + ((i % n : Nat) : Int) := by
        rw [alo]; push_cast; rfl
      rw [← halo] at g2
      obtain ⟨p, h99, hp⟩ := c99_ok (E := E) (s := s) (idx := (ix s i).1.take k ++ ((rotV w true m ((i / n / m) * n + i % n) (i / n % m) : Nat) : Int) :: (ix s i).1.drop (k + 1)) (by omega) (by rw [set_length (by omega), hix]; omega)
      have hpv : p = alo m n (rotV w true m) i := by
        rcases hp (by rw [hc]; simp) with ⟨h1, _⟩ | ⟨_, h1⟩
        · rw [g2] at h1; cases h1
        · rw [g2] at h1; exact (Option.some.inj h1).symm
      subst hpv
      have hrow : 0 < w.length := by
        exact hwl
      have hd64 := hw64 (w.getD 0 0) (by simp [List.getD, hrow])
      have hwr := sub_nums (k := .i64) (l := w) (i := 0) hrow
      have hxr : ((rotV w true m ((i / n / m) * n + i % n) (i / n % m) : Nat) : Int) = (((i / n % m : Nat) : Int) + Int.tmod (w.getD 0 0) m) % m := by rw [hrx, rot_doc]; rfl
      obtain ⟨_, b1, b2⟩ := tm_cases (x := w.getD 0 0) (show (0 : Int) < m by omega)
      have hidk := sub_nums (k := .i64) (l := (ix s i).1) (i := k) (by omega)
      have hsk := sub_nums (k := .i64) (l := s) (i := k) (by omega)
      rw [g1] at hidk
      rw [hm] at hsk
      have h105 := c105_ok (x := ((i / n % m : Nat) : Int) + Int.tmod (w.getD 0 0) m) (m := m) ⟨by omega, by omega⟩ hmp hm4
      rw [← hxr] at h105
      have hmt : nums .i64 (alos m n (rotV w true m) (i + 1)) = nums .i64 (alos m n (rotV w true m) i) ++ [.int .i64 (alo m n (rotV w true m) i)] := by rw [hsn, nums_app]; rfl
      have k0 : (0 : Int) ≤ (k : Int) := by omega
      have k1 : (k : Int) < (s.length : Int) := by omega
      have r0 : (0 : Int) ≤ ((0 : Nat) : Int) := by omega
      have r1 : ((0 : Nat) : Int) < (w.length : Int) := by omega
      have hne : ¬ (m : Int) = 0 := by omega
      have e1 : (i + 1) * 8 ≤ 140737488355328 := by omega
      have e2 : i + 1 ≤ 140737488355328 := by omega
      have e3 : s.length * 8 ≤ 140737488355328 := by omega
      have e4 : s.length ≤ 140737488355328 := by omega
      have hst : k * 1 + 1 ≤ (ix s (i : Int)).1.length := by rw [hix]; omega
      generalize ((rotV w true m ((i / n / m) * n + i % n) (i / n % m) : Nat) : Int) = x at *
      generalize hye : ((i / n % m : Nat) : Int) = y at *
      generalize alo m n (rotV w true m) i = z at *
      generalize (ix s (i : Int)).1 = idx at *
      have hwl0 : (0 : Int) < (w.length : Int) := by omega
      have hwr0 : sub false 1 (nums .i64 w) 0 = some (.int .i64 (w.getD 0 0)) := hwr
      generalize w.getD 0 0 = u at *
      generalize hue : Int.tmod u m = u1 at *
      have w1 : IntKind.i64.wrap u1 = u1 := wrap_i64 (by omega) (by omega)
      have w2 : IntKind.i64.wrap (y + u1) = y + u1 := wrap_i64 (by omega) (by omega)
      have hcv : List.take (k * 1) (nums .i64 idx) ++ [.int .i64 x] ++ List.drop (k * 1 + 1) (nums .i64 idx) = nums .i64 (idx.take k ++ x :: idx.drop (k + 1)) := by simp [nums, List.map_take, List.map_drop]
      rw [ints, hix] at hsub
      simp only [ints] at h99
      rw [set_length (by omega), hix] at h99
      simp only [b43_0, go_sem, fillAll, fillIn, shiftR, shiftV, List.take_succ_cons, List.take_zero, List.drop_succ_cons, List.drop_zero, List.append_nil, Nat.zero_add, subP4, subP4a, hlt', hi0, Int.toNat_natCast, hsub, e3, e4, k0, k1, hidk, hsk, hne, hue, w1, w2, hwr0, hwl0, Int.le_refl, Int.toNat_zero, Nat.zero_mul, hwr, hst, Nat.zero_add, List.flatten_cons, List.flatten_nil, Option.getD_some]
      refine goP h105 ?_
      simp only [go_sem, fillAll, fillIn, shiftR, shiftV, List.take_succ_cons, List.take_zero, List.drop_succ_cons, List.drop_zero, List.append_nil, Nat.zero_add, subP4, subP4a, hlt', hi0, Int.toNat_natCast, hsub, e3, e4, k0, k1, hidk, hsk, hne, hue, w1, w2, hwr, r0, r1, hst, Nat.zero_add, List.flatten_cons, List.flatten_nil, Option.getD_some]
      rw [hcv]
      refine goR h99 rfl ?_
      simp only [go_sem, fillAll, fillIn, shiftR, shiftV, List.take_succ_cons, List.take_zero, List.drop_succ_cons, List.drop_zero, List.append_nil, Nat.zero_add, hi1, e1, e2, List.flatten_cons, List.flatten_nil, Option.getD_some]
      refine loopQ_go rfl (q * m * n - (i + 1)) (by omega) ⟨i + 1, by omega, rfl, ?_⟩
      rw [hmt]
      rfl
    · have hlt' : ¬ (i : Int) < ((allL s).length : Int) := by rw [hall]; omega
      obtain rfl : i = q * m * n := by omega
      rw [alos_len] at h53
      simp only [b43_0, k43_0, go_sem, fillAll, fillIn, shiftR, shiftV, List.take_succ_cons, List.take_zero, List.drop_succ_cons, List.drop_zero, List.append_nil, Nat.zero_add, subP4, subP4a, hlt']
      refine goF h53 ?_
      simp only [go_sem, fillAll, fillIn, shiftR, shiftV, List.take_succ_cons, List.take_zero, List.drop_succ_cons, List.drop_zero, List.append_nil, Nat.zero_add, subP4]
      simp only [i43, Out, resAll, geto, ints, List.getElem?_cons_zero, List.getElem?_cons_succ, resOf, outOf, snap, snapL, ev, getE, List.mapM_cons, List.mapM_nil, Option.bind_some, Option.pure_def, Option.bind_eq_bind, Option.map_some, reduceIte, Nat.reduceEqDiff, true_and, and_true, subP4]
      rfl
  by_cases h0 : sb.length = 0
  · have hq0 : ((sb.length : Int) == 0) = true := by rw [h0]; rfl
    simp only [go_sem, fillAll, fillIn, shiftR, shiftV, List.take_succ_cons, List.take_zero, List.drop_succ_cons, List.drop_zero, List.append_nil, Nat.zero_add, subP4, subP4a, hq0]
    refine goP h80 ?_
    simp only [go_sem, fillAll, fillIn, shiftR, shiftV, List.take_succ_cons, List.take_zero, List.drop_succ_cons, List.drop_zero, List.append_nil, Nat.zero_add, subP4, subP4a]
    exact hloop
  · have hq0 : ((sb.length : Int) == 0) = false := beq_eq_false_iff_ne.2 (by omega)
    have ho := hone
    rw [oneD, decide_eq_false h0, Bool.false_or, Bool.and_eq_true, decide_eq_true_eq, decide_eq_true_eq] at ho
    have hq1 : ((sb.length : Int) == 1) = true := by rw [ho.1]; rfl
    have hv : (sb.getD 0 0 == 1) = true := by rw [ho.2]; rfl
    have hsub : sub false 1 (nums .i64 sb) 0 = some (.int .i64 (sb.getD 0 0)) := sub_nums (k := .i64) (l := sb) (i := 0) (by omega)
    have hlt0 : (0 : Int) < (sb.length : Int) := by omega
    simp only [go_sem, fillAll, fillIn, shiftR, shiftV, List.take_succ_cons, List.take_zero, List.drop_succ_cons, List.drop_zero, List.append_nil, Nat.zero_add, subP4, subP4a, hq0, hq1, hv, hsub, hlt0, Int.le_refl, Int.toNat_zero, Nat.zero_mul]
    refine goP h80 ?_
    simp only [go_sem, fillAll, fillIn, shiftR, shiftV, List.take_succ_cons, List.take_zero, List.drop_succ_cons, List.drop_zero, List.append_nil, Nat.zero_add, subP4, subP4a]
    exact hloop
set_option maxHeartbeats 1000000 in
theorem c43_rows {q m n : Nat} (hsbl : (sb.length : Int) ≤ 1000000000) (htb : (tb.length : Int) ≤ 1000000000) (hlb : (Lb.length : Int) ≤ 1000000000) (hlk : ∀ x ∈ Lb, RtOk x) (hok : tb.length = 0 ∧ WhO Lb) (hw : Lb.map rv = w) (hsl : (s.length : Int) ≤ 1000000000) (hks : k < s.length) (hb : axB s a = true) (hk : axA s a = (k : Int)) (hone : oneD sb = false) (hse : sb = wo s (k : Int)) (hwl : q * n ≤ w.length) (hw64 : ∀ d ∈ w, In64 d)
    (hch : (ch = true → l = []) ∧ (ch = false → t = [])) (ht : (t.length : Int) ≤ 1000000000) (hl : (l.length : Int) ≤ 1000000000) (hc : count s = some ((q * m * n : Nat) : Int)) (hq : prd (s.take k) = q) (hm : s.getD k 0 = m) (hn : prd (s.drop (k + 1)) = n) (h4 : q * m * n ≤ 4096) (hm4 : m ≤ 4096) :
    Go.V.Call tab E 43 [.agg (plX sb cb tb (Lb.map toNm)), .agg (plX s ch t l), .int .i64 a] [] (.tup [.agg (plX s ch (picksT ch t (alos m n (rotV w false m) (q * m * n))) (picksN ch l (alos m n (rotV w false m) (q * m * n)))), .int .i64 0]) [] := by
  refine Go.V.Call.mach i43 c43 rfl rfl rfl rfl ?_
  have h103 := c103_ok (s := sb) (t := tb) (l := Lb) (ch := cb) (ok := true) (by omega) (by omega) hlk ⟨fun _ => hok, fun _ => rfl⟩
  rw [if_pos rfl, hw] at h103
  have h28 := c28_ok (s := s) (t := t) (ch := ch) (l := l) (a := a) hsl
  rw [hb, hk] at h28
  have h104 := c104_ok (E := E) (s := s) (a := (k : Int)) (by omega)
  have hwol := wo_len (s := s) (a := (k : Int))
  have h65 := c65_ok (E := E) (s := sb) (t := wo s (k : Int)) (by omega) (by omega)
  have hqz : ((s.length : Int) == 0) = false := beq_eq_false_iff_ne.2 (by omega)
  have hl8 := (count_bound hc).1
  obtain ⟨hall, hget⟩ := allL_all hc
  have h80 := c80_ok (E := E) hc
  have h53 := c53_ok (s := s) (t := t) (s' := s) (ks := alos m n (rotV w false m) (q * m * n)) (l := l) (ch := ch) hch (by omega) (by omega) (by rw [alos_len]; omega)
  simp only [plX, runes, ints] at h53
  simp only [ints, rows] at h80
  rw [decide_eq_true hse] at h65
  have hrk : ((sb.length : Int) != ((wo s (k : Int)).length : Int)) = false := by rw [← hse]; simp
  have hwo := wo_at hks
  clear hse
  generalize hre : wo s (k : Int) = rest at *
  simp only [plX, runes, ints, rowI] at h103 h28 h104 h65
  simp only [c43, plX, runes, ints, go_sem, fillAll, fillIn, shiftR, shiftV, List.take_succ_cons, List.take_zero, List.drop_succ_cons, List.drop_zero, List.append_nil, Nat.zero_add, subP4]
  refine goO h103 rfl rfl ?_
  simp only [go_sem, fillAll, fillIn, shiftR, shiftV, List.take_succ_cons, List.take_zero, List.drop_succ_cons, List.drop_zero, List.append_nil, Nat.zero_add, subP4, subP4a, hqz]
  refine goP h28 ?_
  simp only [go_sem, fillAll, fillIn, shiftR, shiftV, List.take_succ_cons, List.take_zero, List.drop_succ_cons, List.drop_zero, List.append_nil, Nat.zero_add, subP4, subP4a]
  refine goP h104 ?_
  have hloop : Mach (Go.V.Call tab E) (Go.V.Fin i43 [] (.tup [.agg (plX s ch (picksT ch t (alos m n (rotV w false m) (q * m * n))) (picksN ch l (alos m n (rotV w false m) (q * m * n)))), .int .i64 0]) []) [.code (.loop [4, 6, 8, 10, 12, 13, 14, 15, 16] (some (8, [])) b43_0), .endb 0, .code k43_0] .nrm ⟨[(4, .loc 1 0 0), (6, .loc 5 0 0), (8, .arr 6 0), (10, .int .i64 k), (12, .sl rest.length 1 (nums .i64 rest)), (13, .bool false), (14, .sl (allL s).length 1 ((allL s).map ints)), (15, .arr 7 0), (16, .int .i64 0)], [⟨true, 26, 4, 0, 1, [.sl sb.length 1 (nums .i64 sb), .bool cb, .sl tb.length 1 (nums .i32 tb), .sl (Lb.map toNm).length 3 (nmsC (Lb.map toNm))], false⟩, ⟨true, 26, 4, 0, 1, [.sl s.length 1 (nums .i64 s), .bool ch, .sl t.length 1 (nums .i32 t), .sl l.length 3 (nmsC l)], false⟩, ⟨false, 3, 1, 0, 0, [], false⟩, ⟨false, 21, 1, 0, 0, [], false⟩, ⟨false, 72, 3, 0, 0, [], false⟩, ⟨true, 26, 4, 0, 1, [.arr 2 0, .bool false, .arr 3 0, .arr 4 0], false⟩, ⟨false, 3, 1, 0, w.length, nums .i64 w, false⟩, ⟨false, 3, 1, 0, 0, [], false⟩]⟩ := by
    refine mLoop (fun N st => ∃ i : Nat, i ≤ q * m * n ∧ N = q * m * n - i ∧ st = ⟨[(4, .loc 1 0 0), (6, .loc 5 0 0), (8, .arr 6 0), (10, .int .i64 k), (12, .sl rest.length 1 (nums .i64 rest)), (13, .bool false), (14, .sl (allL s).length 1 ((allL s).map ints)), (15, .arr 7 i), (16, .int .i64 i)], [⟨true, 26, 4, 0, 1, [.sl sb.length 1 (nums .i64 sb), .bool cb, .sl tb.length 1 (nums .i32 tb), .sl (Lb.map toNm).length 3 (nmsC (Lb.map toNm))], false⟩, ⟨true, 26, 4, 0, 1, [.sl s.length 1 (nums .i64 s), .bool ch, .sl t.length 1 (nums .i32 t), .sl l.length 3 (nmsC l)], false⟩, ⟨false, 3, 1, 0, 0, [], false⟩, ⟨false, 21, 1, 0, 0, [], false⟩, ⟨false, 72, 3, 0, 0, [], false⟩, ⟨true, 26, 4, 0, 1, [.arr 2 0, .bool false, .arr 3 0, .arr 4 0], false⟩, ⟨false, 3, 1, 0, w.length, nums .i64 w, false⟩, ⟨false, 3, 1, i, i, nums .i64 (alos m n (rotV w false m) i), false⟩]⟩) (q * m * n)
      ⟨_, rfl, 0, by omega, by omega, by simp [getE, alos, nums]⟩ ?_
    rintro N s0 ⟨i, hi, rfl, rfl⟩
    by_cases hlt : i < q * m * n
    · have hlt' : (i : Int) < ((allL s).length : Int) := by rw [hall]; omega
      have hi0 : (0 : Int) ≤ (i : Int) := by omega
      have hi1 : IntKind.i64.wrap ((i : Int) + 1) = ((i + 1 : Nat) : Int) := by rw [wrap_i64 (by omega) (by omega)]; omega
      have hsub := sub_rows (L := allL s) (j := i) (by omega)
      rw [hget i hlt] at hsub
      have hN : ((q * m * n : Nat) : Int) ≠ 0 := by omega
      have hpos := count_pos hc hN
      have hnp : 0 < n := by rcases Nat.eq_zero_or_pos n with h | h; subst h; simp at hlt; exact h
      have hmp : 0 < m := by rcases Nat.eq_zero_or_pos m with h | h; subst h; simp at hlt; exact h
      have him : i / n % m < m := Nat.mod_lt _ hmp
      obtain ⟨hrv, hrx⟩ := rotV_lt (w := w) (one := false) (m := m) (a := (i / n / m) * n + i % n) (i := i / n % m) hmp
      obtain ⟨g1, g2, g3⟩ := pl_axis (s := s) (c := i) (x := ((rotV w false m ((i / n / m) * n + i % n) (i / n % m) : Nat) : Int)) hks hpos hq hm hn hlt ⟨by omega, by omega⟩
      have hix := ix_len (s := s) (a := (i : Int))
      have hsn : alos m n (rotV w false m) (i + 1) = alos m n (rotV w false m) i ++ [alo m n (rotV w false m) i] := by rw [alos, List.range_succ, List.map_append]; rfl
      have halo : alo m n (rotV w false m) i = (((i / n / m : Nat) : Int) * m + ((rotV w false m ((i / n / m) * n + i % n) (i / n % m) : Nat) : Int)) * n + ((i % n : Nat) : Int) := by
        rw [alo]; push_cast; rfl
      rw [← halo] at g2
      obtain ⟨p, h99, hp⟩ := c99_ok (E := E) (s := s) (idx := (ix s i).1.take k ++ ((rotV w false m ((i / n / m) * n + i % n) (i / n % m) : Nat) : Int) :: (ix s i).1.drop (k + 1)) (by omega) (by rw [set_length (by omega), hix]; omega)
      have hpv : p = alo m n (rotV w false m) i := by
        rcases hp (by rw [hc]; simp) with ⟨h1, _⟩ | ⟨_, h1⟩
        · rw [g2] at h1; cases h1
        · rw [g2] at h1; exact (Option.some.inj h1).symm
      subst hpv
      have hrow : ((i / n / m) * n + i % n) < w.length := by
        have hcl : (i / n / m) * n + i % n < q * n := by
          have c1 : i / n / m < q := by
            rw [Nat.div_div_eq_div_mul]
            exact (Nat.div_lt_iff_lt_mul (Nat.mul_pos hnp hmp)).2 (by rw [Nat.mul_comm n m, ← Nat.mul_assoc]; exact hlt)
          have c2 := mul_step (m := n) c1
          have c3 := Nat.mod_lt i hnp
          omega
        omega
      have hd64 := hw64 (w.getD ((i / n / m) * n + i % n) 0) (by simp [List.getD, hrow])
      have hwr := sub_nums (k := .i64) (l := w) (i := ((i / n / m) * n + i % n)) hrow
      have hxr : ((rotV w false m ((i / n / m) * n + i % n) (i / n % m) : Nat) : Int) = (((i / n % m : Nat) : Int) + Int.tmod (w.getD ((i / n / m) * n + i % n) 0) m) % m := by rw [hrx, rot_doc]; rfl
      obtain ⟨_, b1, b2⟩ := tm_cases (x := w.getD ((i / n / m) * n + i % n) 0) (show (0 : Int) < m by omega)
      have hidk := sub_nums (k := .i64) (l := (ix s i).1) (i := k) (by omega)
      have hsk := sub_nums (k := .i64) (l := s) (i := k) (by omega)
      rw [g1] at hidk
      rw [hm] at hsk
      have h105 := c105_ok (x := ((i / n % m : Nat) : Int) + Int.tmod (w.getD ((i / n / m) * n + i % n) 0) m) (m := m) ⟨by omega, by omega⟩ hmp hm4
      rw [← hxr] at h105
      have hmt : nums .i64 (alos m n (rotV w false m) (i + 1)) = nums .i64 (alos m n (rotV w false m) i) ++ [.int .i64 (alo m n (rotV w false m) i)] := by rw [hsn, nums_app]; rfl
      have h104i := c104_ok (E := E) (s := (ix s i).1) (a := (k : Int)) (by omega)
      rw [wo_at (by omega)] at h104i
      obtain ⟨p2, h99b, hp2⟩ := c99_ok (E := E) (s := rest) (idx := (ix s i).1.take k ++ (ix s i).1.drop (k + 1)) (by omega) (by simp; omega)
      have hpv2 : p2 = (((i / n / m) * n + i % n : Nat) : Int) := by
        have hne2 : count rest ≠ none := by rw [hwo]; exact count_wo hc hks
        rw [← hwo] at g3
        rcases hp2 hne2 with ⟨h1, _⟩ | ⟨_, h1⟩
        · rw [g3] at h1; cases h1
        · rw [g3] at h1; rw [← Option.some.inj h1]; push_cast; rfl
      subst hpv2
      have k0 : (0 : Int) ≤ (k : Int) := by omega
      have k1 : (k : Int) < (s.length : Int) := by omega
      have r0 : (0 : Int) ≤ ((((i / n / m) * n + i % n) : Nat) : Int) := by omega
      have r1 : ((((i / n / m) * n + i % n) : Nat) : Int) < (w.length : Int) := by omega
      have hne : ¬ (m : Int) = 0 := by omega
      have e1 : (i + 1) * 8 ≤ 140737488355328 := by omega
      have e2 : i + 1 ≤ 140737488355328 := by omega
      have e3 : s.length * 8 ≤ 140737488355328 := by omega
      have e4 : s.length ≤ 140737488355328 := by omega
      have hst : k * 1 + 1 ≤ (ix s (i : Int)).1.length := by rw [hix]; omega
      generalize ((rotV w false m ((i / n / m) * n + i % n) (i / n % m) : Nat) : Int) = x at *
      generalize hye : ((i / n % m : Nat) : Int) = y at *
      generalize alo m n (rotV w false m) i = z at *
      generalize (ix s (i : Int)).1 = idx at *
      generalize ((i / n / m) * n + i % n) = rw0 at *
      generalize w.getD rw0 0 = u at *
      generalize hue : Int.tmod u m = u1 at *
      have w1 : IntKind.i64.wrap u1 = u1 := wrap_i64 (by omega) (by omega)
      have w2 : IntKind.i64.wrap (y + u1) = y + u1 := wrap_i64 (by omega) (by omega)
      have hcv : List.take (k * 1) (nums .i64 idx) ++ [.int .i64 x] ++ List.drop (k * 1 + 1) (nums .i64 idx) = nums .i64 (idx.take k ++ x :: idx.drop (k + 1)) := by simp [nums, List.map_take, List.map_drop]
      rw [ints, hix] at hsub
      simp only [ints, hix, List.length_append] at h104i h99b
      simp only [ints] at h99
      rw [set_length (by omega), hix] at h99
      simp only [b43_0, go_sem, fillAll, fillIn, shiftR, shiftV, List.take_succ_cons, List.take_zero, List.drop_succ_cons, List.drop_zero, List.append_nil, Nat.zero_add, subP4, subP4a, hlt', hi0, Int.toNat_natCast, hsub, e3, e4, k0, k1, hidk, hsk, hne, hue, w1, w2, hwr, r0, r1, hst, Nat.zero_add, List.flatten_cons, List.flatten_nil, Option.getD_some]
      refine goP h104i ?_
      simp only [go_sem, fillAll, fillIn, shiftR, shiftV, List.take_succ_cons, List.take_zero, List.drop_succ_cons, List.drop_zero, List.append_nil, Nat.zero_add, subP4, subP4a, hlt', hi0, Int.toNat_natCast, hsub, e3, e4, k0, k1, hidk, hsk, hne, hue, w1, w2, hwr, r0, r1, hst, Nat.zero_add, List.flatten_cons, List.flatten_nil, Option.getD_some]
      refine goP h99b ?_
      simp only [go_sem, fillAll, fillIn, shiftR, shiftV, List.take_succ_cons, List.take_zero, List.drop_succ_cons, List.drop_zero, List.append_nil, Nat.zero_add, subP4, subP4a, hlt', hi0, Int.toNat_natCast, hsub, e3, e4, k0, k1, hidk, hsk, hne, hue, w1, w2, hwr, r0, r1, hst, Nat.zero_add, List.flatten_cons, List.flatten_nil, Option.getD_some]
      refine goP h105 ?_
      simp only [go_sem, fillAll, fillIn, shiftR, shiftV, List.take_succ_cons, List.take_zero, List.drop_succ_cons, List.drop_zero, List.append_nil, Nat.zero_add, subP4, subP4a, hlt', hi0, Int.toNat_natCast, hsub, e3, e4, k0, k1, hidk, hsk, hne, hue, w1, w2, hwr, r0, r1, hst, Nat.zero_add, List.flatten_cons, List.flatten_nil, Option.getD_some]
      rw [hcv]
      refine goR h99 rfl ?_
      simp only [go_sem, fillAll, fillIn, shiftR, shiftV, List.take_succ_cons, List.take_zero, List.drop_succ_cons, List.drop_zero, List.append_nil, Nat.zero_add, hi1, e1, e2, List.flatten_cons, List.flatten_nil, Option.getD_some]
      refine loopQ_go rfl (q * m * n - (i + 1)) (by omega) ⟨i + 1, by omega, rfl, ?_⟩
      rw [hmt]
      rfl
    · have hlt' : ¬ (i : Int) < ((allL s).length : Int) := by rw [hall]; omega
      obtain rfl : i = q * m * n := by omega
      rw [alos_len] at h53
      simp only [b43_0, k43_0, go_sem, fillAll, fillIn, shiftR, shiftV, List.take_succ_cons, List.take_zero, List.drop_succ_cons, List.drop_zero, List.append_nil, Nat.zero_add, subP4, subP4a, hlt']
      refine goF h53 ?_
      simp only [go_sem, fillAll, fillIn, shiftR, shiftV, List.take_succ_cons, List.take_zero, List.drop_succ_cons, List.drop_zero, List.append_nil, Nat.zero_add, subP4]
      simp only [i43, Out, resAll, geto, ints, List.getElem?_cons_zero, List.getElem?_cons_succ, resOf, outOf, snap, snapL, ev, getE, List.mapM_cons, List.mapM_nil, Option.bind_some, Option.pure_def, Option.bind_eq_bind, Option.map_some, reduceIte, Nat.reduceEqDiff, true_and, and_true, subP4]
      rfl
  have ho := hone
  rw [oneD, Bool.or_eq_false_iff, Bool.and_eq_false_iff, decide_eq_false_iff_not, decide_eq_false_iff_not, decide_eq_false_iff_not] at ho
  obtain ⟨h0, h1⟩ := ho
  have hq0 : ((sb.length : Int) == 0) = false := beq_eq_false_iff_ne.2 (by omega)
  by_cases hl1 : sb.length = 1
  · have hq1 : ((sb.length : Int) == 1) = true := by rw [hl1]; rfl
    have hv : (sb.getD 0 0 == 1) = false := beq_eq_false_iff_ne.2 (by omega)
    have hsub : sub false 1 (nums .i64 sb) 0 = some (.int .i64 (sb.getD 0 0)) := sub_nums (k := .i64) (l := sb) (i := 0) (by omega)
    have hlt0 : (0 : Int) < (sb.length : Int) := by omega
    simp only [go_sem, fillAll, fillIn, shiftR, shiftV, List.take_succ_cons, List.take_zero, List.drop_succ_cons, List.drop_zero, List.append_nil, Nat.zero_add, subP4, subP4a, hq0, hq1, hv, hsub, hlt0, Int.le_refl, Int.toNat_zero, Nat.zero_mul, hrk]
    refine goP h65 ?_
    simp only [go_sem, fillAll, fillIn, shiftR, shiftV, List.take_succ_cons, List.take_zero, List.drop_succ_cons, List.drop_zero, List.append_nil, Nat.zero_add, subP4, subP4a]
    refine goP h80 ?_
    simp only [go_sem, fillAll, fillIn, shiftR, shiftV, List.take_succ_cons, List.take_zero, List.drop_succ_cons, List.drop_zero, List.append_nil, Nat.zero_add, subP4, subP4a]
    exact hloop
  · have hq1 : ((sb.length : Int) == 1) = false := beq_eq_false_iff_ne.2 (by omega)
    simp only [go_sem, fillAll, fillIn, shiftR, shiftV, List.take_succ_cons, List.take_zero, List.drop_succ_cons, List.drop_zero, List.append_nil, Nat.zero_add, subP4, subP4a, hq0, hq1, hrk]
    refine goP h65 ?_
    simp only [go_sem, fillAll, fillIn, shiftR, shiftV, List.take_succ_cons, List.take_zero, List.drop_succ_cons, List.drop_zero, List.append_nil, Nat.zero_add, subP4, subP4a]
    refine goP h80 ?_
    simp only [go_sem, fillAll, fillIn, shiftR, shiftV, List.take_succ_cons, List.take_zero, List.drop_succ_cons, List.drop_zero, List.append_nil, Nat.zero_add, subP4, subP4a]
    exact hloop
end
end Go.Proofs.YtlejgleocnemoaaGreat.I

namespace Go.Proofs.YtlejgleocnemoaaGreat.I
open Go Go.V
attribute [local go_sem] mNil nat0 beq_self_eq_true mSkip mRet mExit mReg mSeq mCond mTrue mFalse mBlock mLv mCodeE mCodeR mEndN mEndR mEndE mOps mSome mGuard mGtt mGff mGtf mGft mGu mCallP mCallR mCallF mCallO mCallZ mCallG mCallM mCallV loopQ_exit loopQ_ret mO_mov mO_newnil mO_pick mO_alloc mO_box mO_build mO_bsl mO_bslF mO_ldf mO_ld mO_st mO_sta mO_nilchk mO_bin mO_binb mO_binp mO_bins mO_neg mO_com mO_not mO_conv mO_mk mO_mk0 mO_s2b mO_b2s mO_cpy mO_cut mO_faddr mO_fld mO_iaddr mO_iaddrf mO_sidx mO_len mO_lenf mO_slen mO_scut mO_app mO_ext mO_mx mO_mn mO_mkfn evalOp cutOp argsE ev getE putE cellsOf adopt rowOf binV boolV nilV ar_add ar_sub ar_mul ar_quo ar_rem ar_eq ar_ne ar_lt ar_le ar_gt ar_ge ar_and ar_or ar_xor geto bound finRet finNrm ints List.length_cons List.length_nil List.length_append List.getElem?_cons_zero List.getElem?_cons_succ List.nil_append List.cons_append List.map_cons List.map_nil List.mapM_cons List.mapM_nil Option.map_some Option.map_none Option.bind_some Option.pure_def Option.bind_eq_bind List.drop_zero or_self or_false false_or or_true true_or true_and and_true and_self decide_true decide_false Bool.false_eq_true Bool.true_eq_false Bool.not_true Bool.not_false Nat.le_refl eq_self gt_iff_lt ge_iff_le ne_eq not_true_eq_false not_false_eq_true storeOp apartOf freeze_nil refsL refs List.flatMap_cons List.flatMap_nil List.append_nil List.contains_nil List.set_cons_zero List.set_cons_succ snap snapL fill_nums flat_nums nums_length Go.V.freeze List.mapIdx_cons List.mapIdx_nil List.contains_cons Bool.or_false Bool.false_or Bool.or_true Bool.true_or
def Both (e : Int) (A P : List AV) : Prop := (e = 0 ∧ ∃ (s t : List Int) (ch : Bool) (L : List Rt) (l : List Nm), A = arrX s ch t L ∧ P = plX s ch t l ∧ Go.V.Call tab E 35 [.agg (arrX s ch t L), .int .i64 0, .agg (plX s ch t l), .int .i64 0] [] (.bool true) []) ∨ (e ≠ 0 ∧ A = noA ∧ P = noP)
theorem Both.err {e : Int} (h : e ≠ 0) : Both e noA noP := .inr ⟨h, rfl, rfl⟩
theorem Both.same {s t : List Int} {ch : Bool} {l : List Nm} (hs : (s.length : Int) ≤ 1000000000) (ht : (t.length : Int) ≤ 1000000000) (hl : (l.length : Int) ≤ 1000000000) (hR : ∀ x ∈ l, RightN x.1 x.2.1 x.2.2) : Both 0 (arrX s ch t (l.map toRt)) (plX s ch t l) := by
  refine .inl ⟨rfl, s, t, ch, l.map toRt, l, rfl, rfl, ?_⟩
  have h := c35_yes (s := s) (t := t) (ch := ch) (L := l.map toRt) hs ht (by simp; omega) fun z hz => by
    obtain ⟨x, hx, rfl⟩ := List.mem_map.1 hz
    exact right_ok (hR x hx)
  rwa [back_nms hR] at h
theorem Both.picks {s t ks : List Int} {ch : Bool} {l : List Nm} (hs : (s.length : Int) ≤ 1000000000) (hk : (ks.length : Int) ≤ 1000000000) (hR : ∀ x ∈ l, RightN x.1 x.2.1 x.2.2) : Both 0 (arrX s ch (picksT ch t ks) (picksR ch (l.map toRt) ks)) (plX s ch (picksT ch t ks) (picksN ch l ks)) := by
  refine .inl ⟨rfl, s, _, ch, _, _, rfl, rfl, ?_⟩
  have h := shows_out (e := 0) (s' := s) (ks := ks) (t := t) (ch := ch) hR fun _ => ⟨hs, hk⟩
  simp only [outA, outP, if_true] at h
  exact h
theorem len_right {s t : List Int} {ch : Bool} {l : List Nm} (h : RightP s ch t l) : count s = some ((t.length + (l.map toRt).length : Nat) : Int) := by
  have h1 := h.1
  unfold Shapes at h1
  rw [List.length_map]
  cases ch with
  | true => simp only [if_true] at h1; rw [h1.1, h1.2, Nat.add_zero]
  | false => simp only [Bool.false_eq_true, if_false] at h1; rw [h1.1, h1.2]; simp
theorem Right_chm {s t : List Int} {ch : Bool} {l : List Nm} (h : RightP s ch t l) : (ch = true → l = []) ∧ (ch = false → t = []) := by
  have h1 := h.1
  unfold Shapes at h1
  refine ⟨fun h => ?_, fun h => ?_⟩
  · subst h; exact List.length_eq_zero_iff.1 h1.2
  · subst h; exact h1.2
theorem axis_nat {s : List Int} {a : Int} (h : axB s a = true) : ∃ k : Nat, axA s a = (k : Int) ∧ k < s.length := by
  rw [axB, Bool.and_eq_true, decide_eq_true_eq, decide_eq_true_eq] at h
  exact ⟨(axA s a).toNat, by omega, by omega⟩
theorem rev_both {s t : List Int} {ch : Bool} {l : List Nm} {a : Int} (hs : ∀ d ∈ s, In64 d) (hsl : (s.length : Int) ≤ 1000000000) (ht : (t.length : Int) ≤ 1000000000) (hl : (l.length : Int) ≤ 1000000000) (hR : RightP s ch t l) :
    ∃ e A P, Both e A P ∧ Go.V.Call tab E 40 [.agg (arrX s ch t (l.map toRt)), .int .i64 a] [] (.tup [.agg A, .int .i64 e]) [] ∧ Go.V.Call tab E 41 [.agg (plX s ch t l), .int .i64 a] [] (.tup [.agg P, .int .i64 e]) [] := by
  by_cases h0 : s.length = 0 ∧ a < 0
  · exact ⟨0, _, _, Both.same hsl ht hl hR.2, c40_same hsl h0, c41_same h0⟩
  · cases hb : axB s a with
    | false => exact ⟨23, _, _, Both.err (by omega), c40_err h0 hsl hb, c41_err h0 hsl hb⟩
    | true =>
      obtain ⟨k, hk, hks⟩ := axis_nat hb
      have hc := len_right hR
      obtain ⟨q, m, n, hq, hm, hn, he, h4, hq4, hm4, hn4⟩ := cut_shape hc hks
      have hc' := hc
      rw [he] at hc'
      have h97 := c97_ok (s := s) (t := t) (ch := ch) (L := l.map toRt) (f := 98) (caps := []) (v := revV m) hs he ht (by simp; omega) hc' hks hq hm hn h4 hq4 hm4 hn4 (fun _ => rfl) rfl (fun a i _ hi => by rw [revV]; omega) (fun a i _ hi => c98_ok hi hm4)
      exact ⟨0, _, _, Both.picks hsl (by rw [alos_len]; omega) hR.2, c40_alo (q := q) (m := m) (n := n) h0 hsl hb hk h97, c41_alo hsl hb hk hks (Right_chm hR) ht hl hc' hq hm hn h4 hm4⟩
end Go.Proofs.YtlejgleocnemoaaGreat.I

namespace Go.Proofs.YtlejgleocnemoaaGreat.I
open Go Go.V
attribute [local go_sem_proc ↓] reduceIte
attribute [local go_sem_proc] Nat.reduceEqDiff Nat.reduceAdd Nat.reduceMul Nat.reduceLeDiff Nat.reduceLT Int.reduceToNat Int.reduceLT Int.reduceLE reduceCtorEq Nat.reduceBEq
attribute [local go_sem] mNil nat0 beq_self_eq_true mSkip mRet mExit mReg mSeq mCond mTrue mFalse mBlock mLv mCodeE mCodeR mEndN mEndR mEndE mOps mSome mGuard mGtt mGff mGtf mGft mGu mCallP mCallR mCallF mCallO mCallZ mCallG mCallM mCallV loopQ_exit loopQ_ret mO_mov mO_newnil mO_pick mO_alloc mO_box mO_build mO_bsl mO_bslF mO_ldf mO_ld mO_st mO_sta mO_nilchk mO_bin mO_binb mO_binp mO_bins mO_neg mO_com mO_not mO_conv mO_mk mO_mk0 mO_s2b mO_b2s mO_cpy mO_cut mO_faddr mO_fld mO_iaddr mO_iaddrf mO_sidx mO_len mO_lenf mO_slen mO_scut mO_app mO_ext mO_mx mO_mn mO_mkfn evalOp cutOp argsE ev getE putE cellsOf adopt rowOf binV boolV nilV ar_add ar_sub ar_mul ar_quo ar_rem ar_eq ar_ne ar_lt ar_le ar_gt ar_ge ar_and ar_or ar_xor geto bound finRet finNrm ints List.length_cons List.length_nil List.length_append List.getElem?_cons_zero List.getElem?_cons_succ List.nil_append List.cons_append List.map_cons List.map_nil List.mapM_cons List.mapM_nil Option.map_some Option.map_none Option.bind_some Option.pure_def Option.bind_eq_bind List.drop_zero or_self or_false false_or or_true true_or true_and and_true and_self decide_true decide_false Bool.false_eq_true Bool.true_eq_false Bool.not_true Bool.not_false Nat.le_refl eq_self gt_iff_lt ge_iff_le ne_eq not_true_eq_false not_false_eq_true storeOp apartOf freeze_nil refsL refs List.flatMap_cons List.flatMap_nil List.append_nil List.contains_nil List.set_cons_zero List.set_cons_succ snap snapL fill_nums flat_nums nums_length Go.V.freeze List.mapIdx_cons List.mapIdx_nil List.contains_cons Bool.or_false Bool.false_or Bool.or_true Bool.true_or
theorem prd_two : ∀ {s t : List Int}, prd (s ++ t) = prd s * prd t
  | [], t => by rw [List.nil_append, prd, Int.one_mul]
  | d :: ds, t => by rw [List.cons_append, prd, prd, prd_two, Int.mul_assoc]
theorem one_same {sb : List Int} {n : Nat} (hc : count sb = some (n : Int)) : oneB sb n = oneD sb := by
  have hp := count_prd hc
  rw [oneB, oneD]
  congr 1
  by_cases h1 : sb.length = 1
  · obtain ⟨d, rfl⟩ := List.length_eq_one_iff.1 h1
    simp only [prd, Int.mul_one] at hp
    subst hp
    simp
    by_cases h : n = 1
    · subst h; simp
    · simp [h]; omega
  · simp [h1]
theorem rv_in {x : Rt} : In64 (rv x) := rv_64
theorem rot_both {sb tb s t : List Int} {cb ch : Bool} {lb l : List Nm} {a : Int} (hsb : (sb.length : Int) ≤ 1000000000) (htb : (tb.length : Int) ≤ 1000000000) (hlb : (lb.length : Int) ≤ 1000000000) (hRb : RightP sb cb tb lb)
    (hs : ∀ d ∈ s, In64 d) (hsl : (s.length : Int) ≤ 1000000000) (ht : (t.length : Int) ≤ 1000000000) (hl : (l.length : Int) ≤ 1000000000) (hR : RightP s ch t l) :
    ∃ e A P, Both e A P ∧ Go.V.Call tab E 42 [.agg (arrX sb cb tb (lb.map toRt)), .agg (arrX s ch t (l.map toRt)), .int .i64 a] [] (.tup [.agg A, .int .i64 e]) [] ∧ Go.V.Call tab E 43 [.agg (plX sb cb tb lb), .agg (plX s ch t l), .int .i64 a] [] (.tup [.agg P, .int .i64 e]) [] := by
  have hLb : ((lb.map toRt).length : Int) ≤ 1000000000 := by simp; omega
  have hlk : ∀ x ∈ lb.map toRt, RtOk x := fun z hz => by
    obtain ⟨x, hx, rfl⟩ := List.mem_map.1 hz
    exact right_ok (hRb.2 x hx)
  have hbk := back_nms hRb.2
  have hcb := len_right hRb
  have hwh : (¬ (cb = true ∧ 0 < tb.length + (lb.map toRt).length) ∧ WhO (lb.map toRt)) ↔ (tb.length = 0 ∧ WhO (lb.map toRt)) := by
    refine and_congr_left' ?_
    have hx := Right_chm hRb
    cases cb with
    | true => rw [hx.1 rfl]; simp
    | false => rw [hx.2 rfl]; simp
  have h1s := one_same hcb
  have hw64 : ∀ d ∈ (lb.map toRt).map rv, In64 d := fun d hd => by
    obtain ⟨x, _, rfl⟩ := List.mem_map.1 hd; exact rv_in
  have hwlen : ((lb.map toRt).map rv).length = (lb.map toRt).length := by rw [List.length_map]
  rw [show plX sb cb tb lb = plX sb cb tb ((lb.map toRt).map toNm) by rw [hbk]]
  clear hbk
  generalize lb.map toRt = Lb at *
  generalize hwe : Lb.map rv = w at *
  by_cases hok : tb.length = 0 ∧ WhO Lb
  · have hok' := hwh.2 hok
    by_cases h0 : s.length = 0 ∧ a < 0
    · have p1 := c42_none (sb := sb) (tb := tb) (cb := cb) (Lb := Lb) (s := s) (t := t) (ch := ch) (L := l.map toRt) (a := a) htb hLb hok' hwe hsl h0
      have p2 := c43_none (sb := sb) (tb := tb) (cb := cb) (Lb := Lb) (s := s) (t := t) (ch := ch) (l := l) (a := a) htb hLb hlk hok hwe h0
      by_cases h1 : tb.length + Lb.length = 1
      · rw [if_pos h1] at p1 p2
        exact ⟨0, _, _, Both.same hsl ht hl hR.2, p1, p2⟩
      · rw [if_neg h1] at p1 p2
        exact ⟨23, _, _, Both.err (by omega), p1, p2⟩
    · cases hb : axB s a with
      | false => exact ⟨23, _, _, Both.err (by omega), c42_axis htb hLb hok' hwe hsl h0 hb, c43_axis htb hLb hlk hok hwe hsl h0 hb⟩
      | true =>
        obtain ⟨k, hk, hks⟩ := axis_nat hb
        have hc := len_right hR
        obtain ⟨q, m, n, hq, hm, hn, he, h4, hq4, hm4, hn4⟩ := cut_shape hc hks
        have hc' := hc
        rw [he] at hc'
        cases hone : oneD sb with
        | true =>
          have hone' : oneB sb (tb.length + Lb.length) = true := h1s.trans hone
          have hwl : 0 < w.length := by
            rw [hwlen]
            rw [oneB, Bool.or_eq_true, Bool.and_eq_true, decide_eq_true_eq, decide_eq_true_eq] at hone'
            rcases hone' with h | h
            · have hp := count_prd hcb
              rw [List.length_eq_zero_iff.1 h, prd] at hp
              omega
            · omega
          have h97 := c97_ok (s := s) (t := t) (ch := ch) (L := l.map toRt) (f := 102) (caps := [.ptr [.bool true] 0, .ptr [ints w] 0]) (v := rotV w true m) hs he ht (by simp; omega) hc' hks hq hm hn h4 hq4 hm4 hn4 (fun _ => rfl) rfl (fun a i _ hi => (rotV_lt (by omega)).1) (fun a i _ hi => c102_ok hw64 hwl hi hm4)
          exact ⟨0, _, _, Both.picks hsl (by rw [alos_len]; omega) hR.2, c42_one hsb htb hLb hok' hwe hsl hks hb hk hone' h97, c43_one hsb htb hLb hlk hok hwe hsl hks hb hk hone hwl hw64 (Right_chm hR) ht hl hc' hq hm hn h4 hm4⟩
        | false =>
          have hone' : oneB sb (tb.length + Lb.length) = false := h1s.trans hone
          by_cases hse : sb = wo s (k : Int)
          · have hwl : q * n ≤ w.length := by
              have hp := count_prd hcb
              rw [hse, wo_at hks, prd_two, hq, hn, hok.1, Nat.zero_add, ← hwlen] at hp
              rw [← Int.natCast_mul] at hp
              omega
            have h97 := c97_ok (s := s) (t := t) (ch := ch) (L := l.map toRt) (f := 102) (caps := [.ptr [.bool false] 0, .ptr [ints w] 0]) (v := rotV w false m) hs he ht (by simp; omega) hc' hks hq hm hn h4 hq4 hm4 hn4 (fun _ => rfl) rfl (fun a i _ hi => (rotV_lt (by omega)).1) (fun a i ha hi => c102_ok hw64 (by simp; omega) hi hm4)
            exact ⟨0, _, _, Both.picks hsl (by rw [alos_len]; omega) hR.2, c42_rows hsb htb hLb hok' hwe hsl hks hb hk hone' hse h97, c43_rows hsb htb hLb hlk hok hwe hsl hks hb hk hone hse hwl hw64 (Right_chm hR) ht hl hc' hq hm hn h4 hm4⟩
          · exact ⟨_, _, _, Both.err (by split <;> omega), c42_bad hsb htb hLb hok' hwe hsl hks hb hk hone' hse, c43_bad hsb htb hLb hlk hok hwe hsl hks hb hk hone hse⟩
  · exact ⟨22, _, _, Both.err (by omega), c42_dom htb hLb (fun h => hok (hwh.1 h)), c43_dom htb hLb hlk hok⟩
set_option maxHeartbeats 2000000 in
theorem c8_turns {sb tb s t : List Int} {lb l : List Nm} {cb ch : Bool} {a : Int} (hsb : ∀ d ∈ sb, In64 d) (hub : ∀ x ∈ lb, U8 x.2.1 ∧ U8 x.2.2) (hs : ∀ d ∈ s, In64 d) (hu : ∀ x ∈ l, U8 x.2.1 ∧ U8 x.2.2) :
    Go.V.Call tab E 8 [.agg (plX sb cb tb lb), .agg (plX s ch t l), .int .i64 a] [] (.bool true) [] := by
  refine Go.V.Call.mach i8 c8 rfl rfl rfl rfl ?_
  have h25b := fun ok h => c25_ok (s := sb) (t := tb) (l := lb) (ch := cb) (ok := ok) hsb hub h
  have h25 := fun ok h => c25_ok (s := s) (t := t) (l := l) (ch := ch) (ok := ok) hs hu h
  by_cases hLb : LightP sb cb tb lb 250
  · have h25bt := h25b true ⟨fun _ => hLb, fun _ => rfl⟩
    by_cases hL : LightP s ch t l 250
    · have h25t := h25 true ⟨fun _ => hL, fun _ => rfl⟩
      obtain ⟨m1, m2, m3, m4, hRb⟩ := hLb
      obtain ⟨l1, l2, l3, l4, hR⟩ := hL
      have hUb : ∀ x ∈ lb, NmU x := fun x hx => ⟨(hub x hx).1, (hub x hx).2, by have := (m4 x hx).1; omega, by have := (m4 x hx).2; omega⟩
      have hU : ∀ x ∈ l, NmU x := fun x hx => ⟨(hu x hx).1, (hu x hx).2, by have := (l4 x hx).1; omega, by have := (l4 x hx).2; omega⟩
      have h13b := c13_ok hsb (by omega) (by omega) (by omega) hUb hRb
      have h13 := c13_ok hs (by omega) (by omega) (by omega) hU hR
      obtain ⟨e, A, P, hB, h40, h41⟩ := rev_both (a := a) hs (by omega) (by omega) (by omega) hR
      obtain ⟨e2, A2, P2, hB2, h42, h43⟩ := rot_both (sb := sb) (tb := tb) (cb := cb) (lb := lb) (a := a) (by omega) (by omega) (by omega) hRb hs (by omega) (by omega) (by omega) hR
      generalize l.map toRt = L at *
      generalize lb.map toRt = Lb at *
      rcases hB with ⟨rfl, s1, t1, ch1, L1, p1, rfl, rfl, h35⟩ | ⟨he, rfl, rfl⟩
      · rcases hB2 with ⟨rfl, s2, t2, ch2, L2, p2, rfl, rfl, h35b⟩ | ⟨he2, rfl, rfl⟩
        · simp only [plX, arrX, noA, noP, runes, ints] at h25bt h25t h13b h13 h40 h41 h42 h43 h35 h35b
          simp only [c8, plX, runes, ints, go_sem, fillAll, fillIn, shiftR, shiftV, List.take_succ_cons, List.take_zero, List.drop_succ_cons, List.drop_zero, List.append_nil, Nat.zero_add, subP4]
          refine goP h25bt ?_
          simp only [go_sem, fillAll, fillIn, shiftR, shiftV, List.take_succ_cons, List.take_zero, List.drop_succ_cons, List.drop_zero, List.append_nil, Nat.zero_add, subP4, subA5]
          refine goP h25t ?_
          simp only [go_sem, fillAll, fillIn, shiftR, shiftV, List.take_succ_cons, List.take_zero, List.drop_succ_cons, List.drop_zero, List.append_nil, Nat.zero_add, subP4, subA5]
          refine goP h13 ?_
          simp only [go_sem, fillAll, fillIn, shiftR, shiftV, List.take_succ_cons, List.take_zero, List.drop_succ_cons, List.drop_zero, List.append_nil, Nat.zero_add, subP4, subA5]
          refine goP h40 ?_
          simp only [go_sem, fillAll, fillIn, shiftR, shiftV, List.take_succ_cons, List.take_zero, List.drop_succ_cons, List.drop_zero, List.append_nil, Nat.zero_add, subP4, subA5]
          refine goP h41 ?_
          simp only [go_sem, fillAll, fillIn, shiftR, shiftV, List.take_succ_cons, List.take_zero, List.drop_succ_cons, List.drop_zero, List.append_nil, Nat.zero_add, subP4, subA5]
          refine goP h13b ?_
          simp only [go_sem, fillAll, fillIn, shiftR, shiftV, List.take_succ_cons, List.take_zero, List.drop_succ_cons, List.drop_zero, List.append_nil, Nat.zero_add, subP4, subA5]
          refine goP h13 ?_
          simp only [go_sem, fillAll, fillIn, shiftR, shiftV, List.take_succ_cons, List.take_zero, List.drop_succ_cons, List.drop_zero, List.append_nil, Nat.zero_add, subP4, subA5]
          refine goP h42 ?_
          simp only [go_sem, fillAll, fillIn, shiftR, shiftV, List.take_succ_cons, List.take_zero, List.drop_succ_cons, List.drop_zero, List.append_nil, Nat.zero_add, subP4, subA5]
          refine goP h43 ?_
          simp only [go_sem, fillAll, fillIn, shiftR, shiftV, List.take_succ_cons, List.take_zero, List.drop_succ_cons, List.drop_zero, List.append_nil, Nat.zero_add, subP4, subA5]
          refine goR h35 rfl ?_
          simp only [go_sem, fillAll, fillIn, shiftR, shiftV, List.take_succ_cons, List.take_zero, List.drop_succ_cons, List.drop_zero, List.append_nil, Nat.zero_add, subP4, subA5]
          refine goR h35b rfl ?_
          simp only [go_sem, fillAll, fillIn, shiftR, shiftV, List.take_succ_cons, List.take_zero, List.drop_succ_cons, List.drop_zero, List.append_nil, Nat.zero_add, subP4, subA5]
          refine goP c26_ok ?_
          simp only [go_sem]
          simp only [i8, Out, resAll, geto, ints, List.getElem?_cons_zero, List.getElem?_cons_succ, resOf, outOf, snap, snapL, ev, getE, List.mapM_cons, List.mapM_nil, Option.bind_some, Option.pure_def, Option.bind_eq_bind, Option.map_some, reduceIte, Nat.reduceEqDiff, true_and, and_true]
        · have h35b := c35_err he2
          simp only [plX, arrX, noA, noP, runes, ints] at h25bt h25t h13b h13 h40 h41 h42 h43 h35 h35b
          simp only [c8, plX, runes, ints, go_sem, fillAll, fillIn, shiftR, shiftV, List.take_succ_cons, List.take_zero, List.drop_succ_cons, List.drop_zero, List.append_nil, Nat.zero_add, subP4]
          refine goP h25bt ?_
          simp only [go_sem, fillAll, fillIn, shiftR, shiftV, List.take_succ_cons, List.take_zero, List.drop_succ_cons, List.drop_zero, List.append_nil, Nat.zero_add, subP4, subA5]
          refine goP h25t ?_
          simp only [go_sem, fillAll, fillIn, shiftR, shiftV, List.take_succ_cons, List.take_zero, List.drop_succ_cons, List.drop_zero, List.append_nil, Nat.zero_add, subP4, subA5]
          refine goP h13 ?_
          simp only [go_sem, fillAll, fillIn, shiftR, shiftV, List.take_succ_cons, List.take_zero, List.drop_succ_cons, List.drop_zero, List.append_nil, Nat.zero_add, subP4, subA5]
          refine goP h40 ?_
          simp only [go_sem, fillAll, fillIn, shiftR, shiftV, List.take_succ_cons, List.take_zero, List.drop_succ_cons, List.drop_zero, List.append_nil, Nat.zero_add, subP4, subA5]
          refine goP h41 ?_
          simp only [go_sem, fillAll, fillIn, shiftR, shiftV, List.take_succ_cons, List.take_zero, List.drop_succ_cons, List.drop_zero, List.append_nil, Nat.zero_add, subP4, subA5]
          refine goP h13b ?_
          simp only [go_sem, fillAll, fillIn, shiftR, shiftV, List.take_succ_cons, List.take_zero, List.drop_succ_cons, List.drop_zero, List.append_nil, Nat.zero_add, subP4, subA5]
          refine goP h13 ?_
          simp only [go_sem, fillAll, fillIn, shiftR, shiftV, List.take_succ_cons, List.take_zero, List.drop_succ_cons, List.drop_zero, List.append_nil, Nat.zero_add, subP4, subA5]
          refine goP h42 ?_
          simp only [go_sem, fillAll, fillIn, shiftR, shiftV, List.take_succ_cons, List.take_zero, List.drop_succ_cons, List.drop_zero, List.append_nil, Nat.zero_add, subP4, subA5]
          refine goP h43 ?_
          simp only [go_sem, fillAll, fillIn, shiftR, shiftV, List.take_succ_cons, List.take_zero, List.drop_succ_cons, List.drop_zero, List.append_nil, Nat.zero_add, subP4, subA5]
          refine goR h35 rfl ?_
          simp only [go_sem, fillAll, fillIn, shiftR, shiftV, List.take_succ_cons, List.take_zero, List.drop_succ_cons, List.drop_zero, List.append_nil, Nat.zero_add, subP4, subA5]
          refine goR h35b rfl ?_
          simp only [go_sem, fillAll, fillIn, shiftR, shiftV, List.take_succ_cons, List.take_zero, List.drop_succ_cons, List.drop_zero, List.append_nil, Nat.zero_add, subP4, subA5]
          refine goP c26_ok ?_
          simp only [go_sem]
          simp only [i8, Out, resAll, geto, ints, List.getElem?_cons_zero, List.getElem?_cons_succ, resOf, outOf, snap, snapL, ev, getE, List.mapM_cons, List.mapM_nil, Option.bind_some, Option.pure_def, Option.bind_eq_bind, Option.map_some, reduceIte, Nat.reduceEqDiff, true_and, and_true]
      · have h35 := c35_err he
        rcases hB2 with ⟨rfl, s2, t2, ch2, L2, p2, rfl, rfl, h35b⟩ | ⟨he2, rfl, rfl⟩
        · simp only [plX, arrX, noA, noP, runes, ints] at h25bt h25t h13b h13 h40 h41 h42 h43 h35 h35b
          simp only [c8, plX, runes, ints, go_sem, fillAll, fillIn, shiftR, shiftV, List.take_succ_cons, List.take_zero, List.drop_succ_cons, List.drop_zero, List.append_nil, Nat.zero_add, subP4]
          refine goP h25bt ?_
          simp only [go_sem, fillAll, fillIn, shiftR, shiftV, List.take_succ_cons, List.take_zero, List.drop_succ_cons, List.drop_zero, List.append_nil, Nat.zero_add, subP4, subA5]
          refine goP h25t ?_
          simp only [go_sem, fillAll, fillIn, shiftR, shiftV, List.take_succ_cons, List.take_zero, List.drop_succ_cons, List.drop_zero, List.append_nil, Nat.zero_add, subP4, subA5]
          refine goP h13 ?_
          simp only [go_sem, fillAll, fillIn, shiftR, shiftV, List.take_succ_cons, List.take_zero, List.drop_succ_cons, List.drop_zero, List.append_nil, Nat.zero_add, subP4, subA5]
          refine goP h40 ?_
          simp only [go_sem, fillAll, fillIn, shiftR, shiftV, List.take_succ_cons, List.take_zero, List.drop_succ_cons, List.drop_zero, List.append_nil, Nat.zero_add, subP4, subA5]
          refine goP h41 ?_
          simp only [go_sem, fillAll, fillIn, shiftR, shiftV, List.take_succ_cons, List.take_zero, List.drop_succ_cons, List.drop_zero, List.append_nil, Nat.zero_add, subP4, subA5]
          refine goP h13b ?_
          simp only [go_sem, fillAll, fillIn, shiftR, shiftV, List.take_succ_cons, List.take_zero, List.drop_succ_cons, List.drop_zero, List.append_nil, Nat.zero_add, subP4, subA5]
          refine goP h13 ?_
          simp only [go_sem, fillAll, fillIn, shiftR, shiftV, List.take_succ_cons, List.take_zero, List.drop_succ_cons, List.drop_zero, List.append_nil, Nat.zero_add, subP4, subA5]
          refine goP h42 ?_
          simp only [go_sem, fillAll, fillIn, shiftR, shiftV, List.take_succ_cons, List.take_zero, List.drop_succ_cons, List.drop_zero, List.append_nil, Nat.zero_add, subP4, subA5]
          refine goP h43 ?_
          simp only [go_sem, fillAll, fillIn, shiftR, shiftV, List.take_succ_cons, List.take_zero, List.drop_succ_cons, List.drop_zero, List.append_nil, Nat.zero_add, subP4, subA5]
          refine goR h35 rfl ?_
          simp only [go_sem, fillAll, fillIn, shiftR, shiftV, List.take_succ_cons, List.take_zero, List.drop_succ_cons, List.drop_zero, List.append_nil, Nat.zero_add, subP4, subA5]
          refine goR h35b rfl ?_
          simp only [go_sem, fillAll, fillIn, shiftR, shiftV, List.take_succ_cons, List.take_zero, List.drop_succ_cons, List.drop_zero, List.append_nil, Nat.zero_add, subP4, subA5]
          refine goP c26_ok ?_
          simp only [go_sem]
          simp only [i8, Out, resAll, geto, ints, List.getElem?_cons_zero, List.getElem?_cons_succ, resOf, outOf, snap, snapL, ev, getE, List.mapM_cons, List.mapM_nil, Option.bind_some, Option.pure_def, Option.bind_eq_bind, Option.map_some, reduceIte, Nat.reduceEqDiff, true_and, and_true]
        · have h35b := c35_err he2
          simp only [plX, arrX, noA, noP, runes, ints] at h25bt h25t h13b h13 h40 h41 h42 h43 h35 h35b
          simp only [c8, plX, runes, ints, go_sem, fillAll, fillIn, shiftR, shiftV, List.take_succ_cons, List.take_zero, List.drop_succ_cons, List.drop_zero, List.append_nil, Nat.zero_add, subP4]
          refine goP h25bt ?_
          simp only [go_sem, fillAll, fillIn, shiftR, shiftV, List.take_succ_cons, List.take_zero, List.drop_succ_cons, List.drop_zero, List.append_nil, Nat.zero_add, subP4, subA5]
          refine goP h25t ?_
          simp only [go_sem, fillAll, fillIn, shiftR, shiftV, List.take_succ_cons, List.take_zero, List.drop_succ_cons, List.drop_zero, List.append_nil, Nat.zero_add, subP4, subA5]
          refine goP h13 ?_
          simp only [go_sem, fillAll, fillIn, shiftR, shiftV, List.take_succ_cons, List.take_zero, List.drop_succ_cons, List.drop_zero, List.append_nil, Nat.zero_add, subP4, subA5]
          refine goP h40 ?_
          simp only [go_sem, fillAll, fillIn, shiftR, shiftV, List.take_succ_cons, List.take_zero, List.drop_succ_cons, List.drop_zero, List.append_nil, Nat.zero_add, subP4, subA5]
          refine goP h41 ?_
          simp only [go_sem, fillAll, fillIn, shiftR, shiftV, List.take_succ_cons, List.take_zero, List.drop_succ_cons, List.drop_zero, List.append_nil, Nat.zero_add, subP4, subA5]
          refine goP h13b ?_
          simp only [go_sem, fillAll, fillIn, shiftR, shiftV, List.take_succ_cons, List.take_zero, List.drop_succ_cons, List.drop_zero, List.append_nil, Nat.zero_add, subP4, subA5]
          refine goP h13 ?_
          simp only [go_sem, fillAll, fillIn, shiftR, shiftV, List.take_succ_cons, List.take_zero, List.drop_succ_cons, List.drop_zero, List.append_nil, Nat.zero_add, subP4, subA5]
          refine goP h42 ?_
          simp only [go_sem, fillAll, fillIn, shiftR, shiftV, List.take_succ_cons, List.take_zero, List.drop_succ_cons, List.drop_zero, List.append_nil, Nat.zero_add, subP4, subA5]
          refine goP h43 ?_
          simp only [go_sem, fillAll, fillIn, shiftR, shiftV, List.take_succ_cons, List.take_zero, List.drop_succ_cons, List.drop_zero, List.append_nil, Nat.zero_add, subP4, subA5]
          refine goR h35 rfl ?_
          simp only [go_sem, fillAll, fillIn, shiftR, shiftV, List.take_succ_cons, List.take_zero, List.drop_succ_cons, List.drop_zero, List.append_nil, Nat.zero_add, subP4, subA5]
          refine goR h35b rfl ?_
          simp only [go_sem, fillAll, fillIn, shiftR, shiftV, List.take_succ_cons, List.take_zero, List.drop_succ_cons, List.drop_zero, List.append_nil, Nat.zero_add, subP4, subA5]
          refine goP c26_ok ?_
          simp only [go_sem]
          simp only [i8, Out, resAll, geto, ints, List.getElem?_cons_zero, List.getElem?_cons_succ, resOf, outOf, snap, snapL, ev, getE, List.mapM_cons, List.mapM_nil, Option.bind_some, Option.pure_def, Option.bind_eq_bind, Option.map_some, reduceIte, Nat.reduceEqDiff, true_and, and_true]
    · have h25f := h25 false ⟨fun h => (by cases h), fun h => absurd h hL⟩
      simp only [plX, runes, ints] at h25bt h25f
      simp only [c8, plX, runes, ints, go_sem, fillAll, fillIn, shiftR, shiftV, List.take_succ_cons, List.take_zero, List.drop_succ_cons, List.drop_zero, List.append_nil, Nat.zero_add, subP4]
      refine goP h25bt ?_
      simp only [go_sem, fillAll, fillIn, shiftR, shiftV, List.take_succ_cons, List.take_zero, List.drop_succ_cons, List.drop_zero, List.append_nil, Nat.zero_add, subP4]
      refine goP h25f ?_
      simp only [go_sem]
      refine goP c26_ok ?_
      simp only [go_sem]
      simp only [i8, Out, resAll, geto, ints, List.getElem?_cons_zero, List.getElem?_cons_succ, resOf, outOf, snap, snapL, ev, getE, List.mapM_cons, List.mapM_nil, Option.bind_some, Option.pure_def, Option.bind_eq_bind, Option.map_some, reduceIte, Nat.reduceEqDiff, true_and, and_true]
  · have h25bf := h25b false ⟨fun h => (by cases h), fun h => absurd h hLb⟩
    simp only [plX, runes, ints] at h25bf
    simp only [c8, plX, runes, ints, go_sem, fillAll, fillIn, shiftR, shiftV, List.take_succ_cons, List.take_zero, List.drop_succ_cons, List.drop_zero, List.append_nil, Nat.zero_add, subP4]
    refine goP h25bf ?_
    simp only [go_sem]
    refine goP c26_ok ?_
    simp only [go_sem]
    simp only [i8, Out, resAll, geto, ints, List.getElem?_cons_zero, List.getElem?_cons_succ, resOf, outOf, snap, snapL, ev, getE, List.mapM_cons, List.mapM_nil, Option.bind_some, Option.pure_def, Option.bind_eq_bind, Option.map_some, reduceIte, Nat.reduceEqDiff, true_and, and_true]
end Go.Proofs.YtlejgleocnemoaaGreat.I

-- PRINTED BY print.sh 35421559b90ae4d0a3588c463048766b98c2df88dd9212a6774a882060cdf62d: not written by this session
-- PRINTED WORDS (module Derived/Print/Sized.lean): go-gate-2's, for the rows of laws over slices: an AI agent of Go's test side, Tue Nov 17 2026; no person has read it. Lean checks it.
namespace Go.Proofs.YtlejgleocnemoaaGreatW.PrintWords
open Go.ChangeShapes Go.WideShapes
end Go.Proofs.YtlejgleocnemoaaGreatW.PrintWords

namespace Go.Proofs.YtlejgleocnemoaaGreat.I
open Go Go.V Go.ChangeShapes Go.WideShapes Go.Deep
section
variable {H : Type} {enc : TypeId × Value → H} {P : Program} {w : World} {spare : Nat → Bool} {held : Bool}
theorem open_num1 {e : TypeId} {f0 f1 f2 : Field} {fuel : Nat} {a : Addr} {cs : List Value} {y : DataW H × List MemPlace} (he : P.underlying e = some (.struct #[f0, f1, f2])) (hone : oneCellFields P #[f0, f1, f2] = true)
    (h0 : P.underlying f0.type = some .bool) (h1 : P.underlying f1.type = some .string) (h2 : P.underlying f2.type = some .string) (hc : w.cells? 0 a 3 = some cs) (h : DataW.trod enc P w 0 spare held fuel e cs = some y) :
    ∃ q : Nm, (w.cell? (a.add 0) = some (.bool q.1) ∧ w.cell? (a.add 1) = some (.string (bs q.2.1)) ∧ w.cell? (a.add 2) = some (.string (bs q.2.2))) ∧ U8 q.2.1 ∧ U8 q.2.2 ∧ q.2.1.length ≤ maxLen ∧ q.2.2.length ≤ maxLen := by
  obtain ⟨_, hlen, hcell⟩ := World.cells?_some hc
  obtain ⟨xs, k, _, _, _, hxl, hf⟩ := DataW.trod_struct he h
  obtain ⟨o0, k0⟩ := hone_of hone 0 f0 rfl
  obtain ⟨o1, k1⟩ := hone_of hone 1 f1 rfl
  obtain ⟨o2, k2⟩ := hone_of hone 2 f2 rfl
  match xs, hxl, cs, hlen with
  | [y0, y1, y2], _, [v0, v1, v2], _ =>
    have g0 := hf 0 f0 rfl
    have g1 := hf 1 f1 rfl
    have g2 := hf 2 f2 rfl
    simp [o0, k0] at g0
    simp [o1, k1] at g1
    simp [o2, k2] at g2
    obtain ⟨b, hb, _⟩ := DataW.trod_bool h0 g0
    obtain ⟨s1, hs1, _, hm1⟩ := DataW.trod_string h1 g1
    obtain ⟨s2, hs2, _, hm2⟩ := DataW.trod_string h2 g2
    obtain ⟨l1, hu1, rfl⟩ := bs_all s1
    obtain ⟨l2, hu2, rfl⟩ := bs_all s2
    simp only [List.cons.injEq, and_true] at hb hs1 hs2
    subst hb; subst hs1; subst hs2
    have c0 := hcell 0 (by omega)
    have c1 := hcell 1 (by omega)
    have c2 := hcell 2 (by omega)
    rw [bs_size] at hm1 hm2
    exact ⟨(b, l1, l2), ⟨by simpa using c0, by simpa using c1, by simpa using c2⟩, hu1, hu2, hm1, hm2⟩
theorem open_nums {t e : TypeId} {f0 f1 f2 : Field} {fuel : Nat} {cs : List Value} {x : DataW H × List MemPlace} (ht : P.underlying t = some (.slice e)) (he : P.underlying e = some (.struct #[f0, f1, f2])) (hone : oneCellFields P #[f0, f1, f2] = true)
    (hC : P.cellsOf e = 3) (h0 : P.underlying f0.type = some .bool) (h1 : P.underlying f1.type = some .string) (h2 : P.underlying f2.type = some .string) (h : DataW.trod enc P w 0 spare held fuel t cs = some x) :
    ∃ (a : Option Addr) (len cap : Nat) (l : List Nm), cs = [.slice a len cap] ∧ l.length = len ∧ len ≤ maxLen ∧ (∀ q ∈ l, U8 q.2.1 ∧ U8 q.2.2 ∧ q.2.1.length ≤ maxLen ∧ q.2.2.length ≤ maxLen) ∧ RG w (fun b => b < w.heap.size) (.sl l.length 3 (nmsC l)) (.slice a len cap) := by
  rcases open_slice ht h with ⟨rfl, _⟩ | ⟨a, len, cap, m, n, D, Pl, rfl, _, hl, hm, hmm, _, hx⟩
  · exact ⟨none, 0, 0, [], rfl, rfl, Nat.zero_le _, fun q hq => by simp at hq, .sl0⟩
  have hlm : len ≤ m := by rw [hmm]; split <;> omega
  rw [hC] at hx
  have each : ∀ i, i < len → ∃ q : Nm, (w.cell? (a.add (i * 3)) = some (.bool q.1) ∧ w.cell? (a.add (i * 3 + 1)) = some (.string (bs q.2.1)) ∧ w.cell? (a.add (i * 3 + 2)) = some (.string (bs q.2.2))) ∧ U8 q.2.1 ∧ U8 q.2.2 ∧ q.2.1.length ≤ maxLen ∧ q.2.2.length ≤ maxLen := fun i hi => by
    obtain ⟨cs', hc, hy⟩ := hx i (by omega)
    obtain ⟨q, ⟨g0, g1, g2⟩, hq⟩ := open_num1 he hone h0 h1 h2 hc hy
    rw [add_add] at g0 g1 g2
    exact ⟨q, ⟨g0, g1, g2⟩, hq⟩
  obtain ⟨f, hf⟩ := choose_lt (α := Nm) each
  refine ⟨some a, len, cap, (List.range len).map f, rfl, by simp, Nat.le_trans hl hm, fun q hq => ?_, ?_⟩
  · obtain ⟨i, hi, rfl⟩ := List.mem_map.1 hq
    exact (hf i (List.mem_range.1 hi)).2
  · have hll : ((List.range len).map f).length = len := by simp
    rw [hll]
    by_cases hz : len = 0
    · subst hz; exact .sl0
    obtain ⟨b, o, sp⟩ := a
    have hc0 := (hf 0 (by omega)).1.1
    have hsp : sp = none := by
      simp only [Addr.add, Nat.zero_mul, if_true, World.cell?] at hc0
      split at hc0
      · split at hc0
        · cases hc0
        · rename_i hh; simpa using hh
      · cases hc0
    subst hsp
    have addE : ∀ i, (⟨b, o, none⟩ : Addr).add i = ⟨b, o + i, none⟩ := fun i => by
      unfold Addr.add
      split
      · rename_i h; rw [h]; rfl
      · rfl
    have hb : b < w.heap.size := by
      rw [addE] at hc0
      unfold World.cell? at hc0
      split at hc0
      · rename_i hh; exact (Array.getElem?_eq_some_iff.1 hh).1
      · cases hc0
    have hat : ∀ i, i < len → ((List.range len).map f).getD i (false, [], []) = f i := fun i hi => by simp [List.getD, hi]
    have vlen : ∀ l : List Nm, (l.flatMap fun q => [Value.bool q.1, .string (bs q.2.1), .string (bs q.2.2)]).length = l.length * 3 := fun l => by
      induction l with
      | nil => rfl
      | cons q l ih => rw [List.flatMap_cons, List.length_append, ih, List.length_cons]; simp; omega
    have vget : ∀ (l : List Nm) (i k : Nat), i < l.length → k < 3 → (l.flatMap fun q => [Value.bool q.1, .string (bs q.2.1), .string (bs q.2.2)])[i * 3 + k]? = ([Value.bool (l.getD i (false, [], [])).1, .string (bs (l.getD i (false, [], [])).2.1), .string (bs (l.getD i (false, [], [])).2.2)])[k]? := fun l => by
      induction l with
      | nil => intro i k h; simp at h
      | cons q l ih =>
        intro i k hi hk
        cases i with
        | zero => rw [List.flatMap_cons, Nat.zero_mul, Nat.zero_add, List.getElem?_append_left (by simp; omega)]; rfl
        | succ i =>
          rw [List.flatMap_cons, List.getElem?_append_right (by simp; omega)]
          have e : (i + 1) * 3 + k - [Value.bool q.1, .string (bs q.2.1), .string (bs q.2.2)].length = i * 3 + k := by simp; omega
          rw [e, ih i k (by simpa using hi) hk]
          rfl
    have cget : ∀ (l : List Nm) (i k : Nat), i < l.length → k < 3 → (nmsC l)[i * 3 + k]? = (nmC (l.getD i (false, [], [])))[k]? := fun l i k hi hk => by
      rw [← flat_get (f := nmC) (fun _ => rfl) hi, List.getElem?_take, if_pos hk, List.getElem?_drop]
      rfl
    have split3 : ∀ j, j < len * 3 → ∃ i k, i < len ∧ k < 3 ∧ j = i * 3 + k := fun j hj => ⟨j / 3, j % 3, by omega, by omega, by omega⟩
    refine .sl (vs := ((List.range len).map f).flatMap fun q => [Value.bool q.1, .string (bs q.2.1), .string (bs q.2.2)]) (by omega) hl (by rw [nmsC, flat_len (fun _ => rfl), hll]) (by rw [vlen, nmsC, flat_len (fun _ => rfl)]) hb (fun u hu => ?_) (fun j u hu => ?_) (fun j c u hc hu => ?_)
    · obtain ⟨q, _, hq⟩ := List.mem_flatMap.1 hu
      simp only [List.mem_cons, List.not_mem_nil, or_false] at hq
      rcases hq with rfl | rfl | rfl <;> rfl
    · have hj := (List.getElem?_eq_some_iff.1 hu).1
      rw [vlen, hll] at hj
      obtain ⟨i, k, hi, hk, rfl⟩ := split3 j hj
      rw [vget _ i k (by rw [hll]; exact hi) hk, hat i hi] at hu
      obtain ⟨⟨g0, g1, g2⟩, _⟩ := hf i hi
      rw [addE] at g0 g1 g2
      match k, hk with
      | 0, _ => simp at hu; subst hu; exact g0
      | 1, _ => simp at hu; subst hu; exact g1
      | 2, _ => simp at hu; subst hu; exact g2
    · have hj := (List.getElem?_eq_some_iff.1 hu).1
      rw [vlen, hll] at hj
      obtain ⟨i, k, hi, hk, rfl⟩ := split3 j hj
      rw [vget _ i k (by rw [hll]; exact hi) hk] at hu
      rw [cget _ i k (by rw [hll]; exact hi) hk] at hc
      match k, hk with
      | 0, _ => simp [nmC] at hu hc; subst hu; subst hc; exact .bool
      | 1, _ => simp [nmC] at hu hc; subst hu; subst hc; exact .str
      | 2, _ => simp [nmC] at hu hc; subst hu; subst hc; exact .str
end
end Go.Proofs.YtlejgleocnemoaaGreat.I
