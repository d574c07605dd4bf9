/- The texts L16b L08a L08b L07l L07m L07o L07p L16c L16d L16e L16f L16g L16j L16k L08e L08f L08g L16l L16m L08c L16w L16i, one behind the other. Conditions: each text's own. -/
import Derived.Test.YtlejgleocnemoaaGreatG07
import Derived.Test.YtlejgleocnemoaaGreatG06
import Derived.Test.YtlejgleocnemoaaGreatG05
import Derived.WalkKit
set_option linter.unusedSimpArgs false
set_option linter.unusedVariables false
namespace Go.Proofs.YtlejgleocnemoaaGreat.I
open Go Go.V
attribute [local go_sem_proc ↓] reduceIte
attribute [local go_sem_proc] Nat.reduceEqDiff Nat.reduceAdd Nat.reduceMul Nat.reduceLeDiff Nat.reduceLT Int.reduceToNat Int.reduceLT Int.reduceLE reduceCtorEq Nat.reduceBEq
attribute [local go_sem] mNil nat0 beq_self_eq_true mSkip mRet mExit mReg mSeq mCond mTrue mFalse mBlock mLv mCodeE mCodeR mEndN mEndR mEndE mOps mSome mGuard mGtt mGff mGtf mGft mGu mCallP mCallR mCallF mCallO mCallZ mCallG mCallM mCallV loopQ_exit loopQ_ret mO_mov mO_newnil mO_pick mO_alloc mO_box mO_build mO_bsl mO_bslF mO_newnilB mO_bslB mO_lenB mO_appB mO_allocA mO_bslA mO_appA mO_ldb mO_faddrb mRsv mO_ldf mO_ld mO_st mO_sta mO_nilchk mO_bin mO_binb mO_binp mO_bins mO_neg mO_com mO_not mO_conv mO_mk mO_mk0 mO_mkB mO_s2b mO_b2s mO_cpy mO_cut mO_faddr mO_fld mO_iaddr mO_iaddrf mO_sidx mO_len mO_lenf mO_slen mO_scut mO_app mO_ext mO_mx mO_mn mO_mkfn evalOp cutOp argsE ev getE putE cellsOf adopt rowOf binV boolV nilV ar_add ar_sub ar_mul ar_quo ar_rem ar_eq ar_ne ar_lt ar_le ar_gt ar_ge ar_and ar_or ar_xor geto bound finRet finNrm ints List.length_cons List.length_nil List.length_append List.getElem?_cons_zero List.getElem?_cons_succ List.nil_append List.cons_append List.map_cons List.map_nil List.mapM_cons List.mapM_nil Option.map_some Option.map_none Option.bind_some Option.pure_def Option.bind_eq_bind List.drop_zero or_self or_false false_or or_true true_or true_and and_true and_self decide_true decide_false Bool.false_eq_true Bool.true_eq_false Bool.not_true Bool.not_false Nat.le_refl eq_self gt_iff_lt ge_iff_le ne_eq not_true_eq_false not_false_eq_true storeOp apartOf freeze_nil refsL refs List.flatMap_cons List.flatMap_nil List.append_nil List.contains_nil List.set_cons_zero List.set_cons_succ snap snapL fill_nums flat_nums nums_length Go.V.freeze List.mapIdx_cons List.mapIdx_nil List.contains_cons Bool.or_false Bool.false_or Bool.or_true Bool.true_or
theorem fl_pos {a d : Int} {q r : Nat} (hd : 0 < d) (hq : a = d * q + r) (hr : (r : Int) < d) : a / d = q ∧ a % d = r :=
  (Int.ediv_emod_unique hd).2 ⟨by omega, by omega, hr⟩
theorem fl_neg {a d : Int} {q r : Nat} (hd : 0 < d) (hq : a = -(d * q + r)) (hr : (r : Int) < d) (h0 : r ≠ 0) : a / d = -((q : Int) + 1) ∧ a % d = d - r :=
  (Int.ediv_emod_unique hd).2 ⟨by rw [Int.mul_neg, Int.mul_add, Int.mul_one]; omega, by omega, by omega⟩
theorem fl_neg0 {a d : Int} {q : Nat} (hd : 0 < d) (hq : a = -(d * q)) : a / d = -(q : Int) ∧ a % d = 0 :=
  (Int.ediv_emod_unique hd).2 ⟨by rw [Int.mul_neg]; omega, by omega, hd⟩
theorem natAbs_parts {a : Int} {d : Nat} : (a.natAbs : Int) = (d : Int) * ((a.natAbs / d : Nat) : Int) + ((a.natAbs % d : Nat) : Int) := by
  have := Nat.div_add_mod a.natAbs d
  rw [← Int.natCast_mul, ← Int.natCast_add, this]
section
variable {E : CallRel}
theorem c153_ok {a : Int} {d : Nat} (hd : d ≠ 0) (ha : (limG a.natAbs).length ≤ 1000000) (hb : (limG d).length ≤ 1000000) (hq1 : (limG (a.natAbs / d)).length ≤ 1000000) :
    Go.V.Call tab E 153 [.agg (wI a), .agg (wI (d : Int))] [] (.tup [.agg (wI (a / d)), .agg (wI (a % d)), .bool true]) [] := by
  refine Go.V.Call.mach i153 c153 rfl rfl rfl rfl ?_
  have h157 := c157_ok (E := E) ha hb hd
  have hp := natAbs_parts (a := a) (d := d)
  have hrd : a.natAbs % d < d := Nat.mod_lt _ (by omega)
  have h1 : limG 1 = [1] := limG_one (d := 1) (by omega) (by omega)
  generalize hqq : a.natAbs / d = q at *
  generalize hrr : a.natAbs % d = r at *
  have hrl : (limG r).length ≤ 1000000 := Nat.le_trans (limG_mono (by omega)) hb
  have h154 := c154_nat (E := E) (n := r)
  have h151 := fun n p => c151_ok (E := E) (n := n) (p := p)
  have hs := c177_ok (E := E) hb hrl
  have hadd := c176_ok (E := E) (a := q) (b := 1) hq1 (by rw [h1]; simp)
  have hone := c149_one (E := E)
  have wd : wI (d : Int) = [us32 (limG d), .bool false] := by rw [wI, whC, show decide ((d : Int) < 0) = false from decide_eq_false (by omega)]; rfl
  rw [if_pos (by omega), decide_eq_true (by omega)] at hs
  rw [show natC 1 = .agg [us32 [1]] from by rw [natC, h1]] at hadd
  have wa : wI a = [us32 (limG a.natAbs), .bool (decide (a < 0))] := rfl
  by_cases hneg : a < 0
  · rw [decide_eq_true hneg] at wa
    by_cases h0 : r = 0
    · obtain ⟨e1, e2⟩ := fl_neg0 (a := a) (d := d) (q := q) (by omega) (by omega)
      have k1 := h151 true q
      have k2 := h151 false r
      have w1 := wI_neg (p := q)
      have w2 := wI_pos (p := r)
      rw [decide_eq_true h0] at h154
      rw [e1, e2, wa, wd, ← w1]
      have : wI (0 : Int) = wI ((r : Nat) : Int) := by rw [h0]; rfl
      rw [this, ← w2]
      clear h151 hs hadd hone
      simp only [natC, us32, whC] at h157 h154 k1 k2 ⊢
      simp only [c153, us32, go_sem, FL, subW2, subW0, subW1, subT1]
      refine goP h157 ?_
      simp only [us32, go_sem, FL, subW2, subW0, subW1, subT1, show (true == false) = false from rfl]
      refine goR h154 rfl ?_
      simp only [us32, go_sem, FL, subW2, subW0, subW1, subT1, show (!(true == false)) = true from rfl]
      refine goF k1 ?_
      simp only [us32, go_sem, FL, subW2, subW0, subW1, subT1]
      refine goF k2 ?_
      simp only [us32, go_sem, FL, subW2, subW0, subW1, subT1]
      simp only [i153, OT, reduceIte, Nat.reduceEqDiff, subW2]
    · obtain ⟨e1, e2⟩ := fl_neg (a := a) (d := d) (q := q) (r := r) (by omega) (by omega) (by omega) h0
      have k1 := h151 true (q + 1)
      have k2 := h151 false (d - r)
      have w1 := wI_neg (p := q + 1)
      have w2 := wI_pos (p := d - r)
      rw [decide_eq_false h0] at h154
      rw [e1, e2, wa, wd]
      have x1 : wI (-((q : Int) + 1)) = wI (-((q + 1 : Nat) : Int)) := by congr 1
      have x2 : wI ((d : Int) - (r : Int)) = wI ((d - r : Nat) : Int) := by congr 1; omega
      rw [x1, x2, ← w1, ← w2]
      clear h151
      simp only [natC, us32, whC] at h157 h154 k1 k2 hs hadd hone ⊢
      simp only [c153, us32, go_sem, FL, subW2, subW0, subW1, subT1]
      refine goP h157 ?_
      simp only [us32, go_sem, FL, subW2, subW0, subW1, subT1, show (true == false) = false from rfl]
      refine goR h154 rfl ?_
      simp only [us32, go_sem, FL, subW2, subW0, subW1, subT1, show (!(true == false)) = true from rfl]
      refine goF hs ?_
      simp only [us32, go_sem, FL, subW2, subW0, subW1, subT1]
      refine goP hone ?_
      simp only [us32, go_sem, FL, subW2, subW0, subW1, subT1]
      refine goF hadd ?_
      simp only [us32, go_sem, FL, subW2, subW0, subW1, subT1]
      refine goP k1 ?_
      simp only [us32, go_sem, FL, subW2, subW0, subW1, subT1]
      refine goF k2 ?_
      simp only [us32, go_sem, FL, subW2, subW0, subW1, subT1]
      simp only [i153, OT, reduceIte, Nat.reduceEqDiff, subW2]
  · rw [decide_eq_false hneg] at wa
    obtain ⟨e1, e2⟩ := fl_pos (a := a) (d := d) (q := q) (r := r) (by omega) (by omega) (by omega)
    have k1 := h151 false q
    have k2 := h151 false r
    have w1 := wI_pos (p := q)
    have w2 := wI_pos (p := r)
    rw [e1, e2, wa, wd, ← w1, ← w2]
    clear h151 hs hadd hone h154
    simp only [natC, us32, whC] at h157 k1 k2 ⊢
    simp only [c153, us32, go_sem, FL, subW2, subW0, subW1, subT1]
    refine goP h157 ?_
    simp only [us32, go_sem, FL, subW2, subW0, subW1, subT1, show (false == false) = true from rfl, show (!(false == false)) = false from rfl]
    refine goF k1 ?_
    simp only [us32, go_sem, FL, subW2, subW0, subW1, subT1]
    refine goF k2 ?_
    simp only [us32, go_sem, FL, subW2, subW0, subW1, subT1]
    simp only [i153, OT, reduceIte, Nat.reduceEqDiff, subW2]
theorem c124_ok {x : Rt} {r : Rat} {i : Nat} (hx : RV x r) (hr : Sz i r) (hi : i ≤ 32000000) : Go.V.Call tab E 124 [.agg (rtC x)] [] (.agg (wI (flr r))) [] := by
  refine Go.V.Call.mach i124 c124 rfl rfl rfl rfl ?_
  have hu := c129_R (E := E) hx
  have hf := c153_ok (E := E) (a := r.num) (d := r.den) r.den_nz (limG_sz hr.1 hi) (limG_sz hr.2 hi) (limG_sz (Nat.lt_of_le_of_lt (Nat.div_le_self _ _) hr.1) hi)
  have tx := rtC_top hx
  have hfl : r.num / (r.den : Int) = flr r := rfl
  rw [hfl] at hf
  generalize flr r = z at *
  generalize r.num % (r.den : Int) = y at *
  rw [tx] at hu
  rw [tx]
  simp only [wI, whC, us32, List.cons_append, List.nil_append] at hu hf ⊢
  simp only [c124, us32, go_sem, FL, subT3, subT2]
  refine goP hu ?_
  simp only [us32, go_sem, FL, subT3, subT2]
  refine goP hf ?_
  simp only [us32, go_sem, FL, subT3, subT2, subW2]
  simp only [i124, OT, reduceIte, Nat.reduceEqDiff, subW2]
theorem c72_ok {x y : Rt} {a b : Rat} {i j : Nat} (hx : RV x a) (hy : RV y b) (ha : Sz i a) (hb : Sz j b) (hij : 2 * i + 2 * j + 2 ≤ 32000000) :
    Go.V.Call tab E 72 [.agg (rtC y), .agg (rtC x)] [] (.agg (rtC (if b = 0 then x else rR (restR b a)))) [] := by
  by_cases h0 : b = 0
  · subst h0
    rw [if_pos rfl]
    refine Go.V.Call.mach i72 c72 rfl rfl rfl rfl ?_
    have hz := c76_zero (E := E) hx hy ha (by omega)
    simp only [rtC, ratG, us32] at hz ⊢
    simp only [c72, us32, go_sem, FL, subT3]
    refine goP hz ?_
    simp only [us32, go_sem, FL, subT3]
    simp only [i72, OT, reduceIte, Nat.reduceEqDiff, subT3]
  · have sq := ha.div hb (rnum_ne h0)
    have sf := Sz.int (flr_lt sq) (by omega)
    have sp := hb.mul sf
    have h1 := c76_ok (E := E) hx hy ha hb h0 (by omega)
    have h2 := c124_ok (E := E) (x := rR (a / b)) RV.self sq (by omega)
    have h3 := c123_ok (E := E) (z := flr (a / b))
    have h4 := c119_ok (E := E) hy (RV.self (r := ((flr (a / b) : Int) : Rat))) hb sf (by omega)
    have h5 := c75_ok (E := E) (RV.self (r := b * ((flr (a / b) : Int) : Rat)))
    have h6 := c74_ok (E := E) hx (RV.self (r := -(b * ((flr (a / b) : Int) : Rat)))) ha sp.neg (by omega)
    rw [if_neg h0, restR, if_neg h0]
    generalize ((flr (a / b) : Int) : Rat) = f at *
    generalize flr (a / b) = fz at *
    generalize rR (a / b) = q at *
    generalize rR (-(b * f)) = n at *
    generalize rR (b * f) = p at *
    generalize rR (a + -(b * f)) = s at *
    generalize rR f = fx at *
    refine Go.V.Call.mach i72 c72 rfl rfl rfl rfl ?_
    simp only [rtC, ratG, wI, whC, us32] at h1 h2 h3 h4 h5 h6 ⊢
    simp only [c72, us32, go_sem, FL, subT3]
    refine goP h1 ?_
    simp only [us32, go_sem, FL, subT3]
    refine goF h2 ?_
    simp only [us32, go_sem, FL, subT3]
    refine goP h3 ?_
    simp only [us32, go_sem, FL, subT3, List.flatten_cons, List.flatten_nil]
    refine goF h4 ?_
    simp only [us32, go_sem, FL, subT3, Option.getD_some]
    refine goP h5 ?_
    simp only [us32, go_sem, FL, subT3, List.flatten_cons, List.flatten_nil, Option.getD_some]
    refine goF h6 ?_
    simp only [us32, go_sem, FL, subT3, Option.getD_some]
    simp only [i72, OT, reduceIte, Nat.reduceEqDiff, subT3]
end
end Go.Proofs.YtlejgleocnemoaaGreat.I

namespace Go.Proofs.YtlejgleocnemoaaGreat.I
open Go Go.V
attribute [local go_sem] mNil nat0 beq_self_eq_true mSkip mRet mExit mReg mSeq mCond mTrue mFalse mBlock mLv mCodeE mCodeR mEndN mEndR mEndE mOps mSome mGuard mGtt mGff mGtf mGft mGu mCallP mCallR mCallF mCallO mCallZ mCallG mCallM mCallV loopQ_exit loopQ_ret mO_mov mO_newnil mO_pick mO_alloc mO_box mO_build mO_bsl mO_bslF mO_newnilB mO_bslB mO_lenB mO_appB mO_allocA mO_bslA mO_appA mO_ldb mO_faddrb mRsv mO_ldf mO_ld mO_st mO_sta mO_nilchk mO_bin mO_binb mO_binp mO_bins mO_neg mO_com mO_not mO_conv mO_mk mO_mk0 mO_mkB mO_s2b mO_b2s mO_cpy mO_cut mO_faddr mO_fld mO_iaddr mO_iaddrf mO_sidx mO_len mO_lenf mO_slen mO_scut mO_app mO_ext mO_mx mO_mn mO_mkfn evalOp cutOp argsE ev getE putE cellsOf adopt rowOf binV boolV nilV ar_add ar_sub ar_mul ar_quo ar_rem ar_eq ar_ne ar_lt ar_le ar_gt ar_ge ar_and ar_or ar_xor geto bound finRet finNrm ints List.length_cons List.length_nil List.length_append List.getElem?_cons_zero List.getElem?_cons_succ List.nil_append List.cons_append List.map_cons List.map_nil List.mapM_cons List.mapM_nil Option.map_some Option.map_none Option.bind_some Option.pure_def Option.bind_eq_bind List.drop_zero or_self or_false false_or or_true true_or true_and and_true and_self decide_true decide_false Bool.false_eq_true Bool.true_eq_false Bool.not_true Bool.not_false Nat.le_refl eq_self gt_iff_lt ge_iff_le ne_eq not_true_eq_false not_false_eq_true storeOp apartOf freeze_nil refsL refs List.flatMap_cons List.flatMap_nil List.append_nil List.contains_nil List.set_cons_zero List.set_cons_succ snap snapL fill_nums flat_nums nums_length Go.V.freeze List.mapIdx_cons List.mapIdx_nil List.contains_cons Bool.or_false Bool.false_or Bool.or_true Bool.true_or
def zR (z : Int) : Rt := (decide (z < 0), z.natAbs, 1)
theorem ratC_zR {z : Int} (hz : In64 z) : ratC z = rtC (zR z) := by
  obtain ⟨h1, h2⟩ := hz
  rw [ratC, lim_limG (by omega)]
  show _ = [us32 (limG z.natAbs), AV.bool (decide (z < 0)), us32 (limG 1)]
  rw [limG_one (d := 1) (by omega) (by omega)]
  rfl
theorem ratsC_zR {l : List Int} (hl : ∀ z ∈ l, In64 z) : ratsC l = rtsC (l.map zR) := by
  induction l with
  | nil => rfl
  | cons z l ih =>
    have e1 : ratsC (z :: l) = ratC z ++ ratsC l := by simp [ratsC]
    have e2 : rtsC ((z :: l).map zR) = rtC (zR z) ++ rtsC (l.map zR) := by simp [rtsC]
    rw [e1, e2, ratC_zR (hl z (by simp)), ih fun y hy => hl y (by simp [hy])]
theorem arrV_X {s l : List Int} (hl : ∀ z ∈ l, In64 z) : arrV s l = arrX s false [] (l.map zR) := by
  rw [arrV, arrX, ratsC_zR hl, List.length_map]
  rfl
theorem zR_ok {z : Int} (hz : In64 z) : RtOk (zR z) := by
  have h : ∀ n, n ≤ 9223372036854775808 → n < lim2000 := fun n hn => Nat.lt_of_lt_of_le (show n < 10 ^ 19 by omega) (pow10_le (by omega))
  obtain ⟨h1, h2⟩ := hz
  exact ⟨h _ (by show z.natAbs ≤ _; omega), h _ (by show dn 1 ≤ _; decide)⟩
def wholeB (ch : Bool) (t : List Int) (L : List Rt) : Bool := !(ch && decide (0 < t.length + L.length)) && L.all fun x => (rint x).isSome
def lisV (s : List Int) (ch : Bool) (t : List Int) (L : List Rt) : List Int := if s.length ≤ 1 ∧ wholeB ch t L = true then L.map rv else []
def lisE (s : List Int) (ch : Bool) (t : List Int) (L : List Rt) : Int := if 1 < s.length then 23 else if wholeB ch t L = true then 0 else 22
def noP : List AV := plX [] false [] []
theorem noA_len : Go.V.Call tab E 55 [.agg noA] [] (.int .i64 0) [] := c55_no
def axA (s : List Int) (a : Int) : Int := if a < 0 then (s.length : Int) - 1 else a
def axB (s : List Int) (a : Int) : Bool := decide (0 ≤ axA s a) && decide (axA s a < (s.length : Int))
theorem c45_X {l : List Int} (hl : (l.length : Int) ≤ 1000000000000) (hz : ∀ z ∈ l, In64 z) : Go.V.Call tab E 45 [ints l] [] (.agg (arrX [(l.length : Int)] false [] (l.map zR))) [] := by
  rw [← arrV_X hz]
  exact c45_ok hl hz
def outA (e : Int) (s ks : List Int) (ch : Bool) (t : List Int) (L : List Rt) : List AV := if e = 0 then arrX s ch (picksT ch t ks) (picksR ch L ks) else noA
def outP (e : Int) (s ks : List Int) (ch : Bool) (t : List Int) (l : List Nm) : List AV := if e = 0 then plX s ch (picksT ch t ks) (picksN ch l ks) else noP
def negB (w : List Int) : Bool := w.any fun d => decide (d < 0)
def resE (e0 : Int) (w : List Int) : Int := if e0 ≠ 0 then e0 else if negB w = true then 22 else match count w with | none => if 8 < w.length then 23 else 26 | some _ => 0
def cyc (w : List Int) (len : Nat) : List Int := (List.range (prd w).toNat).map fun i => if len = 0 then (-1 : Int) else ((i % len : Nat) : Int)
end Go.Proofs.YtlejgleocnemoaaGreat.I

namespace Go.Proofs.YtlejgleocnemoaaGreat.I
open Go Go.V
theorem set_set {y : List Int} {m : Nat} {v u : Int} (h : m < y.length) : (y.take m ++ v :: y.drop (m + 1)).take m ++ u :: (y.take m ++ v :: y.drop (m + 1)).drop (m + 1) = y.take m ++ u :: y.drop (m + 1) := by
  have e1 : (y.take m).length = m := by simp; omega
  rw [List.take_append_of_le_length (by omega), List.take_take, Nat.min_self, List.drop_append, e1, List.drop_eq_nil_of_le (by omega)]
  simp [show m + 1 - m = 1 by omega]
section
variable {E : CallRel}
end
end Go.Proofs.YtlejgleocnemoaaGreat.I

namespace Go.Proofs.YtlejgleocnemoaaGreat.I
open Go Go.V
attribute [local go_sem] mNil nat0 beq_self_eq_true mSkip mRet mExit mReg mSeq mCond mTrue mFalse mBlock mLv mCodeE mCodeR mEndN mEndR mEndE mOps mSome mGuard mGtt mGff mGtf mGft mGu mCallP mCallR mCallF mCallO mCallZ mCallG mCallM mCallV loopQ_exit loopQ_ret mO_mov mO_newnil mO_pick mO_alloc mO_box mO_build mO_bsl mO_bslF mO_newnilB mO_bslB mO_lenB mO_appB mO_allocA mO_bslA mO_appA mO_ldb mO_faddrb mRsv mO_ldf mO_ld mO_st mO_sta mO_nilchk mO_bin mO_binb mO_binp mO_bins mO_neg mO_com mO_not mO_conv mO_mk mO_mk0 mO_mkB mO_s2b mO_b2s mO_cpy mO_cut mO_faddr mO_fld mO_iaddr mO_iaddrf mO_sidx mO_len mO_lenf mO_slen mO_scut mO_app mO_ext mO_mx mO_mn mO_mkfn evalOp cutOp argsE ev getE putE cellsOf adopt rowOf binV boolV nilV ar_add ar_sub ar_mul ar_quo ar_rem ar_eq ar_ne ar_lt ar_le ar_gt ar_ge ar_and ar_or ar_xor geto bound finRet finNrm ints List.length_cons List.length_nil List.length_append List.getElem?_cons_zero List.getElem?_cons_succ List.nil_append List.cons_append List.map_cons List.map_nil List.mapM_cons List.mapM_nil Option.map_some Option.map_none Option.bind_some Option.pure_def Option.bind_eq_bind List.drop_zero or_self or_false false_or or_true true_or true_and and_true and_self decide_true decide_false Bool.false_eq_true Bool.true_eq_false Bool.not_true Bool.not_false Nat.le_refl eq_self gt_iff_lt ge_iff_le ne_eq not_true_eq_false not_false_eq_true storeOp apartOf freeze_nil refsL refs List.flatMap_cons List.flatMap_nil List.append_nil List.contains_nil List.set_cons_zero List.set_cons_succ snap snapL fill_nums flat_nums nums_length Go.V.freeze List.mapIdx_cons List.mapIdx_nil List.contains_cons Bool.or_false Bool.false_or Bool.or_true Bool.true_or
section
variable {E : CallRel}
end
def wi (s : List Int) (a n : Int) : List Int := if 0 ≤ a ∧ a < s.length then s.take a.toNat ++ n :: s.drop (a.toNat + 1) else s
def wo (s : List Int) (a : Int) : List Int := if 0 ≤ a ∧ a < s.length then s.take a.toNat ++ s.drop (a.toNat + 1) else s
section
variable {E : CallRel}
end
end Go.Proofs.YtlejgleocnemoaaGreat.I

namespace Go.Proofs.YtlejgleocnemoaaGreat.I
open Go Go.V
attribute [local go_sem_proc ↓] reduceIte
attribute [local go_sem_proc] Nat.reduceEqDiff Nat.reduceAdd Nat.reduceMul Nat.reduceLeDiff Nat.reduceLT Int.reduceToNat Int.reduceLT Int.reduceLE reduceCtorEq Nat.reduceBEq
attribute [local go_sem] mNil nat0 beq_self_eq_true mSkip mRet mExit mReg mSeq mCond mTrue mFalse mBlock mLv mCodeE mCodeR mEndN mEndR mEndE mOps mSome mGuard mGtt mGff mGtf mGft mGu mCallP mCallR mCallF mCallO mCallZ mCallG mCallM mCallV loopQ_exit loopQ_ret mO_mov mO_newnil mO_pick mO_alloc mO_box mO_build mO_bsl mO_bslF mO_newnilB mO_bslB mO_lenB mO_appB mO_allocA mO_bslA mO_appA mO_ldb mO_faddrb mRsv mO_ldf mO_ld mO_st mO_sta mO_nilchk mO_bin mO_binb mO_binp mO_bins mO_neg mO_com mO_not mO_conv mO_mk mO_mk0 mO_mkB mO_s2b mO_b2s mO_cpy mO_cut mO_faddr mO_fld mO_iaddr mO_iaddrf mO_sidx mO_len mO_lenf mO_slen mO_scut mO_app mO_ext mO_mx mO_mn mO_mkfn evalOp cutOp argsE ev getE putE cellsOf adopt rowOf binV boolV nilV ar_add ar_sub ar_mul ar_quo ar_rem ar_eq ar_ne ar_lt ar_le ar_gt ar_ge ar_and ar_or ar_xor geto bound finRet finNrm ints List.length_cons List.length_nil List.length_append List.getElem?_cons_zero List.getElem?_cons_succ List.nil_append List.cons_append List.map_cons List.map_nil List.mapM_cons List.mapM_nil Option.map_some Option.map_none Option.bind_some Option.pure_def Option.bind_eq_bind List.drop_zero or_self or_false false_or or_true true_or true_and and_true and_self decide_true decide_false Bool.false_eq_true Bool.true_eq_false Bool.not_true Bool.not_false Nat.le_refl eq_self gt_iff_lt ge_iff_le ne_eq not_true_eq_false not_false_eq_true storeOp apartOf freeze_nil refsL refs List.flatMap_cons List.flatMap_nil List.append_nil List.contains_nil List.set_cons_zero List.set_cons_succ snap snapL fill_nums flat_nums nums_length Go.V.freeze List.mapIdx_cons List.mapIdx_nil List.contains_cons Bool.or_false Bool.false_or Bool.or_true Bool.true_or
def mprd : List Int → Int
  | [] => 1
  | d :: ds => max 1 d * mprd ds
theorem mprd_pos : ∀ {s : List Int}, 1 ≤ mprd s
  | [] => Int.le_refl _
  | d :: ds => by
    have h1 := mprd_pos (s := ds)
    have h2 : 1 ≤ max 1 d := by rw [max1]; split <;> omega
    have := Int.mul_le_mul_of_nonneg_left (a := 1) (b := mprd ds) (c := max 1 d) h1 (by omega)
    rw [mprd]
    omega
theorem mprd_append : ∀ {s t : List Int}, mprd (s ++ t) = mprd s * mprd t
  | [], t => by rw [List.nil_append, mprd, Int.one_mul]
  | d :: ds, t => by rw [List.cons_append, mprd, mprd, mprd_append, Int.mul_assoc]
theorem cnt_iff : ∀ {s : List Int} {most n : Int}, 1 ≤ most → most ≤ 4096 → ((∀ d ∈ s, 0 ≤ d) ∧ most * mprd s ≤ 4096 → cnt most n s = some (n * prd s)) ∧ (cnt most n s ≠ none → (∀ d ∈ s, 0 ≤ d) ∧ most * mprd s ≤ 4096)
  | [], most, n, h1, h2 => ⟨fun _ => by rw [cnt, prd, Int.mul_one], fun _ => ⟨fun d hd => by simp at hd, by rw [mprd, Int.mul_one]; exact h2⟩⟩
  | d :: ds, most, n, h1, h2 => by
    have hmx : 1 ≤ max 1 d := by rw [max1]; split <;> omega
    have hmm : 1 ≤ most * max 1 d := by
      have := Int.mul_le_mul_of_nonneg_left (a := 1) (b := max 1 d) (c := most) hmx (by omega)
      omega
    have hp := mprd_pos (s := ds)
    rw [cnt, mprd, prd]
    refine ⟨fun ⟨h3, h4⟩ => ?_, fun h => ?_⟩
    · have hd := h3 d (by simp)
      have h5 : most * max 1 d ≤ 4096 := by
        have := Int.mul_le_mul_of_nonneg_left (a := 1) (b := mprd ds) (c := most * max 1 d) hp (by omega)
        rw [← Int.mul_assoc] at h4
        omega
      rw [if_neg (by omega), (cnt_iff hmm h5).1 ⟨fun x hx => h3 x (by simp [hx]), by rw [Int.mul_assoc]; exact h4⟩, Int.mul_assoc]
    · split at h
      · exact absurd rfl h
      · rename_i hno
        obtain ⟨h3, h4⟩ := (cnt_iff hmm (by omega)).2 h
        refine ⟨fun x hx => ?_, by rw [← Int.mul_assoc]; exact h4⟩
        rcases List.mem_cons.1 hx with rfl | hx
        · omega
        · exact h3 x hx
theorem count_iff {s : List Int} : (s.length ≤ 8 ∧ (∀ d ∈ s, 0 ≤ d) ∧ mprd s ≤ 4096 → count s = some (prd s)) ∧ (count s ≠ none → s.length ≤ 8 ∧ (∀ d ∈ s, 0 ≤ d) ∧ mprd s ≤ 4096) := by
  unfold count
  obtain ⟨h1, h2⟩ := cnt_iff (s := s) (most := 1) (n := 1) (by omega) (by omega)
  refine ⟨fun ⟨h3, h4, h5⟩ => ?_, fun h => ?_⟩
  · rw [if_neg (by omega), h1 ⟨h4, by rw [Int.one_mul]; exact h5⟩, Int.one_mul]
  · split at h
    · exact absurd rfl h
    · obtain ⟨h3, h4⟩ := h2 h
      exact ⟨by omega, h3, by rwa [Int.one_mul] at h4⟩
theorem count_parts {s : List Int} (h : count s ≠ none) (k : Nat) : count (s.take k) = some (prd (s.take k)) ∧ count (s.drop k) = some (prd (s.drop k)) ∧ 0 ≤ prd (s.take k) ∧ prd (s.take k) ≤ 4096 ∧ 0 ≤ prd (s.drop k) ∧ prd (s.drop k) ≤ 4096 := by
  obtain ⟨h1, h2, h3⟩ := count_iff.2 h
  have hs : s = s.take k ++ s.drop k := (List.take_append_drop k s).symm
  have hm := mprd_append (s := s.take k) (t := s.drop k)
  rw [← hs] at hm
  have p1 := mprd_pos (s := s.take k)
  have p2 := mprd_pos (s := s.drop k)
  have q1 : mprd (s.take k) ≤ mprd s := by
    have := Int.mul_le_mul_of_nonneg_left (a := 1) (b := mprd (s.drop k)) (c := mprd (s.take k)) p2 (by omega)
    omega
  have q2 : mprd (s.drop k) ≤ mprd s := by
    have := Int.mul_le_mul_of_nonneg_right (a := 1) (b := mprd (s.take k)) (c := mprd (s.drop k)) p1 (by omega)
    omega
  have c1 := count_iff.1 ⟨by simp; omega, fun d hd => h2 d (List.mem_of_mem_take hd), (by omega : mprd (s.take k) ≤ 4096)⟩
  have c2 := count_iff.1 ⟨by simp; omega, fun d hd => h2 d (List.mem_of_mem_drop hd), (by omega : mprd (s.drop k) ≤ 4096)⟩
  obtain ⟨_, _, b1⟩ := count_bound c1
  obtain ⟨_, _, b2⟩ := count_bound c2
  have b1 := b1 (s.take k).length
  have b2 := b2 (s.drop k).length
  rw [List.take_length] at b1 b2
  exact ⟨c1, c2, b1.1, b1.2, b2.1, b2.2⟩
def spl (s : List Int) (a : Int) : AV :=
  if count s = none ∨ a < 0 ∨ (s.length : Int) ≤ a then .tup [.int .i64 0, .int .i64 0, .int .i64 0, .bool false]
  else .tup [.int .i64 (prd (s.take a.toNat)), .int .i64 (s.getD a.toNat 0), .int .i64 (prd (s.drop (a.toNat + 1))), .bool true]
section
variable {E : CallRel}
theorem c122_ok {s : List Int} {a : Int} (hs : ∀ d ∈ s, In64 d) (hl : (s.length : Int) ≤ 1000000000000) (ha : In64 a) : Go.V.Call tab E 122 [ints s, .int .i64 a] [] (spl s a) [] := by
  refine Go.V.Call.mach i122 c122 rfl rfl rfl rfl ?_
  simp only [c122, go_sem]
  refine goP (c90_ok hs (by omega)) ?_
  cases hc : count s with
  | none =>
    simp only [optP, go_sem]
    simp only [i122, OT, reduceIte, Nat.reduceEqDiff, spl, hc, true_or]
  | some m =>
    by_cases h0 : a < 0
    · simp only [optP, go_sem, h0]
      simp only [i122, OT, reduceIte, Nat.reduceEqDiff, spl, h0, true_or, or_true]
    · by_cases h1 : (s.length : Int) ≤ a
      · simp only [optP, go_sem, h0, h1]
        simp only [i122, OT, reduceIte, Nat.reduceEqDiff, spl, h1, or_true]
      · obtain ⟨k, rfl⟩ := Int.eq_ofNat_of_zero_le (show 0 ≤ a by omega)
        have hne : count s ≠ none := by rw [hc]; simp
        obtain ⟨g1, _, g3, g4, _, _⟩ := count_parts hne k
        obtain ⟨_, g2, _, _, g5, g6⟩ := count_parts hne (k + 1)
        have hk0 : (0 : Int) ≤ (k : Int) := by omega
        have hks : (k : Int) ≤ (s.length : Int) := by omega
        have hlt : k < s.length := by omega
        have hlt' : (k : Int) < (s.length : Int) := by omega
        have hk1 : IntKind.i64.wrap ((k : Int) + 1) = ((k + 1 : Nat) : Int) := by rw [wrap_i64 (by omega) (by omega)]; omega
        have hk2 : (0 : Int) ≤ ((k + 1 : Nat) : Int) := by omega
        have hk3 : ((k + 1 : Nat) : Int) ≤ (s.length : Int) := by omega
        have hc1 := cut_to (k := .i64) (t := s) (m := k) (by omega)
        have hc2 := cut_nums (s := s) (k := k + 1) (by omega)
        have hsub := sub_nums (k := .i64) hlt
        have hspl : spl s (k : Int) = .tup [.int .i64 (prd (s.take k)), .int .i64 (s.getD k 0), .int .i64 (prd (s.drop (k + 1))), .bool true] := by
          rw [spl, if_neg (by rw [hc]; simp; omega)]
          rfl
        simp only [optP, go_sem, h0, h1, hk0, hks, Int.toNat_natCast, Nat.sub_zero, hc1]
        refine goP (c90_ok (s := s.take k) (fun d hd => hs d (List.mem_of_mem_take hd)) (by simp; omega)) ?_
        rw [g1]
        simp only [optP, go_sem, hk0, hk1, hk2, hk3, Int.toNat_natCast, hc2]
        refine goP (c90_ok (s := s.drop (k + 1)) (fun d hd => hs d (List.mem_of_mem_drop hd)) (by simp; omega)) ?_
        rw [g2]
        simp only [optP, go_sem, hk0, hlt', Int.toNat_natCast, hsub]
        simp only [i122, OT, reduceIte, Nat.reduceEqDiff, hspl]
end
theorem prd_cat : ∀ {s t : List Int}, prd (s ++ t) = prd s * prd t
  | [], t => by rw [List.nil_append, prd, Int.one_mul]
  | d :: ds, t => by rw [List.cons_append, prd, prd, prd_cat, Int.mul_assoc]
def badA (ch : Bool) (t : List Int) (l : List Rt) : Bool := ch && decide (0 < t.length + l.length)
def roomE (s : List Int) : Int := if 8 < s.length then 23 else if count s = none then 26 else 0
def roomN (s : List Int) : Int := if 8 < s.length then 0 else (count s).getD 0
theorem c64_X {s : List Int} {l : List Rt} (hs : ∀ d ∈ s, In64 d) (hsl : (s.length : Int) ≤ 1000000000000) (hl : (l.length : Int) ≤ 1000000000000) : Go.V.Call tab E 64 [ints s, .sl l.length 3 (rtsC l)] [] (.tup [if fits s l.length then .agg (arrX s false [] l) else .agg noA, .bool (fits s l.length)]) [] := by
  refine Go.V.Call.mach i64 c64 rfl rfl rfl rfl ?_
  simp only [c64, go_sem, FL]
  refine goP (c90_ok hs (by omega)) ?_
  cases hc : count s with
  | none =>
    have hf : fits s l.length = false := by simp [fits, hc]
    simp only [optP, go_sem, FL]
    simp only [i64, OT, reduceIte, Nat.reduceEqDiff, subA5, hf, noA, Bool.false_eq_true]
  | some m =>
    by_cases hm : m = (l.length : Int)
    · subst hm
      have hf : fits s l.length = true := by simp [fits, hc]
      simp only [optP, go_sem, FL, bne_self_eq_false]
      refine goO (c110_ok hsl) rfl rfl ?_
      simp only [go_sem, FL]
      refine goO (c117_X hl) rfl rfl ?_
      simp only [go_sem, FL]
      simp only [i64, OT, reduceIte, Nat.reduceEqDiff, subA5, hf, arrX, runes]
      rfl
    · have hf : fits s l.length = false := by simp [fits, hc, hm]
      have hm' : (m != (l.length : Int)) = true := by simpa using hm
      simp only [optP, go_sem, FL, hm']
      simp only [i64, OT, reduceIte, Nat.reduceEqDiff, subA5, hf, noA, Bool.false_eq_true]
theorem c70_ok {s : List Int} (hs : ∀ d ∈ s, In64 d) (hl : (s.length : Int) ≤ 1000000000000) : Go.V.Call tab E 70 [ints s] [] (.tup [.int .i64 (roomN s), .int .i64 (roomE s)]) [] := by
  refine Go.V.Call.mach i70 c70 rfl rfl rfl rfl ?_
  simp only [c70, go_sem, FL]
  refine goP (c90_ok hs (by omega)) ?_
  by_cases h8 : 8 < s.length
  · have h8' : (8 : Int) < (s.length : Int) := by omega
    have hc : count s = none := by rw [count, if_pos h8]
    simp only [hc, optP, go_sem, FL, h8']
    simp only [i70, OT, reduceIte, Nat.reduceEqDiff, roomN, roomE, h8, if_true]
  · have h8' : ¬ (8 : Int) < (s.length : Int) := by omega
    cases hc : count s with
    | none =>
      simp only [optP, go_sem, FL, h8']
      simp only [i70, OT, reduceIte, Nat.reduceEqDiff, roomN, roomE, h8, if_false, hc, if_true, Option.getD_none]
    | some m =>
      simp only [optP, go_sem, FL, h8']
      simp only [i70, OT, reduceIte, Nat.reduceEqDiff, roomN, roomE, h8, if_false, hc, reduceCtorEq, Option.getD_some]
theorem c71_X {s t : List Int} {l : List Rt} {ch : Bool} (hs : ∀ d ∈ s, In64 d) (hc : count s ≠ none) : Go.V.Call tab E 71 [.agg (arrX s ch t l)] [] (.tup [.int .i64 (prd (s.drop 1)), .int .i64 (s.getD 0 1), ints (s.drop 1)]) [] := by
  refine Go.V.Call.mach i71 c71 rfl rfl rfl rfl ?_
  have hl8 := (count_iff.2 hc).1
  have h48 := c48_X (s := s) (t := t) (l := l) (ch := ch) (by omega)
  simp only [arrX, runes] at h48
  simp only [c71, arrX, runes, go_sem, FL, subA5]
  refine goP h48 ?_
  by_cases h0 : s.length = 0
  · obtain rfl : s = [] := List.eq_nil_of_length_eq_zero h0
    simp only [go_sem, FL, nums, List.map_nil]
    simp only [i71, OT, reduceIte, Nat.reduceEqDiff, nums, List.map_nil, List.drop_nil]
    rfl
  · have h122 := c122_ok (E := E) (s := s) (a := 0) hs (by omega) ⟨by omega, by omega⟩
    have e0 : ((s.length : Int) == 0) = false := by rw [beq_eq_false_iff_ne]; omega
    have hsp : spl s 0 = .tup [.int .i64 1, .int .i64 (s.getD 0 1), .int .i64 (prd (s.drop 1)), .bool true] := by
      rw [spl, if_neg (by rintro (h | h | h) <;> first | exact hc h | omega)]
      have : s.getD 0 0 = s.getD 0 1 := by cases s with | nil => simp at h0 | cons => rfl
      simp only [Int.toNat_zero, List.take_zero, Nat.zero_add, prd, this]
    rw [hsp] at h122
    have h1 : (1 : Int) ≤ (s.length : Int) := by omega
    have hd : (nums .i64 s).drop 1 = nums .i64 (s.drop 1) := by simp [nums]
    have ht : (nums .i64 (s.drop 1)).take (s.length - 1) = nums .i64 (s.drop 1) := List.take_of_length_le (by simp [nums])
    simp only [go_sem, FL, e0]
    refine goP h122 ?_
    simp only [go_sem, FL, Nat.mul_one, Int.natCast_nonneg, h1, Int.toNat_natCast, Int.toNat_one]
    simp only [i71, OT, reduceIte, Nat.reduceEqDiff, hd, ht, List.length_drop, Nat.mul_one, Int.toNat_one]
theorem c68_two {s t s' t' : List Int} {l l' : List Rt} {ch ch' : Bool} (ht : (t.length : Int) ≤ 1000000000) (hl : (l.length : Int) ≤ 1000000000) (ht' : (t'.length : Int) ≤ 1000000000) (hl' : (l'.length : Int) ≤ 1000000000) :
    Go.V.Call tab E 68 [.sl 2 5 (arrX s ch t l ++ arrX s' ch' t' l')] [] (.bool (!(badA ch t l || badA ch' t' l'))) [] := by
  refine Go.V.Call.mach i68 c68 rfl rfl rfl rfl ?_
  have h58 := c58_ok (s := s) (t := t) (l := l) (ch := ch)
  have h58' := c58_ok (s := s') (t := t') (l := l') (ch := ch')
  have h55 := c55_X (s := s) (t := t) (l := l) (ch := ch) (by omega) (by omega)
  have h55' := c55_X (s := s') (t := t') (l := l') (ch := ch') (by omega) (by omega)
  have g0 : sub true 5 (arrX s ch t l ++ arrX s' ch' t' l') (0 * 5) = some (.agg (arrX s ch t l)) := rfl
  have g1 : sub true 5 (arrX s ch t l ++ arrX s' ch' t' l') (1 * 5) = some (.agg (arrX s' ch' t' l')) := rfl
  have g1' : sub true 5 (arrX s ch t l ++ arrX s' ch' t' l') 5 = some (.agg (arrX s' ch' t' l')) := rfl
  have g0' : sub true 5 (arrX s ch t l ++ arrX s' ch' t' l') 0 = some (.agg (arrX s ch t l)) := rfl
  generalize arrX s ch t l ++ arrX s' ch' t' l' = cells at *
  have w1 : IntKind.i64.wrap (0 + 1) = 1 := by decide
  have w2 : IntKind.i64.wrap (1 + 1) = 2 := by decide
  simp only [arrX, runes] at h58 h58' h55 h55' g0 g1 g0' g1'
  simp only [c68, go_sem, FL]
  refine mLoop (fun N st => ∃ k : Nat, (k = 0 ∨ k = 1 ∧ badA ch t l = false ∨ k = 2 ∧ badA ch t l = false ∧ badA ch' t' l' = false) ∧ N = 2 - k ∧ st = ⟨[(5, .sl 2 5 cells), (6, .int .i64 2), (7, .int .i64 k)], []⟩) 2 ⟨_, rfl, 0, .inl rfl, rfl, rfl⟩ ?_
  rintro N s0 ⟨k, hk, rfl, rfl⟩
  rcases hk with rfl | ⟨rfl, hb1⟩ | ⟨rfl, hb1, hb2⟩
  · simp only [b68_0, go_sem, FL, subA5, g0, g0', show ((0 : Nat) : Int) < 2 by omega, show (0 : Int) < ((2 : Nat) : Int) by omega]
    refine goR h58 rfl ?_
    cases ch with
    | false =>
      simp only [go_sem, FL, subA5, w1]
      exact loopQ_go rfl 1 (by omega) ⟨1, .inr (.inl ⟨rfl, rfl⟩), rfl, rfl⟩
    | true =>
      simp only [go_sem, FL, subA5]
      refine goR h55 rfl ?_
      by_cases h : 0 < t.length + l.length
      · have h' : (0 : Int) < ((t.length + l.length : Nat) : Int) := by omega
        have hb : badA true t l = true := by simp [badA]; omega
        simp only [go_sem, FL, h', hb, Bool.true_or]
        simp only [i68, OT, reduceIte, Nat.reduceEqDiff]
      · have h' : ¬ (0 : Int) < ((t.length + l.length : Nat) : Int) := by omega
        have hb : badA true t l = false := by simp only [badA, Bool.true_and]; exact decide_eq_false h
        simp only [go_sem, FL, h', w1]
        exact loopQ_go rfl 1 (by omega) ⟨1, .inr (.inl ⟨rfl, hb⟩), rfl, rfl⟩
  · simp only [b68_0, go_sem, FL, subA5, g1, g1', show ((1 : Nat) : Int) < 2 by omega, show ((1 : Nat) : Int) < ((2 : Nat) : Int) by omega, show (0 : Int) ≤ ((1 : Nat) : Int) by omega, show ((1 : Nat) : Int).toNat = 1 from rfl]
    refine goR h58' rfl ?_
    cases ch' with
    | false =>
      simp only [go_sem, FL, subA5, show IntKind.i64.wrap (((1 : Nat) : Int) + 1) = 2 by decide]
      exact loopQ_go rfl 0 (by omega) ⟨2, .inr (.inr ⟨rfl, hb1, rfl⟩), rfl, rfl⟩
    | true =>
      simp only [go_sem, FL, subA5]
      refine goR h55' rfl ?_
      by_cases h : 0 < t'.length + l'.length
      · have h' : (0 : Int) < ((t'.length + l'.length : Nat) : Int) := by omega
        have hb : badA true t' l' = true := by simp [badA]; omega
        simp only [go_sem, FL, h', hb, hb1, Bool.or_true]
        simp only [i68, OT, reduceIte, Nat.reduceEqDiff]
      · have h' : ¬ (0 : Int) < ((t'.length + l'.length : Nat) : Int) := by omega
        have hb : badA true t' l' = false := by simp only [badA, Bool.true_and]; exact decide_eq_false h
        simp only [go_sem, FL, h', show IntKind.i64.wrap (((1 : Nat) : Int) + 1) = 2 by decide]
        exact loopQ_go rfl 0 (by omega) ⟨2, .inr (.inr ⟨rfl, hb1, hb⟩), rfl, rfl⟩
  · simp only [b68_0, k68_0, go_sem, FL, show ¬ ((2 : Nat) : Int) < 2 by omega, Int.lt_irrefl, hb1, hb2, Bool.or_self]
    simp only [i68, OT, reduceIte, Nat.reduceEqDiff]
end Go.Proofs.YtlejgleocnemoaaGreat.I

namespace Go.Proofs.YtlejgleocnemoaaGreat.I
open Go Go.V
attribute [local go_sem] mNil nat0 beq_self_eq_true mSkip mRet mExit mReg mSeq mCond mTrue mFalse mBlock mLv mCodeE mCodeR mEndN mEndR mEndE mOps mSome mGuard mGtt mGff mGtf mGft mGu mCallP mCallR mCallF mCallO mCallZ mCallG mCallM mCallV loopQ_exit loopQ_ret mO_mov mO_newnil mO_pick mO_alloc mO_box mO_build mO_bsl mO_bslF mO_newnilB mO_bslB mO_lenB mO_appB mO_allocA mO_bslA mO_appA mO_ldb mO_faddrb mRsv mO_ldf mO_ld mO_st mO_sta mO_nilchk mO_bin mO_binb mO_binp mO_bins mO_neg mO_com mO_not mO_conv mO_mk mO_mk0 mO_mkB mO_s2b mO_b2s mO_cpy mO_cut mO_faddr mO_fld mO_iaddr mO_iaddrf mO_sidx mO_len mO_lenf mO_slen mO_scut mO_app mO_ext mO_mx mO_mn mO_mkfn evalOp cutOp argsE ev getE putE cellsOf adopt rowOf binV boolV nilV ar_add ar_sub ar_mul ar_quo ar_rem ar_eq ar_ne ar_lt ar_le ar_gt ar_ge ar_and ar_or ar_xor geto bound finRet finNrm ints List.length_cons List.length_nil List.length_append List.getElem?_cons_zero List.getElem?_cons_succ List.nil_append List.cons_append List.map_cons List.map_nil List.mapM_cons List.mapM_nil Option.map_some Option.map_none Option.bind_some Option.pure_def Option.bind_eq_bind List.drop_zero or_self or_false false_or or_true true_or true_and and_true and_self decide_true decide_false Bool.false_eq_true Bool.true_eq_false Bool.not_true Bool.not_false Nat.le_refl eq_self gt_iff_lt ge_iff_le ne_eq not_true_eq_false not_false_eq_true storeOp apartOf freeze_nil refsL refs List.flatMap_cons List.flatMap_nil List.append_nil List.contains_nil List.set_cons_zero List.set_cons_succ snap snapL fill_nums flat_nums nums_length Go.V.freeze List.mapIdx_cons List.mapIdx_nil List.contains_cons Bool.or_false Bool.false_or Bool.or_true Bool.true_or
def xT : Option Rat → Rt
  | none => (false, 0, 0)
  | some r => rR r
def xV : Option Rat → Rat
  | none => 0
  | some r => r
theorem xRV : ∀ {x : Option Rat}, RV (xT x) (xV x)
  | none => RV.zero
  | some r => RV.self
def dg (b : Rat) (x : Option Rat) : Option Rat := if b = 0 then x else some (restR b (xV x))
def nx (b : Rat) (x : Option Rat) : Option Rat := if b = 0 then none else some ((flr (xV x / b) : Int) : Rat)
def stp (col : Nat → Rat) (n : Nat) (x : Option Rat) : Nat → Option Rat
  | 0 => x
  | m + 1 => nx (col (n - 1 - m)) (stp col n x m)
def dgt (col : Nat → Rat) (n : Nat) (x : Option Rat) (k : Nat) : Option Rat := dg (col k) (stp col n x (n - 1 - k))
theorem xT_dg {b : Rat} {x : Option Rat} : xT (dg b x) = if b = 0 then xT x else rR (restR b (xV x)) := by
  unfold dg; split <;> rfl
theorem xV_dg {b : Rat} {x : Option Rat} : xV (dg b x) = restR b (xV x) := by
  unfold dg restR; split <;> rfl
theorem sub_rest {x b f : Rat} (hb : b ≠ 0) : (x + -(x + -(b * f))) / b = f := by
  have h1 : x + -(x + -(b * f)) = b * f := by
    rw [Rat.neg_add, Rat.neg_neg, ← Rat.add_assoc, Rat.add_neg_cancel, Rat.zero_add]
  rw [h1, Rat.mul_comm, Rat.div_def, Rat.mul_assoc, Rat.mul_inv_cancel _ hb, Rat.mul_one]
theorem nx_eq {b : Rat} {x : Option Rat} (hb : b ≠ 0) : nx b x = some ((xV x + -(xV (dg b x))) / b) := by
  rw [nx, if_neg hb, xV_dg, restR, if_neg hb, sub_rest hb]
theorem Sz.zero {i : Nat} (h : 1 ≤ i) : Sz i 0 := ⟨by rw [Rat.num_ofNat]; exact Nat.pow_pos (by omega), Nat.one_lt_two_pow (by omega)⟩
theorem Sz.nx {b : Rat} {x : Option Rat} {i j : Nat} (hx : Sz i (xV x)) (hb : Sz j b) : Sz (i + j + 1) (xV (nx b x)) := by
  unfold I.nx
  split
  · exact Sz.zero (by omega)
  · rename_i h0
    exact Sz.int (flr_lt (hx.div hb (rnum_ne h0))) (by omega)
theorem Sz.stp {col : Nat → Rat} {n : Nat} {x : Option Rat} {i j : Nat} (hx : Sz i (xV x)) (hb : ∀ k, Sz j (col k)) : ∀ m, Sz (i + (j + 1) * m) (xV (stp col n x m))
  | 0 => by simpa [I.stp] using hx
  | m + 1 => ((Sz.stp hx hb m).nx (hb _)).mono (by rw [Nat.mul_add, Nat.mul_one]; omega)
theorem fill_rts {L : List Rt} {i : Nat} {z : Rt} (h : i < L.length) : fillIn (rtsC L) (i * 3) (rtC z) = rtsC (L.set i z) := by
  have hl : ∀ l : List Rt, (rtsC l).length = l.length * 3 := fun l => flat_len (fun _ => rfl)
  have h1 : ∀ {k : Nat} {l : List Rt}, (rtsC l).take (k * 3) = rtsC (l.take k) := fun {k l} => by
    induction l generalizing k with
    | nil => simp [rtsC]
    | cons a l ih =>
      cases k with
      | zero => simp [rtsC]
      | succ k =>
        have : rtsC (a :: l) = rtC a ++ rtsC l := by simp [rtsC]
        rw [this, List.take_succ_cons, show rtsC (a :: l.take k) = rtC a ++ rtsC (l.take k) by simp [rtsC], List.take_append, show (k + 1) * 3 = 3 + k * 3 by omega]
        rw [show (rtC a).length = 3 from rfl, show 3 + k * 3 - 3 = k * 3 by omega, ih]
        congr 1
        exact List.take_of_length_le (by rw [show (rtC a).length = 3 from rfl]; omega)
  have h2 : ∀ {k : Nat} {l : List Rt}, (rtsC l).drop (k * 3) = rtsC (l.drop k) := fun {k l} => by
    induction l generalizing k with
    | nil => simp [rtsC]
    | cons a l ih =>
      cases k with
      | zero => simp [rtsC]
      | succ k =>
        have : rtsC (a :: l) = rtC a ++ rtsC l := by simp [rtsC]
        rw [this, List.drop_succ_cons, List.drop_append, show (k + 1) * 3 = 3 + k * 3 by omega]
        rw [show (rtC a).length = 3 from rfl, show 3 + k * 3 - 3 = k * 3 by omega, ih, List.drop_eq_nil_of_le (by rw [show (rtC a).length = 3 from rfl]; omega), List.nil_append]
  unfold fillIn
  rw [show i * 3 + (rtC z).length = (i + 1) * 3 by rw [show (rtC z).length = 3 from rfl]; omega, h1, h2, List.set_eq_take_append_cons_drop, if_pos h]
  simp [rtsC]
theorem rts_zero {n : Nat} : (List.replicate n [AV.sl 0 1 [], AV.bool false, AV.sl 0 1 []]).flatten = rtsC (List.replicate n (false, 0, 0)) := by
  have h : rtC (false, 0, 0) = [AV.sl 0 1 [], AV.bool false, AV.sl 0 1 []] := by simp only [rtC, ratG, limG_zero, us32]; rfl
  induction n with
  | zero => rfl
  | succ n ih => rw [List.replicate_succ, List.flatten_cons, ih, List.replicate_succ, ← h]; simp [rtsC]
theorem rtAt_mapR {A : List Rat} {i : Nat} (h : i < A.length) : rtAt (A.map rR) i = rR (A.getD i 0) := by
  simp [rtAt, List.getD, h]
theorem pick_map {A : List Rat} {i : Nat} (h : i < A.length) : pickR (A.map rR) (i : Int) = rR (A.getD i 0) := by
  rw [pickR, if_pos ⟨by omega, by rw [List.length_map]; omega⟩, Int.toNat_natCast, rtAt_mapR h]
theorem rtAt_set {L : List Rt} {i j : Nat} {z : Rt} (h : i < L.length) : rtAt (L.set i z) j = if j = i then z else rtAt L j := by
  simp only [rtAt, List.getD]
  by_cases hj : j = i
  · subst hj; rw [if_pos rfl]; simp [h]
  · rw [if_neg hj, List.getElem?_set_ne (fun h => hj h.symm)]
theorem dec3 {w len k j i : Nat} (hj : j < w) (hi : i < len) : ((k * w + j) * len + i) / len % w = j ∧ ((k * w + j) * len + i) % len = i ∧ ((k * w + j) * len + i) / len / w = k := by
  have h1 : ((k * w + j) * len + i) / len = k * w + j := by
    rw [Nat.mul_comm, Nat.mul_add_div (by omega), Nat.div_eq_of_lt hi]; rfl
  have h2 : ((k * w + j) * len + i) % len = i := by rw [Nat.mul_comm, Nat.mul_add_mod, Nat.mod_eq_of_lt hi]
  rw [h1, h2]
  refine ⟨by rw [Nat.mul_comm, Nat.mul_add_mod, Nat.mod_eq_of_lt hj], rfl, ?_⟩
  rw [Nat.mul_comm, Nat.mul_add_div (by omega), Nat.div_eq_of_lt hj]; rfl
theorem enc3 {w len q : Nat} : (q / len / w * w + q / len % w) * len + q % len = q := by
  rw [Nat.mul_comm (q / len / w), Nat.div_add_mod, Nat.mul_comm, Nat.div_add_mod]
def dAt (A B : List Rat) (n w : Nat) (q : Nat) : Option Rat :=
  dgt (fun k => A.getD (k * w + q / B.length % w) 0) n (some (B.getD (q % B.length) 0)) (q / B.length / w)
def encL (A B : List Rat) (n w : Nat) : List Rt := (List.range (n * w * B.length)).map fun q => xT (dAt A B n w q)
def encB (A B : List Rat) (n w : Nat) (lim : Int) : Bool := (List.range (n * w * B.length)).all fun q => decide ((rlimbs (xT (dAt A B n w q)) : Int) ≤ lim)
theorem encB_iff {A B : List Rat} {n w : Nat} {lim : Int} : encB A B n w lim = true ↔ ∀ q, q < n * w * B.length → (rlimbs (xT (dAt A B n w q)) : Int) ≤ lim := by
  simp [encB, List.all_eq_true]
end Go.Proofs.YtlejgleocnemoaaGreat.I

namespace Go.Proofs.YtlejgleocnemoaaGreat.I
open Go Go.V
attribute [local go_sem_proc ↓] reduceIte
attribute [local go_sem_proc] Nat.reduceEqDiff Nat.reduceAdd Nat.reduceMul Nat.reduceLeDiff Nat.reduceLT Int.reduceToNat Int.reduceLT Int.reduceLE reduceCtorEq Nat.reduceBEq
attribute [local go_sem] mNil nat0 beq_self_eq_true mSkip mRet mExit mReg mSeq mCond mTrue mFalse mBlock mLv mCodeE mCodeR mEndN mEndR mEndE mOps mSome mGuard mGtt mGff mGtf mGft mGu mCallP mCallR mCallF mCallO mCallZ mCallG mCallM mCallV loopQ_exit loopQ_ret mO_mov mO_newnil mO_pick mO_alloc mO_box mO_build mO_bsl mO_bslF mO_newnilB mO_bslB mO_lenB mO_appB mO_allocA mO_bslA mO_appA mO_ldb mO_faddrb mRsv mO_ldf mO_ld mO_st mO_sta mO_nilchk mO_bin mO_binb mO_binp mO_bins mO_neg mO_com mO_not mO_conv mO_mk mO_mk0 mO_mkB mO_s2b mO_b2s mO_cpy mO_cut mO_faddr mO_fld mO_iaddr mO_iaddrf mO_sidx mO_len mO_lenf mO_slen mO_scut mO_app mO_ext mO_mx mO_mn mO_mkfn evalOp cutOp argsE ev getE putE cellsOf adopt rowOf binV boolV nilV ar_add ar_sub ar_mul ar_quo ar_rem ar_eq ar_ne ar_lt ar_le ar_gt ar_ge ar_and ar_or ar_xor geto bound finRet finNrm ints List.length_cons List.length_nil List.length_append List.getElem?_cons_zero List.getElem?_cons_succ List.nil_append List.cons_append List.map_cons List.map_nil List.mapM_cons List.mapM_nil Option.map_some Option.map_none Option.bind_some Option.pure_def Option.bind_eq_bind List.drop_zero or_self or_false false_or or_true true_or true_and and_true and_self decide_true decide_false Bool.false_eq_true Bool.true_eq_false Bool.not_true Bool.not_false Nat.le_refl eq_self gt_iff_lt ge_iff_le ne_eq not_true_eq_false not_false_eq_true storeOp apartOf freeze_nil refsL refs List.flatMap_cons List.flatMap_nil List.append_nil List.contains_nil List.set_cons_zero List.set_cons_succ snap snapL fill_nums flat_nums nums_length Go.V.freeze List.mapIdx_cons List.mapIdx_nil List.contains_cons Bool.or_false Bool.false_or Bool.or_true Bool.true_or
theorem nums_nil {k : IntKind} : nums k [] = [] := rfl
theorem c22_core {s s' : List Int} {A B : List Rat} {ch ch' : Bool} {lim : Int} {n w : Nat} (hs : ∀ d ∈ s, In64 d) (hs' : ∀ d ∈ s', In64 d) (hc : count s = some (A.length : Int)) (hc' : count s' = some (B.length : Int))
    (hl : A.length ≤ 60) (hl' : B.length ≤ 60) (hA : ∀ a ∈ A, Sz 134 a) (hB : ∀ a ∈ B, Sz 134 a) (hb : badA ch [] (A.map rR) = false) (hb' : badA ch' [] (B.map rR) = false)
    (hn : s.getD 0 1 = (n : Int)) (hw : prd (s.drop 1) = (w : Int)) (hnw : A.length = n * w) (hroom : roomE (s ++ s') = 0) (hlim : In64 lim) :
    Go.V.Call tab E 22 [.agg (arrX s ch [] (A.map rR)), .agg (arrX s' ch' [] (B.map rR)), .int .i64 lim] [] (.tup [.agg (if encB A B n w lim then arrX (s ++ s') false [] (encL A B n w) else noA), .int .i64 (if encB A B n w lim then 0 else 26)]) [] := by
  refine Go.V.Call.mach i22 c22 rfl rfl rfl rfl ?_
  have hl8 := (count_iff.2 (by rw [hc]; simp : count s ≠ none)).1
  have hl8' := (count_iff.2 (by rw [hc']; simp : count s' ≠ none)).1
  have h68 := c68_two (s := s) (t := []) (l := A.map rR) (ch := ch) (s' := s') (t' := []) (l' := B.map rR) (ch' := ch') (by simp) (by simp; omega) (by simp) (by simp; omega)
  rw [hb, hb'] at h68
  have h48 := c48_X (s := s) (t := []) (l := A.map rR) (ch := ch) (by omega)
  have h48' := c48_X (s := s') (t := []) (l := B.map rR) (ch := ch') (by omega)
  have h69 := c69_ok (L := [s, s']) (by simp) (by simp [lensum]; omega)
  have hin : ∀ d ∈ s ++ s', In64 d := fun d hd => (List.mem_append.1 hd).elim (hs d) (hs' d)
  have h70 := c70_ok (s := s ++ s') hin (by simp; omega)
  have h71 := c71_X (s := s) (t := []) (l := A.map rR) (ch := ch) hs (by rw [hc]; simp)
  have h55 := c55_X (s := s') (t := []) (l := B.map rR) (ch := ch') (by simp) (by simp; omega)
  rw [hn, hw] at h71
  rw [hroom] at h70
  have hcnt : count (s ++ s') = some ((n * w * B.length : Nat) : Int) := by
    rw [roomE] at hroom
    split at hroom
    · cases hroom
    · split at hroom
      · cases hroom
      · rename_i h
        cases hq : count (s ++ s') with
        | none => exact absurd hq h
        | some m =>
          rw [count_prd hq, prd_cat, ← count_prd hc, ← count_prd hc', hnw, ← Int.natCast_mul]
  have hrn : roomN (s ++ s') = ((n * w * B.length : Nat) : Int) := by
    rw [roomN, hcnt]
    have : ¬ 8 < (s ++ s').length := fun h => by rw [count, if_pos h] at hcnt; cases hcnt
    rw [if_neg this]; rfl
  rw [hrn] at h70
  have hall : n * w * B.length ≤ 3600 := by rw [← hnw]; exact Nat.le_trans (Nat.mul_le_mul hl hl') (by omega)
  simp only [rows, List.map_cons, List.map_nil, List.flatten_cons, List.flatten_nil, List.append_nil] at h69
  have hSl : (s ++ s').length = s.length + s'.length := by simp
  generalize s ++ s' = S at *
  have hLen : (encL A B n w).length = n * w * B.length := by simp [encL]
  have hEnc : ∀ Lc : List Rt, Lc.length = n * w * B.length → (∀ q, q < n * w * B.length → rtAt Lc q = xT (dAt A B n w q)) → Lc = encL A B n w := fun Lc h1 h2 => by
    apply List.ext_getElem? ; intro q
    by_cases hq : q < n * w * B.length
    · have := h2 q hq
      simp only [rtAt, List.getD] at this
      rw [List.getElem?_eq_getElem (by omega)] at this ⊢
      simp only [Option.getD_some] at this
      rw [this]
      simp [encL, hq]
    · rw [List.getElem?_eq_none (by omega), List.getElem?_eq_none (by omega)]
  have hsz : ∀ j k, Sz 134 (A.getD (k * w + j) 0) := fun j k => by
    by_cases h : k * w + j < A.length
    · simp only [List.getD, List.getElem?_eq_getElem h, Option.getD_some]; exact hA _ (List.getElem_mem h)
    · simp only [List.getD, List.getElem?_eq_none (show A.length ≤ k * w + j by omega), Option.getD_none]; exact Sz.zero (by omega)
  have hszB : ∀ i, Sz 134 (B.getD i 0) := fun i => by
    by_cases h : i < B.length
    · simp only [List.getD, List.getElem?_eq_getElem h, Option.getD_some]; exact hB _ (List.getElem_mem h)
    · simp only [List.getD, List.getElem?_eq_none (show B.length ≤ i by omega), Option.getD_none]; exact Sz.zero (by omega)
  have hpickA : ∀ q : Nat, q < A.length → pickR (A.map rR) (q : Int) = rR (A.getD q 0) := fun q h => pick_map h
  have hpickB : ∀ q : Nat, q < B.length → pickR (B.map rR) (q : Int) = rR (B.getD q 0) := fun q h => pick_map h
  have hrat := fun k : Int => c62_ok (s := s) (t := []) (l := A.map rR) (ch := ch) (k := k) (by simp; omega)
  have hratB := fun k : Int => c62_ok (s := s') (t := []) (l := B.map rR) (ch := ch') (k := k) (by simp; omega)
  have h64 := fun (Lc : List Rt) (h : Lc.length = n * w * B.length) => c64_X (s := S) (l := Lc) hin (by omega) (by omega)
  have hfits : fits S (n * w * B.length) = true := by rw [fits, hcnt]; simp
  have hw63 : (w : Int) ≤ 4096 := by
    rw [← hw]; exact (count_parts (s := s) (by rw [hc]; simp) 1).2.2.2.2.2
  clear hb hb' hA hB hc hc' hs hs' hrn hroom hin
  simp only [arrX, runes, List.cons_append, List.nil_append, List.length_map, List.length_nil, nums_nil, Nat.zero_add] at h68 h48 h48' h71 h55 hrat hratB h64
  simp only [c22, arrX, runes, List.length_map, List.length_nil, nums_nil, go_sem, FL, subA5, List.flatten_cons, List.flatten_nil, Option.getD_some, List.append_nil]
  refine goR h68 rfl ?_
  simp only [go_sem, FL, subA5, Bool.or_self, Bool.not_false]
  refine goP h48 ?_
  simp only [go_sem, FL, subA5]
  refine goP h48' ?_
  simp only [go_sem, FL, subA5, List.flatten_cons, List.flatten_nil, Option.getD_some, List.append_nil]
  refine goF h69 ?_
  simp only [go_sem, FL, subA5]
  refine goP h70 ?_
  simp only [go_sem, FL, subA5, bne_self_eq_false]
  refine goP h71 ?_
  have z0 : (0 : Int) ≤ ((n * w * B.length : Nat) : Int) := by omega
  have z1 : 56 * (n * w * B.length) ≤ 140737488355328 := by omega
  have z2 : ((n * w * B.length : Nat) : Int) ≤ 140737488355328 := by omega
  simp only [go_sem, FL, subA5, z0, z1, z2, Int.toNat_natCast, rts_zero]
  have hok := encB_iff (A := A) (B := B) (n := n) (w := w) (lim := lim)
  refine mLoop (fun N st => ∃ (j : Nat) (Lc : List Rt), j ≤ w ∧ N = w - j ∧ Lc.length = n * w * B.length ∧ (∀ q, q < n * w * B.length → q / B.length % w < j → rtAt Lc q = xT (dAt A B n w q) ∧ (rlimbs (xT (dAt A B n w q)) : Int) ≤ lim) ∧
    st = ⟨[(2, .int .i64 lim), (3, .loc 0 0 0), (4, .loc 1 0 0), (6, .loc 5 0 0), (8, ints S), (11, .int .i64 w), (12, .int .i64 n), (14, .arr 8 0), (54, .int .i64 w), (55, .int .i64 j)],
      [⟨true, 35, 5, 0, 1, [ints s, .bool ch, .sl 0 1 [], .sl A.length 3 (rtsC (A.map rR)), .bool true], false⟩, ⟨true, 35, 5, 0, 1, [ints s', .bool ch', .sl 0 1 [], .sl B.length 3 (rtsC (B.map rR)), .bool true], false⟩,
       ⟨false, 3, 1, 0, 0, [], false⟩, ⟨false, 21, 1, 0, 0, [], false⟩, ⟨false, 98, 3, 0, 0, [], false⟩, ⟨true, 35, 5, 0, 1, [.arr 2 0, .bool false, .arr 3 0, .arr 4 0, .bool false], false⟩,
       ⟨false, 35, 5, 0, 2, [ints s, .bool ch, .sl 0 1 [], .sl A.length 3 (rtsC (A.map rR)), .bool true, ints s', .bool ch', .sl 0 1 [], .sl B.length 3 (rtsC (B.map rR)), .bool true], false⟩,
       ⟨false, 22, 1, 0, 2, [ints s, ints s'], true⟩, ⟨false, 98, 3, 0, n * w * B.length, rtsC Lc, false⟩]⟩) w ⟨_, rfl, 0, List.replicate (n * w * B.length) (false, 0, 0), by omega, by omega, by simp, fun q _ h => absurd h (by omega), rfl⟩ ?_
  rintro N s0 ⟨j, Lc, hj, rfl, hLc, hdone, rfl⟩
  by_cases hjw : j < w
  · have hjw' : (j : Int) < (w : Int) := by omega
    have hn60 : n ≤ 60 := Nat.le_trans (Nat.le_mul_of_pos_right n (show 0 < w by omega)) (by omega)
    have hj1 : IntKind.i64.wrap ((j : Int) + 1) = ((j + 1 : Nat) : Int) := by rw [wrap_i64 (by omega) (by omega)]; omega
    simp only [b22_0, go_sem, FL, subA5, hjw']
    refine goP h55 ?_
    simp only [go_sem, FL, subA5]
    refine mLoop (fun N st => ∃ (i : Nat) (Lc : List Rt), i ≤ B.length ∧ N = B.length - i ∧ Lc.length = n * w * B.length ∧
      (∀ q, q < n * w * B.length → (q / B.length % w < j ∨ q / B.length % w = j ∧ q % B.length < i) → rtAt Lc q = xT (dAt A B n w q) ∧ (rlimbs (xT (dAt A B n w q)) : Int) ≤ lim) ∧
      st = ⟨[(2, .int .i64 lim), (3, .loc 0 0 0), (4, .loc 1 0 0), (6, .loc 5 0 0), (8, ints S), (11, .int .i64 w), (12, .int .i64 n), (14, .arr 8 0), (15, .int .i64 j), (54, .int .i64 w), (55, .int .i64 j), (59, .int .i64 B.length), (60, .int .i64 i)],
        [⟨true, 35, 5, 0, 1, [ints s, .bool ch, .sl 0 1 [], .sl A.length 3 (rtsC (A.map rR)), .bool true], false⟩, ⟨true, 35, 5, 0, 1, [ints s', .bool ch', .sl 0 1 [], .sl B.length 3 (rtsC (B.map rR)), .bool true], false⟩,
         ⟨false, 3, 1, 0, 0, [], false⟩, ⟨false, 21, 1, 0, 0, [], false⟩, ⟨false, 98, 3, 0, 0, [], false⟩, ⟨true, 35, 5, 0, 1, [.arr 2 0, .bool false, .arr 3 0, .arr 4 0, .bool false], false⟩,
         ⟨false, 35, 5, 0, 2, [ints s, .bool ch, .sl 0 1 [], .sl A.length 3 (rtsC (A.map rR)), .bool true, ints s', .bool ch', .sl 0 1 [], .sl B.length 3 (rtsC (B.map rR)), .bool true], false⟩,
         ⟨false, 22, 1, 0, 2, [ints s, ints s'], true⟩, ⟨false, 98, 3, 0, n * w * B.length, rtsC Lc, false⟩]⟩) B.length ⟨_, rfl, 0, Lc, by omega, by omega, hLc, fun q hq h => hdone q hq (by omega), rfl⟩ ?_
    clear hdone hLc Lc
    rintro N s0 ⟨i, Lc, hi, rfl, hLc, hdone, rfl⟩
    by_cases hiB : i < B.length
    · have hiB' : (i : Int) < (B.length : Int) := by omega
      have hi1 : IntKind.i64.wrap ((i : Int) + 1) = ((i + 1 : Nat) : Int) := by rw [wrap_i64 (by omega) (by omega)]; omega
      have hn1 : IntKind.i64.wrap ((n : Int) - 1) = (n : Int) - 1 - ((0 : Nat) : Int) := by
        have : n ≤ 4096 ∨ w = 0 := by
          rcases Nat.eq_zero_or_pos w with h | h
          · exact .inr h
          · have := Nat.le_mul_of_pos_right n h
            exact .inl (by omega)
        rw [wrap_i64 (by omega) (by omega)]; omega
      have hx := hratB (i : Int)
      rw [hpickB i hiB] at hx
      simp only [rtC, ratG, us32] at hx
      simp only [b22_1, go_sem, FL, subA5, hiB']
      refine goP hx ?_
      simp only [go_sem, FL, subA5, rtC, ratG, us32, subT3, hn1]
      refine mLoop (fun N st => ∃ (m : Nat) (Lc : List Rt), m ≤ n ∧ N = n - m ∧ Lc.length = n * w * B.length ∧
        (∀ q, q < n * w * B.length → (q / B.length % w < j ∨ q / B.length % w = j ∧ (q % B.length < i ∨ q % B.length = i ∧ n - m ≤ q / B.length / w)) → rtAt Lc q = xT (dAt A B n w q) ∧ (rlimbs (xT (dAt A B n w q)) : Int) ≤ lim) ∧
        st = ⟨[(2, .int .i64 lim), (3, .loc 0 0 0), (4, .loc 1 0 0), (6, .loc 5 0 0), (8, ints S), (11, .int .i64 w), (12, .int .i64 n), (14, .arr 8 0), (15, .int .i64 j), (16, .int .i64 i), (17, .loc 11 0 0), (18, .int .i64 ((n : Int) - 1 - (m : Int))), (54, .int .i64 w), (55, .int .i64 j), (59, .int .i64 B.length), (60, .int .i64 i)],
          [⟨true, 35, 5, 0, 1, [ints s, .bool ch, .sl 0 1 [], .sl A.length 3 (rtsC (A.map rR)), .bool true], false⟩, ⟨true, 35, 5, 0, 1, [ints s', .bool ch', .sl 0 1 [], .sl B.length 3 (rtsC (B.map rR)), .bool true], false⟩,
           ⟨false, 3, 1, 0, 0, [], false⟩, ⟨false, 21, 1, 0, 0, [], false⟩, ⟨false, 98, 3, 0, 0, [], false⟩, ⟨true, 35, 5, 0, 1, [.arr 2 0, .bool false, .arr 3 0, .arr 4 0, .bool false], false⟩,
           ⟨false, 35, 5, 0, 2, [ints s, .bool ch, .sl 0 1 [], .sl A.length 3 (rtsC (A.map rR)), .bool true, ints s', .bool ch', .sl 0 1 [], .sl B.length 3 (rtsC (B.map rR)), .bool true], false⟩,
           ⟨false, 22, 1, 0, 2, [ints s, ints s'], true⟩, ⟨false, 98, 3, 0, n * w * B.length, rtsC Lc, false⟩, ⟨false, 191, 1, 0, 0, [], false⟩, ⟨false, 191, 1, 0, 0, [], false⟩,
           ⟨true, 98, 3, 0, 1, rtC (xT (stp (fun k => A.getD (k * w + j) 0) n (some (B.getD i 0)) m)), false⟩]⟩) n
        ⟨_, rfl, 0, Lc, by omega, by omega, hLc, fun q hq h => hdone q hq (by
          rcases h with h | ⟨h1, h | ⟨h2, h3⟩⟩
          · exact .inl h
          · exact .inr ⟨h1, h⟩
          · exfalso
            have : q / B.length / w < n := by
              rw [Nat.div_div_eq_div_mul]
              exact Nat.div_lt_of_lt_mul (by rw [Nat.mul_comm, Nat.mul_comm B.length, ← Nat.mul_assoc]; exact hq)
            omega), rfl⟩ ?_
      clear hdone hLc Lc hx
      rintro N s0 ⟨m, Lc, hm, rfl, hLc, hdone, rfl⟩
      by_cases hmn : m < n
      · obtain ⟨k, hk⟩ : ∃ k, k = n - 1 - m := ⟨_, rfl⟩
        have hk' : (n : Int) - 1 - (m : Int) = (k : Int) := by omega
        have hk0 : (0 : Int) ≤ (k : Int) := by omega
        have hkn : k < n := by omega
        have hkw : k * w + j < n * w := by
          have : (k + 1) * w ≤ n * w := Nat.mul_le_mul_right _ hkn
          rw [Nat.add_mul, Nat.one_mul] at this
          omega
        have hq : (k * w + j) * B.length + i < n * w * B.length := by
          have : (k * w + j + 1) * B.length ≤ n * w * B.length := Nat.mul_le_mul_right _ hkw
          rw [Nat.add_mul, Nat.one_mul] at this
          omega
        have g1 : IntKind.i64.wrap ((k : Int) * (w : Int)) = ((k * w : Nat) : Int) := by rw [← Int.natCast_mul, wrap_i64 (by omega) (by omega)]
        have g2 : IntKind.i64.wrap (((k * w : Nat) : Int) + (j : Int)) = ((k * w + j : Nat) : Int) := by rw [← Int.natCast_add, wrap_i64 (by omega) (by omega)]
        have g3 : IntKind.i64.wrap (((k * w + j : Nat) : Int) * (B.length : Int)) = (((k * w + j) * B.length : Nat) : Int) := by rw [← Int.natCast_mul, wrap_i64 (by omega) (by omega)]
        have g4 : IntKind.i64.wrap ((((k * w + j) * B.length : Nat) : Int) + (i : Int)) = (((k * w + j) * B.length + i : Nat) : Int) := by rw [← Int.natCast_add, wrap_i64 (by omega) (by omega)]
        have g5 : (0 : Int) ≤ (((k * w + j) * B.length + i : Nat) : Int) := by omega
        have g6 : (((k * w + j) * B.length + i : Nat) : Int) < ((n * w * B.length : Nat) : Int) := by omega
        have g7 : IntKind.i64.wrap ((k : Int) - 1) = (n : Int) - 1 - ((m + 1 : Nat) : Int) := by rw [wrap_i64 (by omega) (by omega)]; omega
        obtain ⟨d1, d2, d3⟩ := dec3 (w := w) (len := B.length) (k := k) hjw hiB
        have hq3 : (k * w + j) * B.length + i < Lc.length := by omega
        have hdA : dAt A B n w ((k * w + j) * B.length + i) = dg (A.getD (k * w + j) 0) (stp (fun k => A.getD (k * w + j) 0) n (some (B.getD i 0)) m) := by
          rw [dAt, d1, d2, d3, dgt, show n - 1 - k = m by omega]
        have hlt3 : ((k * w + j) * B.length + i) * 3 + 3 ≤ (rtsC Lc).length := by rw [show (rtsC Lc).length = Lc.length * 3 from flat_len (fun _ => rfl)]; omega
        have hfill := fill_rts (z := xT (dg (A.getD (k * w + j) 0) (stp (fun k => A.getD (k * w + j) 0) n (some (B.getD i 0)) m))) hq3
        have hby := hrat ((k * w + j : Nat) : Int)
        rw [hpickA _ (by omega)] at hby
        have sx := Sz.stp (x := some (B.getD i 0)) (n := n) (hszB i) (hsz j) m
        have sb := hsz j k
        have hnxt : stp (fun k => A.getD (k * w + j) 0) n (some (B.getD i 0)) (m + 1) = nx (A.getD (k * w + j) 0) (stp (fun k => A.getD (k * w + j) 0) n (some (B.getD i 0)) m) := by rw [stp, ← hk]
        have hm60 : m ≤ 60 := by
          have : n ≤ n * w := Nat.le_mul_of_pos_right n (by omega)
          omega
        generalize hxx : stp (fun k => A.getD (k * w + j) 0) n (some (B.getD i 0)) m = x at *
        have sd : Sz (2 * (134 + (134 + 1) * m) + 2 * 134 + 2) (xV (dg (A.getD (k * w + j) 0) x)) := by rw [xV_dg]; exact (sx.rest sb).mono (by omega)
        have k72 := c72_ok (E := I.E) (x := xT x) (y := rR (A.getD (k * w + j) 0)) xRV RV.self sx sb (by omega)
        rw [← xT_dg] at k72
        have k73 := c73_ok (E := I.E) (x := xT (dg (A.getD (k * w + j) 0) x))
        have k75 := c75_ok (E := I.E) (x := xT (dg (A.getD (k * w + j) 0) x)) xRV
        have k74 := c74_ok (E := I.E) (x := xT x) (y := rR (-(xV (dg (A.getD (k * w + j) 0) x)))) xRV RV.self sx sd.neg (by omega)
        have k76 := fun h0 => c76_ok (E := I.E) (x := rR (xV x + -(xV (dg (A.getD (k * w + j) 0) x)))) (y := rR (A.getD (k * w + j) 0)) RV.self RV.self (sx.add sd.neg) sb h0 (by omega)
        have k76z := fun h0 : A.getD (k * w + j) 0 = 0 => c76_zero (E := I.E) (x := rR (xV x + -(xV (dg (A.getD (k * w + j) 0) x)))) (y := rR (A.getD (k * w + j) 0)) RV.self (by rw [h0]; exact RV.self) (sx.add sd.neg) (by omega)
        have hnxv := fun h0 => nx_eq (b := A.getD (k * w + j) 0) (x := x) h0
        have hnx0 : A.getD (k * w + j) 0 = 0 → nx (A.getD (k * w + j) 0) x = none := fun h0 => by rw [nx, if_pos h0]
        clear hxx sx sb sd hpickA hpickB hsz hszB hrat hratB
        generalize A.getD (k * w + j) 0 = b at *
        simp only [rtC, ratG, us32] at hby k72 k73 k75 k74 k76 k76z hfill
        simp only [b22_2, hk', rtC, ratG, us32, subT3, go_sem, FL, subA5, hk0, g1, g2, g3, g4]
        refine goP hby ?_
        simp only [go_sem, FL, subA5, rtC, ratG, us32, subT3]
        refine goF k72 ?_
        simp only [go_sem, FL, subA5, rtC, ratG, us32, subT3]
        refine goR k73 rfl ?_
        by_cases hlimb : (rlimbs (xT (dg b x)) : Int) ≤ lim
        · have hl' : ¬ lim < ((rlimbs (xT (dg b x)) : Nat) : Int) := by omega
          simp only [go_sem, FL, subA5, rtC, ratG, us32, subT3, hl', g1, g2]
          refine goP h55 ?_
          simp only [go_sem, subA5, rtC, ratG, us32, subT3, g3, g4, g5, g6, Int.toNat_natCast, hlt3, hfill]
          refine goF k75 ?_
          simp only [go_sem, FL, subA5, rtC, ratG, us32, subT3, List.flatten_cons, List.flatten_nil, Option.getD_some, List.append_nil]
          refine goP k74 ?_
          simp only [go_sem, FL, subA5, rtC, ratG, us32, subT3]
          have hnew : (Lc.set ((k * w + j) * B.length + i) (xT (dg b x))).length = n * w * B.length ∧ (∀ q, q < n * w * B.length → (q / B.length % w < j ∨ q / B.length % w = j ∧ (q % B.length < i ∨ q % B.length = i ∧ n - (m + 1) ≤ q / B.length / w)) → rtAt (Lc.set ((k * w + j) * B.length + i) (xT (dg b x))) q = xT (dAt A B n w q) ∧ (rlimbs (xT (dAt A B n w q)) : Int) ≤ lim) := by
            refine ⟨by rw [List.length_set]; exact hLc, fun q hq' h => ?_⟩
            rw [rtAt_set hq3]
            by_cases he : q = (k * w + j) * B.length + i
            · rw [if_pos he, he, hdA]; exact ⟨rfl, hlimb⟩
            · rw [if_neg he]
              refine hdone q hq' ?_
              rcases h with h | ⟨h1, h | ⟨h2, h3⟩⟩
              · exact .inl h
              · exact .inr ⟨h1, .inl h⟩
              · refine .inr ⟨h1, .inr ⟨h2, ?_⟩⟩
                by_cases hc : q / B.length / w = k
                · exfalso; apply he
                  rw [← enc3 (w := w) (len := B.length) (q := q), h1, h2, hc]
                · omega
          obtain ⟨hn1', hn2'⟩ := hnew
          generalize Lc.set ((k * w + j) * B.length + i) (xT (dg b x)) = Lc2 at *
          by_cases h0 : b = 0
          · refine goF (k76z h0) ?_
            simp only [go_sem, FL, subA5, rtC, ratG, us32, subT3, g7]
            refine loopQ_go rfl (n - (m + 1)) (by omega) ⟨m + 1, Lc2, by omega, rfl, hn1', hn2', ?_⟩
            rw [hnxt, hnx0 h0]; simp only [xT, limG_zero]; rfl
          · refine goF (k76 h0) ?_
            simp only [go_sem, FL, subA5, rtC, ratG, us32, subT3, g7]
            refine loopQ_go rfl (n - (m + 1)) (by omega) ⟨m + 1, Lc2, by omega, rfl, hn1', hn2', ?_⟩
            rw [hnxt, hnxv h0]; rfl
        · have hl' : lim < ((rlimbs (xT (dg b x)) : Nat) : Int) := by omega
          have hbad : encB A B n w lim = false := by
            rw [← Bool.not_eq_true, hok]
            intro h
            exact hlimb (by rw [← hdA]; exact h _ hq)
          simp only [go_sem, FL, subA5, rtC, ratG, us32, subT3, hl', hbad]
          simp only [i22, OT, reduceIte, Nat.reduceEqDiff, subA5, noA]
      · have hmn' : (n : Int) - 1 - (m : Int) = -1 := by omega
        simp only [b22_2, k22_0, hmn', go_sem, FL, subA5, show ¬ (0 : Int) ≤ -1 by omega, hi1]
        refine loopQ_go rfl (B.length - (i + 1)) (by omega) ⟨i + 1, Lc, by omega, rfl, hLc, fun q hq h => hdone q hq ?_, rfl⟩
        rcases h with h | ⟨h1, h⟩
        · exact .inl h
        · refine .inr ⟨h1, ?_⟩
          by_cases hc : q % B.length < i
          · exact .inl hc
          · exact .inr ⟨by omega, by rw [show n - m = 0 by omega]; exact Nat.zero_le _⟩
    · have hiB' : ¬ (i : Int) < (B.length : Int) := by omega
      obtain rfl : i = B.length := by omega
      simp only [b22_1, k22_1, go_sem, FL, subA5, Int.lt_irrefl, hj1]
      refine loopQ_go rfl (w - (j + 1)) (by omega) ⟨j + 1, Lc, by omega, rfl, hLc, fun q hq h => hdone q hq ?_, rfl⟩
      by_cases hc : q / B.length % w < j
      · exact .inl hc
      · refine .inr ⟨by omega, Nat.mod_lt _ ?_⟩
        rcases Nat.eq_zero_or_pos B.length with h0 | h0
        · rw [h0, Nat.mul_zero] at hq; omega
        · exact h0
  · obtain rfl : j = w := by omega
    have hall' : ∀ q, q < n * j * B.length → q / B.length % j < j := fun q hq => Nat.mod_lt _ (by
      rcases Nat.eq_zero_or_pos j with h0 | h0
      · subst h0; simp at hq
      · exact h0)
    have hgood : encB A B n j lim = true := hok.2 fun q hq => (hdone q hq (hall' q hq)).2
    obtain rfl : Lc = encL A B n j := hEnc Lc hLc fun q hq => (hdone q hq (hall' q hq)).1
    have hk64 := h64 _ hLc
    rw [hLc, hfits, if_pos rfl] at hk64
    simp only [b22_0, k22_2, go_sem, FL, subA5, Int.lt_irrefl]
    refine goF hk64 ?_
    simp only [go_sem, FL, subA5]
    simp only [i22, OT, reduceIte, Nat.reduceEqDiff, subA5, hgood, hLc]
end Go.Proofs.YtlejgleocnemoaaGreat.I

namespace Go.Proofs.YtlejgleocnemoaaGreat.I
open Go Go.V
attribute [local go_sem] mNil nat0 beq_self_eq_true mSkip mRet mExit mReg mSeq mCond mTrue mFalse mBlock mLv mCodeE mCodeR mEndN mEndR mEndE mOps mSome mGuard mGtt mGff mGtf mGft mGu mCallP mCallR mCallF mCallO mCallZ mCallG mCallM mCallV loopQ_exit loopQ_ret mO_mov mO_newnil mO_pick mO_alloc mO_box mO_build mO_bsl mO_bslF mO_newnilB mO_bslB mO_lenB mO_appB mO_allocA mO_bslA mO_appA mO_ldb mO_faddrb mRsv mO_ldf mO_ld mO_st mO_sta mO_nilchk mO_bin mO_binb mO_binp mO_bins mO_neg mO_com mO_not mO_conv mO_mk mO_mk0 mO_mkB mO_s2b mO_b2s mO_cpy mO_cut mO_faddr mO_fld mO_iaddr mO_iaddrf mO_sidx mO_len mO_lenf mO_slen mO_scut mO_app mO_ext mO_mx mO_mn mO_mkfn evalOp cutOp argsE ev getE putE cellsOf adopt rowOf binV boolV nilV ar_add ar_sub ar_mul ar_quo ar_rem ar_eq ar_ne ar_lt ar_le ar_gt ar_ge ar_and ar_or ar_xor geto bound finRet finNrm ints List.length_cons List.length_nil List.length_append List.getElem?_cons_zero List.getElem?_cons_succ List.nil_append List.cons_append List.map_cons List.map_nil List.mapM_cons List.mapM_nil Option.map_some Option.map_none Option.bind_some Option.pure_def Option.bind_eq_bind List.drop_zero or_self or_false false_or or_true true_or true_and and_true and_self decide_true decide_false Bool.false_eq_true Bool.true_eq_false Bool.not_true Bool.not_false Nat.le_refl eq_self gt_iff_lt ge_iff_le ne_eq not_true_eq_false not_false_eq_true storeOp apartOf freeze_nil refsL refs List.flatMap_cons List.flatMap_nil List.append_nil List.contains_nil List.set_cons_zero List.set_cons_succ snap snapL fill_nums flat_nums nums_length Go.V.freeze List.mapIdx_cons List.mapIdx_nil List.contains_cons Bool.or_false Bool.false_or Bool.or_true Bool.true_or
def yv (b : List Int) (N : Int) : Nat → Int
  | 0 => N
  | m + 1 => yv b N m / b.getD (b.length - 1 - m) 0
end Go.Proofs.YtlejgleocnemoaaGreat.I

namespace Go.Proofs.YtlejgleocnemoaaGreat.I
open Go Go.V
attribute [local go_sem_proc ↓] reduceIte
attribute [local go_sem_proc] Nat.reduceEqDiff Nat.reduceAdd Nat.reduceMul Nat.reduceLeDiff Nat.reduceLT Int.reduceToNat Int.reduceLT Int.reduceLE reduceCtorEq Nat.reduceBEq
attribute [local go_sem] mNil nat0 beq_self_eq_true mSkip mRet mExit mReg mSeq mCond mTrue mFalse mBlock mLv mCodeE mCodeR mEndN mEndR mEndE mOps mSome mGuard mGtt mGff mGtf mGft mGu mCallP mCallR mCallF mCallO mCallZ mCallG mCallM mCallV loopQ_exit loopQ_ret mO_mov mO_newnil mO_pick mO_alloc mO_box mO_build mO_bsl mO_bslF mO_newnilB mO_bslB mO_lenB mO_appB mO_allocA mO_bslA mO_appA mO_ldb mO_faddrb mRsv mO_ldf mO_ld mO_st mO_sta mO_nilchk mO_bin mO_binb mO_binp mO_bins mO_neg mO_com mO_not mO_conv mO_mk mO_mk0 mO_mkB mO_s2b mO_b2s mO_cpy mO_cut mO_faddr mO_fld mO_iaddr mO_iaddrf mO_sidx mO_len mO_lenf mO_slen mO_scut mO_app mO_ext mO_mx mO_mn mO_mkfn evalOp cutOp argsE ev getE putE cellsOf adopt rowOf binV boolV nilV ar_add ar_sub ar_mul ar_quo ar_rem ar_eq ar_ne ar_lt ar_le ar_gt ar_ge ar_and ar_or ar_xor geto bound finRet finNrm ints List.length_cons List.length_nil List.length_append List.getElem?_cons_zero List.getElem?_cons_succ List.nil_append List.cons_append List.map_cons List.map_nil List.mapM_cons List.mapM_nil Option.map_some Option.map_none Option.bind_some Option.pure_def Option.bind_eq_bind List.drop_zero or_self or_false false_or or_true true_or true_and and_true and_self decide_true decide_false Bool.false_eq_true Bool.true_eq_false Bool.not_true Bool.not_false Nat.le_refl eq_self gt_iff_lt ge_iff_le ne_eq not_true_eq_false not_false_eq_true storeOp apartOf freeze_nil refsL refs List.flatMap_cons List.flatMap_nil List.append_nil List.contains_nil List.set_cons_zero List.set_cons_succ snap snapL fill_nums flat_nums nums_length Go.V.freeze List.mapIdx_cons List.mapIdx_nil List.contains_cons Bool.or_false Bool.false_or Bool.or_true Bool.true_or
def cmpJ (x y : Int) : Int := if x < y then -1 else if y < x then 1 else 0
def sgnJ (z : Int) : Int := if z = 0 then 0 else if z < 0 then -1 else 1
section
variable {E : CallRel}
theorem c202_ok {z : Int} : Go.V.Call tab E 202 [.agg (wdI z)] [] (.int .i64 (sgnJ z)) [] := by
  refine Go.V.Call.mach i202 c202 rfl rfl rfl rfl ?_
  have he : strOp .eq (dec z.natAbs) ⟨#[48]⟩ = some (.bool (decide (z.natAbs = 0))) := dec_eqB (b := 0)
  by_cases h0 : z = 0
  · subst h0
    have he' : strOp .eq (dec (Int.natAbs 0)) ⟨#[48]⟩ = some (.bool true) := he
    simp only [c202, wdI, wdC, go_sem, FL, subD0, subD1, he']
    simp only [i202, OT, reduceIte, Nat.reduceEqDiff, sgnJ, if_true]
  · rw [decide_eq_false (by omega)] at he
    by_cases h1 : z < 0
    · have hd : decide (z < 0) = true := decide_eq_true h1
      simp only [c202, wdI, wdC, hd, go_sem, FL, subD0, subD1, he]
      simp only [i202, OT, reduceIte, Nat.reduceEqDiff, sgnJ, h0, h1, if_true, if_false]
    · have hd : decide (z < 0) = false := decide_eq_false h1
      simp only [c202, wdI, wdC, hd, go_sem, FL, subD0, subD1, he]
      simp only [i202, OT, reduceIte, Nat.reduceEqDiff, sgnJ, h0, h1, if_false]
theorem c198_ok {a b : Int} : Go.V.Call tab E 198 [.agg (wdI a), .agg (wdI b)] [] (.int .i64 (cmpJ a b)) [] := by
  refine Go.V.Call.mach i198 c198 rfl rfl rfl rfl ?_
  have ha := c202_ok (E := E) (z := a)
  have hb := c202_ok (E := E) (z := b)
  have h1 := c185_ok (E := E) (a := a.natAbs) (b := b.natAbs)
  have h2 := c185_ok (E := E) (a := b.natAbs) (b := a.natAbs)
  simp only [wdI, wdC] at ha hb
  by_cases hs : sgnJ a = sgnJ b
  · have hne : (sgnJ a != sgnJ b) = false := by rw [hs, bne_self_eq_false]
    have hsd : ((a < 0 ↔ b < 0) ∧ (a = 0 ↔ b = 0)) := by
      unfold sgnJ at hs
      split at hs <;> split at hs <;> (try split at hs) <;> (try split at hs) <;> omega
    by_cases hn : a < 0
    · have hd : decide (a < 0) = true := decide_eq_true hn
      have hr : cmpJ a b = cmpZ b.natAbs a.natAbs := by unfold cmpJ cmpZ; split <;> split <;> (try split) <;> (try split) <;> omega
      rw [hr]
      simp only [hd] at ha
      simp only [c198, wdI, wdC, hd, go_sem, FL, subD0, subD1, subD2]
      refine goP ha ?_
      simp only [go_sem, FL, subD0, subD1, subD2]
      refine goP hb ?_
      simp only [go_sem, FL, subD0, subD1, subD2, hne]
      refine goP h2 ?_
      simp only [go_sem]
      simp only [i198, OT, reduceIte, Nat.reduceEqDiff]
    · have hd : decide (a < 0) = false := decide_eq_false hn
      have hr : cmpJ a b = cmpZ a.natAbs b.natAbs := by unfold cmpJ cmpZ; split <;> split <;> (try split) <;> (try split) <;> omega
      rw [hr]
      simp only [hd] at ha
      simp only [c198, wdI, wdC, hd, go_sem, FL, subD0, subD1, subD2]
      refine goP ha ?_
      simp only [go_sem, FL, subD0, subD1, subD2]
      refine goP hb ?_
      simp only [go_sem, FL, subD0, subD1, subD2, hne]
      refine goP h1 ?_
      simp only [go_sem]
      simp only [i198, OT, reduceIte, Nat.reduceEqDiff]
  · have hne : (sgnJ a != sgnJ b) = true := by rw [bne_iff_ne]; exact hs
    have hr : cmpJ a b = if sgnJ a < sgnJ b then -1 else 1 := by
      unfold cmpJ sgnJ at *
      split <;> (try split) <;> (try split) <;> (try split) <;> (try split) <;> (try split) <;> (try split) <;> (try split) <;> first | omega | (exfalso; apply hs; simp_all; done) | (simp_all; omega)
    rw [hr]
    by_cases hl : sgnJ a < sgnJ b
    · rw [if_pos hl]
      simp only [c198, wdI, wdC, go_sem, FL, subD0, subD1, subD2]
      refine goP ha ?_
      simp only [go_sem, FL, subD0, subD1, subD2]
      refine goP hb ?_
      simp only [go_sem, FL, subD0, subD1, subD2, hne]
      refine goP ha ?_
      simp only [go_sem, FL, subD0, subD1, subD2]
      refine goP hb ?_
      simp only [go_sem, hl]
      simp only [i198, OT, reduceIte, Nat.reduceEqDiff]
    · rw [if_neg hl]
      simp only [c198, wdI, wdC, go_sem, FL, subD0, subD1, subD2]
      refine goP ha ?_
      simp only [go_sem, FL, subD0, subD1, subD2]
      refine goP hb ?_
      simp only [go_sem, FL, subD0, subD1, subD2, hne]
      refine goP ha ?_
      simp only [go_sem, FL, subD0, subD1, subD2]
      refine goP hb ?_
      simp only [go_sem, hl]
      simp only [i198, OT, reduceIte, Nat.reduceEqDiff]
theorem wdI_minus {z : Int} : wdC (!decide (z < 0) && decide (z.natAbs ≠ 0)) z.natAbs = wdI (-z) := by
  have h1 : (-z).natAbs = z.natAbs := by omega
  rw [wdI, h1]
  congr 1
  by_cases h : z < 0
  · rw [decide_eq_true h, decide_eq_false (show ¬ -z < 0 by omega)]; rfl
  · rw [decide_eq_false h]
    by_cases h0 : z = 0
    · subst h0; rfl
    · rw [decide_eq_true (show z.natAbs ≠ 0 by omega), decide_eq_true (show -z < 0 by omega)]; rfl
theorem c199_ok {z : Int} (h : (decL z.natAbs).length ≤ 1000000000) : Go.V.Call tab E 199 [.agg (wdI z)] [] (.agg (wdI (-z))) [] := by
  refine Go.V.Call.mach i199 c199 rfl rfl rfl rfl ?_
  have h182 := c182_ok (E := E) (n := !decide (z < 0)) h
  rw [wdI_minus] at h182
  simp only [wdI, wdC] at h182
  simp only [c199, wdI, wdC, go_sem, FL, subD0, subD1, subD2]
  refine goP h182 ?_
  simp only [go_sem, FL, subD0, subD1, subD2]
  simp only [i199, OT, reduceIte, Nat.reduceEqDiff, subD2, wdI, wdC]
theorem wd_add {x y : Int} {k : Nat} (hx : (decL x.natAbs).length ≤ k) (hy : (decL y.natAbs).length ≤ k) (hk : k ≤ 500000) : Go.V.Call tab E 167 [.agg (wdI x), .agg (wdI y)] [] (.agg (wdI (x + y))) [] := by
  refine c167_ok (by omega) (by omega) ?_
  have h1 : (decL (x.natAbs + y.natAbs)).length ≤ (decL (10 * (max x.natAbs y.natAbs) + 0)).length ∨ max x.natAbs y.natAbs = 0 := by
    by_cases h : max x.natAbs y.natAbs = 0
    · exact .inr h
    · exact .inl (decL_mono (by omega))
  rcases h1 with h1 | h1
  · by_cases h : max x.natAbs y.natAbs = 0
    · have : x.natAbs + y.natAbs = 0 := by omega
      rw [this]; have := decL_digit (d := 0) (by omega); rw [this]; simp
    · rw [decL_ten h (by omega), List.length_append] at h1
      have hm : (decL (max x.natAbs y.natAbs)).length ≤ k := by
        rcases Nat.le_total x.natAbs y.natAbs with h | h
        · rw [Nat.max_eq_right h]; exact hy
        · rw [Nat.max_eq_left h]; exact hx
      simp at h1
      omega
  · have : x.natAbs + y.natAbs = 0 := by omega
    rw [this]; have := decL_digit (d := 0) (by omega); rw [this]; simp
theorem one_wd : [AV.bool true, AV.str ⟨#[49]⟩] = wdI (-1) := by
  rw [← dec_one]; rfl
theorem c181_ok {a : Int} {d k : Nat} (hd : d ≠ 0) (hk : 2 * k + 4 ≤ 400000) (hk1 : 1 ≤ k) (ha : a.natAbs < 2 ^ k) (hb : d < 2 ^ k) (hl : k ≤ 50000) :
    Go.V.Call tab E 181 [.agg (wdI a), .agg (wdI (d : Int))] [] (.tup [.agg (wdI (a / d)), .agg (wdI (a + -(a / d * d)))]) [] := by
  refine Go.V.Call.mach i181 c181 rfl rfl rfl rfl ?_
  have la := decL_two ha hk1
  have lb := decL_two hb hk1
  have h174 := c174_ok (E := E) (a := a.natAbs) (b := d) hd (by omega) (by omega)
  have hp := natAbs_parts (a := a) (d := d)
  have hrd : a.natAbs % d < d := Nat.mod_lt _ (by omega)
  have hqa : a.natAbs / d ≤ a.natAbs := Nat.div_le_self _ _
  generalize a.natAbs / d = q at *
  generalize a.natAbs % d = r at *
  have lq : (decL q).length ≤ k := Nat.le_trans (decL_mono hqa) la
  have wd : wdI (d : Int) = [.bool false, .str (dec d)] := by rw [wdI, wdC, show decide ((d : Int) < 0) = false from decide_eq_false (by omega)]; rfl
  have hof := fun n p (h : (decL p).length ≤ 1000000000) => c182_ok (E := E) (n := n) (p := p) h
  have bnd : ∀ z : Int, z.natAbs ≤ a.natAbs + 1 → z.natAbs < 2 ^ (k + 1) := fun z h => by rw [Nat.pow_succ]; omega
  have lz : ∀ z : Int, z.natAbs ≤ a.natAbs + 1 → (decL z.natAbs).length ≤ k + 1 := fun z h => decL_two (bnd z h) (by omega)
  have lzd : ∀ z : Int, z.natAbs ≤ a.natAbs + 1 → (decL (z * (d : Int)).natAbs).length ≤ 2 * k + 1 := fun z h => decL_two (by
    rw [Int.natAbs_mul, Int.natAbs_natCast]
    have := lt_mul_pow (bnd z h) hb
    rw [show 2 * k + 1 = k + 1 + k by omega]
    exact this) (by omega)
  have hmul := fun (z : Int) (h : z.natAbs ≤ a.natAbs + 1) => c164_ok (E := E) (a := z) (b := (d : Int)) (by have := lz z h; omega) (by rw [Int.natAbs_natCast]; omega) (by have := lzd z h; omega)
  have hneg := fun (z : Int) (h : z.natAbs ≤ a.natAbs + 1) => c199_ok (E := E) (z := z * (d : Int)) (by have := lzd z h; omega)
  have hadd := fun (z : Int) (h : z.natAbs ≤ a.natAbs + 1) => wd_add (E := E) (x := a) (y := -(z * (d : Int))) (k := 2 * k + 1) (by omega) (by rw [Int.natAbs_neg]; exact lzd z h) (by omega)
  have hcmp := fun (z : Int) => c198_ok (E := E) (a := z * (d : Int)) (b := a)
  have hdd : decide ((d : Int) < 0) = false := decide_eq_false (by omega)
  have fin : ∀ z : Int, z = a / (d : Int) → z.natAbs ≤ a.natAbs + 1 → ∀ env, getE env 2 = .loc 0 0 0 → getE env 3 = .loc 1 0 0 → getE env 4 = .loc 2 0 0 → getE env 5 = .loc 3 0 0 → getE env 8 = .loc 4 0 0 → Mach (Go.V.Call tab E) (Go.V.Fin i181 [] (.tup [.agg (wdI (a / (d : Int))), .agg (wdI (a + -(a / (d : Int) * (d : Int))))]) []) [.code k181_0] .nrm
      ⟨env, [⟨true, 164, 2, 0, 1, wdI a, false⟩, ⟨true, 164, 2, 0, 1, wdI (d : Int), false⟩, ⟨true, 164, 2, 0, 1, [.bool false, .str ⟨#[]⟩], false⟩, ⟨true, 164, 2, 0, 1, [.bool false, .str ⟨#[]⟩], false⟩, ⟨true, 164, 2, 0, 1, wdI z, false⟩]⟩ := fun z hz hz1 env e2 e3 e4 e5 e8 => by
    rw [← hz]
    have m1 := hmul z hz1
    have m2 := hneg z hz1
    have m3 := hadd z hz1
    generalize z * (d : Int) = y at *
    generalize a + -y = s at *
    simp only [wdI, wdC] at m1 m2 m3
    simp only [k181_0, wdI, wdC, e2, e3, e4, e5, e8, go_sem, FL, subD0, subD1, subD2]
    refine goP m1 ?_
    simp only [e2, e3, e4, e5, e8, go_sem, FL, subD0, subD1, subD2]
    refine goP m2 ?_
    simp only [e2, e3, e4, e5, e8, go_sem, FL, subD0, subD1, subD2]
    refine goP m3 ?_
    simp only [e2, e3, e4, e5, e8, go_sem, FL, subD0, subD1, subD2]
    simp only [i181, OT, reduceIte, Nat.reduceEqDiff, e4, e5, subD2, wdI, wdC]
  by_cases hneg0 : a < 0
  · have had : decide (a < 0) = true := decide_eq_true hneg0
    have k1 := hof true q (by omega)
    rw [wdI_neg] at k1
    have k2 := hof false d (by omega)
    rw [wdI_pos] at k2
    have k3 := hof true a.natAbs (by omega)
    rw [wdI_neg, show -((a.natAbs : Nat) : Int) = a by omega] at k3
    have hz0 : (-(q : Int)).natAbs ≤ a.natAbs + 1 := by omega
    have hstep := wd_add (E := E) (x := -(q : Int)) (y := -1) (k := k + 1) (lz _ hz0) (by rw [show (-1 : Int).natAbs = 1 from rfl, decL_digit (by omega)]; simp) (by omega)
    rw [← one_wd] at hstep
    have hw1 : IntKind.i64.wrap (0 + 1) = 1 := by decide
    have z02 : (0 : Int) < 2 := by omega
    have z12 : (1 : Int) < 2 := by omega
    have z01 : (0 : Int) < 1 := by omega
    have main : ∀ env0, getE env0 2 = .loc 0 0 0 → getE env0 3 = .loc 1 0 0 → getE env0 4 = .loc 2 0 0 → getE env0 5 = .loc 3 0 0 → getE env0 8 = .loc 4 0 0 → getE env0 9 = .int .i64 0 → ∀ z, z = -(q : Int) → Mach (Go.V.Call tab E) (Go.V.Fin i181 [] (.tup [.agg (wdI (a / (d : Int))), .agg (wdI (a + -(a / (d : Int) * (d : Int))))]) []) [.code (.loop [2, 3, 4, 5, 8, 9] (some (5, [])) b181_0), .endb 0, .code k181_0] .nrm
      ⟨env0, [⟨true, 164, 2, 0, 1, wdI a, false⟩, ⟨true, 164, 2, 0, 1, wdI (d : Int), false⟩, ⟨true, 164, 2, 0, 1, [.bool false, .str ⟨#[]⟩], false⟩, ⟨true, 164, 2, 0, 1, [.bool false, .str ⟨#[]⟩], false⟩, ⟨true, 164, 2, 0, 1, wdI z, false⟩]⟩ := fun env0 e2 e3 e4 e5 e8 e9 z hz => by
      subst hz
      refine mLoop (fun N st => ∃ (i : Nat) (z : Int), (i = 0 ∧ z = -(q : Int) ∨ i = 1 ∧ r ≠ 0 ∧ z = -(q : Int) + -1) ∧ N = 1 - i ∧ st = ⟨[(2, .loc 0 0 0), (3, .loc 1 0 0), (4, .loc 2 0 0), (5, .loc 3 0 0), (8, .loc 4 0 0), (9, .int .i64 i)], [⟨true, 164, 2, 0, 1, wdI a, false⟩, ⟨true, 164, 2, 0, 1, wdI (d : Int), false⟩, ⟨true, 164, 2, 0, 1, [.bool false, .str ⟨#[]⟩], false⟩, ⟨true, 164, 2, 0, 1, [.bool false, .str ⟨#[]⟩], false⟩, ⟨true, 164, 2, 0, 1, wdI z, false⟩]⟩) 1 ⟨⟨[(2, .loc 0 0 0), (3, .loc 1 0 0), (4, .loc 2 0 0), (5, .loc 3 0 0), (8, .loc 4 0 0), (9, .int .i64 ((0 : Nat) : Int))], [⟨true, 164, 2, 0, 1, wdI a, false⟩, ⟨true, 164, 2, 0, 1, wdI (d : Int), false⟩, ⟨true, 164, 2, 0, 1, [.bool false, .str ⟨#[]⟩], false⟩, ⟨true, 164, 2, 0, 1, [.bool false, .str ⟨#[]⟩], false⟩, ⟨true, 164, 2, 0, 1, wdI (-(q : Int)), false⟩]⟩, ?_, 0, _, .inl ⟨rfl, rfl⟩, rfl, rfl⟩ ?_
      · simp only [headOf, List.map_cons, List.map_nil, e2, e3, e4, e5, e8, e9, wdI, wdC]
        rfl
      rintro N s0 ⟨i, z, hi, rfl, rfl⟩
      have hzz : z.natAbs ≤ a.natAbs + 1 := by
        rcases hi with ⟨_, rfl⟩ | ⟨_, hr0, rfl⟩
        · omega
        · have : q + 1 ≤ a.natAbs + 1 := by omega
          omega
      have m1 := hmul z hzz
      have m2 := hcmp z
      have hi2 : (i : Int) < 2 := by rcases hi with ⟨rfl, _⟩ | ⟨rfl, _⟩ <;> omega
      by_cases hgt : a < z * (d : Int)
      · have hc : cmpJ (z * (d : Int)) a = 1 := by unfold cmpJ; rw [if_neg (by omega), if_pos hgt]
        rw [hc] at m2
        rcases hi with ⟨rfl, rfl⟩ | ⟨rfl, hr0, rfl⟩
        · have hr0 : r ≠ 0 := fun h => by subst h; rw [Int.neg_mul, Int.mul_comm] at hgt; omega
          obtain ⟨z1, hz1⟩ : ∃ z1, z1 = -(q : Int) + -1 := ⟨_, rfl⟩
          rw [← hz1] at hstep
          clear k1 hmul hneg hadd hcmp fin lz lzd bnd hof
          generalize hz0' : -(q : Int) = z0 at *
          generalize z0 * (d : Int) = y at *
          simp only [wdI, wdC, hdd, had, Int.natAbs_natCast] at m1 m2 k2 k3 hstep
          simp only [b181_0, wdI, wdC, hdd, had, Int.natAbs_natCast, z02, go_sem, FL, subD0, subD1, subD2]
          refine goP k2 ?_
          simp only [go_sem, FL, subD0, subD1, subD2]
          refine goP m1 ?_
          simp only [go_sem, FL, subD0, subD1, subD2, show (!(true == false)) = true from rfl]
          refine goP k3 ?_
          simp only [go_sem, FL, subD0, subD1, subD2]
          refine goP m2 ?_
          simp only [go_sem, FL, subD0, subD1, subD2, z01]
          refine goP hstep ?_
          simp only [go_sem, FL, subD0, subD1, subD2, hw1]
          exact loopQ_go rfl 0 (by omega) ⟨1, z1, .inr ⟨rfl, hr0, by rw [hz1]⟩, rfl, by simp only [wdI, wdC, hdd, had, Int.natAbs_natCast]; rfl⟩
        · exfalso
          rw [Int.add_mul, Int.neg_mul, Int.neg_mul, Int.one_mul, Int.mul_comm] at hgt
          omega
      · have hc : ¬ (0 : Int) < cmpJ (z * (d : Int)) a := by unfold cmpJ; split <;> (try split) <;> omega
        have hzq : z = a / (d : Int) := by
          rcases hi with ⟨_, rfl⟩ | ⟨_, hr0, rfl⟩
          · by_cases hr0 : r = 0
            · exact (fl_neg0 (a := a) (d := d) (q := q) (by omega) (by omega)).1.symm
            · exfalso; apply hgt; rw [Int.neg_mul, Int.mul_comm]; omega
          · have := (fl_neg (a := a) (d := d) (q := q) (r := r) (by omega) (by omega) (by omega) hr0).1
            rw [this]; omega
        have hfin := fin z hzq hzz
        generalize cmpJ (z * (d : Int)) a = cc at *
        generalize z * (d : Int) = y at *
        clear k1 hmul hneg hadd hcmp fin lz lzd bnd hof hstep
        simp only [wdI, wdC, hdd, had, Int.natAbs_natCast] at m1 m2 k2 k3 hfin
        simp only [b181_0, wdI, wdC, hdd, had, Int.natAbs_natCast, hi2, go_sem, FL, subD0, subD1, subD2]
        refine goP k2 ?_
        simp only [go_sem, FL, subD0, subD1, subD2]
        refine goP m1 ?_
        simp only [go_sem, FL, subD0, subD1, subD2, show (!(true == false)) = true from rfl]
        refine goP k3 ?_
        simp only [go_sem, FL, subD0, subD1, subD2]
        refine goP m2 ?_
        simp only [go_sem, FL, subD0, subD1, subD2, hc]
        exact hfin _ rfl rfl rfl rfl rfl
    clear hmul hneg hadd hcmp fin lz lzd bnd hof hstep k2 k3
    have hmain := fun env h2 h3 h4 h5 h8 h9 => main env h2 h3 h4 h5 h8 h9 _ rfl
    clear main
    generalize hz0' : -(q : Int) = z0 at *
    simp only [wdI, wdC, hdd, had, Int.natAbs_natCast] at k1 hmain
    simp only [c181, wdI, wdC, hdd, had, Int.natAbs_natCast, go_sem, FL, subD0, subD1, subD2]
    refine goP h174 ?_
    simp only [go_sem, FL, subD0, subD1, subD2, show (!(true == false)) = true from rfl]
    refine goP k1 ?_
    by_cases hs : z0 < 0
    · simp only [go_sem, FL, subD0, subD1, subD2, show (!(true == false)) = true from rfl, decide_eq_true hs] at hmain ⊢
      exact hmain _ rfl rfl rfl rfl rfl rfl
    · simp only [go_sem, FL, subD0, subD1, subD2, show (!(true == false)) = true from rfl, decide_eq_false hs] at hmain ⊢
      exact hmain _ rfl rfl rfl rfl rfl rfl
  · have had : decide (a < 0) = false := decide_eq_false hneg0
    have k1 := hof false q (by omega)
    rw [wdI_pos] at k1
    have hfin := fin (q : Int) (fl_pos (a := a) (d := d) (q := q) (r := r) (by omega) (by omega) (by omega)).1.symm (by omega)
    have hqq : decide ((q : Int) < 0) = false := decide_eq_false (by omega)
    clear hmul hneg hadd hcmp fin lz lzd bnd hof
    simp only [wdI, wdC, hdd, had, hqq, Int.natAbs_natCast] at k1 hfin
    simp only [c181, wdI, wdC, hdd, had, hqq, Int.natAbs_natCast, go_sem, FL, subD0, subD1, subD2]
    refine goP h174 ?_
    simp only [go_sem, FL, subD0, subD1, subD2, show (!(false == false)) = false from rfl]
    refine goP k1 ?_
    simp only [go_sem, FL, subD0, subD1, subD2, show (!(false == false)) = false from rfl]
    exact hfin _ rfl rfl rfl rfl rfl
end
def Sd (i j : Nat) (r : Rat) : Prop := r.num.natAbs < 2 ^ i ∧ r.den < 2 ^ j
theorem Sd.mono {i j i' j' : Nat} {r : Rat} (h : Sd i j r) (hi : i ≤ i') (hj : j ≤ j') : Sd i' j' r := ⟨Nat.lt_of_lt_of_le h.1 (Nat.pow_le_pow_right (by omega) hi), Nat.lt_of_lt_of_le h.2 (Nat.pow_le_pow_right (by omega) hj)⟩
theorem Sd.of {a b : Int} {i j : Nat} (h1 : a.natAbs < 2 ^ i) (h2 : b.natAbs < 2 ^ j) (hb : b ≠ 0) : Sd i j (Rat.divInt a b) := by
  obtain ⟨p1, p2, _⟩ := divInt_parts (a := a) hb
  exact ⟨by rw [p1]; exact Nat.lt_of_le_of_lt (Nat.div_le_self _ _) h1, by rw [p2]; exact Nat.lt_of_le_of_lt (Nat.div_le_self _ _) h2⟩
theorem Sd.neg {a : Rat} {i j : Nat} (ha : Sd i j a) : Sd i j (-a) := by
  unfold Sd
  rw [Rat.neg_num, Rat.neg_den, Int.natAbs_neg]
  exact ha
theorem Sd.mul {a b : Rat} {i j i' j' : Nat} (ha : Sd i j a) (hb : Sd i' j' b) : Sd (i + i') (j + j') (a * b) := by
  rw [← mul_divInt]
  exact Sd.of (by rw [Int.natAbs_mul]; exact lt_mul_pow ha.1 hb.1) (by rw [Int.natAbs_mul, Int.natAbs_natCast, Int.natAbs_natCast]; exact lt_mul_pow ha.2 hb.2) den_mul_ne
theorem Sd.div {a b : Rat} {i j i' j' : Nat} (ha : Sd i j a) (hb : Sd i' j' b) (h0 : b ≠ 0) : Sd (i + j') (j + i') (a / b) := by
  rw [← div_divInt]
  exact Sd.of (by rw [Int.natAbs_mul, Int.natAbs_natCast]; exact lt_mul_pow ha.1 hb.2) (by rw [Int.natAbs_mul, Int.natAbs_natCast]; exact lt_mul_pow ha.2 hb.1) (Int.mul_ne_zero (by have := a.den_nz; omega) (rnum_ne h0))
theorem Sd.add {a b : Rat} {i j i' j' k : Nat} (ha : Sd i j a) (hb : Sd i' j' b) (h1 : i + j' + 1 ≤ k) (h2 : i' + j + 1 ≤ k) : Sd k (j + j') (a + b) := by
  rw [← add_divInt]
  refine Sd.of ?_ (by rw [Int.natAbs_mul, Int.natAbs_natCast, Int.natAbs_natCast]; exact lt_mul_pow ha.2 hb.2) den_mul_ne
  have e1 : (a.num * b.den).natAbs < 2 ^ (i + j') := by rw [Int.natAbs_mul, Int.natAbs_natCast]; exact lt_mul_pow ha.1 hb.2
  have e2 : (b.num * a.den).natAbs < 2 ^ (i' + j) := by rw [Int.natAbs_mul, Int.natAbs_natCast]; exact lt_mul_pow hb.1 ha.2
  have p1 := Nat.pow_le_pow_right (n := 2) (by omega) (show i + j' ≤ k - 1 by omega)
  have p2 := Nat.pow_le_pow_right (n := 2) (by omega) (show i' + j ≤ k - 1 by omega)
  have p3 : 2 ^ k = 2 ^ (k - 1) * 2 := by rw [← Nat.pow_succ]; congr 1; omega
  have := Int.natAbs_add_le (a.num * b.den) (b.num * a.den)
  omega
theorem Sd.int {z : Int} {k : Nat} (h : z.natAbs < 2 ^ k) : Sd k 1 (z : Rat) := ⟨by rw [Rat.num_intCast]; exact h, by rw [Rat.den_intCast]; decide⟩
theorem flr_lt2 {r : Rat} {k : Nat} (h : r.num.natAbs < 2 ^ k) : (flr r).natAbs < 2 ^ (k + 1) := by
  have hd := r.den_nz
  have h1 : flr r * (r.den : Int) ≤ r.num := Int.ediv_mul_le _ (by omega)
  have h2 : r.num < (flr r + 1) * (r.den : Int) := Int.lt_ediv_add_one_mul_self _ (by omega)
  have hp : 0 < 2 ^ k := Nat.pow_pos (by omega)
  rw [Nat.pow_succ]
  generalize flr r = f at *
  have hd1 : (1 : Int) ≤ (r.den : Int) := by omega
  by_cases hf : 0 ≤ f
  · have : f * 1 ≤ f * (r.den : Int) := Int.mul_le_mul_of_nonneg_left hd1 hf
    omega
  · have h3 : (-(f + 1)) * 1 ≤ (-(f + 1)) * (r.den : Int) := Int.mul_le_mul_of_nonneg_left hd1 (by omega)
    have h4 : (-(f + 1)) * (r.den : Int) = -((f + 1) * (r.den : Int)) := Int.neg_mul _ _
    omega
section
variable {E : CallRel}
theorem lenD {n i : Nat} (h : n < 2 ^ i) : (decL n).length ≤ i + 1 := decL_two (Nat.lt_of_lt_of_le h (Nat.pow_le_pow_right (by omega) (by omega))) (by omega)
theorem mulD {a b : Int} {i j : Nat} (ha : a.natAbs < 2 ^ i) (hb : b.natAbs < 2 ^ j) (h : i + j ≤ 100000) : Go.V.Call tab E 164 [.agg (wdI a), .agg (wdI b)] [] (.agg (wdI (a * b))) [] :=
  c164_ok (by have := lenD ha; omega) (by have := lenD hb; omega) (by have := lenD (n := (a * b).natAbs) (i := i + j) (by rw [Int.natAbs_mul]; exact lt_mul_pow ha hb); omega)
theorem denAbs {r : Rat} {j : Nat} (h : r.den < 2 ^ j) : ((r.den : Int)).natAbs < 2 ^ j := by rw [Int.natAbs_natCast]; exact h
theorem c160_ok {a b : Rat} {i j i' j' : Nat} (ha : Sd i j a) (hb : Sd i' j' b) (hi : i + i' ≤ 40000) (hj : j + j' ≤ 9999) : Go.V.Call tab E 160 [.agg (numR a), .agg (numR b)] [] (.agg (numR (a * b))) [] := by
  refine Go.V.Call.mach i160 c160 rfl rfl rfl rfl ?_
  have ta := c165_R (E := E) (r := a) (by have := lenD ha.1; omega)
  have tb := c165_R (E := E) (r := b) (by have := lenD hb.1; omega)
  have ba := c166_ok (E := E) (r := a) (by have := lenD ha.2; omega)
  have bb := c166_ok (E := E) (r := b) (by have := lenD hb.2; omega)
  have p1 := mulD (E := E) ha.1 hb.1 (by omega)
  have p3 := mulD (E := E) (denAbs ha.2) (denAbs hb.2) (by omega)
  have l1 : (a.num * b.num).natAbs < 2 ^ (i + i') := by rw [Int.natAbs_mul]; exact lt_mul_pow ha.1 hb.1
  have l3 : ((a.den : Int) * (b.den : Int)).natAbs < 2 ^ (j + j') := by rw [Int.natAbs_mul]; exact lt_mul_pow (denAbs ha.2) (denAbs hb.2)
  have h48 := c163_ok (E := E) (a := a.num * b.num) (b := (a.den : Int) * b.den) (m := j + j') den_mul_ne (by omega) l3 (by have := lenD l1; omega) (by have := lenD l3; omega)
  rw [mul_divInt] at h48
  clear l1 l3
  generalize a.num * b.num = A1 at *
  generalize (a.den : Int) * (b.den : Int) = A3 at *
  simp only [numR, numG, wdI, wdC] at ta tb ba bb p1 p3 h48
  simp only [c160, numR, numG, go_sem, FL, subT3]
  refine goP ta ?_
  simp only [go_sem, FL, subT3]
  refine goP tb ?_
  simp only [go_sem, FL, subT3]
  refine goP p1 ?_
  simp only [go_sem, FL, subT3]
  refine goP ba ?_
  simp only [go_sem, FL, subT3]
  refine goP bb ?_
  simp only [go_sem, FL, subT3]
  refine goP p3 ?_
  simp only [go_sem, FL, subT3]
  refine goP h48 ?_
  simp only [go_sem, FL, subT3]
  simp only [i160, OT, reduceIte, Nat.reduceEqDiff, subT3, numR, numG]
theorem c133_ok {a b : Rat} {i j i' j' : Nat} (ha : Sd i j a) (hb : Sd i' j' b) (h0 : b ≠ 0) (hi : i + j' ≤ 40000) (hj : j + i' ≤ 9999) : Go.V.Call tab E 133 [.agg (numR a), .agg (numR b)] [] (.tup [.agg (numR (a / b)), .bool true]) [] := by
  refine Go.V.Call.mach i133 c133 rfl rfl rfl rfl ?_
  have ta := c165_R (E := E) (r := a) (by have := lenD ha.1; omega)
  have tb := c165_R (E := E) (r := b) (by have := lenD hb.1; omega)
  have ba := c166_ok (E := E) (r := a) (by have := lenD ha.2; omega)
  have bb := c166_ok (E := E) (r := b) (by have := lenD hb.2; omega)
  have p1 := mulD (E := E) ha.1 (denAbs hb.2) (by omega)
  have p3 := mulD (E := E) (denAbs ha.2) hb.1 (by omega)
  have l1 : (a.num * (b.den : Int)).natAbs < 2 ^ (i + j') := by rw [Int.natAbs_mul]; exact lt_mul_pow ha.1 (denAbs hb.2)
  have l3 : ((a.den : Int) * b.num).natAbs < 2 ^ (j + i') := by rw [Int.natAbs_mul]; exact lt_mul_pow (denAbs ha.2) hb.1
  have h48 := c163_ok (E := E) (a := a.num * (b.den : Int)) (b := (a.den : Int) * b.num) (m := j + i') (Int.mul_ne_zero (by have := a.den_nz; omega) (rnum_ne h0)) (by omega) l3 (by have := lenD l1; omega) (by have := lenD l3; omega)
  rw [div_divInt] at h48
  clear l1 l3
  generalize a.num * (b.den : Int) = A1 at *
  generalize (a.den : Int) * b.num = A3 at *
  simp only [numR, numG, wdI, wdC] at ta tb ba bb p1 p3 h48
  simp only [c133, numR, numG, go_sem, FL, subT3]
  refine goP ta ?_
  simp only [go_sem, FL, subT3]
  refine goP bb ?_
  simp only [go_sem, FL, subT3]
  refine goP p1 ?_
  simp only [go_sem, FL, subT3]
  refine goP ba ?_
  simp only [go_sem, FL, subT3]
  refine goP tb ?_
  simp only [go_sem, FL, subT3]
  refine goP p3 ?_
  simp only [go_sem, FL, subT3]
  refine goP h48 ?_
  simp only [go_sem, FL, subT3]
  simp only [i133, OT, reduceIte, Nat.reduceEqDiff, subT3, numR, numG]
end
theorem c163_zero {a : Int} : Go.V.Call tab E 163 [.agg (wdI a), .agg (wdI 0)] [] (.tup [.agg (numR 0), .bool false]) [] := by
  refine Go.V.Call.mach i163 c163 rfl rfl rfl rfl ?_
  have hz := dec_eqB (a := (0 : Int).natAbs) (b := 0)
  rw [dec_zero, decide_eq_true (by rfl)] at hz
  have h115 := c115_ok
  have hn : nmC (false, [48], [49]) = numR 0 := by
    rw [numR_nm]
    have e0 : decL 0 = [48] := decL_digit (by omega)
    have e1 : decL 1 = [49] := decL_digit (by omega)
    have d1 : dn 1 = 1 := rfl
    have d0 : decide ((0 : Int) < 0) = false := by decide
    simp only [toNm, rR, Rat.num_ofNat, Rat.den_ofNat, Int.natAbs_zero, e0, d1, d0, e1]
    rfl
  rw [hn] at h115
  simp only [numR, numG] at h115
  simp only [c163, wdI, wdC, go_sem, FL, subD0, subD1, hz]
  refine goP h115 ?_
  simp only [go_sem, FL, subT3]
  simp only [i163, OT, reduceIte, Nat.reduceEqDiff, subT3, numR, numG]
theorem c133_zero {a : Rat} {i j : Nat} (ha : Sd i j a) (hi : i ≤ 40000) (hj : j ≤ 9999) : Go.V.Call tab E 133 [.agg (numR a), .agg (numR 0)] [] (.tup [.agg (numR 0), .bool false]) [] := by
  refine Go.V.Call.mach i133 c133 rfl rfl rfl rfl ?_
  have hb : Sd 1 1 (0 : Rat) := ⟨by decide, by decide⟩
  have ta := c165_R (E := E) (r := a) (by have := lenD ha.1; omega)
  have tb := c165_R (E := E) (r := 0) (by have := lenD hb.1; omega)
  have ba := c166_ok (E := E) (r := a) (by have := lenD ha.2; omega)
  have bb := c166_ok (E := E) (r := 0) (by have := lenD hb.2; omega)
  have p1 := mulD (E := E) ha.1 (denAbs hb.2) (by omega)
  have p3 := mulD (E := E) (denAbs ha.2) hb.1 (by omega)
  have h48 := c163_zero (a := a.num * (((0 : Rat).den : Nat) : Int))
  have e0 : (a.den : Int) * (0 : Rat).num = 0 := by rw [Rat.num_ofNat]; exact Int.mul_zero _
  rw [e0] at p3
  generalize a.num * (((0 : Rat).den : Nat) : Int) = A1 at *
  simp only [numR, numG, wdI, wdC] at ta tb ba bb p1 p3 h48
  simp only [c133, numR, numG, go_sem, FL, subT3]
  refine goP ta ?_
  simp only [go_sem, FL, subT3]
  refine goP bb ?_
  simp only [go_sem, FL, subT3]
  refine goP p1 ?_
  simp only [go_sem, FL, subT3]
  refine goP ba ?_
  simp only [go_sem, FL, subT3]
  refine goP tb ?_
  simp only [go_sem, FL, subT3]
  refine goP p3 ?_
  simp only [go_sem, FL, subT3]
  refine goP h48 ?_
  simp only [go_sem, FL, subT3]
  simp only [i133, OT, reduceIte, Nat.reduceEqDiff, subT3, numR, numG]
section
variable {E : CallRel}
theorem c134_sd {a b : Rat} {i j i' j' : Nat} (ha : Sd i j a) (hb : Sd i' j' b) (hi : i + j' ≤ 40000) (hi' : i' + j ≤ 40000) (hj : j + j' ≤ 9999) : Go.V.Call tab E 134 [.agg (numR a), .agg (numR b)] [] (.agg (numR (a + b))) [] := by
  refine Go.V.Call.mach i134 c134 rfl rfl rfl rfl ?_
  have ta := c165_R (E := E) (r := a) (by have := lenD ha.1; omega)
  have tb := c165_R (E := E) (r := b) (by have := lenD hb.1; omega)
  have ba := c166_ok (E := E) (r := a) (by have := lenD ha.2; omega)
  have bb := c166_ok (E := E) (r := b) (by have := lenD hb.2; omega)
  have p1 := mulD (E := E) ha.1 (denAbs hb.2) (by omega)
  have p2 := mulD (E := E) hb.1 (denAbs ha.2) (by omega)
  have p3 := mulD (E := E) (denAbs ha.2) (denAbs hb.2) (by omega)
  have l1 : (a.num * (b.den : Int)).natAbs < 2 ^ (i + j') := by rw [Int.natAbs_mul]; exact lt_mul_pow ha.1 (denAbs hb.2)
  have l2 : (b.num * (a.den : Int)).natAbs < 2 ^ (i' + j) := by rw [Int.natAbs_mul]; exact lt_mul_pow hb.1 (denAbs ha.2)
  have l3 : ((a.den : Int) * (b.den : Int)).natAbs < 2 ^ (j + j') := by rw [Int.natAbs_mul]; exact lt_mul_pow (denAbs ha.2) (denAbs hb.2)
  obtain ⟨K, hK⟩ : ∃ K, K = 40000 := ⟨_, rfl⟩
  have l4 : (a.num * (b.den : Int) + b.num * (a.den : Int)).natAbs < 2 ^ (K + 1) := by
    have p1 := Nat.pow_le_pow_right (n := 2) (by omega) (show i + j' ≤ K by omega)
    have p2 := Nat.pow_le_pow_right (n := 2) (by omega) (show i' + j ≤ K by omega)
    have := Int.natAbs_add_le (a.num * (b.den : Int)) (b.num * (a.den : Int))
    rw [Nat.pow_succ]
    omega
  have s := wd_add (E := E) (x := a.num * (b.den : Int)) (y := b.num * (a.den : Int)) (k := 40001) (by have := lenD l1; omega) (by have := lenD l2; omega) (by omega)
  have h48 := c163_ok (E := E) (a := a.num * b.den + b.num * a.den) (b := (a.den : Int) * b.den) (m := j + j') den_mul_ne (by omega) l3 (by have := lenD l4; omega) (by have := lenD l3; omega)
  rw [add_divInt] at h48
  clear l1 l2 l3 l4
  generalize a.num * (b.den : Int) = A1 at *
  generalize b.num * (a.den : Int) = A2 at *
  generalize (a.den : Int) * (b.den : Int) = A3 at *
  simp only [numR, numG, wdI, wdC] at ta tb ba bb p1 p2 p3 s h48
  simp only [c134, numR, numG, go_sem, FL, subT3]
  refine goP ta ?_
  simp only [go_sem, FL, subT3]
  refine goP bb ?_
  simp only [go_sem, FL, subT3]
  refine goP p1 ?_
  simp only [go_sem, FL, subT3]
  refine goP tb ?_
  simp only [go_sem, FL, subT3]
  refine goP ba ?_
  simp only [go_sem, FL, subT3]
  refine goP p2 ?_
  simp only [go_sem, FL, subT3]
  refine goP s ?_
  simp only [go_sem, FL, subT3]
  refine goP ba ?_
  simp only [go_sem, FL, subT3]
  refine goP bb ?_
  simp only [go_sem, FL, subT3]
  refine goP p3 ?_
  simp only [go_sem, FL, subT3]
  refine goP h48 ?_
  simp only [go_sem, FL, subT3]
  simp only [i134, OT, reduceIte, Nat.reduceEqDiff, subT3, numR, numG]
theorem c161_ok {z : Int} : Go.V.Call tab E 161 [.agg (wdI z)] [] (.agg (numR (z : Rat))) [] := by
  refine Go.V.Call.mach i161 c161 rfl rfl rfl rfl ?_
  have hr : numR (z : Rat) = [.bool (decide (z < 0)), .str (dec z.natAbs), .str ⟨#[49]⟩] := by
    simp only [numR, numG, Rat.num_intCast, Rat.den_intCast, dec_one]; rfl
  rw [hr]
  simp only [c161, wdI, wdC, go_sem, FL, subD0, subD1, subD2]
  simp only [i161, OT, reduceIte, Nat.reduceEqDiff, subT3]
theorem c135_ok {r : Rat} : Go.V.Call tab E 135 [.agg (numR r)] [] (.agg (numR (-r))) [] := by
  refine Go.V.Call.mach i135 c135 rfl rfl rfl rfl ?_
  have hne := dec_ne (a := r.num.natAbs) (b := 0)
  rw [dec_zero] at hne
  have hneg : numR (-r) = [.bool (decide (-r.num < 0)), .str (dec r.num.natAbs), .str (dec r.den)] := by
    simp only [numR, numG, Rat.neg_num, Rat.neg_den, Int.natAbs_neg]
  rw [hneg]
  have sN1 : ∀ {a b c : AV}, sub false 1 [a, b, c] 0 = some a := rfl
  have sN2 : ∀ {a b c : AV}, sub false 1 [a, b, c] 1 = some b := rfl
  by_cases h : r.num < 0
  · have hd : decide (r.num < 0) = true := decide_eq_true h
    have hd2 : decide (-r.num < 0) = false := decide_eq_false (by omega)
    simp only [c135, numR, numG, hd, hd2, go_sem, FL, subT3, sN1, sN2]
    simp only [i135, OT, reduceIte, Nat.reduceEqDiff, subT3]
  · have hd : decide (r.num < 0) = false := decide_eq_false h
    by_cases h0 : r.num.natAbs = 0
    · have hd2 : decide (-r.num < 0) = false := decide_eq_false (by omega)
      rw [decide_eq_true h0] at hne
      simp only [c135, numR, numG, hd, hd2, hne, go_sem, FL, subT3, sN1, sN2]
      simp only [i135, OT, reduceIte, Nat.reduceEqDiff, subT3]
    · have hd2 : decide (-r.num < 0) = true := decide_eq_true (by omega)
      rw [decide_eq_false h0] at hne
      simp only [c135, numR, numG, hd, hd2, hne, go_sem, FL, subT3, sN1, sN2]
      simp only [i135, OT, reduceIte, Nat.reduceEqDiff, subT3]
theorem c162_ok {r : Rat} {i j : Nat} (h : Sd i j r) (hi : i ≤ 40000) (hj : j ≤ 40000) : Go.V.Call tab E 162 [.agg (numR r)] [] (.agg (wdI (flr r))) [] := by
  refine Go.V.Call.mach i162 c162 rfl rfl rfl rfl ?_
  have ta := c165_R (E := E) (r := r) (by have := lenD h.1; omega)
  have ba := c166_ok (E := E) (r := r) (by have := lenD h.2; omega)
  obtain ⟨K, hK⟩ : ∃ K, K = 40000 := ⟨_, rfl⟩
  have p1 := Nat.pow_le_pow_right (n := 2) (by omega) (show i ≤ K by omega)
  have p2 := Nat.pow_le_pow_right (n := 2) (by omega) (show j ≤ K by omega)
  have hf := c181_ok (E := E) (a := r.num) (d := r.den) (k := K) r.den_nz (by omega) (by omega) (Nat.lt_of_lt_of_le h.1 p1) (Nat.lt_of_lt_of_le h.2 p2) (by omega)
  have hfl : r.num / (r.den : Int) = flr r := rfl
  clear p1 p2
  rw [hfl] at hf
  generalize flr r = z at *
  generalize r.num + -(z * (r.den : Int)) = y at *
  simp only [numR, numG, wdI, wdC] at ta ba hf
  simp only [c162, numR, numG, wdI, wdC, go_sem, FL, subT3]
  refine goP ta ?_
  simp only [go_sem, FL, subT3]
  refine goP ba ?_
  simp only [go_sem, FL, subT3]
  refine goP hf ?_
  simp only [go_sem, FL, subT3, subD2]
  simp only [i162, OT, reduceIte, Nat.reduceEqDiff, subD2]
end
theorem c132_ok {a b : Rat} {i j : Nat} (ha : Sd i j a) (hb : Sd 134 134 b) (hi : i ≤ 9000) (hj : j ≤ 600) : Go.V.Call tab E 132 [.agg (numR b), .agg (numR a)] [] (.agg (numR (restR b a))) [] := by
  by_cases h0 : b = 0
  · subst h0
    have hz := c133_zero ha (by omega) (by omega)
    rw [restR, if_pos rfl]
    refine Go.V.Call.mach i132 c132 rfl rfl rfl rfl ?_
    simp only [numR, numG] at hz
    simp only [c132, numR, numG, go_sem, FL, subT3]
    refine goP hz ?_
    simp only [go_sem, FL, subT3]
    simp only [i132, OT, reduceIte, Nat.reduceEqDiff, subT3]
  · have sq := ha.div hb h0
    have sf := Sd.int (flr_lt2 sq.1)
    have sp := hb.mul sf
    have h1 := c133_ok (E := E) ha hb h0 (by omega) (by omega)
    have h2 := c162_ok (E := E) sq (by omega) (by omega)
    have h3 := c161_ok (E := E) (z := flr (a / b))
    have h4 := c160_ok (E := E) hb sf (by omega) (by omega)
    have h5 := c135_ok (E := E) (r := b * ((flr (a / b) : Int) : Rat))
    have h6 := c134_sd (E := E) ha sp.neg (by omega) (by omega) (by omega)
    rw [restR, if_neg h0]
    refine Go.V.Call.mach i132 c132 rfl rfl rfl rfl ?_
    clear sq sf sp
    generalize ((flr (a / b) : Int) : Rat) = f at *
    generalize flr (a / b) = fz at *
    generalize a + -(b * f) = s at *
    generalize -(b * f) = n at *
    generalize b * f = p at *
    generalize a / b = q at *
    simp only [numR, numG, wdI, wdC] at h1 h2 h3 h4 h5 h6
    simp only [c132, numR, numG, go_sem, FL, subT3]
    refine goP h1 ?_
    simp only [go_sem, FL, subT3]
    refine goP h2 ?_
    simp only [go_sem, FL, subT3]
    refine goP h3 ?_
    simp only [go_sem, FL, subT3]
    refine goP h4 ?_
    simp only [go_sem, FL, subT3]
    refine goP h5 ?_
    simp only [go_sem, FL, subT3]
    refine goP h6 ?_
    simp only [go_sem, FL, subT3]
    simp only [i132, OT, reduceIte, Nat.reduceEqDiff, subT3]
theorem Sd.restR {a b : Rat} {i j : Nat} (ha : Sd i j a) (hb : Sd 134 134 b) : Sd (i + j + 272) (j + 136) (I.restR b a) := by
  unfold I.restR
  split
  · exact ha.mono (by omega) (by omega)
  · rename_i h0
    have sf := Sd.int (flr_lt2 (ha.div hb h0).1)
    exact (ha.add (hb.mul sf).neg (k := i + j + 272) (by omega) (by omega)).mono (by omega) (by omega)
end Go.Proofs.YtlejgleocnemoaaGreat.I

namespace Go.Proofs.YtlejgleocnemoaaGreat.I
open Go Go.V
attribute [local go_sem] mNil nat0 beq_self_eq_true mSkip mRet mExit mReg mSeq mCond mTrue mFalse mBlock mLv mCodeE mCodeR mEndN mEndR mEndE mOps mSome mGuard mGtt mGff mGtf mGft mGu mCallP mCallR mCallF mCallO mCallZ mCallG mCallM mCallV loopQ_exit loopQ_ret mO_mov mO_newnil mO_pick mO_alloc mO_box mO_build mO_bsl mO_bslF mO_newnilB mO_bslB mO_lenB mO_appB mO_allocA mO_bslA mO_appA mO_ldb mO_faddrb mRsv mO_ldf mO_ld mO_st mO_sta mO_nilchk mO_bin mO_binb mO_binp mO_bins mO_neg mO_com mO_not mO_conv mO_mk mO_mk0 mO_mkB mO_s2b mO_b2s mO_cpy mO_cut mO_faddr mO_fld mO_iaddr mO_iaddrf mO_sidx mO_len mO_lenf mO_slen mO_scut mO_app mO_ext mO_mx mO_mn mO_mkfn evalOp cutOp argsE ev getE putE cellsOf adopt rowOf binV boolV nilV ar_add ar_sub ar_mul ar_quo ar_rem ar_eq ar_ne ar_lt ar_le ar_gt ar_ge ar_and ar_or ar_xor geto bound finRet finNrm ints List.length_cons List.length_nil List.length_append List.getElem?_cons_zero List.getElem?_cons_succ List.nil_append List.cons_append List.map_cons List.map_nil List.mapM_cons List.mapM_nil Option.map_some Option.map_none Option.bind_some Option.pure_def Option.bind_eq_bind List.drop_zero or_self or_false false_or or_true true_or true_and and_true and_self decide_true decide_false Bool.false_eq_true Bool.true_eq_false Bool.not_true Bool.not_false Nat.le_refl eq_self gt_iff_lt ge_iff_le ne_eq not_true_eq_false not_false_eq_true storeOp apartOf freeze_nil refsL refs List.flatMap_cons List.flatMap_nil List.append_nil List.contains_nil List.set_cons_zero List.set_cons_succ snap snapL fill_nums flat_nums nums_length Go.V.freeze List.mapIdx_cons List.mapIdx_nil List.contains_cons Bool.or_false Bool.false_or Bool.or_true Bool.true_or
def alo (m n : Nat) (v : Nat → Nat → Nat) (c : Nat) : Int := ((((c / n / m) * m + v ((c / n / m) * n + c % n) (c / n % m)) * n + c % n : Nat) : Int)
def alos (m n : Nat) (v : Nat → Nat → Nat) (c : Nat) : List Int := (List.range c).map (alo m n v)
def aloM (s t : List Int) (ch : Bool) (L : List Rt) (m n : Nat) (v : Nat → Nat → Nat) (c : Nat) : List AObj :=
  [⟨true, 35, 5, 0, 1, arrX s ch t L, false⟩, ⟨false, 3, 1, 0, 0, [], false⟩, ⟨false, 21, 1, 0, 0, [], false⟩, ⟨false, 98, 3, 0, 0, [], false⟩, ⟨true, 35, 5, 0, 1, [.arr 1 0, .bool false, .arr 2 0, .arr 3 0, .bool false], false⟩, ⟨false, 3, 1, c, c, nums .i64 (alos m n v c), false⟩]
def revV (m : Nat) (_ i : Nat) : Nat := m - 1 - i
section
variable {s t : List Int} {ch : Bool} {L : List Rt} {a : Int}
end
theorem allL_all {s : List Int} {n : Nat} (hc : count s = some (n : Int)) : (allL s).length = n ∧ ∀ j : Nat, j < n → (allL s).getD j [] = (ix s j).1 := by
  obtain ⟨_, hd, _⟩ := count_bound hc
  obtain ⟨h1, h2⟩ := allL_take (fun d hd' => (hd d hd').1) (k := s.length) (Nat.le_refl _)
  rw [List.take_length, ← count_prd hc] at h1 h2
  refine ⟨by omega, fun j hj => ?_⟩
  rw [List.getD, h2 j (by omega)]
  rfl
end Go.Proofs.YtlejgleocnemoaaGreat.I

namespace Go.Proofs.YtlejgleocnemoaaGreat.I
open Go Go.V
attribute [local go_sem_proc ↓] reduceIte
attribute [local go_sem_proc] Nat.reduceEqDiff Nat.reduceAdd Nat.reduceMul Nat.reduceLeDiff Nat.reduceLT Int.reduceToNat Int.reduceLT Int.reduceLE reduceCtorEq Nat.reduceBEq
attribute [local go_sem] mNil nat0 beq_self_eq_true mSkip mRet mExit mReg mSeq mCond mTrue mFalse mBlock mLv mCodeE mCodeR mEndN mEndR mEndE mOps mSome mGuard mGtt mGff mGtf mGft mGu mCallP mCallR mCallF mCallO mCallZ mCallG mCallM mCallV loopQ_exit loopQ_ret mO_mov mO_newnil mO_pick mO_alloc mO_box mO_build mO_bsl mO_bslF mO_newnilB mO_bslB mO_lenB mO_appB mO_allocA mO_bslA mO_appA mO_ldb mO_faddrb mRsv mO_ldf mO_ld mO_st mO_sta mO_nilchk mO_bin mO_binb mO_binp mO_bins mO_neg mO_com mO_not mO_conv mO_mk mO_mk0 mO_mkB mO_s2b mO_b2s mO_cpy mO_cut mO_faddr mO_fld mO_iaddr mO_iaddrf mO_sidx mO_len mO_lenf mO_slen mO_scut mO_app mO_ext mO_mx mO_mn mO_mkfn evalOp cutOp argsE ev getE putE cellsOf adopt rowOf binV boolV nilV ar_add ar_sub ar_mul ar_quo ar_rem ar_eq ar_ne ar_lt ar_le ar_gt ar_ge ar_and ar_or ar_xor geto bound finRet finNrm ints List.length_cons List.length_nil List.length_append List.getElem?_cons_zero List.getElem?_cons_succ List.nil_append List.cons_append List.map_cons List.map_nil List.mapM_cons List.mapM_nil Option.map_some Option.map_none Option.bind_some Option.pure_def Option.bind_eq_bind List.drop_zero or_self or_false false_or or_true true_or true_and and_true and_self decide_true decide_false Bool.false_eq_true Bool.true_eq_false Bool.not_true Bool.not_false Nat.le_refl eq_self gt_iff_lt ge_iff_le ne_eq not_true_eq_false not_false_eq_true storeOp apartOf freeze_nil refsL refs List.flatMap_cons List.flatMap_nil List.append_nil List.contains_nil List.set_cons_zero List.set_cons_succ snap snapL fill_nums flat_nums nums_length Go.V.freeze List.mapIdx_cons List.mapIdx_nil List.contains_cons Bool.or_false Bool.false_or Bool.or_true Bool.true_or
def colL (n w j : Nat) : List Int := (List.range n).map fun k => ((k * w + j : Nat) : Int)
theorem colL_len {n w j : Nat} : (colL n w j).length = n := by simp [colL]
theorem colL_get {n w j k : Nat} (h : k < n) : (colL n w j).getD k 0 = ((k * w + j : Nat) : Int) := by simp [colL, List.getD, h]
theorem colL_succ {n w j : Nat} : colL (n + 1) w j = colL n w j ++ [((n * w + j : Nat) : Int)] := by
  simp [colL, List.range_succ]
theorem c81_col {n w j : Nat} {ds : List Int} (hc : count ((n : Int) :: ds) ≠ none) (hpos : ∀ d ∈ ds, 1 ≤ d) (hw : prd ds = (w : Int)) (hj : j < w) (hn : n ≤ 4096) (hl : ds.length ≤ 8) :
    Go.V.Call tab E 81 [ints ((n : Int) :: ds), .int .i64 0, ints (ix ds j).1] [] (ints (colL n w j)) [] := by
  refine Go.V.Call.mach i81 c81 rfl rfl rfl rfl ?_
  have hpl : ∀ k : Nat, k < n → pl 0 ((n : Int) :: ds) ((k : Int) :: (ix ds j).1) = some (((k * w + j : Nat)) : Int) := fun k hk => by
    rw [pl, if_neg (by omega), Int.zero_mul, Int.zero_add, pl_ix (by omega) hpos, hw, ← Int.natCast_emod, Nat.mod_eq_of_lt hj]
    simp
  have hrl : (ix ds (j : Int)).1.length = ds.length := ix_len
  generalize (ix ds (j : Int)).1 = R at *
  have h99 := fun k : Nat => c99_ok (E := E) (s := (n : Int) :: ds) (idx := (k : Int) :: R) (by simp; omega) (by simp; omega)
  have hs0 : sub false 1 (nums .i64 ((n : Int) :: ds)) 0 = some (.int .i64 (n : Int)) := rfl
  have hd1 : (0 : Int) < ((ds.length + 1 : Nat) : Int) := by omega
  have hrr : (0 : Int) ≤ (R.length : Int) := by omega
  have z1 : (1 + R.length) * 8 ≤ 140737488355328 := by omega
  have z2 : 1 + R.length ≤ 140737488355328 := by omega
  have hdr : List.take (R.length * 1) (nums .i64 R) = nums .i64 R := List.take_of_length_le (by simp [nums])
  have he : ∀ k : Nat, ints ((k : Int) :: R) = .sl (1 + R.length) 1 (.int .i64 (k : Int) :: nums .i64 R) := fun k => by simp [ints, nums, Nat.add_comm]
  simp only [c81, go_sem, FL]
  refine mLoop (fun N st => ∃ i : Nat, i ≤ n ∧ N = n - i ∧
    st = ⟨[(0, ints ((n : Int) :: ds)), (1, .int .i64 0), (2, ints R), (7, .arr 1 i), (8, .int .i64 i)], [⟨false, 3, 1, 0, 0, [], false⟩, ⟨false, 3, 1, i, i, nums .i64 (colL i w j), false⟩]⟩) n ⟨_, rfl, 0, by omega, by omega, by simp [getE, ints, nums, colL]⟩ ?_
  rintro N s0 ⟨i, hi, rfl, rfl⟩
  by_cases hin : i < n
  · have hin' : (i : Int) < (n : Int) := by omega
    have hi1 : IntKind.i64.wrap ((i : Int) + 1) = ((i + 1 : Nat) : Int) := by rw [wrap_i64 (by omega) (by omega)]; omega
    obtain ⟨m, h1, h2⟩ := h99 i
    have hm : m = ((i * w + j : Nat) : Int) := by
      rcases h2 hc with ⟨h3, _⟩ | ⟨_, h3⟩
      · rw [hpl i hin] at h3; cases h3
      · rw [hpl i hin] at h3; exact (Option.some.inj h3).symm
    subst hm
    have y1 : (i + 1) * 8 ≤ 140737488355328 := by omega
    have y2 : i + 1 ≤ 140737488355328 := by omega
    rw [he] at h1
    simp only [ints, List.length_cons] at h1
    simp only [b81_0, ints, go_sem, FL, hs0, hd1, hin', hrr, z1, z2, hdr, y1, y2, List.flatten_cons, List.flatten_nil, Option.getD_some, Nat.zero_add, Nat.sub_zero, Nat.zero_mul]
    refine goR h1 rfl ?_
    simp only [go_sem, FL, y1, y2, hi1, List.flatten_cons, List.flatten_nil, Option.getD_some]
    refine loopQ_go rfl (n - (i + 1)) (by omega) ⟨i + 1, by omega, rfl, ?_⟩
    rw [colL_succ]
    simp [getE, nums, ints]
  · obtain rfl : i = n := by omega
    simp only [b81_0, k81_0, ints, go_sem, FL, hs0, hd1, Int.lt_irrefl]
    simp only [i81, OT, reduceIte, Nat.reduceEqDiff, colL_len]
def takenL (l : List Nm) (at_ : List Int) : List Nm := at_.map fun k => nmAt l k.toNat
theorem takenL_take {l : List Nm} {at_ : List Int} {i : Nat} (h : i < at_.length) : takenL l (at_.take (i + 1)) = takenL l (at_.take i) ++ [nmAt l (at_.getD i 0).toNat] := by
  rw [takenL, takeAt (d := 0) h]; simp [takenL]
theorem c83_ok {s t at_ : List Int} {ch : Bool} {l : List Nm} (hat : ∀ k ∈ at_, 0 ≤ k ∧ k < (l.length : Int)) (hal : at_.length ≤ 1000000) :
    Go.V.Call tab E 83 [.agg (plX s ch t l), ints at_] [] (.sl at_.length 3 (nmsC (takenL l at_))) [] := by
  refine Go.V.Call.mach i83 c83 rfl rfl rfl rfl ?_
  simp only [c83, plX, runes, ints, go_sem, FL, subP4]
  refine mLoop (fun N st => ∃ i : Nat, i ≤ at_.length ∧ N = at_.length - i ∧
    st = ⟨[(1, ints at_), (2, .loc 0 0 0), (5, .arr 2 i), (6, .int .i64 i)], [⟨true, 26, 4, 0, 1, plX s ch t l, false⟩, ⟨false, 72, 3, 0, 0, [], false⟩, ⟨false, 72, 3, i, i, nmsC (takenL l (at_.take i)), false⟩]⟩) at_.length ⟨_, rfl, 0, by omega, by omega, by simp [getE, ints, nums, takenL, nmsC, plX, runes]⟩ ?_
  rintro N s0 ⟨i, hi, rfl, rfl⟩
  by_cases hin : i < at_.length
  · have hin' : (i : Int) < (at_.length : Int) := by omega
    have hi0 : (0 : Int) ≤ (i : Int) := by omega
    have hi1 : IntKind.i64.wrap ((i : Int) + 1) = ((i + 1 : Nat) : Int) := by rw [wrap_i64 (by omega) (by omega)]; omega
    have hsub := sub_nums (k := .i64) hin
    have htk := takenL_take (l := l) hin
    obtain ⟨k1, k2⟩ := hat (at_.getD i 0) (by simp [List.getD, hin])
    generalize at_.getD i 0 = k at *
    obtain ⟨q, rfl⟩ := Int.eq_ofNat_of_zero_le k1
    rw [Int.toNat_natCast] at htk
    have hs3 := sub_nms (l := l) (i := q) (by omega)
    generalize nmAt l q = z at *
    have y1 : (i + 1) * 40 ≤ 140737488355328 := by omega
    have y2 : i + 1 ≤ 140737488355328 := by omega
    simp only [nmC] at hs3
    simp only [b83_0, plX, runes, ints, go_sem, FL, subP4, subP3', subP3, hin', hi0, k1, k2, hsub, hs3, Int.toNat_natCast, y1, y2, hi1, List.flatten_cons, List.flatten_nil, Option.getD_some]
    refine loopQ_go rfl (at_.length - (i + 1)) (by omega) ⟨i + 1, by omega, rfl, ?_⟩
    rw [htk, nmsC_snoc]
    rfl
  · obtain rfl : i = at_.length := by omega
    simp only [b83_0, k83_0, plX, runes, ints, go_sem, FL, subP4, Int.lt_irrefl, List.take_length]
    simp only [i83, OT, reduceIte, Nat.reduceEqDiff]
theorem fill_nms {L : List Nm} {i : Nat} {z : Nm} (h : i < L.length) : fillIn (nmsC L) (i * 3) (nmC z) = nmsC (L.set i z) := by
  have hl : ∀ l : List Nm, (nmsC l).length = l.length * 3 := fun l => flat_len (fun _ => rfl)
  have h1 : ∀ {k : Nat} {l : List Nm}, (nmsC l).take (k * 3) = nmsC (l.take k) := fun {k l} => by
    induction l generalizing k with
    | nil => simp [nmsC]
    | cons a l ih =>
      cases k with
      | zero => simp [nmsC]
      | succ k =>
        have : nmsC (a :: l) = nmC a ++ nmsC l := by simp [nmsC]
        rw [this, List.take_succ_cons, show nmsC (a :: l.take k) = nmC a ++ nmsC (l.take k) by simp [nmsC], List.take_append, show (k + 1) * 3 = 3 + k * 3 by omega]
        rw [show (nmC a).length = 3 from rfl, show 3 + k * 3 - 3 = k * 3 by omega, ih]
        congr 1
        exact List.take_of_length_le (by rw [show (nmC a).length = 3 from rfl]; omega)
  have h2 : ∀ {k : Nat} {l : List Nm}, (nmsC l).drop (k * 3) = nmsC (l.drop k) := fun {k l} => by
    induction l generalizing k with
    | nil => simp [nmsC]
    | cons a l ih =>
      cases k with
      | zero => simp [nmsC]
      | succ k =>
        have : nmsC (a :: l) = nmC a ++ nmsC l := by simp [nmsC]
        rw [this, List.drop_succ_cons, List.drop_append, show (k + 1) * 3 = 3 + k * 3 by omega]
        rw [show (nmC a).length = 3 from rfl, show 3 + k * 3 - 3 = k * 3 by omega, ih, List.drop_eq_nil_of_le (by rw [show (nmC a).length = 3 from rfl]; omega), List.nil_append]
  unfold fillIn
  rw [show i * 3 + (nmC z).length = (i + 1) * 3 by rw [show (nmC z).length = 3 from rfl]; omega, h1, h2, List.set_eq_take_append_cons_drop, if_pos h]
  simp [nmsC]
theorem nms_zero {n : Nat} : (List.replicate n [AV.bool false, AV.str ⟨#[]⟩, AV.str ⟨#[]⟩]).flatten = nmsC (List.replicate n (false, [], [])) := by
  induction n with
  | zero => rfl
  | succ n ih => rw [List.replicate_succ, List.flatten_cons, ih, List.replicate_succ]; rfl
theorem nmAt_set {L : List Nm} {i j : Nat} {z : Nm} (h : i < L.length) : nmAt (L.set i z) j = if j = i then z else nmAt L j := by
  simp only [nmAt, List.getD]
  by_cases hj : j = i
  · subst hj; rw [if_pos rfl]; simp [h]
  · rw [if_neg hj, List.getElem?_set_ne (fun h => hj h.symm)]
def nR (r : Rat) : Nm := toNm (rR r)
theorem nmC_nR {r : Rat} : nmC (nR r) = numR r := numR_nm.symm
theorem nmAt_nR {A : List Rat} {i : Nat} (h : i < A.length) : nmAt (A.map nR) i = nR (A.getD i 0) := by simp [nmAt, List.getD, h]
theorem Sd.zero {i j : Nat} (hj : 1 ≤ j) : Sd i j 0 := ⟨by rw [Rat.num_ofNat]; exact Nat.pow_pos (by omega), Nat.one_lt_two_pow (by omega)⟩
theorem Sd.stp {col : Nat → Rat} {n : Nat} {x : Rat} (hx : Sd 134 134 x) (hb : ∀ k, Sd 134 134 (col k)) : ∀ m, Sd (134 + 135 * m) 134 (xV (stp col n (some x) m))
  | 0 => hx
  | m + 1 => by
    rw [I.stp]
    have ih := Sd.stp (n := n) hx hb m
    unfold nx
    split
    · exact Sd.zero (by omega)
    · rename_i h0
      have h1 := flr_lt2 (ih.div (hb (n - 1 - m)) h0).1
      exact (Sd.int h1).mono (by omega) (by omega)
theorem zero_num : nmC (false, [48], [49]) = numR 0 := by
  have e1 : (0 : Rat).num = 0 := rfl
  have e2 : (0 : Rat).den = 1 := rfl
  simp only [numR, numG, nmC, e1, e2, show (0 : Int).natAbs = 0 from rfl, dec_zero, dec_one]
  rfl
set_option maxHeartbeats 1000000 in
theorem c82_ok {B : List Rat} {x : Rat} (hx : Sd 134 134 x) (hB : ∀ b ∈ B, Sd 134 134 b) (hl : B.length ≤ 60) :
    Go.V.Call tab E 82 [.sl B.length 3 (nmsC (B.map nR)), .agg (numR x)] [] (.sl B.length 3 (nmsC ((List.range B.length).map fun k => nR (xV (dgt (fun k => B.getD k 0) B.length (some x) k))))) [] := by
  refine Go.V.Call.mach i82 c82 rfl rfl rfl rfl ?_
  obtain ⟨n, hn⟩ : ∃ n, n = B.length := ⟨_, rfl⟩
  have hcol : ∀ k, Sd 134 134 (B.getD k 0) := fun k => by
    by_cases h : k < B.length
    · simp only [List.getD, List.getElem?_eq_getElem h, Option.getD_some]; exact hB _ (List.getElem_mem h)
    · simp only [List.getD, List.getElem?_eq_none (show B.length ≤ k by omega), Option.getD_none]; exact Sd.zero (by omega)
  have hst := Sd.stp (col := fun k => B.getD k 0) (n := n) hx hcol
  have hgetB : ∀ k, k < n → sub true 3 (nmsC (B.map nR)) (k * 3) = some (.agg (numR (B.getD k 0))) := fun k hk => by
    rw [sub_nms (by rw [List.length_map]; omega), nmAt_nR (by omega), nmC_nR]
  rw [← hn] at hl ⊢
  have z0 : (0 : Int) ≤ (n : Int) := by omega
  have z1 : 40 * n ≤ 140737488355328 := by omega
  have z2 : (n : Int) ≤ 140737488355328 := by omega
  have w1 : IntKind.i64.wrap ((n : Int) - 1) = (n : Int) - 1 - ((0 : Nat) : Int) := by rw [wrap_i64 (by omega) (by omega)]; omega
  generalize nmsC (B.map nR) = BC at *
  generalize hcolg : (fun k => B.getD k 0) = col at *
  simp only [c82, numR, numG, go_sem, FL, z0, z1, z2, Int.toNat_natCast, nms_zero, w1]
  refine mLoop (fun N st => ∃ (m : Nat) (L : List Nm), m ≤ n ∧ N = n - m ∧ L.length = n ∧ (∀ q, q < n → n - m ≤ q → nmAt L q = nR (xV (dgt col n (some x) q))) ∧
    st = ⟨[(0, .sl n 3 BC), (3, .loc 0 0 0), (5, .arr 2 0), (6, .int .i64 ((n : Int) - 1 - (m : Int)))], [⟨true, 72, 3, 0, 1, numR (xV (stp col n (some x) m)), false⟩, ⟨false, 72, 3, 0, 0, [], false⟩, ⟨false, 72, 3, 0, n, nmsC L, false⟩]⟩) n
    ⟨_, rfl, 0, List.replicate n (false, [], []), by omega, by omega, by simp, fun q h1 h2 => by omega, rfl⟩ ?_
  rintro N s0 ⟨m, L, hm, rfl, hL, hdone, rfl⟩
  by_cases hmn : m < n
  · obtain ⟨k, hk⟩ : ∃ k, k = n - 1 - m := ⟨_, rfl⟩
    have hk' : (n : Int) - 1 - (m : Int) = (k : Int) := by omega
    have hk0 : (0 : Int) ≤ (k : Int) := by omega
    have hkn : k < n := by omega
    have hkn' : (k : Int) < (n : Int) := by omega
    have g7 : IntKind.i64.wrap ((k : Int) - 1) = (n : Int) - 1 - ((m + 1 : Nat) : Int) := by rw [wrap_i64 (by omega) (by omega)]; omega
    have hb := hgetB k hkn
    have sb := hcol k
    have ecol : B.getD k 0 = col k := by rw [← hcolg]
    rw [ecol] at hb sb
    have sx := hst m
    have hd : xV (dgt col n (some x) k) = restR (col k) (xV (stp col n (some x) m)) := by rw [dgt, xV_dg, show n - 1 - k = m by omega]
    have hnx : xV (stp col n (some x) (m + 1)) = if col k = 0 then 0 else (xV (stp col n (some x) m) + -(restR (col k) (xV (stp col n (some x) m)))) / col k := by
      rw [I.stp, ← hk]
      by_cases h0 : col k = 0
      · rw [if_pos h0, nx, if_pos h0]; rfl
      · rw [if_neg h0, nx_eq h0, xV_dg]; rfl
    have sd := Sd.restR sx sb
    have h132 := c132_ok sx sb (by omega) (by omega)
    have h135 := c135_ok (E := E) (r := restR (col k) (xV (stp col n (some x) m)))
    have ss := sx.add sd.neg (k := 9100) (by omega) (by omega)
    have h134 := c134_sd (E := E) sx sd.neg (by omega) (by omega) (by omega)
    have h133 := fun h0 => c133_ok (E := E) ss sb h0 (by omega) (by omega)
    have h133z := c133_zero ss (by omega) (by omega)
    have h115 := c115_ok
    rw [zero_num] at h115
    have hfill := fill_nms (L := L) (i := k) (z := nR (xV (dgt col n (some x) k))) (by omega)
    have hget := sub_nms (l := L.set k (nR (xV (dgt col n (some x) k)))) (i := k) (by simp; omega)
    rw [nmAt_set (by omega), if_pos rfl] at hget
    have hLs : (L.set k (nR (xV (dgt col n (some x) k)))).length = n := by simp [hL]
    have hdone' : ∀ q, q < n → n - (m + 1) ≤ q → nmAt (L.set k (nR (xV (dgt col n (some x) k)))) q = nR (xV (dgt col n (some x) q)) := fun q h1 h2 => by
      rw [nmAt_set (by omega)]
      by_cases hq : q = k
      · subst hq; rw [if_pos rfl]
      · rw [if_neg hq]; exact hdone q h1 (by omega)
    have hlen3 : k * 3 + 3 ≤ (nmsC L).length := by rw [show (nmsC L).length = L.length * 3 from flat_len (fun _ => rfl)]; omega
    clear sx sd ss hgetB hcol hst hdone hB hx sb
    rw [nmC_nR, hd] at hfill hget
    rw [hd] at hLs hdone'
    generalize L.set k (nR (restR (col k) (xV (stp col n (some x) m)))) = L2 at *
    generalize xV (stp col n (some x) m) = y at *
    generalize restR (col k) y = d at *
    generalize col k = b at *
    generalize hs : y + -d = s at *
    generalize hdn : -d = dn' at *
    have fin : ∀ z : Rat, xV (stp col n (some x) (m + 1)) = z → ∃ m1, m1 < n - m ∧ ∃ (m_1 : Nat) (L_1 : List Nm), m_1 ≤ n ∧ m1 = n - m_1 ∧ L_1.length = n ∧ (∀ q, q < n → n - m_1 ≤ q → nmAt L_1 q = nR (xV (dgt col n (some x) q))) ∧
        (⟨[(0, .sl n 3 BC), (3, .loc 0 0 0), (5, .arr 2 0), (6, .int .i64 ((n : Int) - 1 - ((m + 1 : Nat) : Int)))], [⟨true, 72, 3, 0, 1, numR z, false⟩, ⟨false, 72, 3, 0, 0, [], false⟩, ⟨false, 72, 3, 0, n, nmsC L2, false⟩]⟩ : St) =
        ⟨[(0, .sl n 3 BC), (3, .loc 0 0 0), (5, .arr 2 0), (6, .int .i64 ((n : Int) - 1 - (m_1 : Int)))], [⟨true, 72, 3, 0, 1, numR (xV (stp col n (some x) m_1)), false⟩, ⟨false, 72, 3, 0, 0, [], false⟩, ⟨false, 72, 3, 0, n, nmsC L_1, false⟩]⟩ := fun z hz =>
      ⟨n - (m + 1), by omega, m + 1, L2, by omega, rfl, hLs, hdone', by rw [hz]⟩
    by_cases h0 : b = 0
    · subst h0
      rw [if_pos rfl] at hnx
      obtain ⟨m1, f1, f2⟩ := fin 0 hnx
      clear h133 fin hnx
      simp only [numR, numG] at hb h132 h135 h134 h133z h115 hfill hget f2
      simp only [b82_0, hk', numR, numG, go_sem, FL, subT3, hk0, hkn', Int.toNat_natCast, hb]
      refine goP h132 ?_
      simp only [go_sem, subT3, hk0, hkn', Int.toNat_natCast, hlen3, hfill, hget]
      refine goP h135 ?_
      simp only [go_sem, subT3, hk0, hkn', Int.toNat_natCast, hb]
      refine goP h134 ?_
      simp only [go_sem, subT3, hk0, hkn', Int.toNat_natCast, hb]
      refine goP h133z ?_
      simp only [go_sem, FL, subT3]
      refine goP h115 ?_
      simp only [go_sem, FL, subT3, g7]
      exact loopQ_go rfl m1 f1 f2
    · have h1 := h133 h0
      rw [if_neg h0] at hnx
      obtain ⟨m1, f1, f2⟩ := fin _ hnx
      clear h133 h133z fin hnx
      generalize s / b = sb at *
      simp only [numR, numG] at hb h132 h135 h134 h1 hfill hget f2
      simp only [b82_0, hk', numR, numG, go_sem, FL, subT3, hk0, hkn', Int.toNat_natCast, hb]
      refine goP h132 ?_
      simp only [go_sem, subT3, hk0, hkn', Int.toNat_natCast, hlen3, hfill, hget]
      refine goP h135 ?_
      simp only [go_sem, subT3, hk0, hkn', Int.toNat_natCast, hb]
      refine goP h134 ?_
      simp only [go_sem, subT3, hk0, hkn', Int.toNat_natCast, hb]
      refine goP h1 ?_
      simp only [go_sem, FL, subT3, g7]
      exact loopQ_go rfl m1 f1 f2
  · obtain rfl : m = n := by omega
    have g : ¬ (0 : Int) ≤ (m : Int) - 1 - (m : Int) := by omega
    have hLL : L = (List.range m).map fun k => nR (xV (dgt col m (some x) k)) := by
      apply List.ext_getElem?; intro q
      by_cases hq : q < m
      · have := hdone q hq (by omega)
        simp only [nmAt, List.getD, List.getElem?_eq_getElem (show q < L.length by omega), Option.getD_some] at this
        rw [List.getElem?_eq_getElem (by omega), this]
        simp [hq]
      · rw [List.getElem?_eq_none (by omega), List.getElem?_eq_none (by simp; omega)]
    simp only [b82_0, k82_0, numR, numG, go_sem, FL, g]
    simp only [i82, OT, reduceIte, Nat.reduceEqDiff, hLL]
    try rfl
def lst (s : List Int) : List Int := if s.length = 0 then [1] else s
theorem c79_ok {s t : List Int} {ch : Bool} {l : List Nm} : Go.V.Call tab E 79 [.agg (plX s ch t l)] [] (.agg (plX (lst s) ch t l)) [] := by
  refine Go.V.Call.mach i79 c79 rfl rfl rfl rfl ?_
  by_cases h : s.length = 0
  · obtain rfl : s = [] := List.eq_nil_of_length_eq_zero h
    simp only [c79, plX, runes, ints, go_sem, FL, subP4, subP4a, Int.natCast_zero, List.flatten_cons, List.flatten_nil, Option.getD_some]
    simp only [i79, OT, reduceIte, Nat.reduceEqDiff, subP4]
    rfl
  · have hq : ((s.length : Int) == 0) = false := beq_eq_false_iff_ne.2 (by omega)
    simp only [c79, plX, runes, ints, go_sem, FL, subP4, subP4a, hq]
    simp only [i79, OT, reduceIte, Nat.reduceEqDiff, subP4, lst, h, if_false]
theorem c77_ok {s : List Int} (hs : ∀ d ∈ s, In64 d) (hl : (s.length : Int) ≤ 1000000000) : Go.V.Call tab E 77 [ints s] [] (.int .i64 (roomE s)) [] := by
  refine Go.V.Call.mach i77 c77 rfl rfl rfl rfl ?_
  have h78 := c78_ok (E := I.E) hs (by omega)
  simp only [ints] at h78
  by_cases h8 : 8 < s.length
  · have h8' : (8 : Int) < (s.length : Int) := by omega
    simp only [c77, ints, go_sem, FL, h8']
    simp only [i77, OT, reduceIte, Nat.reduceEqDiff, roomE, h8, if_true]
  · have h8' : ¬ (8 : Int) < (s.length : Int) := by omega
    simp only [c77, ints, go_sem, FL, h8']
    refine goP h78 ?_
    cases hc : count s with
    | none =>
      simp only [optP, go_sem, FL]
      simp only [i77, OT, reduceIte, Nat.reduceEqDiff, roomE, h8, if_false, hc, if_true]
    | some m =>
      simp only [optP, go_sem, FL]
      simp only [i77, OT, reduceIte, Nat.reduceEqDiff, roomE, h8, if_false, hc, reduceCtorEq]
theorem pos_all : ∀ {s : List Int}, (∀ d ∈ s, 0 ≤ d) → prd s ≠ 0 → ∀ d ∈ s, 1 ≤ d
  | [], _, _, d, hd => by cases hd
  | a :: s, h, hp, d, hd => by
    rw [prd] at hp
    rcases List.mem_cons.1 hd with rfl | hd
    · have := h d (by simp)
      by_cases h0 : d = 0
      · subst h0; rw [Int.zero_mul] at hp; exact absurd rfl hp
      · omega
    · exact pos_all (fun e he => h e (by simp [he])) (fun h0 => hp (by rw [h0, Int.mul_zero])) d hd
theorem lst_cons {s : List Int} {n : Nat} (hn : s.getD 0 1 = (n : Int)) : lst s = (n : Int) :: s.drop 1 := by
  cases s with
  | nil => rw [show ([] : List Int).getD 0 1 = 1 from rfl] at hn; rw [lst, if_pos (show ([] : List Int).length = 0 from rfl), ← hn]; rfl
  | cons d ds => rw [show (d :: ds).getD 0 1 = d from rfl] at hn; rw [lst, if_neg (by simp), hn]; rfl
theorem count_lst {s : List Int} (h : count s ≠ none) : count (lst s) ≠ none := by
  unfold lst
  split
  · decide
  · exact h
def encN (A B : List Rat) (n w : Nat) : List Nm := (List.range (n * w * B.length)).map fun q => nR (xV (dAt A B n w q))
theorem rlimbs_V {x : Option Rat} : rlimbs (xT x) = rlimbs (rR (xV x)) := by
  cases x with
  | none => rfl
  | some r => rfl
theorem Sd.dgt {col : Nat → Rat} {n : Nat} {x : Rat} (hx : Sd 134 134 x) (hb : ∀ k, Sd 134 134 (col k)) {k : Nat} (hn : n ≤ 60) : Sd 8640 270 (xV (dgt col n (some x) k)) := by
  rw [I.dgt, xV_dg]
  exact (Sd.restR (Sd.stp hx hb _) (hb k)).mono (by omega) (by omega)
theorem limb_ok {d : Rat} (h : Sd 8640 270 d) : Go.V.Call tab E 84 [.agg (numR d)] [] (.int .i64 ((rlimbs (rR d) : Nat) : Int)) [] := by
  have hdn : dn (rR d).2.2 = d.den := if_neg d.den_nz
  have h16 : (65536 : Nat) = 2 ^ 16 := by decide
  obtain ⟨m, hm⟩ : ∃ m, m = 540 := ⟨_, rfl⟩
  have e1 : ∀ {k i : Nat}, k < 2 ^ i → i ≤ 8640 → k < 65536 ^ m := fun h hi => by
    rw [h16, ← Nat.pow_mul]; exact Nat.lt_of_lt_of_le h (Nat.pow_le_pow_right (by omega) (by omega))
  have e2 : ∀ {k i : Nat}, k < 2 ^ i → 1 ≤ i → i ≤ 8640 → (decL k).length ≤ 1000000000 := fun h h1 hi => Nat.le_trans (decL_two h h1) (by omega)
  have := c84_ok (E := I.E) (x := rR d) (m := m) (by omega) (by omega) (e2 h.1 (by omega) (by omega)) (by rw [hdn]; exact e2 h.2 (by omega) (by omega)) (e1 h.1 (by omega)) (by rw [hdn]; exact e1 h.2 (by omega))
  rw [hdn] at this
  exact this
theorem stp_congr {col col' : Nat → Rat} {n : Nat} {x : Option Rat} (h : ∀ k, k < n → col k = col' k) (hn : 0 < n) : ∀ m, stp col n x m = stp col' n x m
  | 0 => rfl
  | m + 1 => by rw [stp, stp, stp_congr h hn m, h _ (by omega)]
theorem dgt_congr {col col' : Nat → Rat} {n : Nat} {x : Option Rat} (h : ∀ k, k < n → col k = col' k) {k : Nat} (hk : k < n) : dgt col n x k = dgt col' n x k := by
  rw [dgt, dgt, stp_congr h (by omega), h k hk]
def digL (A B : List Rat) (n w j i : Nat) : List Nm := (List.range n).map fun k => nR (xV (dAt A B n w ((k * w + j) * B.length + i)))
theorem digL_at {A B : List Rat} {n w j i k : Nat} (hk : k < n) : nmAt (digL A B n w j i) k = nR (xV (dAt A B n w ((k * w + j) * B.length + i))) := by
  simp [nmAt, digL, List.getD, hk]
def mem23 (s s' ds : List Int) (n : Nat) (ch ch' : Bool) (AC BC : List Nm) (N : Nat) (Lc : List Nm) : List AObj :=
  [⟨true, 26, 4, 0, 1, plX ((n : Int) :: ds) ch [] AC, false⟩, ⟨true, 26, 4, 0, 1, plX s' ch' [] BC, false⟩, ⟨false, 3, 1, 0, 0, [], false⟩, ⟨false, 21, 1, 0, 0, [], false⟩, ⟨false, 72, 3, 0, 0, [], false⟩,
   ⟨true, 26, 4, 0, 1, [.arr 2 0, .bool false, .arr 3 0, .arr 4 0], false⟩, ⟨false, 3, 1, 2, s.length + s'.length, nums .i64 s ++ nums .i64 s', false⟩, ⟨false, 72, 3, 0, N, nmsC Lc, false⟩,
   ⟨false, 3, 1, 0, 0, [], false⟩, ⟨false, 21, 1, 0, 0, [], false⟩, ⟨false, 72, 3, 0, 0, [], false⟩, ⟨true, 26, 4, 0, 1, [.arr 6 2, .bool false, .sl 0 1 [], .arr 7 0], false⟩]
set_option maxHeartbeats 2000000 in
theorem c23_core {s s' : List Int} {A B : List Rat} {ch ch' : Bool} {lim : Int} {n w : Nat} (hs : ∀ d ∈ s, In64 d) (hs' : ∀ d ∈ s', In64 d) (hc : count s = some (A.length : Int)) (hc' : count s' = some (B.length : Int))
    (hl : A.length ≤ 60) (hl' : B.length ≤ 60) (hA : ∀ a ∈ A, Sd 134 134 a) (hB : ∀ a ∈ B, Sd 134 134 a)
    (hn : s.getD 0 1 = (n : Int)) (hw : prd (s.drop 1) = (w : Int)) (hnw : A.length = n * w) (hroom : roomE (s ++ s') = 0) (hlim : In64 lim) :
    Go.V.Call tab E 23 [.agg (plX s ch [] (A.map nR)), .agg (plX s' ch' [] (B.map nR)), .int .i64 lim] [] (.tup [.agg (if encB A B n w lim then plX (s ++ s') false [] (encN A B n w) else noP), .int .i64 (if encB A B n w lim then 0 else 26)]) [] := by
  refine Go.V.Call.mach i23 c23 rfl rfl rfl rfl ?_
  have hcs : count s ≠ none := by rw [hc]; simp
  have hl8 := (count_iff.2 hcs).1
  have hl8' := (count_iff.2 (by rw [hc']; simp : count s' ≠ none)).1
  have hin : ∀ d ∈ s ++ s', In64 d := fun d hd => (List.mem_append.1 hd).elim (hs d) (hs' d)
  have h77 := c77_ok (s := s ++ s') hin (by simp; omega)
  rw [hroom] at h77
  have h78 := c78_ok (E := I.E) hin (by simp; omega)
  have hcnt : count (s ++ s') = some ((n * w * B.length : Nat) : Int) := by
    rw [roomE] at hroom
    split at hroom
    · cases hroom
    · split at hroom
      · cases hroom
      · rename_i h
        cases hq : count (s ++ s') with
        | none => exact absurd hq h
        | some m =>
          rw [count_prd hq, prd_cat, ← count_prd hc, ← count_prd hc', hnw, ← Int.natCast_mul]
  rw [hcnt] at h78
  have hall : n * w * B.length ≤ 3600 := by rw [← hnw]; exact Nat.le_trans (Nat.mul_le_mul hl hl') (by omega)
  have hes : ints (s ++ s') = .sl (s.length + s'.length) 1 (nums .i64 s ++ nums .i64 s') := by simp [ints, nums]
  rw [hes] at h77 h78
  have h79 := c79_ok (s := s) (t := []) (ch := ch) (l := A.map nR)
  have hlc := lst_cons hn
  have hcl := count_lst hcs
  obtain ⟨_, q2, _, _, q5, q6⟩ := count_parts hcs 1
  rw [hw] at q2 q6
  have hds8 : (s.drop 1).length ≤ 8 := by rw [List.length_drop]; omega
  have hdnn : ∀ d ∈ s.drop 1, 0 ≤ d := fun d hd => ((count_bound hc).2.1 d (List.mem_of_mem_drop hd)).1
  have h80 := c80_ok (E := I.E) q2
  obtain ⟨hal, hag⟩ := allL_all q2
  rw [hlc] at h79 hcl
  have hn4 : n ≤ 4096 := by
    rcases (count_iff.2 hcl) with ⟨_, g2, _⟩
    have := (count_bound (n := prd ((n : Int) :: s.drop 1)) (by
      cases hq : count ((n : Int) :: s.drop 1) with
      | none => exact absurd hq hcl
      | some m => rw [count_prd hq])).2.1 (n : Int) (by simp)
    omega
  have hcolA : ∀ j k, Sd 134 134 (A.getD (k * w + j) 0) := fun j k => by
    by_cases h : k * w + j < A.length
    · simp only [List.getD, List.getElem?_eq_getElem h, Option.getD_some]; exact hA _ (List.getElem_mem h)
    · simp only [List.getD, List.getElem?_eq_none (show A.length ≤ k * w + j by omega), Option.getD_none]; exact Sd.zero (by omega)
  have hgB : ∀ i, i < B.length → B.getD i 0 ∈ B := fun i h => by simp [List.getD, h]
  -- the columns
  have h81 : ∀ j, j < w → Go.V.Call tab E 81 [ints ((n : Int) :: s.drop 1), .int .i64 0, ints ((allL (s.drop 1)).getD j [])] [] (ints (colL n w j)) [] := fun j hj => by
    rw [hag j hj]
    exact c81_col hcl (pos_all hdnn (by omega)) hw hj hn4 hds8
  have hcolM : ∀ j, j < w → ∀ k ∈ colL n w j, 0 ≤ k ∧ k < ((A.map nR).length : Int) := fun j hj k hk => by
    simp only [colL, List.mem_map, List.mem_range] at hk
    obtain ⟨i, hi, rfl⟩ := hk
    have : (i + 1) * w ≤ n * w := Nat.mul_le_mul_right _ hi
    rw [Nat.add_mul, Nat.one_mul] at this
    rw [List.length_map, hnw]
    omega
  have hn60 : ∀ j, j < w → n ≤ 60 := fun j hj => by
    have : n * 1 ≤ n * w := Nat.mul_le_mul_left _ (by omega)
    omega
  have h83 := fun j (hj : j < w) => c83_ok (s := (n : Int) :: s.drop 1) (t := []) (ch := ch) (l := A.map nR) (hcolM j hj) (by rw [colL_len]; omega)
  have htk : ∀ j, j < w → takenL (A.map nR) (colL n w j) = ((List.range n).map fun k => A.getD (k * w + j) 0).map nR := fun j hj => by
    rw [takenL, colL, List.map_map, List.map_map]
    refine List.map_congr_left fun k hk => ?_
    have hk := List.mem_range.1 hk
    have : (k + 1) * w ≤ n * w := Nat.mul_le_mul_right _ hk
    rw [Nat.add_mul, Nat.one_mul] at this
    simp only [Function.comp]
    rw [Int.toNat_natCast, nmAt_nR (by omega)]
  have h82 := fun j i (hj : j < w) (hi : i < B.length) => c82_ok (B := (List.range n).map fun k => A.getD (k * w + j) 0) (x := B.getD i 0) (hB _ (hgB i hi)) (fun b hb => by
    obtain ⟨k, _, rfl⟩ := List.mem_map.1 hb
    exact hcolA j k) (by rw [List.length_map, List.length_range]; exact hn60 j hj)
  have hdg : ∀ j i, j < w → i < B.length → (List.range n).map (fun k => nR (xV (dgt (fun k => ((List.range n).map fun k => A.getD (k * w + j) 0).getD k 0) n (some (B.getD i 0)) k))) = digL A B n w j i := fun j i hj hi => by
    refine List.map_congr_left fun k hk => ?_
    have hk := List.mem_range.1 hk
    obtain ⟨d1, d2, d3⟩ := dec3 (w := w) (len := B.length) (k := k) hj hi
    rw [dAt, d1, d2, d3, dgt_congr (col' := fun k => A.getD (k * w + j) 0) (fun i hi => by simp [List.getD, hi]) hk]
  have h82' : ∀ j i, j < w → i < B.length → Go.V.Call tab E 82 [.sl n 3 (nmsC (takenL (A.map nR) (colL n w j))), .agg (nmC (nmAt (B.map nR) i))] [] (.sl n 3 (nmsC (digL A B n w j i))) [] := fun j i hj hi => by
    have h := h82 j i hj hi
    rw [List.length_map, List.length_range, hdg j i hj hi, ← htk j hj, ← nmC_nR, ← nmAt_nR hi] at h
    exact h
  have h83' : ∀ j, j < w → Go.V.Call tab E 83 [.agg (plX ((n : Int) :: s.drop 1) ch [] (A.map nR)), ints (colL n w j)] [] (.sl n 3 (nmsC (takenL (A.map nR) (colL n w j)))) [] := fun j hj => by
    have h := h83 j hj
    rw [colL_len] at h
    exact h
  have hlimb : ∀ j i k, j < w → i < B.length → k < n → Go.V.Call tab E 84 [.agg (nmC (nmAt (digL A B n w j i) k))] [] (.int .i64 ((rlimbs (xT (dAt A B n w ((k * w + j) * B.length + i))) : Nat) : Int)) [] := fun j i k hj hi hk => by
    obtain ⟨d1, d2, d3⟩ := dec3 (w := w) (len := B.length) (k := k) hj hi
    rw [digL_at hk, nmC_nR, rlimbs_V]
    refine limb_ok ?_
    rw [dAt, d1, d2, d3]
    exact Sd.dgt (hB _ (hgB i hi)) (hcolA j) (hn60 j hj)
  have hok := encB_iff (A := A) (B := B) (n := n) (w := w) (lim := lim)
  have hsB : ∀ i, i < B.length → sub true 3 (nmsC (B.map nR)) (i * 3) = some (.agg (nmC (nmAt (B.map nR) i))) := fun i hi => sub_nms (by rw [List.length_map]; exact hi)
  have hw4 : w ≤ 4096 := by omega
  clear h82 h83 hdg htk hcolA hgB hA hB hroom hc hc' hcs hcl hlc hn hw hs hs' hin q2 q5 q6 hcolM hag hcnt hdnn
  have htgt : plX (s ++ s') false [] (encN A B n w) = [.sl (s.length + s'.length) 1 (nums .i64 s ++ nums .i64 s'), .bool false, .sl 0 1 [], .sl (n * w * B.length) 3 (nmsC (encN A B n w))] := by
    rw [plX, hes]
    simp [encN, runes, nums]
  have hdc : List.take (s.drop 1).length (nums .i64 (s.drop 1)) = nums .i64 (s.drop 1) := List.take_of_length_le (by simp [nums])
  have hd1 : (1 : Int) ≤ (((s.drop 1).length + 1 : Nat) : Int) := by omega
  have hdr : List.drop 1 (nums .i64 ((n : Int) :: s.drop 1)) = nums .i64 (s.drop 1) := rfl
  generalize s.drop 1 = ds at *
  generalize hAC : A.map nR = AC at *
  generalize hBC : B.map nR = BC at *
  have hACl : AC.length = A.length := by rw [← hAC, List.length_map]
  have hBCl : BC.length = B.length := by rw [← hBC, List.length_map]
  have z1 : s.length * 8 ≤ 140737488355328 := by omega
  have z2 : s.length ≤ 140737488355328 := by omega
  have z3 : (s.length + s'.length) * 8 ≤ 140737488355328 := by omega
  have z4 : s.length + s'.length ≤ 140737488355328 := by omega
  have y0 : (0 : Int) ≤ ((n * w * B.length : Nat) : Int) := by omega
  have y1 : 40 * (n * w * B.length) ≤ 140737488355328 := by omega
  have y2 : ((n * w * B.length : Nat) : Int) ≤ 140737488355328 := by omega
  simp only [plX, runes, List.length_nil, nums_nil] at h79
  rw [htgt]
  simp only [c23, plX, runes, List.length_nil, nums_nil, go_sem, FL, subP4, subP4a, subP4c, List.flatten_cons, List.flatten_nil, Option.getD_some, List.append_nil, z1, z2, z3, z4, Nat.zero_add, Int.natCast_zero, Int.lt_irrefl]
  refine goR h77 rfl ?_
  simp only [go_sem, FL, subP4, subP4a, subP4c, bne_self_eq_false]
  refine goR h78 rfl ?_
  simp only [optP, go_sem, FL, subP4, subP4a, subP4c, y0, y1, y2, Int.toNat_natCast, nms_zero]
  refine goP h79 ?_
  simp only [go_sem, FL, subP4, subP4a, subP4c, hd1, hdr, hdc, Int.toNat_one, Nat.mul_one, Nat.one_mul, Nat.add_sub_cancel]
  refine goP h80 ?_
  have hrow := fun j (hj : j < w) => sub_rows (L := allL ds) (j := j) (by rw [hal]; exact hj)
  have hLl : ((allL ds).length : Int) = (w : Int) := by rw [hal]
  clear h77 h78 h79 h80 hdc hdr hes
  generalize allL ds = L at *
  simp only [rows, go_sem, FL]
  refine mLoop (fun N st => ∃ (j : Nat) (Lc : List Nm), j ≤ w ∧ N = w - j ∧ Lc.length = n * w * B.length ∧ (∀ q, q < n * w * B.length → q / B.length % w < j → nmAt Lc q = nR (xV (dAt A B n w q)) ∧ (rlimbs (xT (dAt A B n w q)) : Int) ≤ lim) ∧
    st = ⟨[(2, .int .i64 lim), (3, .loc 0 0 0), (4, .loc 1 0 0), (6, .loc 5 0 0), (12, .loc 11 0 0), (13, rows L), (14, .int .i64 j)], mem23 s s' ds n ch ch' AC BC (n * w * B.length) Lc⟩) w ⟨_, rfl, 0, List.replicate (n * w * B.length) (false, [], []), by omega, by omega, by simp, fun q _ h => absurd h (by omega), rfl⟩ ?_
  rintro N s0 ⟨j, Lc, hj, rfl, hLc, hdone, rfl⟩
  by_cases hjw : j < w
  · have hjw' : (j : Int) < (w : Int) := by omega
    have hjw2 : (j : Int) < (L.length : Int) := by omega
    have hj0 : (0 : Int) ≤ (j : Int) := by omega
    have h81j := h81 j hjw
    have hrj := hrow j hjw
    have h83j := h83' j hjw
    have hnn := hn60 j hjw
    have hj1 : IntKind.i64.wrap ((j : Int) + 1) = ((j + 1 : Nat) : Int) := by rw [wrap_i64 (by omega) (by omega)]; omega
    generalize L.getD j [] = R at *
    simp only [ints] at h81j hrj
    simp only [b23_0, mem23, rows, ints, plX, runes, List.length_nil, nums_nil, go_sem, FL, subP4, subP4a, hjw2, hj0, hrj, Int.toNat_natCast]
    refine goP h81j ?_
    simp only [go_sem, FL]
    refine mLoop (fun N st => ∃ (i : Nat) (Lc : List Nm), i ≤ B.length ∧ N = B.length - i ∧ Lc.length = n * w * B.length ∧
      (∀ q, q < n * w * B.length → (q / B.length % w < j ∨ q / B.length % w = j ∧ q % B.length < i) → nmAt Lc q = nR (xV (dAt A B n w q)) ∧ (rlimbs (xT (dAt A B n w q)) : Int) ≤ lim) ∧
      st = ⟨[(2, .int .i64 lim), (3, .loc 0 0 0), (4, .loc 1 0 0), (6, .loc 5 0 0), (12, .loc 11 0 0), (13, rows L), (14, .int .i64 j), (15, ints (colL n w j)), (16, .int .i64 i)], mem23 s s' ds n ch ch' AC BC (n * w * B.length) Lc⟩) B.length ⟨_, rfl, 0, Lc, by omega, by omega, hLc, fun q hq h => hdone q hq (by omega), rfl⟩ ?_
    clear hdone hLc Lc
    rintro N s0 ⟨i, Lc, hi, rfl, hLc, hdone, rfl⟩
    by_cases hiB : i < B.length
    · have hiB' : (i : Int) < (BC.length : Int) := by omega
      have hi0 : (0 : Int) ≤ (i : Int) := by omega
      have hi1 : IntKind.i64.wrap ((i : Int) + 1) = ((i + 1 : Nat) : Int) := by rw [wrap_i64 (by omega) (by omega)]; omega
      have h82j := h82' j i hjw hiB
      have hsb := hsB i hiB
      simp only [plX, runes, List.length_nil, nums_nil] at h83j
      simp only [ints, nmC] at h82j hsb h83j
      simp only [b23_1, mem23, rows, ints, plX, runes, List.length_nil, nums_nil, go_sem, FL, subP4, subP4a, subP3', subP3, hiB', hi0, hsb, Int.toNat_natCast]
      refine goP h83j ?_
      simp only [go_sem, FL, subP4, subP3', subP3, hiB', hi0, hsb, Int.toNat_natCast]
      refine goP h82j ?_
      simp only [go_sem, FL]
      refine mLoop (fun N st => ∃ (k : Nat) (Lc : List Nm), k ≤ n ∧ N = n - k ∧ Lc.length = n * w * B.length ∧
        (∀ q, q < n * w * B.length → (q / B.length % w < j ∨ q / B.length % w = j ∧ (q % B.length < i ∨ q % B.length = i ∧ q / B.length / w < k)) → nmAt Lc q = nR (xV (dAt A B n w q)) ∧ (rlimbs (xT (dAt A B n w q)) : Int) ≤ lim) ∧
        st = ⟨[(2, .int .i64 lim), (3, .loc 0 0 0), (4, .loc 1 0 0), (6, .loc 5 0 0), (12, .loc 11 0 0), (13, rows L), (14, .int .i64 j), (15, ints (colL n w j)), (16, .int .i64 i), (17, .sl n 3 (nmsC (digL A B n w j i))), (18, .int .i64 k)], mem23 s s' ds n ch ch' AC BC (n * w * B.length) Lc⟩) n ⟨_, rfl, 0, Lc, by omega, by omega, hLc, fun q hq h => hdone q hq (by
          rcases h with h | ⟨h1, h | ⟨h2, h3⟩⟩
          · exact .inl h
          · exact .inr ⟨h1, h⟩
          · exact absurd h3 (Nat.not_lt_zero _)), rfl⟩ ?_
      clear hdone hLc Lc
      rintro N s0 ⟨k, Lc, hk, rfl, hLc, hdone, rfl⟩
      by_cases hkn : k < n
      · have hkn' : (k : Int) < (n : Int) := by omega
        have hk0 : (0 : Int) ≤ (k : Int) := by omega
        have hk1 : IntKind.i64.wrap ((k : Int) + 1) = ((k + 1 : Nat) : Int) := by rw [wrap_i64 (by omega) (by omega)]; omega
        have hkw : k * w + j < n * w := by
          have : (k + 1) * w ≤ n * w := Nat.mul_le_mul_right _ hkn
          rw [Nat.add_mul, Nat.one_mul] at this
          omega
        have hq : (k * w + j) * B.length + i < n * w * B.length := by
          have : (k * w + j + 1) * B.length ≤ n * w * B.length := Nat.mul_le_mul_right _ hkw
          rw [Nat.add_mul, Nat.one_mul] at this
          omega
        obtain ⟨d1, d2, d3⟩ := dec3 (w := w) (len := B.length) (k := k) hjw hiB
        have hl84 := hlimb j i k hjw hiB hkn
        have hsd := sub_nms (l := digL A B n w j i) (i := k) (by simp [digL]; exact hkn)
        have hdat := digL_at (A := A) (B := B) (w := w) (j := j) (i := i) hkn
        have hsc := sub_nums (k := .i64) (l := colL n w j) (i := k) (by rw [colL_len]; exact hkn)
        rw [colL_get hkn] at hsc
        have hfill := fill_nms (L := Lc) (i := (k * w + j) * B.length + i) (z := nmAt (digL A B n w j i) k) (by omega)
        have hlt3 : ((k * w + j) * B.length + i) * 3 + 3 ≤ (nmsC Lc).length := by rw [show (nmsC Lc).length = Lc.length * 3 from flat_len (fun _ => rfl)]; omega
        have g3 : IntKind.i64.wrap (((k * w + j : Nat) : Int) * (BC.length : Int)) = (((k * w + j) * B.length : Nat) : Int) := by rw [hBCl, ← Int.natCast_mul, wrap_i64 (by omega) (by omega)]
        have g4 : IntKind.i64.wrap ((((k * w + j) * B.length : Nat) : Int) + (i : Int)) = (((k * w + j) * B.length + i : Nat) : Int) := by rw [← Int.natCast_add, wrap_i64 (by omega) (by omega)]
        have g5 : (0 : Int) ≤ (((k * w + j) * B.length + i : Nat) : Int) := by omega
        have g6 : (((k * w + j) * B.length + i : Nat) : Int) < ((n * w * B.length : Nat) : Int) := by omega
        have hcl : (colL n w j).length = n := colL_len
        have hckn : (k : Int) < ((colL n w j).length : Int) := by omega
        have hnew : (rlimbs (xT (dAt A B n w ((k * w + j) * B.length + i))) : Int) ≤ lim → (∀ q, q < n * w * B.length → (q / B.length % w < j ∨ q / B.length % w = j ∧ (q % B.length < i ∨ q % B.length = i ∧ q / B.length / w < k + 1)) → nmAt (Lc.set ((k * w + j) * B.length + i) (nmAt (digL A B n w j i) k)) q = nR (xV (dAt A B n w q)) ∧ (rlimbs (xT (dAt A B n w q)) : Int) ≤ lim) := fun hlm q hq' h => by
          rw [nmAt_set (by omega)]
          by_cases he : q = (k * w + j) * B.length + i
          · rw [if_pos he, he, hdat]; exact ⟨rfl, hlm⟩
          · rw [if_neg he]
            refine hdone q hq' ?_
            rcases h with h | ⟨h1, h | ⟨h2, h3⟩⟩
            · exact .inl h
            · exact .inr ⟨h1, .inl h⟩
            · refine .inr ⟨h1, .inr ⟨h2, ?_⟩⟩
              by_cases hc : q / B.length / w = k
              · exfalso; apply he
                rw [← enc3 (w := w) (len := B.length) (q := q), h1, h2, hc]
              · omega
        have hsl : (Lc.set ((k * w + j) * B.length + i) (nmAt (digL A B n w j i) k)).length = n * w * B.length := by rw [List.length_set]; exact hLc
        clear hdone hdat
        generalize Lc.set ((k * w + j) * B.length + i) (nmAt (digL A B n w j i) k) = L2 at *
        generalize nmAt (digL A B n w j i) k = z at *
        simp only [nmC] at hsd hl84 hfill
        by_cases hlm : (rlimbs (xT (dAt A B n w ((k * w + j) * B.length + i))) : Int) ≤ lim
        · have hl' : ¬ lim < ((rlimbs (xT (dAt A B n w ((k * w + j) * B.length + i))) : Nat) : Int) := by omega
          simp only [b23_2, mem23, rows, ints, plX, runes, List.length_nil, nums_nil, go_sem, FL, subP4, subP4a, hkn', hk0, hsd, Int.toNat_natCast]
          refine goP hl84 ?_
          simp only [go_sem, subP4, subP4a, subP3', subP3, hl', hkn', hckn, hk0, hsd, hsc, g3, g4, g5, g6, hlt3, hfill, hk1, Int.toNat_natCast]
          exact loopQ_go rfl (n - (k + 1)) (by omega) ⟨k + 1, L2, by omega, rfl, hsl, hnew hlm, rfl⟩
        · have hl' : lim < ((rlimbs (xT (dAt A B n w ((k * w + j) * B.length + i))) : Nat) : Int) := by omega
          have hbad : encB A B n w lim = false := by
            rw [← Bool.not_eq_true, hok]
            intro h
            exact hlm (h _ hq)
          simp only [b23_2, mem23, rows, ints, plX, runes, List.length_nil, nums_nil, go_sem, FL, subP4, subP4a, hkn', hk0, hsd, Int.toNat_natCast]
          refine goP hl84 ?_
          simp only [go_sem, FL, subP4, subP4a, hl', hbad]
          simp only [i23, OT, reduceIte, Nat.reduceEqDiff, subP4, noP, plX, runes]
          rfl
      · obtain rfl : k = n := by omega
        simp only [b23_2, k23_0, mem23, rows, ints, plX, runes, List.length_nil, nums_nil, go_sem, FL, Int.lt_irrefl, hi1]
        refine loopQ_go rfl (B.length - (i + 1)) (by omega) ⟨i + 1, Lc, by omega, rfl, hLc, fun q hq h => hdone q hq ?_, rfl⟩
        have : q / B.length / w < k := by
          rw [Nat.div_div_eq_div_mul]
          exact Nat.div_lt_of_lt_mul (by rw [Nat.mul_comm, Nat.mul_comm B.length, ← Nat.mul_assoc]; exact hq)
        omega
    · have hiB' : ¬ (i : Int) < (BC.length : Int) := by omega
      obtain rfl : i = B.length := by omega
      simp only [b23_1, k23_1, mem23, rows, ints, plX, runes, List.length_nil, nums_nil, go_sem, FL, subP3', subP3, hiB', hj1]
      refine loopQ_go rfl (w - (j + 1)) (by omega) ⟨j + 1, Lc, by omega, rfl, hLc, fun q hq h => hdone q hq ?_, rfl⟩
      have : q % B.length < B.length := by
        rcases Nat.eq_zero_or_pos B.length with h0 | h0
        · rw [h0] at hq; simp at hq
        · exact Nat.mod_lt _ h0
      omega
  · have hjw2 : ¬ (j : Int) < (L.length : Int) := by omega
    obtain rfl : j = w := by omega
    have hall2 : ∀ q, q < n * j * B.length → nmAt Lc q = nR (xV (dAt A B n j q)) ∧ (rlimbs (xT (dAt A B n j q)) : Int) ≤ lim := fun q hq => hdone q hq (by
      rcases Nat.eq_zero_or_pos j with h0 | h0
      · subst h0; simp at hq
      · exact Nat.mod_lt _ h0)
    have hgood : encB A B n j lim = true := hok.2 fun q hq => (hall2 q hq).2
    have hLE : Lc = encN A B n j := by
      apply List.ext_getElem? ; intro q
      by_cases hq : q < n * j * B.length
      · have := (hall2 q hq).1
        simp only [nmAt, List.getD] at this
        rw [List.getElem?_eq_getElem (by omega)] at this ⊢
        simp only [Option.getD_some] at this
        rw [this]
        simp [encN, hq]
      · rw [List.getElem?_eq_none (by omega), List.getElem?_eq_none (by simp [encN]; omega)]
    simp only [b23_0, k23_2, mem23, rows, ints, plX, runes, List.length_nil, nums_nil, go_sem, FL, subP4, hjw2]
    simp only [hLE] at hLc ⊢
    simp only [i23, OT, reduceIte, Nat.reduceEqDiff, subP4, hgood]
end Go.Proofs.YtlejgleocnemoaaGreat.I

namespace Go.Proofs.YtlejgleocnemoaaGreat.I
open Go Go.V
attribute [local go_sem] mNil nat0 beq_self_eq_true mSkip mRet mExit mReg mSeq mCond mTrue mFalse mBlock mLv mCodeE mCodeR mEndN mEndR mEndE mOps mSome mGuard mGtt mGff mGtf mGft mGu mCallP mCallR mCallF mCallO mCallZ mCallG mCallM mCallV loopQ_exit loopQ_ret mO_mov mO_newnil mO_pick mO_alloc mO_box mO_build mO_bsl mO_bslF mO_newnilB mO_bslB mO_lenB mO_appB mO_allocA mO_bslA mO_appA mO_ldb mO_faddrb mRsv mO_ldf mO_ld mO_st mO_sta mO_nilchk mO_bin mO_binb mO_binp mO_bins mO_neg mO_com mO_not mO_conv mO_mk mO_mk0 mO_mkB mO_s2b mO_b2s mO_cpy mO_cut mO_faddr mO_fld mO_iaddr mO_iaddrf mO_sidx mO_len mO_lenf mO_slen mO_scut mO_app mO_ext mO_mx mO_mn mO_mkfn evalOp cutOp argsE ev getE putE cellsOf adopt rowOf binV boolV nilV ar_add ar_sub ar_mul ar_quo ar_rem ar_eq ar_ne ar_lt ar_le ar_gt ar_ge ar_and ar_or ar_xor geto bound finRet finNrm ints List.length_cons List.length_nil List.length_append List.getElem?_cons_zero List.getElem?_cons_succ List.nil_append List.cons_append List.map_cons List.map_nil List.mapM_cons List.mapM_nil Option.map_some Option.map_none Option.bind_some Option.pure_def Option.bind_eq_bind List.drop_zero or_self or_false false_or or_true true_or true_and and_true and_self decide_true decide_false Bool.false_eq_true Bool.true_eq_false Bool.not_true Bool.not_false Nat.le_refl eq_self gt_iff_lt ge_iff_le ne_eq not_true_eq_false not_false_eq_true storeOp apartOf freeze_nil refsL refs List.flatMap_cons List.flatMap_nil List.append_nil List.contains_nil List.set_cons_zero List.set_cons_succ snap snapL fill_nums flat_nums nums_length Go.V.freeze List.mapIdx_cons List.mapIdx_nil List.contains_cons Bool.or_false Bool.false_or Bool.or_true Bool.true_or
theorem numC_zR {z : Int} : numC z = nmC (toNm (zR z)) := by
  have h1 : toNm (zR z) = (decide (z < 0), decL z.natAbs, decL (dn 1)) := rfl
  rw [h1]
  simp only [numC, nmC, dec_eq]
  rw [show dn 1 = 1 from rfl, decL_digit (d := 1) (by omega)]
  rfl
theorem numsC_zR {l : List Int} : numsC l = nmsC ((l.map zR).map toNm) := by
  induction l with
  | nil => rfl
  | cons z l ih =>
    have e1 : numsC (z :: l) = numC z ++ numsC l := by simp [numsC]
    rw [e1, ih, numC_zR]
    simp [nmsC]
theorem plG_X {s t l : List Int} {ch : Bool} : plG s ch t l = plX s ch t ((l.map zR).map toNm) := by
  rw [plG, plX, numsC_zR]
  simp
end Go.Proofs.YtlejgleocnemoaaGreat.I

namespace Go.Proofs.YtlejgleocnemoaaGreat.I
open Go Go.V
def numA (n : Int) : List AV := if n = 0 then [.sl 0 1 [], .bool false, .sl 1 1 [.int .u32 1]] else [.sl 1 1 [.int .u32 n], .bool false, .sl 1 1 [.int .u32 1]]
def arA (s : List Int) (l : List Int) : AV := .agg [.sl s.length 1 (s.map (.int .i64)), .bool false, .sl 0 1 [], .sl l.length 3 (l.flatMap numA), .bool true]
set_option maxRecDepth 100000 in
theorem aw1 : Go.V.Call tab E 66 [arA [] [10], arA [3] [1, 2, 3], .int .i64 4] [] (.tup [arA [] [123], .int .i64 0]) [] := Go.V.Call.run (ext := ext) (fun h => h) (fuel := 400) (n := 40) (by kernel_rfl)
set_option maxRecDepth 100000 in
theorem aw2 : Go.V.Call tab E 22 [arA [3] [24, 60, 60], arA [] [3661], .int .i64 4] [] (.tup [arA [3] [1, 1, 1], .int .i64 0]) [] := Go.V.Call.run (ext := ext) (fun h => h) (fuel := 400) (n := 40) (by kernel_rfl)
set_option maxRecDepth 100000 in
theorem aw3 : Go.V.Call tab E 22 [arA [2] [0, 10], arA [] [123], .int .i64 4] [] (.tup [arA [2] [12, 3], .int .i64 0]) [] := Go.V.Call.run (ext := ext) (fun h => h) (fuel := 400) (n := 40) (by kernel_rfl)
end Go.Proofs.YtlejgleocnemoaaGreat.I

namespace Go.Proofs.YtlejgleocnemoaaGreat.I
open Go Go.V
attribute [local go_sem_proc ↓] reduceIte
attribute [local go_sem_proc] Nat.reduceEqDiff Nat.reduceAdd Nat.reduceMul Nat.reduceLeDiff Nat.reduceLT Int.reduceToNat Int.reduceLT Int.reduceLE reduceCtorEq Nat.reduceBEq
attribute [local go_sem] mNil nat0 beq_self_eq_true mSkip mRet mExit mReg mSeq mCond mTrue mFalse mBlock mLv mCodeE mCodeR mEndN mEndR mEndE mOps mSome mGuard mGtt mGff mGtf mGft mGu mCallP mCallR mCallF mCallO mCallZ mCallG mCallM mCallV loopQ_exit loopQ_ret mO_mov mO_newnil mO_pick mO_alloc mO_box mO_build mO_bsl mO_bslF mO_newnilB mO_bslB mO_lenB mO_appB mO_allocA mO_bslA mO_appA mO_ldb mO_faddrb mRsv mO_ldf mO_ld mO_st mO_sta mO_nilchk mO_bin mO_binb mO_binp mO_bins mO_neg mO_com mO_not mO_conv mO_mk mO_mk0 mO_mkB mO_s2b mO_b2s mO_cpy mO_cut mO_faddr mO_fld mO_iaddr mO_iaddrf mO_sidx mO_len mO_lenf mO_slen mO_scut mO_app mO_ext mO_mx mO_mn mO_mkfn evalOp cutOp argsE ev getE putE cellsOf adopt rowOf binV boolV nilV ar_add ar_sub ar_mul ar_quo ar_rem ar_eq ar_ne ar_lt ar_le ar_gt ar_ge ar_and ar_or ar_xor geto bound finRet finNrm ints List.length_cons List.length_nil List.length_append List.getElem?_cons_zero List.getElem?_cons_succ List.nil_append List.cons_append List.map_cons List.map_nil List.mapM_cons List.mapM_nil Option.map_some Option.map_none Option.bind_some Option.pure_def Option.bind_eq_bind List.drop_zero or_self or_false false_or or_true true_or true_and and_true and_self decide_true decide_false Bool.false_eq_true Bool.true_eq_false Bool.not_true Bool.not_false Nat.le_refl eq_self gt_iff_lt ge_iff_le ne_eq not_true_eq_false not_false_eq_true storeOp apartOf freeze_nil refsL refs List.flatMap_cons List.flatMap_nil List.append_nil List.contains_nil List.set_cons_zero List.set_cons_succ snap snapL fill_nums flat_nums nums_length Go.V.freeze List.mapIdx_cons List.mapIdx_nil List.contains_cons Bool.or_false Bool.false_or Bool.or_true Bool.true_or
theorem int16_X {z : Int} (hz : In64 z) : Go.V.Call tab E 46 [.int .i64 z] [] (.agg (arrX [] false [] [zR z])) [] := by
  have h := c46_ok (E := E) (z := z) hz
  rw [arrV_X fun d hd => by obtain rfl := List.mem_singleton.1 hd; exact hz] at h
  exact h
theorem c24_yes {s t : List Int} {ch : Bool} {L : List Rt} (hs : (s.length : Int) ≤ 1000000000) (ht : (t.length : Int) ≤ 1000000000) (hl : (L.length : Int) ≤ 1000000000) (hlk : ∀ x ∈ L, RtOk x) :
    Go.V.Call tab E 24 [.agg (arrX s ch t L), .int .i64 0, .agg (plX s ch t (L.map toNm)), .int .i64 0] [] (.bool true) [] := by
  refine Go.V.Call.mach i24 c24 rfl rfl rfl rfl ?_
  have hlm : (L.map toNm).length = L.length := by simp
  have hu : ∀ x ∈ L.map toNm, NmU x := fun z hz => by
    obtain ⟨x, hx, rfl⟩ := List.mem_map.1 hz
    exact ⟨(decL_dig _).u8, (decL_dig _).u8, (hlk x hx).len.1, (hlk x hx).len.2⟩
  have h31 := c31_X (s := s) (t := t) (l := L) (ch := ch) (by omega) (by omega) (by omega) hlk
  have h29 := c29_gen (s := s) (s' := s) (t := t) (t' := t) (l := L.map toNm) (l' := L.map toNm) (ch := ch) (ch' := ch) (by omega) (by omega) (by omega) (by omega) (by omega) (by omega) hu hu
  rw [decide_eq_true ⟨rfl, rfl, rfl, rfl⟩] at h29
  simp only [plX, arrX, runes, ints] at h31 h29
  simp only [c24, plX, arrX, runes, ints, go_sem, FL, subA5, subP4, bne_self_eq_false]
  refine goP h31 ?_
  simp only [go_sem, FL, subA5, subP4]
  refine goP h29 ?_
  simp only [go_sem]
  simp only [i24, OT, reduceIte, Nat.reduceEqDiff]
theorem c24_err {e : Int} (he : e ≠ 0) : Go.V.Call tab E 24 [.agg noA, .int .i64 e, .agg noP, .int .i64 e] [] (.bool true) [] := by
  refine Go.V.Call.mach i24 c24 rfl rfl rfl rfl ?_
  have h55 := noA_len
  have hne : (e != 0) = true := by rw [bne_iff_ne]; exact he
  simp only [noA] at h55
  simp only [c24, noP, plX, noA, runes, ints, nums, nmsC, List.flatMap_nil, go_sem, FL, subA5, subP4, bne_self_eq_false, hne]
  refine goP h55 ?_
  simp only [go_sem, beq_self_eq_true]
  simp only [i24, OT, reduceIte, Nat.reduceEqDiff]
theorem numA_zR {z : Nat} (h : z < 4294967296) : rtC (zR (z : Int)) = numA (z : Int) := by
  have h1 : limG 1 = [1] := limG_one (d := 1) (by omega) (by omega)
  have hn : decide (((z : Nat) : Int) < 0) = false := decide_eq_false (by omega)
  simp only [rtC, zR, ratG, us32, h1, hn, Int.natAbs_natCast, numA]
  by_cases h0 : z = 0
  · subst h0; rw [limG_zero, if_pos (show ((0 : Nat) : Int) = 0 from rfl)]; rfl
  · rw [limG_one h0 h, if_neg (by omega)]; rfl
theorem arA_X {s : List Int} {l : List Int} (h : ∀ z ∈ l, 0 ≤ z ∧ z < 4294967296) : .agg (arrX s false [] (l.map zR)) = arA s l := by
  have : rtsC (l.map zR) = l.flatMap numA := by
    induction l with
    | nil => rfl
    | cons z l ih =>
      obtain ⟨n, rfl⟩ := Int.eq_ofNat_of_zero_le (h z (by simp)).1
      have e : rtsC (((n : Int) :: l).map zR) = rtC (zR (n : Int)) ++ rtsC (l.map zR) := by simp [rtsC]
      rw [e, ih (fun y hy => h y (by simp [hy])), numA_zR (by have := (h _ (List.mem_cons_self)).2; omega), List.flatMap_cons]
  rw [arrX, arA, this, List.length_map]
  rfl
theorem showsA {s l : List Int} (hs : (s.length : Int) ≤ 1000) (hl : (l.length : Int) ≤ 1000) (h : ∀ z ∈ l, 0 ≤ z ∧ z < 4294967296) : Go.V.Call tab E 24 [arA s l, .int .i64 0, .agg (plG s false [] l), .int .i64 0] [] (.bool true) [] := by
  have := c24_yes (s := s) (t := []) (ch := false) (L := l.map zR) (by omega) (by simp) (by simp; omega) (fun x hx => by
    obtain ⟨z, hz, rfl⟩ := List.mem_map.1 hx
    have := h z hz
    exact zR_ok ⟨by omega, by omega⟩)
  rw [arA_X h] at this
  rw [plG_X]
  exact this
theorem intsA {l : List Int} (hl : (l.length : Int) ≤ 1000) (h : ∀ z ∈ l, 0 ≤ z ∧ z < 4294967296) : Go.V.Call tab E 45 [ints l] [] (arA [(l.length : Int)] l) [] := by
  rw [← arA_X h]
  exact c45_X (by omega) (fun z hz => by have := h z hz; exact ⟨by omega, by omega⟩)
theorem intA {z : Int} (h : 0 ≤ z ∧ z < 4294967296) : Go.V.Call tab E 46 [.int .i64 z] [] (arA [] [z]) [] := by
  rw [← arA_X (fun y hy => by obtain rfl := List.mem_singleton.1 hy; exact h)]
  exact int16_X ⟨by omega, by omega⟩
theorem c21_base : Go.V.Call tab E 21 [] [] (.bool true) [] := by
  refine Go.V.Call.mach i21 c21 rfl rfl rfl rfl ?_
  have p1 : ∀ z ∈ ([1, 2, 3] : List Int), 0 ≤ z ∧ z < 4294967296 := by decide
  have p2 : ∀ z ∈ ([24, 60, 60] : List Int), 0 ≤ z ∧ z < 4294967296 := by decide
  have p3 : ∀ z ∈ ([0, 10] : List Int), 0 ≤ z ∧ z < 4294967296 := by decide
  have p4 : ∀ z ∈ ([1, 1, 1] : List Int), 0 ≤ z ∧ z < 4294967296 := by decide
  have p5 : ∀ z ∈ ([12, 3] : List Int), 0 ≤ z ∧ z < 4294967296 := by decide
  have p6 : ∀ z ∈ ([123] : List Int), 0 ≤ z ∧ z < 4294967296 := by decide
  have a1 := aw1
  have a2 := aw2
  have a3 := aw3
  have i1 := intsA (l := [1, 2, 3]) (by decide) p1
  have i2 := intsA (l := [24, 60, 60]) (by decide) p2
  have i3 := intsA (l := [0, 10]) (by decide) p3
  have n1 := intA (z := 10) (by decide)
  have n2 := intA (z := 3661) (by decide)
  have n3 := intA (z := 123) (by decide)
  have s1 := showsA (s := []) (l := [123]) (by decide) (by decide) p6
  have s2 := showsA (s := [3]) (l := [1, 1, 1]) (by decide) (by decide) p4
  have s3 := showsA (s := [2]) (l := [12, 3]) (by decide) (by decide) p5
  have r1 := c67_ok (E := E) (z := 123) ⟨by omega, by omega⟩
  have r2 := c32_ok (E := E) (l := [1, 1, 1]) (by decide) (fun z hz => by have := p4 z hz; exact ⟨by omega, by omega⟩)
  have r3 := c32_ok (E := E) (l := [12, 3]) (by decide) (fun z hz => by have := p5 z hz; exact ⟨by omega, by omega⟩)
  simp only [List.length_cons, List.length_nil, Nat.zero_add] at i1 i2 i3 r2 r3
  have q1 : ((0 + 1 + 1 + 1 : Nat) : Int) = 3 := by decide
  have q2 : ((0 + 1 + 1 : Nat) : Int) = 2 := by decide
  have q1' : ((1 + 1 + 1 : Nat) : Int) = 3 := by decide
  have q2' : ((1 + 1 : Nat) : Int) = 2 := by decide
  simp only [q1', q2'] at i1 i2 i3 r2 r3
  generalize h1 : plG [] false [] [123] = g1 at *
  generalize h2 : plG [3] false [] [1, 1, 1] = g2 at *
  generalize h3 : plG [2] false [] [12, 3] = g3 at *
  simp only [plG, runes] at h1 h2 h3
  subst h1; subst h2; subst h3
  simp only [arA, ints, nums, List.map_cons, List.map_nil, List.length_cons, List.length_nil, Nat.zero_add] at a1 a2 a3 i1 i2 i3 n1 n2 n3 s1 s2 s3 r1 r2 r3
  simp only [c21, go_sem, FL, subA5]
  refine goP n1 ?_
  simp only [go_sem, FL, subA5, List.flatten_cons, List.flatten_nil, Option.getD_some, List.append_nil]
  refine goF i1 ?_
  simp only [go_sem, FL, subA5]
  refine goP a1 ?_
  simp only [go_sem, FL, subA5, List.flatten_cons, List.flatten_nil, Option.getD_some, List.append_nil]
  refine goF i2 ?_
  simp only [go_sem, FL, subA5]
  refine goP n2 ?_
  simp only [go_sem, FL, subA5]
  refine goP a2 ?_
  simp only [go_sem, FL, subA5, List.flatten_cons, List.flatten_nil, Option.getD_some, List.append_nil]
  refine goF i3 ?_
  simp only [go_sem, FL, subA5]
  refine goP n3 ?_
  simp only [go_sem, FL, subA5]
  refine goP a3 ?_
  simp only [go_sem, FL, subA5]
  refine goP r1 ?_
  simp only [go_sem, FL, subA5]
  refine goR s1 rfl ?_
  simp only [go_sem, FL, subA5, List.flatten_cons, List.flatten_nil, Option.getD_some, List.append_nil]
  refine goF r2 ?_
  simp only [go_sem, FL, subA5]
  refine goR s2 rfl ?_
  simp only [go_sem, FL, subA5, List.flatten_cons, List.flatten_nil, Option.getD_some, List.append_nil]
  refine goF r3 ?_
  simp only [go_sem, FL, subA5]
  refine goR s3 rfl ?_
  simp only [go_sem, FL, subA5]
  simp only [i21, OT, reduceIte, Nat.reduceEqDiff]
end Go.Proofs.YtlejgleocnemoaaGreat.I
