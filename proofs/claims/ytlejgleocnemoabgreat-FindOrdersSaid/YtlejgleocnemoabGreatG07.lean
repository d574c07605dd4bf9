/- The texts L06o L08a L15a L07l L15b L15c L15d L15e L15f L15g L15h LRat L02a L02b L02c L15i L08b, one behind the other. Conditions: each text's own. -/
import Derived.Test.YtlejgleocnemoabGreatG06
import Derived.Test.YtlejgleocnemoabGreatG04
set_option linter.unusedSimpArgs false
set_option linter.unusedVariables false
namespace Go.Proofs.YtlejgleocnemoabGreat.I
open Go Go.V
attribute [local go_sem_proc ↓] reduceIte
attribute [local go_sem_proc] Nat.reduceEqDiff Nat.reduceAdd Nat.reduceMul Nat.reduceLeDiff Nat.reduceLT Int.reduceToNat Int.reduceLT Int.reduceLE reduceCtorEq Nat.reduceBEq
attribute [local go_sem] mNil nat0 beq_self_eq_true mSkip mRet mExit mReg mSeq mCond mTrue mFalse mBlock mLv mCodeE mCodeR mEndN mEndR mEndE mOps mSome mGuard mGtt mGff mGtf mGft mGu mCallP mCallR mCallF mCallO mCallZ mCallG mCallM mCallV loopQ_exit loopQ_ret mO_mov mO_newnil mO_pick mO_alloc mO_box mO_build mO_bsl mO_bslF mO_ldf mO_ld mO_st mO_sta mO_nilchk mO_bin mO_binb mO_binp mO_bins mO_neg mO_com mO_not mO_conv mO_mk mO_mk0 mO_s2b mO_b2s mO_cpy mO_cut mO_faddr mO_fld mO_iaddr mO_iaddrf mO_sidx mO_len mO_lenf mO_slen mO_scut mO_app mO_ext mO_mx mO_mn mO_mkfn evalOp cutOp argsE ev getE putE cellsOf adopt rowOf binV boolV nilV ar_add ar_sub ar_mul ar_quo ar_rem ar_eq ar_ne ar_lt ar_le ar_gt ar_ge ar_and ar_or ar_xor geto bound finRet finNrm ints List.length_cons List.length_nil List.length_append List.getElem?_cons_zero List.getElem?_cons_succ List.nil_append List.cons_append List.map_cons List.map_nil List.mapM_cons List.mapM_nil Option.map_some Option.map_none Option.bind_some Option.pure_def Option.bind_eq_bind List.drop_zero or_self or_false false_or or_true true_or true_and and_true and_self decide_true decide_false Bool.false_eq_true Bool.true_eq_false Bool.not_true Bool.not_false Nat.le_refl eq_self gt_iff_lt ge_iff_le ne_eq not_true_eq_false not_false_eq_true storeOp apartOf freeze_nil refsL refs List.flatMap_cons List.flatMap_nil List.append_nil List.contains_nil List.set_cons_zero List.set_cons_succ snap snapL fill_nums flat_nums nums_length Go.V.freeze List.mapIdx_cons List.mapIdx_nil List.contains_cons Bool.or_false Bool.false_or Bool.or_true Bool.true_or
def rv (x : Rt) : Int := (rint x).getD 0
def WhO (l : List Rt) : Prop := ∀ x ∈ l, (rint x).isSome = true
theorem rtAt_mem {l : List Rt} {i : Nat} (h : i < l.length) : rtAt l i ∈ l := by simp [rtAt, List.getD, h]
theorem nmAt_map {l : List Rt} {i : Nat} (h : i < l.length) : nmAt (l.map toNm) i = toNm (rtAt l i) := by simp [nmAt, rtAt, List.getD, h]
theorem RtOk.len {x : Rt} (h : RtOk x) : (decL x.2.1).length ≤ 1000000000 ∧ (decL (dn x.2.2)).length ≤ 1000000000 := ⟨Nat.le_trans (lim2000_len h.1) (by omega), Nat.le_trans (lim2000_len h.2) (by omega)⟩
def lmax (l : List Rt) : Nat := l.foldl (fun a x => max a (rlimbs x)) 0
def rbytes (x : Rt) : Nat := 8 + 4 * ((limG x.2.1).length + (limG (dn x.2.2)).length)
def bsum (l : List Rt) : Nat := l.foldl (fun a x => a + rbytes x) 0
def runeAt (t : List Int) (k : Int) : Int := if 0 ≤ k ∧ k < t.length then t.getD k.toNat 0 else 0
theorem c39_ok {s t : List Int} {l : List Rt} {ch : Bool} : Go.V.Call tab E 39 [.agg (arrX s ch t l)] [] (.bool ch) [] := by
  refine Go.V.Call.mach i39 c39 rfl rfl rfl rfl ?_
  simp only [c39, arrX, runes, go_sem, subX1, fillAll, fillIn, shiftR, shiftV, List.take_succ_cons, List.take_zero, List.drop_succ_cons, List.drop_zero, List.append_nil, Nat.zero_add]
  simp only [i39, Out, resAll, geto, ints, List.getElem?_cons_zero, List.getElem?_cons_succ, resOf, outOf, snap, snapL, ev, getE, List.mapM_cons, List.mapM_nil, Option.bind_some, Option.pure_def, Option.bind_eq_bind, Option.map_some, reduceIte, Nat.reduceEqDiff, true_and, and_true]
theorem c104_ok {s t : List Int} {l : List Rt} {ch : Bool} {k : Int} (ht : (t.length : Int) ≤ 1000000000000) : Go.V.Call tab E 104 [.agg (arrX s ch t l), .int .i64 k] [] (.int .i32 (runeAt t k)) [] := by
  refine Go.V.Call.mach i104 c104 rfl rfl rfl rfl ?_
  by_cases h1 : k < 0
  · have hp : runeAt t k = 0 := by rw [runeAt, if_neg (by omega)]
    simp only [c104, arrX, runes, go_sem, subX2, fillAll, fillIn, shiftR, shiftV, List.take_succ_cons, List.take_zero, List.drop_succ_cons, List.drop_zero, List.append_nil, Nat.zero_add, h1]
    simp only [i104, Out, resAll, geto, ints, List.getElem?_cons_zero, List.getElem?_cons_succ, resOf, outOf, snap, snapL, ev, getE, List.mapM_cons, List.mapM_nil, Option.bind_some, Option.pure_def, Option.bind_eq_bind, Option.map_some, reduceIte, Nat.reduceEqDiff, true_and, and_true, hp]
  · by_cases h2 : (t.length : Int) ≤ k
    · have hp : runeAt t k = 0 := by rw [runeAt, if_neg (by omega)]
      simp only [c104, arrX, runes, go_sem, subX2, fillAll, fillIn, shiftR, shiftV, List.take_succ_cons, List.take_zero, List.drop_succ_cons, List.drop_zero, List.append_nil, Nat.zero_add, h1, h2]
      simp only [i104, Out, resAll, geto, ints, List.getElem?_cons_zero, List.getElem?_cons_succ, resOf, outOf, snap, snapL, ev, getE, List.mapM_cons, List.mapM_nil, Option.bind_some, Option.pure_def, Option.bind_eq_bind, Option.map_some, reduceIte, Nat.reduceEqDiff, true_and, and_true, hp]
    · have hp : runeAt t k = t.getD k.toNat 0 := by rw [runeAt, if_pos (by omega)]
      obtain ⟨j, rfl⟩ := Int.eq_ofNat_of_zero_le (show 0 ≤ k by omega)
      rw [Int.toNat_natCast] at hp
      have hsub := sub_nums (k := .i32) (l := t) (i := j) (by omega)
      have h3 : (0 : Int) ≤ (j : Int) := by omega
      have h4 : (j : Int) < (t.length : Int) := by omega
      simp only [c104, arrX, runes, go_sem, subX2, fillAll, fillIn, shiftR, shiftV, List.take_succ_cons, List.take_zero, List.drop_succ_cons, List.drop_zero, List.append_nil, Nat.zero_add, h1, h2, h3, h4, Int.toNat_natCast, hsub]
      simp only [i104, Out, resAll, geto, ints, List.getElem?_cons_zero, List.getElem?_cons_succ, resOf, outOf, snap, snapL, ev, getE, List.mapM_cons, List.mapM_nil, Option.bind_some, Option.pure_def, Option.bind_eq_bind, Option.map_some, reduceIte, Nat.reduceEqDiff, true_and, and_true, hp]
theorem c38_X {s t : List Int} {l : List Rt} {ch : Bool} (hs : (s.length : Int) ≤ 1000000000000) : Go.V.Call tab E 38 [.agg (arrX s ch t l)] [] (.int .i64 s.length) [] := by
  refine Go.V.Call.mach i38 c38 rfl rfl rfl rfl ?_
  have h69 := c53_X (s := s) (t := t) (l := l) (ch := ch) hs
  simp only [arrX, runes, ints] at h69
  simp only [c38, arrX, runes, ints, go_sem, subA5, fillAll, fillIn, shiftR, shiftV, List.take_succ_cons, List.take_zero, List.drop_succ_cons, List.drop_zero, List.append_nil, Nat.zero_add]
  refine goP h69 ?_
  simp only [go_sem, fillAll, fillIn, shiftR, shiftV, List.take_succ_cons, List.take_zero, List.drop_succ_cons, List.drop_zero, List.append_nil, Nat.zero_add]
  simp only [i38, Out, resAll, geto, ints, List.getElem?_cons_zero, List.getElem?_cons_succ, resOf, outOf, snap, snapL, ev, getE, List.mapM_cons, List.mapM_nil, Option.bind_some, Option.pure_def, Option.bind_eq_bind, Option.map_some, reduceIte, Nat.reduceEqDiff, true_and, and_true]
def roomX (s t : List Int) (l : List Rt) : Nat := 16 + 4 * s.length + t.length + bsum l
end Go.Proofs.YtlejgleocnemoabGreat.I

namespace Go.Proofs.YtlejgleocnemoabGreat.I
open Go Go.V
attribute [local go_sem] mNil nat0 beq_self_eq_true mSkip mRet mExit mReg mSeq mCond mTrue mFalse mBlock mLv mCodeE mCodeR mEndN mEndR mEndE mOps mSome mGuard mGtt mGff mGtf mGft mGu mCallP mCallR mCallF mCallO mCallZ mCallG mCallM mCallV loopQ_exit loopQ_ret mO_mov mO_newnil mO_pick mO_alloc mO_box mO_build mO_bsl mO_bslF mO_ldf mO_ld mO_st mO_sta mO_nilchk mO_bin mO_binb mO_binp mO_bins mO_neg mO_com mO_not mO_conv mO_mk mO_mk0 mO_s2b mO_b2s mO_cpy mO_cut mO_faddr mO_fld mO_iaddr mO_iaddrf mO_sidx mO_len mO_lenf mO_slen mO_scut mO_app mO_ext mO_mx mO_mn mO_mkfn evalOp cutOp argsE ev getE putE cellsOf adopt rowOf binV boolV nilV ar_add ar_sub ar_mul ar_quo ar_rem ar_eq ar_ne ar_lt ar_le ar_gt ar_ge ar_and ar_or ar_xor geto bound finRet finNrm ints List.length_cons List.length_nil List.length_append List.getElem?_cons_zero List.getElem?_cons_succ List.nil_append List.cons_append List.map_cons List.map_nil List.mapM_cons List.mapM_nil Option.map_some Option.map_none Option.bind_some Option.pure_def Option.bind_eq_bind List.drop_zero or_self or_false false_or or_true true_or true_and and_true and_self decide_true decide_false Bool.false_eq_true Bool.true_eq_false Bool.not_true Bool.not_false Nat.le_refl eq_self gt_iff_lt ge_iff_le ne_eq not_true_eq_false not_false_eq_true storeOp apartOf freeze_nil refsL refs List.flatMap_cons List.flatMap_nil List.append_nil List.contains_nil List.set_cons_zero List.set_cons_succ snap snapL fill_nums flat_nums nums_length Go.V.freeze List.mapIdx_cons List.mapIdx_nil List.contains_cons Bool.or_false Bool.false_or Bool.or_true Bool.true_or
def zR (z : Int) : Rt := (decide (z < 0), z.natAbs, 1)
theorem ratC_zR {z : Int} (hz : In64 z) : ratC z = rtC (zR z) := by
  obtain ⟨h1, h2⟩ := hz
  rw [ratC, lim_limG (by omega)]
  show _ = [us32 (limG z.natAbs), AV.bool (decide (z < 0)), us32 (limG 1)]
  rw [limG_one (d := 1) (by omega) (by omega)]
  rfl
theorem ratsC_zR {l : List Int} (hl : ∀ z ∈ l, In64 z) : ratsC l = rtsC (l.map zR) := by
  induction l with
  | nil => rfl
  | cons z l ih =>
    have e1 : ratsC (z :: l) = ratC z ++ ratsC l := by simp [ratsC]
    have e2 : rtsC ((z :: l).map zR) = rtC (zR z) ++ rtsC (l.map zR) := by simp [rtsC]
    rw [e1, e2, ratC_zR (hl z (by simp)), ih fun y hy => hl y (by simp [hy])]
theorem arrV_X {s l : List Int} (hl : ∀ z ∈ l, In64 z) : arrV s l = arrX s false [] (l.map zR) := by
  rw [arrV, arrX, ratsC_zR hl, List.length_map]
  rfl
theorem zR_ok {z : Int} (hz : In64 z) : RtOk (zR z) := by
  have h : ∀ n, n ≤ 9223372036854775808 → n < lim2000 := fun n hn => Nat.lt_of_lt_of_le (show n < 10 ^ 19 by omega) (pow10_le (by omega))
  obtain ⟨h1, h2⟩ := hz
  exact ⟨h _ (by show z.natAbs ≤ _; omega), h _ (by show dn 1 ≤ _; decide)⟩
def wholeB (ch : Bool) (t : List Int) (L : List Rt) : Bool := !(ch && decide (0 < t.length + L.length)) && L.all fun x => (rint x).isSome
def lisV (s : List Int) (ch : Bool) (t : List Int) (L : List Rt) : List Int := if s.length ≤ 1 ∧ wholeB ch t L = true then L.map rv else []
def lisE (s : List Int) (ch : Bool) (t : List Int) (L : List Rt) : Int := if 1 < s.length then 23 else if wholeB ch t L = true then 0 else 22
def noP : List AV := plX [] false [] []
theorem noA_len : Go.V.Call tab E 23 [.agg noA] [] (.int .i64 0) [] := c23_no
def axA (s : List Int) (a : Int) : Int := if a < 0 then (s.length : Int) - 1 else a
def axB (s : List Int) (a : Int) : Bool := decide (0 ≤ axA s a) && decide (axA s a < (s.length : Int))
theorem c34_X {l : List Int} (hl : (l.length : Int) ≤ 1000000000000) (hz : ∀ z ∈ l, In64 z) : Go.V.Call tab E 34 [ints l] [] (.agg (arrX [(l.length : Int)] false [] (l.map zR))) [] := by
  rw [← arrV_X hz]
  exact c34_ok hl hz
end Go.Proofs.YtlejgleocnemoabGreat.I

namespace Go.Proofs.YtlejgleocnemoabGreat.I
open Go Go.V
attribute [local go_sem_proc ↓] reduceIte
attribute [local go_sem_proc] Nat.reduceEqDiff Nat.reduceAdd Nat.reduceMul Nat.reduceLeDiff Nat.reduceLT Int.reduceToNat Int.reduceLT Int.reduceLE reduceCtorEq Nat.reduceBEq
attribute [local go_sem] mNil nat0 beq_self_eq_true mSkip mRet mExit mReg mSeq mCond mTrue mFalse mBlock mLv mCodeE mCodeR mEndN mEndR mEndE mOps mSome mGuard mGtt mGff mGtf mGft mGu mCallP mCallR mCallF mCallO mCallZ mCallG mCallM mCallV loopQ_exit loopQ_ret mO_mov mO_newnil mO_pick mO_alloc mO_box mO_build mO_bsl mO_bslF mO_ldf mO_ld mO_st mO_sta mO_nilchk mO_bin mO_binb mO_binp mO_bins mO_neg mO_com mO_not mO_conv mO_mk mO_mk0 mO_s2b mO_b2s mO_cpy mO_cut mO_faddr mO_fld mO_iaddr mO_iaddrf mO_sidx mO_len mO_lenf mO_slen mO_scut mO_app mO_ext mO_mx mO_mn mO_mkfn evalOp cutOp argsE ev getE putE cellsOf adopt rowOf binV boolV nilV ar_add ar_sub ar_mul ar_quo ar_rem ar_eq ar_ne ar_lt ar_le ar_gt ar_ge ar_and ar_or ar_xor geto bound finRet finNrm ints List.length_cons List.length_nil List.length_append List.getElem?_cons_zero List.getElem?_cons_succ List.nil_append List.cons_append List.map_cons List.map_nil List.mapM_cons List.mapM_nil Option.map_some Option.map_none Option.bind_some Option.pure_def Option.bind_eq_bind List.drop_zero or_self or_false false_or or_true true_or true_and and_true and_self decide_true decide_false Bool.false_eq_true Bool.true_eq_false Bool.not_true Bool.not_false Nat.le_refl eq_self gt_iff_lt ge_iff_le ne_eq not_true_eq_false not_false_eq_true storeOp apartOf freeze_nil refsL refs List.flatMap_cons List.flatMap_nil List.append_nil List.contains_nil List.set_cons_zero List.set_cons_succ snap snapL fill_nums flat_nums nums_length Go.V.freeze List.mapIdx_cons List.mapIdx_nil List.contains_cons Bool.or_false Bool.false_or Bool.or_true Bool.true_or
theorem row_get {M1 M2 : List AObj} {o : AObj} {K : Nat} (hK : M1.length = K) : (M1 ++ o :: M2)[K]? = some o := by subst hK; simp
theorem row_set {M1 M2 : List AObj} {o p : AObj} {K : Nat} (hK : M1.length = K) : (M1 ++ o :: M2).set K p = M1 ++ p :: M2 := by subst hK; simp
theorem mapI {l : List AObj} : List.mapIdx (fun (_ : Nat) (o : AObj) => o) l = l := by
  apply List.ext_getElem?
  intro i
  simp
def rowM (M1 M2 : List AObj) (N : Nat) (l : List Int) : List AObj := M1 ++ ⟨false, 3, 1, 0, N, nums .i64 l, false⟩ :: M2
theorem put_nums {k : IntKind} {y : List Int} {p : Nat} {v : Int} : List.take (p * 1) (nums k y) ++ [.int k v] ++ List.drop (p * 1 + 1) (nums k y) = nums k (y.take p ++ v :: y.drop (p + 1)) := by
  simp [nums, List.map_take, List.map_drop]
theorem tk_getD {l : List Int} {i : Nat} (h : i < l.length) : l.take (i + 1) = l.take i ++ [l.getD i 0] := by
  rw [List.take_add_one]
  simp [List.getD, h]
theorem at_get {U V : List Int} {x : Int} {p : Nat} (h : U.length = p) : (U ++ x :: V).getD p 0 = x := by
  subst h; simp [List.getD]
theorem at_put {U V : List Int} {x v : Int} {p : Nat} (h : U.length = p) : (U ++ x :: V).take p ++ v :: (U ++ x :: V).drop (p + 1) = U ++ v :: V := by
  subst h; simp
theorem swp_up {U V W l : List Int} {x y : Int} {p q : Nat} (hl : l = U ++ x :: (V ++ y :: W)) (hp : U.length = p) (hq : p + 1 + V.length = q) :
    l.getD p 0 = x ∧ l.getD q 0 = y ∧ p * 1 + 1 ≤ l.length ∧ q * 1 + 1 ≤ l.length ∧ ∃ l1, l.take p ++ y :: l.drop (p + 1) = l1 ∧ q * 1 + 1 ≤ l1.length ∧ l1.take q ++ x :: l1.drop (q + 1) = U ++ y :: (V ++ x :: W) := by
  subst hl
  have e : ∀ a b : Int, U ++ a :: (V ++ b :: W) = (U ++ a :: V) ++ b :: W := fun a b => by simp
  have hq' : ∀ a : Int, (U ++ a :: V).length = q := fun a => by simp; omega
  have h1 := at_put (U := U) (V := V ++ y :: W) (x := x) (v := y) hp
  refine ⟨at_get hp, by rw [e]; exact at_get (hq' x), by simp; omega, by simp; omega, _, h1, by simp; omega, ?_⟩
  rw [e, at_put (hq' y), e]
theorem swp_dn {U V W l : List Int} {x y : Int} {p q : Nat} (hl : l = U ++ x :: (V ++ y :: W)) (hp : U.length = p) (hq : p + 1 + V.length = q) :
    l.getD p 0 = x ∧ l.getD q 0 = y ∧ p * 1 + 1 ≤ l.length ∧ q * 1 + 1 ≤ l.length ∧ ∃ l1, l.take q ++ x :: l.drop (q + 1) = l1 ∧ p * 1 + 1 ≤ l1.length ∧ l1.take p ++ y :: l1.drop (p + 1) = U ++ y :: (V ++ x :: W) := by
  subst hl
  have e : ∀ a b : Int, U ++ a :: (V ++ b :: W) = (U ++ a :: V) ++ b :: W := fun a b => by simp
  have hq' : ∀ a : Int, (U ++ a :: V).length = q := fun a => by simp; omega
  have h1 := at_put (U := U ++ x :: V) (V := W) (x := y) (v := x) (hq' x)
  rw [← e, ← e] at h1
  exact ⟨at_get hp, by rw [e]; exact at_get (hq' x), by simp; omega, by simp; omega, _, h1, by simp; omega, at_put hp⟩
theorem wad {a b : Nat} (h : a + b ≤ 100000000) : IntKind.i64.wrap ((a : Int) + (b : Int)) = ((a + b : Nat) : Int) := by
  rw [wrap_i64 (by omega) (by omega)]; omega
theorem wsb {a b : Nat} (h : b ≤ a) (h2 : a ≤ 100000000) : IntKind.i64.wrap ((a : Int) - (b : Int)) = ((a - b : Nat) : Int) := by
  rw [wrap_i64 (by omega) (by omega)]; omega
section
variable {E : CallRel} {M1 M2 : List AObj} {K N : Nat} {fn : AV}
theorem c172_ok {P A Q B R : List Int} {a b n : Nat} (hK : M1.length = K) (hA : A.length = n) (hB : B.length = n) (ha : P.length = a) (hb : a + n + Q.length = b) (hN : b + n + R.length = N) (hN2 : N ≤ 1000000) :
    Go.V.Call tab E 172 [.arr K 0, .int .i64 a, .int .i64 b, .int .i64 n, fn] (rowM M1 M2 N (P ++ (A ++ (Q ++ (B ++ R))))) (.tup []) (rowM M1 M2 N (P ++ (B ++ (Q ++ (A ++ R))))) := by
  refine Go.V.Call.mach i172 c172 rfl rfl rfl rfl ?_
  have hg : ∀ o : AObj, (M1 ++ o :: M2)[K]? = some o := fun o => row_get hK
  have hs : ∀ o p : AObj, (M1 ++ o :: M2).set K p = M1 ++ p :: M2 := fun o p => row_set hK
  simp only [c172, rowM, go_sem]
  refine mLoop (fun M st => ∃ i : Nat, i ≤ n ∧ M = n - i ∧ st = ⟨[(0, .arr K 0), (1, .int .i64 a), (2, .int .i64 b), (3, .int .i64 n), (10, .int .i64 i)], rowM M1 M2 N (P ++ (B.take i ++ (A.drop i ++ (Q ++ (A.take i ++ (B.drop i ++ R))))))⟩) n ⟨_, rfl, 0, by omega, by omega, by simp [getE, rowM]⟩ ?_
  rintro M s0 ⟨i, hi, rfl, rfl⟩
  by_cases hlt : i < n
  · have hlt' : (i : Int) < (n : Int) := by omega
    have hi1 : IntKind.i64.wrap ((i : Int) + 1) = ((i + 1 : Nat) : Int) := by rw [wrap_i64 (by omega) (by omega)]; omega
    have hl : P ++ (B.take i ++ (A.drop i ++ (Q ++ (A.take i ++ (B.drop i ++ R))))) = (P ++ B.take i) ++ A.getD i 0 :: ((A.drop (i + 1) ++ (Q ++ A.take i)) ++ B.getD i 0 :: (B.drop (i + 1) ++ R)) := by
      rw [getD_drop (s := A) (by omega), getD_drop (s := B) (by omega)]; simp
    have hl2 : (P ++ B.take i) ++ B.getD i 0 :: ((A.drop (i + 1) ++ (Q ++ A.take i)) ++ A.getD i 0 :: (B.drop (i + 1) ++ R)) = P ++ (B.take (i + 1) ++ (A.drop (i + 1) ++ (Q ++ (A.take (i + 1) ++ (B.drop (i + 1) ++ R))))) := by
      rw [tk_getD (l := A) (by omega), tk_getD (l := B) (by omega)]; simp
    obtain ⟨g1, g2, g3, g4, l1, g5, g6, g7⟩ := swp_up (p := a + i) (q := b + i) hl (by simp; omega) (by simp; omega)
    rw [hl2] at g7
    have hlen : (P ++ (B.take i ++ (A.drop i ++ (Q ++ (A.take i ++ (B.drop i ++ R)))))).length = N := by simp; omega
    have wa := wad (a := a) (b := i) (by omega)
    have wb := wad (a := b) (b := i) (by omega)
    generalize P ++ (B.take i ++ (A.drop i ++ (Q ++ (A.take i ++ (B.drop i ++ R))))) = l at *
    have hsa := sub_nums (k := .i64) (l := l) (i := a + i) (by omega)
    have hsb := sub_nums (k := .i64) (l := l) (i := b + i) (by omega)
    rw [g1] at hsa
    rw [g2] at hsb
    have ka : (0 : Int) ≤ ((a + i : Nat) : Int) := by omega
    have kb : (0 : Int) ≤ ((b + i : Nat) : Int) := by omega
    have ka2 : ((a + i : Nat) : Int) < (N : Int) := by omega
    have kb2 : ((b + i : Nat) : Int) < (N : Int) := by omega
    generalize A.getD i 0 = x at *
    generalize B.getD i 0 = y at *
    clear hl hl2 g1 g2
    generalize a + i = p at *
    generalize b + i = q at *
    simp only [b172_0, rowM, go_sem, mapI, hlt', hg, hs, wa, wb, ka, kb, ka2, kb2, Int.toNat_natCast, hsa, hsb, g3, g6, put_nums, g5, g7, hi1]
    exact loopQ_go rfl (n - (i + 1)) (by omega) ⟨i + 1, by omega, rfl, rfl⟩
  · have hlt' : ¬ (i : Int) < (n : Int) := by omega
    obtain rfl : i = n := by omega
    rw [List.take_of_length_le (by omega), List.take_of_length_le (by omega), List.drop_eq_nil_of_le (by omega), List.drop_eq_nil_of_le (by omega), List.nil_append, List.nil_append]
    simp only [b172_0, rowM, go_sem, hlt']
    simp only [i172, Out, resAll, geto, ints, List.getElem?_cons_zero, List.getElem?_cons_succ, resOf, outOf, snap, snapL, ev, getE, List.mapM_cons, List.mapM_nil, Option.bind_some, Option.pure_def, Option.bind_eq_bind, Option.map_some, reduceIte, Nat.reduceEqDiff, true_and, and_true]
theorem c162_ok {P X Y R : List Int} {a m b : Nat} (hK : M1.length = K) (ha : P.length = a) (hm : a + X.length = m) (hb : m + Y.length = b) (hN : b + R.length = N) (hN2 : N ≤ 1000000) (hX : 0 < X.length) (hY : 0 < Y.length) :
    Go.V.Call tab E 162 [.arr K 0, .int .i64 a, .int .i64 m, .int .i64 b, fn] (rowM M1 M2 N (P ++ (X ++ (Y ++ R)))) (.tup []) (rowM M1 M2 N (P ++ (Y ++ (X ++ R)))) := by
  refine Go.V.Call.mach i162 c162 rfl rfl rfl rfl ?_
  have w1 : IntKind.i64.wrap ((m : Int) - (a : Int)) = (X.length : Int) := by rw [wrap_i64 (by omega) (by omega)]; omega
  have w2 : IntKind.i64.wrap ((b : Int) - (m : Int)) = (Y.length : Int) := by rw [wrap_i64 (by omega) (by omega)]; omega
  simp only [c162, go_sem, w1, w2]
  generalize hT : P ++ (Y ++ (X ++ R)) = T
  refine mLoop (fun M st => ∃ P' X' Y' R' : List Int, P'.length + X'.length = m ∧ m + Y'.length + R'.length = N ∧ 0 < X'.length ∧ 0 < Y'.length ∧ P' ++ (Y' ++ (X' ++ R')) = T ∧ M = X'.length + Y'.length ∧
    st = ⟨[(0, .arr K 0), (2, .int .i64 m), (4, fn), (10, .int .i64 X'.length), (11, .int .i64 Y'.length)], rowM M1 M2 N (P' ++ (X' ++ (Y' ++ R')))⟩) (X.length + Y.length) ⟨_, rfl, P, X, Y, R, by omega, by omega, hX, hY, hT, rfl, rfl⟩ ?_
  rintro M s0 ⟨P', X', Y', R', h1, h2, h3, h4, h5, rfl, rfl⟩
  have v1 := wsb (a := m) (b := X'.length) (by omega) (by omega)
  by_cases hne : X'.length = Y'.length
  · have hne' : ((X'.length : Int) != (Y'.length : Int)) = false := by rw [hne, bne_self_eq_false]
    have h172 := c172_ok (E := E) (fn := fn) (M1 := M1) (M2 := M2) (P := P') (A := X') (Q := []) (B := Y') (R := R') (a := m - X'.length) (b := m) (n := X'.length) hK rfl hne.symm (by omega) (by simp; omega) (N := N) (by omega) hN2
    simp only [List.nil_append] at h172
    rw [h5] at h172
    simp only [b162_0, k162_0, go_sem, hne', v1]
    refine goM h172 ?_
    simp only [go_sem]
    simp only [i162, Out, resAll, geto, ints, List.getElem?_cons_zero, List.getElem?_cons_succ, resOf, outOf, snap, snapL, ev, getE, List.mapM_cons, List.mapM_nil, Option.bind_some, Option.pure_def, Option.bind_eq_bind, Option.map_some, reduceIte, Nat.reduceEqDiff, true_and, and_true]
  · have hne' : ((X'.length : Int) != (Y'.length : Int)) = true := by rw [bne_iff_ne]; omega
    by_cases hgt : Y'.length < X'.length
    · have hgt' : (Y'.length : Int) < (X'.length : Int) := by omega
      have l1 : (X'.take Y'.length).length = Y'.length := by rw [List.length_take]; omega
      have l2 : (X'.drop Y'.length).length = X'.length - Y'.length := List.length_drop ..
      have ex : X' = X'.take Y'.length ++ X'.drop Y'.length := (List.take_append_drop _ _).symm
      have v2 := wsb (a := X'.length) (b := Y'.length) (by omega) (by omega)
      rw [← l2] at v2
      generalize X'.take Y'.length = X1 at *
      generalize X'.drop Y'.length = X2 at *
      have h172 := c172_ok (E := E) (fn := fn) (M1 := M1) (M2 := M2) (P := P') (A := X1) (Q := X2) (B := Y') (R := R') (a := m - X'.length) (b := m) (n := Y'.length) hK l1 rfl (by omega) (by omega) (N := N) (by omega) hN2
      have em : P' ++ (X1 ++ (X2 ++ (Y' ++ R'))) = P' ++ (X' ++ (Y' ++ R')) := by rw [ex]; simp
      rw [em] at h172
      simp only [b162_0, go_sem, hne', hgt', v1]
      refine goM h172 ?_
      simp only [go_sem, v2]
      refine loopQ_go rfl (X2.length + X1.length) (by omega) ⟨P' ++ Y', X2, X1, R', by simp; omega, by omega, by omega, by omega, by rw [← h5, ex]; simp, rfl, ?_⟩
      rw [l1, List.append_assoc]
      rfl
    · have hgt' : ¬ (Y'.length : Int) < (X'.length : Int) := by omega
      have l1 : (Y'.take (Y'.length - X'.length)).length = Y'.length - X'.length := by rw [List.length_take]; omega
      have l2 : (Y'.drop (Y'.length - X'.length)).length = X'.length := by rw [List.length_drop]; omega
      have ey : Y' = Y'.take (Y'.length - X'.length) ++ Y'.drop (Y'.length - X'.length) := (List.take_append_drop _ _).symm
      have v2 := wsb (a := Y'.length) (b := X'.length) (by omega) (by omega)
      have v3 := wad (a := m) (b := Y'.length) (by omega)
      have v4 := wsb (a := m + Y'.length) (b := X'.length) (by omega) (by omega)
      rw [← l1] at v2
      generalize Y'.take (Y'.length - X'.length) = Y1 at *
      generalize Y'.drop (Y'.length - X'.length) = Y2 at *
      have h172 := c172_ok (E := E) (fn := fn) (M1 := M1) (M2 := M2) (P := P') (A := X') (Q := Y1) (B := Y2) (R := R') (a := m - X'.length) (b := m + Y'.length - X'.length) (n := X'.length) hK rfl l2 (by omega) (by omega) (N := N) (by omega) hN2
      have em : P' ++ (X' ++ (Y1 ++ (Y2 ++ R'))) = P' ++ (X' ++ (Y' ++ R')) := by rw [ey]; simp
      rw [em] at h172
      simp only [b162_0, go_sem, hne', hgt', v1, v3, v4]
      refine goM h172 ?_
      simp only [go_sem, v2]
      refine loopQ_go rfl (Y2.length + Y1.length) (by omega) ⟨P', Y2, Y1, X' ++ R', by omega, by simp; omega, by omega, by omega, by rw [← h5, ey]; simp, rfl, ?_⟩
      rw [l2]
      simp [getE]
end
end Go.Proofs.YtlejgleocnemoabGreat.I

namespace Go.Proofs.YtlejgleocnemoabGreat.I
open Go Go.V
theorem goFn {C : CallRel} {Q : X → St → Prop} {f : Nat} {caps as1 bs : List AV} {d : Option Nat} {os : List IOp} {k : List Go.V.Item} {s : St} {r : AV} (hcaps : caps.mapM (fun c => snap s.mem 10 c) = some bs) (h : C f (as1 ++ bs) [] r []) (hs : scalars r = true)
    (hk : Mach C Q (.ops os :: k) .nrm ⟨putE s.env d r, s.mem⟩) : MachF C Q (.fn f caps) (some as1) d os k s := by
  simp only [MachF, hcaps, Option.map_some]
  exact goV h hs hk
section
variable {E : CallRel}
end
end Go.Proofs.YtlejgleocnemoabGreat.I

namespace Go.Proofs.YtlejgleocnemoabGreat.I
open Go Go.V
attribute [local go_sem_proc ↓] reduceIte
attribute [local go_sem_proc] Nat.reduceEqDiff Nat.reduceAdd Nat.reduceMul Nat.reduceLeDiff Nat.reduceLT Int.reduceToNat Int.reduceLT Int.reduceLE reduceCtorEq Nat.reduceBEq
attribute [local go_sem] mNil nat0 beq_self_eq_true mSkip mRet mExit mReg mSeq mCond mTrue mFalse mBlock mLv mCodeE mCodeR mEndN mEndR mEndE mOps mSome mGuard mGtt mGff mGtf mGft mGu mCallP mCallR mCallF mCallO mCallZ mCallG mCallM mCallV loopQ_exit loopQ_ret mO_mov mO_newnil mO_pick mO_alloc mO_box mO_build mO_bsl mO_bslF mO_ldf mO_ld mO_st mO_sta mO_nilchk mO_bin mO_binb mO_binp mO_bins mO_neg mO_com mO_not mO_conv mO_mk mO_mk0 mO_s2b mO_b2s mO_cpy mO_cut mO_faddr mO_fld mO_iaddr mO_iaddrf mO_sidx mO_len mO_lenf mO_slen mO_scut mO_app mO_ext mO_mx mO_mn mO_mkfn evalOp cutOp argsE ev getE putE cellsOf adopt rowOf binV boolV nilV ar_add ar_sub ar_mul ar_quo ar_rem ar_eq ar_ne ar_lt ar_le ar_gt ar_ge ar_and ar_or ar_xor geto bound finRet finNrm ints List.length_cons List.length_nil List.length_append List.getElem?_cons_zero List.getElem?_cons_succ List.nil_append List.cons_append List.map_cons List.map_nil List.mapM_cons List.mapM_nil Option.map_some Option.map_none Option.bind_some Option.pure_def Option.bind_eq_bind List.drop_zero or_self or_false false_or or_true true_or true_and and_true and_self decide_true decide_false Bool.false_eq_true Bool.true_eq_false Bool.not_true Bool.not_false Nat.le_refl eq_self gt_iff_lt ge_iff_le ne_eq not_true_eq_false not_false_eq_true storeOp apartOf freeze_nil refsL refs List.flatMap_cons List.flatMap_nil List.append_nil List.contains_nil List.set_cons_zero List.set_cons_succ snap snapL fill_nums flat_nums nums_length Go.V.freeze List.mapIdx_cons List.mapIdx_nil List.contains_cons Bool.or_false Bool.false_or Bool.or_true Bool.true_or
structure Ord (lt : Int → Int → Prop) : Prop where
  tra : ∀ {x y z : Int}, lt x y → lt y z → lt x z
  tot : ∀ {x y : Int}, x ≠ y → lt x y ∨ lt y x
  irr : ∀ {x : Int}, ¬ lt x x
def Hc (c : Int → Int → Int) (lt : Int → Int → Prop) (x y : Int) : Prop := x ≠ y ∧ (c y x < 0 ↔ lt y x)
theorem Hc.not {c : Int → Int → Int} {lt : Int → Int → Prop} (hO : Ord lt) {x y : Int} (h : Hc c lt x y) (hn : ¬ lt y x) : lt x y := (hO.tot h.1).resolve_right hn
def CmpOk (C : CallRel) (M1 M2 : List AObj) (N f : Nat) (caps bs : List AV) (S : Int → Prop) (c : Int → Int → Int) : Prop :=
  (∀ l, caps.mapM (fun x => snap (rowM M1 M2 N l) 10 x) = some bs) ∧ ∀ x y, S x → S y → C f ([.int .i64 x, .int .i64 y] ++ bs) [] (.int .i64 (c x y)) []
theorem pw_get {lt : Int → Int → Prop} : ∀ {l : List Int} {i j : Nat}, l.Pairwise lt → i < j → j < l.length → lt (l.getD i 0) (l.getD j 0) := by
  intro l i j h hij hj
  have := List.pairwise_iff_getElem.1 h i j (by omega) hj hij
  simpa [List.getD, hj, show i < l.length by omega] using this
theorem mem_take {l : List Int} {t : Nat} {z : Int} (h : z ∈ l.take t) : ∃ k, k < t ∧ k < l.length ∧ l.getD k 0 = z := by
  obtain ⟨k, hk, rfl⟩ := List.getElem_of_mem h
  rw [List.length_take] at hk
  exact ⟨k, by omega, by omega, by simp [List.getD, show k < l.length by omega]⟩
theorem mem_drop {l : List Int} {t : Nat} {z : Int} (h : z ∈ l.drop t) : ∃ k, t ≤ k ∧ k < l.length ∧ l.getD k 0 = z := by
  obtain ⟨k, hk, rfl⟩ := List.getElem_of_mem h
  rw [List.length_drop] at hk
  exact ⟨t + k, by omega, by omega, by simp [List.getD, show t + k < l.length by omega]⟩
theorem cut_at {lt : Int → Int → Prop} (hO : Ord lt) {x : Int} : ∀ {B : List Int}, B.Pairwise lt → (∀ y ∈ B, y ≠ x) → ∃ t, t ≤ B.length ∧ (∀ z ∈ B.take t, lt z x) ∧ ∀ z ∈ B.drop t, lt x z
  | [], _, _ => ⟨0, Nat.le_refl _, by simp, by simp⟩
  | b :: B, h, hn => by
    rw [List.pairwise_cons] at h
    rcases hO.tot (hn b (by simp)) with hb | hb
    · obtain ⟨t, h1, h2, h3⟩ := cut_at hO h.2 fun y hy => hn y (by simp [hy])
      refine ⟨t + 1, by simpa using h1, fun z hz => ?_, by simpa using h3⟩
      rw [List.take_succ_cons] at hz
      rcases List.mem_cons.1 hz with rfl | hz
      · exact hb
      · exact h2 z hz
    · refine ⟨0, by omega, by simp, fun z hz => ?_⟩
      rw [List.drop_zero] at hz
      rcases List.mem_cons.1 hz with rfl | hz
      · exact hb
      · exact hO.tra hb (h.1 z hz)
theorem ins_pw {lt : Int → Int → Prop} {D1 D2 : List Int} {e : Int} (h : (D1 ++ D2).Pairwise lt) (h1 : ∀ z ∈ D1, lt z e) (h2 : ∀ z ∈ D2, lt e z) : (D1 ++ e :: D2).Pairwise lt := by
  rw [List.pairwise_append] at h ⊢
  refine ⟨h.1, List.pairwise_cons.2 ⟨h2, h.2.1⟩, fun a ha b hb => ?_⟩
  rcases List.mem_cons.1 hb with rfl | hb
  · exact h1 a ha
  · exact h.2.2 a ha b hb
theorem shr1 {n : Nat} : shiftOp .shr .u64 (n : Int) 1 = some (.int .u64 ((n / 2 : Nat) : Int)) := by
  simp [shiftOp, IntKind.bits, Int.fdiv_eq_ediv_of_nonneg]
theorem wu64 {n : Nat} (h : n ≤ 100000000) : IntKind.u64.wrap (n : Int) = (n : Int) := by
  simp only [IntKind.wrap, IntKind.bits, IntKind.signed]
  simp
  omega
theorem wi64 {n : Nat} (h : n ≤ 100000000) : IntKind.i64.wrap (n : Int) = (n : Int) := wrap_i64 (by omega) (by omega)
section
variable {E : CallRel} {M1 M2 : List AObj} {K N f : Nat} {caps bs : List AV} {Sd : Int → Prop} {c : Int → Int → Int} {lt : Int → Int → Prop}
set_option maxHeartbeats 1000000 in
theorem c139_ok {P S R : List Int} {a b : Nat} (hO : Ord lt) (hC : CmpOk (Go.V.Call tab E) M1 M2 N f caps bs Sd c) (hK : M1.length = K) (ha : P.length = a) (hb : a + S.length = b) (hN : b + R.length = N) (hN2 : N ≤ 1000000) (hS : ∀ x ∈ S, Sd x) (hp : S.Pairwise (Hc c lt)) :
    ∃ D, D.Perm S ∧ D.Pairwise lt ∧ Go.V.Call tab E 139 [.arr K 0, .int .i64 a, .int .i64 b, .fn f caps] (rowM M1 M2 N (P ++ (S ++ R))) (.tup []) (rowM M1 M2 N (P ++ (D ++ R))) := by
  suffices h : Mach (Go.V.Call tab E) (fun x st => ∃ D, (D.Perm S ∧ D.Pairwise lt) ∧ Fin i139 (rowM M1 M2 N (P ++ (S ++ R))) (.tup []) (rowM M1 M2 N (P ++ (D ++ R))) x st) [.code c139] .nrm ⟨argsE 0 [.arr K 0, .int .i64 a, .int .i64 b, .fn f caps], rowM M1 M2 N (P ++ (S ++ R))⟩ by
    obtain ⟨x, st, h1, h4⟩ := wp_exec h
    rw [mNil] at h4
    obtain ⟨D, h2, h3⟩ := h4
    exact ⟨D, h2.1, h2.2, Go.V.Call.go i139 c139 rfl rfl rfl rfl (exec_wp h1 h3)⟩
  have hg : ∀ o : AObj, (M1 ++ o :: M2)[K]? = some o := fun o => row_get hK
  have hst : ∀ o p : AObj, (M1 ++ o :: M2).set K p = M1 ++ p :: M2 := fun o p => row_set hK
  have a1 : IntKind.i64.wrap ((a : Int) + 1) = ((a + 1 : Nat) : Int) := by rw [wrap_i64 (by omega) (by omega)]; omega
  simp only [c139, go_sem, a1]
  refine mLoop (fun M st => ∃ (j : Nat) (D : List Int), 1 ≤ j ∧ (j ≤ S.length ∨ j = 1) ∧ M = S.length + 1 - j ∧ D.Perm (S.take j) ∧ D.Pairwise lt ∧
    st = ⟨[(0, .arr K 0), (1, .int .i64 a), (2, .int .i64 b), (3, .fn f caps), (8, .int .i64 (a + j : Nat))], rowM M1 M2 N (P ++ (D ++ (S.drop j ++ R)))⟩) S.length
    ⟨_, rfl, 1, S.take 1, by omega, by omega, by omega, List.Perm.refl _, by cases S <;> simp, by
      rw [← List.append_assoc (S.take 1), List.take_append_drop]; simp [getE]⟩ ?_
  rintro M s0 ⟨j, D, hj, hj2, rfl, hD, hDs, rfl⟩
  have hDl : D.length = min j S.length := by rw [hD.length_eq, List.length_take]
  by_cases hlt : j < S.length
  · have hlt' : ((a + j : Nat) : Int) < (b : Int) := by omega
    have hDl' : D.length = j := by omega
    have hdr := getD_drop hlt
    have htk := tk_getD hlt
    have heS : S.getD j 0 ∈ S := by simp [List.getD, hlt]
    have hHc : ∀ w ∈ D, Hc c lt w (S.getD j 0) := fun w hw => by
      obtain ⟨k, hk, hk2, rfl⟩ := mem_take (hD.mem_iff.1 hw)
      exact pw_get hp hk hlt
    have hSd : ∀ w ∈ D, Sd w := fun w hw => hS w (List.mem_of_mem_take (hD.mem_iff.1 hw))
    have hSe := hS _ heS
    have hlen : (D ++ S.getD j 0 :: S.drop (j + 1)).length = S.length := by simp; omega
    rw [hdr]
    generalize S.getD j 0 = e at *
    simp only [b139_0, go_sem, hlt']
    refine mLoop (fun M st => ∃ D1 D2 : List Int, D1 ++ D2 = D ∧ (∀ z ∈ D2, lt e z) ∧ M = D1.length ∧
      st = ⟨[(0, .arr K 0), (1, .int .i64 a), (2, .int .i64 b), (3, .fn f caps), (8, .int .i64 (a + j : Nat)), (9, .int .i64 (a + D1.length : Nat))], rowM M1 M2 N (P ++ (D1 ++ (e :: (D2 ++ (S.drop (j + 1) ++ R)))))⟩) D.length
      ⟨_, rfl, D, [], by simp, by simp, rfl, by simp [getE, hDl']⟩ ?_
    rintro M s0 ⟨D1, D2, h12, h2, rfl, rfl⟩
    have fin : ∀ s1 : St, (∀ z ∈ D1, lt z e) → s1.mem = rowM M1 M2 N (P ++ (D1 ++ (e :: (D2 ++ (S.drop (j + 1) ++ R))))) → ∃ D', D'.Perm (S.take (j + 1)) ∧ D'.Pairwise lt ∧ rowM M1 M2 N (P ++ (D1 ++ (e :: (D2 ++ (S.drop (j + 1) ++ R))))) = rowM M1 M2 N (P ++ (D' ++ (S.drop (j + 1) ++ R))) := fun s1 h1 _ => by
      refine ⟨D1 ++ e :: D2, ?_, ins_pw (by rw [h12]; exact hDs) h1 h2, by simp⟩
      rw [htk]
      refine List.perm_middle.trans ?_
      rw [h12]
      exact (List.perm_append_singleton e D).symm.trans (hD.append_right [e])
    have hj1 : IntKind.i64.wrap (((a + j : Nat) : Int) + 1) = ((a + (j + 1) : Nat) : Int) := by rw [wrap_i64 (by omega) (by omega)]; omega
    rcases List.eq_nil_or_concat D1 with rfl | ⟨D0, w, rfl⟩
    · have hz : ¬ (a : Int) < ((a + 0 : Nat) : Int) := by omega
      obtain ⟨D', g1, g2, g3⟩ := fin ⟨[], _⟩ (by simp) rfl
      rw [g3]
      simp only [b139_1, k139_0, go_sem, hz, hj1]
      exact loopQ_go rfl (S.length + 1 - (j + 1)) (by omega) ⟨j + 1, D', by omega, by omega, rfl, g1, g2, rfl⟩
    · rw [List.concat_eq_append] at *
      have hz : (a : Int) < ((a + (D0 ++ [w]).length : Nat) : Int) := by simp; omega
      have hwD : w ∈ D := by rw [← h12]; simp
      have hcall := hC.2 e w hSe (hSd w hwD)
      obtain ⟨hne, hcw⟩ := hHc w hwD
      have hl : P ++ ((D0 ++ [w]) ++ (e :: (D2 ++ (S.drop (j + 1) ++ R)))) = (P ++ D0) ++ w :: ([] ++ e :: (D2 ++ (S.drop (j + 1) ++ R))) := by simp
      obtain ⟨q1, q2, q3, q4, l1, q5, q6, q7⟩ := swp_dn (p := a + D0.length) (q := a + (D0 ++ [w]).length) hl (by simp; omega) (by simp; omega)
      have hl2 : (P ++ D0) ++ e :: ([] ++ w :: (D2 ++ (S.drop (j + 1) ++ R))) = P ++ (D0 ++ (e :: ((w :: D2) ++ (S.drop (j + 1) ++ R)))) := by simp
      rw [hl2] at q7
      have hlenN : (P ++ ((D0 ++ [w]) ++ (e :: (D2 ++ (S.drop (j + 1) ++ R))))).length = N := by
        have : D.length = (D0 ++ [w]).length + D2.length := by rw [← h12, List.length_append]
        simp at this hlen ⊢
        omega
      have hq0 : IntKind.i64.wrap (((a + (D0 ++ [w]).length : Nat) : Int) - 1) = ((a + D0.length : Nat) : Int) := by rw [wrap_i64 (by simp; omega) (by simp at hlenN ⊢; omega)]; simp; omega
      have hcaps := hC.1 (P ++ ((D0 ++ [w]) ++ (e :: (D2 ++ (S.drop (j + 1) ++ R)))))
      by_cases hltw : lt e w
      · have hcl : c e w < 0 := hcw.2 hltw
        clear fin hl hl2
        generalize hwl : (D0 ++ [w]).length = wl at *
        generalize P ++ ((D0 ++ [w]) ++ (e :: (D2 ++ (S.drop (j + 1) ++ R)))) = l at *
        have s1 := sub_nums (k := .i64) (l := l) (i := a + D0.length) (by omega)
        have s2 := sub_nums (k := .i64) (l := l) (i := a + wl) (by omega)
        rw [q1] at s1
        rw [q2] at s2
        have k1 : (0 : Int) ≤ ((a + D0.length : Nat) : Int) := by omega
        have k2 : (0 : Int) ≤ ((a + wl : Nat) : Int) := by omega
        have k3 : ((a + D0.length : Nat) : Int) < (N : Int) := by omega
        have k4 : ((a + wl : Nat) : Int) < (N : Int) := by omega
        have hwl2 : wl = D0.length + 1 := by rw [← hwl]; simp
        generalize hp0 : a + D0.length = p0 at *
        generalize hq0' : a + wl = q0 at *
        simp only [rowM] at hcaps
        simp only [b139_1, rowM, go_sem, mapI, hz, hg, hst, hq0, k1, k2, k3, k4, Int.toNat_natCast, s1, s2]
        refine goFn hcaps hcall rfl ?_
        simp only [rowM, go_sem, mapI, hcl, hg, hst, hq0, k1, k2, k3, k4, Int.toNat_natCast, s1, s2, q3, q4, q6, put_nums, q5, q7]
        exact loopQ_go rfl D0.length (by omega) ⟨D0, w :: D2, by rw [← h12]; simp, fun z hz => (List.mem_cons.1 hz).elim (fun h => h ▸ hltw) (h2 z), rfl, by rw [hp0]; rfl⟩
      · have hcl : ¬ c e w < 0 := fun h => hltw (hcw.1 h)
        have hwe : lt w e := (hO.tot hne).resolve_right hltw
        obtain ⟨D', g1, g2, g3⟩ := fin ⟨[], _⟩ (fun z hz => by
          rcases List.mem_append.1 hz with hz | hz
          · rw [← h12, List.append_assoc, List.pairwise_append] at hDs
            exact hO.tra (hDs.2.2 z hz w (by simp)) hwe
          · obtain rfl := List.mem_singleton.1 hz
            exact hwe) rfl
        clear fin hl hl2
        generalize hwl : (D0 ++ [w]).length = wl at *
        generalize P ++ ((D0 ++ [w]) ++ (e :: (D2 ++ (S.drop (j + 1) ++ R)))) = l at *
        have s1 := sub_nums (k := .i64) (l := l) (i := a + D0.length) (by omega)
        have s2 := sub_nums (k := .i64) (l := l) (i := a + wl) (by omega)
        rw [q1] at s1
        rw [q2] at s2
        have k1 : (0 : Int) ≤ ((a + D0.length : Nat) : Int) := by omega
        have k2 : (0 : Int) ≤ ((a + wl : Nat) : Int) := by omega
        have k3 : ((a + D0.length : Nat) : Int) < (N : Int) := by omega
        have k4 : ((a + wl : Nat) : Int) < (N : Int) := by omega
        simp only [rowM] at hcaps g3
        simp only [b139_1, rowM, go_sem, mapI, hz, hg, hst, hq0, k1, k2, k3, k4, Int.toNat_natCast, s1, s2]
        refine goFn hcaps hcall rfl ?_
        simp only [b139_1, k139_0, rowM, go_sem, hcl, hj1]
        rw [g3]
        exact loopQ_go rfl (S.length + 1 - (j + 1)) (by omega) ⟨j + 1, D', by omega, by omega, rfl, g1, g2, rfl⟩
  · have hlt' : ¬ ((a + j : Nat) : Int) < (b : Int) := by omega
    rw [List.take_of_length_le (by omega)] at hD
    rw [List.drop_eq_nil_of_le (by omega), List.nil_append]
    simp only [b139_0, rowM, go_sem, hlt']
    exact ⟨D, ⟨hD, hDs⟩, by simp only [i139, Out, resAll, geto, ints, List.getElem?_cons_zero, List.getElem?_cons_succ, resOf, outOf, snap, snapL, ev, getE, List.mapM_cons, List.mapM_nil, Option.bind_some, Option.pure_def, Option.bind_eq_bind, Option.map_some, reduceIte, Nat.reduceEqDiff, true_and, and_true]⟩
end
theorem Ord.asm {lt : Int → Int → Prop} (hO : Ord lt) {x y : Int} (h : lt x y) : ¬ lt y x := fun h2 => hO.irr (hO.tra h h2)
section
variable {E : CallRel} {M1 M2 : List AObj} {K N f : Nat} {caps bs : List AV} {Sd : Int → Prop} {c : Int → Int → Int} {lt : Int → Int → Prop}
set_option maxHeartbeats 1000000 in
theorem c140_one {P B R : List Int} {x : Int} {a m b : Nat} (hO : Ord lt) (hC : CmpOk (Go.V.Call tab E) M1 M2 N f caps bs Sd c) (hK : M1.length = K) (ha : P.length = a) (hm : a + 1 = m) (hb : m + B.length = b) (hN : b + R.length = N) (hN2 : N ≤ 1000000) (hSx : Sd x) (hSB : ∀ y ∈ B, Sd y) (hB : B.Pairwise lt) (hH : ∀ y ∈ B, Hc c lt x y) :
    ∃ C, C.Perm (x :: B) ∧ C.Pairwise lt ∧ Go.V.Call tab E 140 [.arr K 0, .int .i64 a, .int .i64 m, .int .i64 b, .fn f caps] (rowM M1 M2 N (P ++ (x :: (B ++ R)))) (.tup []) (rowM M1 M2 N (P ++ (C ++ R))) := by
  obtain ⟨t, ht, h1, h2⟩ := cut_at hO hB fun y hy => (hH y hy).1.symm
  refine ⟨B.take t ++ x :: B.drop t, by have := List.perm_middle (a := x) (l₁ := B.take t) (l₂ := B.drop t); rwa [List.take_append_drop] at this, ins_pw (by rwa [List.take_append_drop]) h1 h2, ?_⟩
  refine Go.V.Call.mach i140 c140 rfl rfl rfl rfl ?_
  have hg : ∀ o : AObj, (M1 ++ o :: M2)[K]? = some o := fun o => row_get hK
  have hst : ∀ o p : AObj, (M1 ++ o :: M2).set K p = M1 ++ p :: M2 := fun o p => row_set hK
  have w1 : IntKind.i64.wrap ((m : Int) - (a : Int)) = 1 := by rw [wrap_i64 (by omega) (by omega)]; omega
  have hlen : (P ++ (x :: (B ++ R))).length = N := by simp; omega
  have hxa : (P ++ (x :: (B ++ R))).getD a 0 = x := at_get ha
  have hcaps := hC.1 (P ++ (x :: (B ++ R)))
  simp only [c140, go_sem, w1]
  refine mLoop (fun M st => ∃ lo hi : Nat, lo ≤ t ∧ t ≤ hi ∧ hi ≤ B.length ∧ M = hi - lo ∧ st = ⟨[(0, .arr K 0), (1, .int .i64 a), (4, .fn f caps), (10, .int .i64 (m + lo : Nat)), (11, .int .i64 (m + hi : Nat))], rowM M1 M2 N (P ++ (x :: (B ++ R)))⟩) B.length
    ⟨_, rfl, 0, B.length, by omega, ht, by omega, by omega, by simp [getE]; omega⟩ ?_
  rintro M s0 ⟨lo, hi, hlo, hhi, hhB, rfl, rfl⟩
  by_cases hlt : lo < hi
  · have hlt' : ((m + lo : Nat) : Int) < ((m + hi : Nat) : Int) := by omega
    have e0 := wad (a := m + lo) (b := m + hi) (by omega)
    have e1 := wu64 (n := m + lo + (m + hi)) (by omega)
    have e2 : (m + lo + (m + hi)) / 2 = m + (lo + hi) / 2 := by omega
    have e3 := wi64 (n := (m + lo + (m + hi)) / 2) (by omega)
    rw [e2] at e3
    have hh : (lo + hi) / 2 < hi ∧ lo ≤ (lo + hi) / 2 := by omega
    generalize (lo + hi) / 2 = h at *
    have hhB2 : h < B.length := by omega
    have hyB : B.getD h 0 ∈ B := by simp [List.getD, hhB2]
    have hl : P ++ (x :: (B ++ R)) = (P ++ x :: B.take h) ++ B.getD h 0 :: (B.drop (h + 1) ++ R) := by
      conv => lhs; rw [← List.take_append_drop h B, getD_drop hhB2]
      simp
    have hyh : (P ++ (x :: (B ++ R))).getD (m + h) 0 = B.getD h 0 := by rw [hl]; exact at_get (by simp; omega)
    have hcall := hC.2 (B.getD h 0) x (hSB _ hyB) hSx
    have hcw := (hH _ hyB).2
    have hiff : lt (B.getD h 0) x ↔ h < t := by
      constructor
      · intro hl2
        rcases Nat.lt_or_ge h t with h3 | h3
        · exact h3
        · refine absurd hl2 (hO.asm (h2 _ ?_))
          rw [List.mem_drop_iff_getElem]
          exact ⟨h - t, by omega, by simp [List.getD, hhB2, show t + (h - t) = h by omega]⟩
      · intro h3
        refine h1 _ ?_
        rw [List.mem_take_iff_getElem]
        exact ⟨h, by omega, by simp [List.getD, hhB2]⟩
    have s1 := sub_nums (k := .i64) (l := P ++ (x :: (B ++ R))) (i := a) (by omega)
    have s2 := sub_nums (k := .i64) (l := P ++ (x :: (B ++ R))) (i := m + h) (by omega)
    rw [hxa] at s1
    rw [hyh] at s2
    have k1 : (0 : Int) ≤ (a : Int) := by omega
    have k2 : (0 : Int) ≤ ((m + h : Nat) : Int) := by omega
    have k3 : (a : Int) < (N : Int) := by omega
    have k4 : ((m + h : Nat) : Int) < (N : Int) := by omega
    have e4 : IntKind.i64.wrap (((m + h : Nat) : Int) + 1) = ((m + (h + 1) : Nat) : Int) := by rw [wrap_i64 (by omega) (by omega)]; omega
    clear hl
    generalize P ++ (x :: (B ++ R)) = l at *
    generalize B.getD h 0 = y at *
    simp only [rowM] at hcaps
    simp only [b140_0, rowM, go_sem, mapI, hlt', e0, e1, shr1, e2, e3, hg, k1, k2, k3, k4, Int.toNat_natCast, s1, s2]
    refine goFn hcaps hcall rfl ?_
    by_cases hty : h < t
    · have hcl : c y x < 0 := hcw.2 (hiff.2 hty)
      simp only [b140_0, rowM, go_sem, hcl, e4]
      exact loopQ_go rfl (hi - (h + 1)) (by omega) ⟨h + 1, hi, by omega, hhi, hhB, rfl, rfl⟩
    · have hcl : ¬ c y x < 0 := fun h3 => hty (hiff.1 (hcw.1 h3))
      simp only [b140_0, rowM, go_sem, hcl]
      exact loopQ_go rfl (h - lo) (by omega) ⟨lo, h, hlo, by omega, by omega, rfl, rfl⟩
  · have hlt' : ¬ ((m + lo : Nat) : Int) < ((m + hi : Nat) : Int) := by omega
    obtain rfl : lo = t := by omega
    simp only [b140_0, k140_1, go_sem, hlt']
    refine mLoop (fun M st => ∃ s : Nat, s ≤ lo ∧ M = lo - s ∧ st = ⟨[(0, .arr K 0), (10, .int .i64 (m + lo : Nat)), (13, .int .i64 (a + s : Nat))], rowM M1 M2 N (P ++ (B.take s ++ (x :: (B.drop s ++ R))))⟩) lo
      ⟨_, rfl, 0, by omega, by omega, by simp [getE]⟩ ?_
    rintro M s0 ⟨s, hs, rfl, rfl⟩
    have e5 : IntKind.i64.wrap (((m + lo : Nat) : Int) - 1) = ((a + lo : Nat) : Int) := by rw [wrap_i64 (by omega) (by omega)]; omega
    by_cases hslt : s < lo
    · have hslt' : ((a + s : Nat) : Int) < ((a + lo : Nat) : Int) := by omega
      have hsB : s < B.length := by omega
      have hl : P ++ (B.take s ++ (x :: (B.drop s ++ R))) = (P ++ B.take s) ++ x :: ([] ++ B.getD s 0 :: (B.drop (s + 1) ++ R)) := by rw [getD_drop hsB]; simp
      have hl2 : (P ++ B.take s) ++ B.getD s 0 :: ([] ++ x :: (B.drop (s + 1) ++ R)) = P ++ (B.take (s + 1) ++ (x :: (B.drop (s + 1) ++ R))) := by rw [tk_getD hsB]; simp
      obtain ⟨q1, q2, q3, q4, l1, q5, q6, q7⟩ := swp_up (p := a + s) (q := a + (s + 1)) hl (by simp; omega) (by simp; omega)
      rw [hl2] at q7
      have hlen2 : (P ++ (B.take s ++ (x :: (B.drop s ++ R)))).length = N := by simp; omega
      have e6 : IntKind.i64.wrap (((a + s : Nat) : Int) + 1) = ((a + (s + 1) : Nat) : Int) := by rw [wrap_i64 (by omega) (by omega)]; omega
      clear hl hl2
      generalize P ++ (B.take s ++ (x :: (B.drop s ++ R))) = l at *
      generalize B.getD s 0 = y at *
      have s1 := sub_nums (k := .i64) (l := l) (i := a + s) (by omega)
      have s2 := sub_nums (k := .i64) (l := l) (i := a + (s + 1)) (by omega)
      rw [q1] at s1
      rw [q2] at s2
      have k1 : (0 : Int) ≤ ((a + s : Nat) : Int) := by omega
      have k2 : (0 : Int) ≤ ((a + (s + 1) : Nat) : Int) := by omega
      have k3 : ((a + s : Nat) : Int) < (N : Int) := by omega
      have k4 : ((a + (s + 1) : Nat) : Int) < (N : Int) := by omega
      generalize hp0 : a + s = p0 at *
      generalize hq0 : a + (s + 1) = q0 at *
      simp only [b140_1, rowM, go_sem, mapI, e5, hslt', e6, hg, hst, k1, k2, k3, k4, Int.toNat_natCast, s1, s2, q3, q4, q6, put_nums, q5, q7]
      exact loopQ_go rfl (lo - (s + 1)) (by omega) ⟨s + 1, by omega, rfl, by rw [hq0]; rfl⟩
    · have hslt' : ¬ ((a + s : Nat) : Int) < ((a + lo : Nat) : Int) := by omega
      obtain rfl : s = lo := by omega
      simp only [b140_1, k140_0, rowM, go_sem, e5, hslt']
      simp only [i140, Out, resAll, geto, ints, List.getElem?_cons_zero, List.getElem?_cons_succ, resOf, outOf, snap, snapL, ev, getE, List.mapM_cons, List.mapM_nil, Option.bind_some, Option.pure_def, Option.bind_eq_bind, Option.map_some, reduceIte, Nat.reduceEqDiff, true_and, and_true, List.append_assoc, List.cons_append]
set_option maxHeartbeats 1000000 in
theorem c140_last {P A R : List Int} {y : Int} {a m b : Nat} (hO : Ord lt) (hC : CmpOk (Go.V.Call tab E) M1 M2 N f caps bs Sd c) (hK : M1.length = K) (ha : P.length = a) (hm : a + A.length = m) (hA1 : A.length ≠ 1) (hb : m + 1 = b) (hN : b + R.length = N) (hN2 : N ≤ 1000000) (hSy : Sd y) (hSA : ∀ x ∈ A, Sd x) (hA : A.Pairwise lt) (hH : ∀ x ∈ A, Hc c lt x y) :
    ∃ C, C.Perm (A ++ [y]) ∧ C.Pairwise lt ∧ Go.V.Call tab E 140 [.arr K 0, .int .i64 a, .int .i64 m, .int .i64 b, .fn f caps] (rowM M1 M2 N (P ++ (A ++ (y :: R)))) (.tup []) (rowM M1 M2 N (P ++ (C ++ R))) := by
  obtain ⟨t, ht, h1, h2⟩ := cut_at hO hA fun x hx => (hH x hx).1
  refine ⟨A.take t ++ y :: A.drop t, by
    have := List.perm_middle (a := y) (l₁ := A.take t) (l₂ := A.drop t)
    rw [List.take_append_drop] at this
    exact this.trans (List.perm_append_singleton y A).symm, ins_pw (by rwa [List.take_append_drop]) h1 h2, ?_⟩
  refine Go.V.Call.mach i140 c140 rfl rfl rfl rfl ?_
  have hg : ∀ o : AObj, (M1 ++ o :: M2)[K]? = some o := fun o => row_get hK
  have hst : ∀ o p : AObj, (M1 ++ o :: M2).set K p = M1 ++ p :: M2 := fun o p => row_set hK
  have w1 : IntKind.i64.wrap ((m : Int) - (a : Int)) = (A.length : Int) := by rw [wrap_i64 (by omega) (by omega)]; omega
  have w2 : IntKind.i64.wrap ((b : Int) - (m : Int)) = 1 := by rw [wrap_i64 (by omega) (by omega)]; omega
  have w3 : ((A.length : Int) == 1) = false := beq_eq_false_iff_ne.2 (by omega)
  have hlen : (P ++ (A ++ (y :: R))).length = N := by simp; omega
  have hym : (P ++ (A ++ (y :: R))).getD m 0 = y := by rw [← List.append_assoc]; exact at_get (by simp; omega)
  have hcaps := hC.1 (P ++ (A ++ (y :: R)))
  simp only [c140, k140_6, go_sem, w1, w2, w3]
  refine mLoop (fun M st => ∃ lo hi : Nat, lo ≤ t ∧ t ≤ hi ∧ hi ≤ A.length ∧ M = hi - lo ∧ st = ⟨[(0, .arr K 0), (2, .int .i64 m), (4, .fn f caps), (14, .int .i64 (a + lo : Nat)), (15, .int .i64 (a + hi : Nat))], rowM M1 M2 N (P ++ (A ++ (y :: R)))⟩) A.length
    ⟨_, rfl, 0, A.length, by omega, ht, by omega, by omega, by simp [getE]; omega⟩ ?_
  rintro M s0 ⟨lo, hi, hlo, hhi, hhB, rfl, rfl⟩
  by_cases hlt : lo < hi
  · have hlt' : ((a + lo : Nat) : Int) < ((a + hi : Nat) : Int) := by omega
    have e0 := wad (a := a + lo) (b := a + hi) (by omega)
    have e1 := wu64 (n := a + lo + (a + hi)) (by omega)
    have e2 : (a + lo + (a + hi)) / 2 = a + (lo + hi) / 2 := by omega
    have e3 := wi64 (n := (a + lo + (a + hi)) / 2) (by omega)
    rw [e2] at e3
    have hh : (lo + hi) / 2 < hi ∧ lo ≤ (lo + hi) / 2 := by omega
    generalize (lo + hi) / 2 = h at *
    have hhB2 : h < A.length := by omega
    have hyB : A.getD h 0 ∈ A := by simp [List.getD, hhB2]
    have hl : P ++ (A ++ (y :: R)) = (P ++ A.take h) ++ A.getD h 0 :: (A.drop (h + 1) ++ (y :: R)) := by
      conv => lhs; rw [← List.take_append_drop h A, getD_drop hhB2]
      simp
    have hyh : (P ++ (A ++ (y :: R))).getD (a + h) 0 = A.getD h 0 := by rw [hl]; exact at_get (by simp; omega)
    have hcall := hC.2 y (A.getD h 0) hSy (hSA _ hyB)
    have hcw := (hH _ hyB).2
    have hiff : lt y (A.getD h 0) ↔ t ≤ h := by
      constructor
      · intro hl2
        rcases Nat.lt_or_ge h t with h3 | h3
        · refine absurd hl2 (hO.asm (h1 _ ?_))
          rw [List.mem_take_iff_getElem]
          exact ⟨h, by omega, by simp [List.getD, hhB2]⟩
        · exact h3
      · intro h3
        refine h2 _ ?_
        rw [List.mem_drop_iff_getElem]
        exact ⟨h - t, by omega, by simp [List.getD, hhB2, show t + (h - t) = h by omega]⟩
    have s1 := sub_nums (k := .i64) (l := P ++ (A ++ (y :: R))) (i := m) (by omega)
    have s2 := sub_nums (k := .i64) (l := P ++ (A ++ (y :: R))) (i := a + h) (by omega)
    rw [hym] at s1
    rw [hyh] at s2
    have k1 : (0 : Int) ≤ (m : Int) := by omega
    have k2 : (0 : Int) ≤ ((a + h : Nat) : Int) := by omega
    have k3 : (m : Int) < (N : Int) := by omega
    have k4 : ((a + h : Nat) : Int) < (N : Int) := by omega
    have e4 : IntKind.i64.wrap (((a + h : Nat) : Int) + 1) = ((a + (h + 1) : Nat) : Int) := by rw [wrap_i64 (by omega) (by omega)]; omega
    clear hl
    generalize P ++ (A ++ (y :: R)) = l at *
    generalize A.getD h 0 = z at *
    simp only [rowM] at hcaps
    simp only [b140_2, rowM, go_sem, mapI, hlt', e0, e1, shr1, e2, e3, hg, k1, k2, k3, k4, Int.toNat_natCast, s1, s2]
    refine goFn hcaps hcall rfl ?_
    by_cases hty : t ≤ h
    · have hcl : c y z < 0 := hcw.2 (hiff.2 hty)
      simp only [b140_2, rowM, go_sem, hcl]
      exact loopQ_go rfl (h - lo) (by omega) ⟨lo, h, hlo, by omega, by omega, rfl, rfl⟩
    · have hcl : ¬ c y z < 0 := fun h3 => hty (hiff.1 (hcw.1 h3))
      simp only [b140_2, rowM, go_sem, hcl, e4]
      exact loopQ_go rfl (hi - (h + 1)) (by omega) ⟨h + 1, hi, by omega, hhi, hhB, rfl, rfl⟩
  · have hlt' : ¬ ((a + lo : Nat) : Int) < ((a + hi : Nat) : Int) := by omega
    obtain rfl : lo = t := by omega
    simp only [b140_2, k140_3, go_sem, hlt']
    refine mLoop (fun M st => ∃ s : Nat, lo ≤ s ∧ s ≤ A.length ∧ M = s ∧ st = ⟨[(0, .arr K 0), (14, .int .i64 (a + lo : Nat)), (17, .int .i64 (a + s : Nat))], rowM M1 M2 N (P ++ (A.take s ++ (y :: (A.drop s ++ R))))⟩) A.length
      ⟨_, rfl, A.length, ht, by omega, rfl, by simp [getE]; omega⟩ ?_
    rintro s s0 ⟨_, hs, hsA, rfl, rfl⟩
    by_cases hslt : lo < s
    · obtain ⟨r, rfl⟩ : ∃ r, s = r + 1 := ⟨s - 1, by omega⟩
      have hslt' : ((a + lo : Nat) : Int) < ((a + (r + 1) : Nat) : Int) := by omega
      have hsB : r < A.length := by omega
      have hl : P ++ (A.take (r + 1) ++ (y :: (A.drop (r + 1) ++ R))) = (P ++ A.take r) ++ A.getD r 0 :: ([] ++ y :: (A.drop (r + 1) ++ R)) := by rw [tk_getD hsB]; simp
      have hl2 : (P ++ A.take r) ++ y :: ([] ++ A.getD r 0 :: (A.drop (r + 1) ++ R)) = P ++ (A.take r ++ (y :: (A.drop r ++ R))) := by rw [getD_drop hsB]; simp
      obtain ⟨q1, q2, q3, q4, l1, q5, q6, q7⟩ := swp_dn (p := a + r) (q := a + (r + 1)) hl (by simp; omega) (by simp; omega)
      rw [hl2] at q7
      have hlen2 : (P ++ (A.take (r + 1) ++ (y :: (A.drop (r + 1) ++ R)))).length = N := by simp; omega
      have e6 : IntKind.i64.wrap (((a + (r + 1) : Nat) : Int) - 1) = ((a + r : Nat) : Int) := by rw [wrap_i64 (by omega) (by omega)]; omega
      clear hl hl2
      generalize P ++ (A.take (r + 1) ++ (y :: (A.drop (r + 1) ++ R))) = l at *
      generalize A.getD r 0 = z at *
      have s1 := sub_nums (k := .i64) (l := l) (i := a + r) (by omega)
      have s2 := sub_nums (k := .i64) (l := l) (i := a + (r + 1)) (by omega)
      rw [q1] at s1
      rw [q2] at s2
      have k1 : (0 : Int) ≤ ((a + r : Nat) : Int) := by omega
      have k2 : (0 : Int) ≤ ((a + (r + 1) : Nat) : Int) := by omega
      have k3 : ((a + r : Nat) : Int) < (N : Int) := by omega
      have k4 : ((a + (r + 1) : Nat) : Int) < (N : Int) := by omega
      generalize hp0 : a + r = p0 at *
      generalize hq0 : a + (r + 1) = q0 at *
      simp only [b140_3, rowM, go_sem, mapI, hslt', e6, hg, hst, k1, k2, k3, k4, Int.toNat_natCast, s1, s2, q3, q4, q6, put_nums, q5, q7]
      exact loopQ_go rfl r (by omega) ⟨r, by omega, by omega, rfl, by rw [hp0]; rfl⟩
    · have hslt' : ¬ ((a + lo : Nat) : Int) < ((a + s : Nat) : Int) := by omega
      obtain rfl : s = lo := by omega
      simp only [b140_3, k140_2, rowM, go_sem, hslt']
      simp only [i140, Out, resAll, geto, ints, List.getElem?_cons_zero, List.getElem?_cons_succ, resOf, outOf, snap, snapL, ev, getE, List.mapM_cons, List.mapM_nil, Option.bind_some, Option.pure_def, Option.bind_eq_bind, Option.map_some, reduceIte, Nat.reduceEqDiff, true_and, and_true, List.append_assoc, List.cons_append]
end
section
variable {E : CallRel} {M1 M2 : List AObj} {K N f : Nat} {caps bs : List AV} {Sd : Int → Prop} {c : Int → Int → Int} {lt : Int → Int → Prop}
def SymP (E : CallRel) (M1 M2 : List AObj) (K N f : Nat) (caps : List AV) (Sd : Int → Prop) (c : Int → Int → Int) (lt : Int → Int → Prop) (sz : Nat) : Prop :=
  ∀ (P A B R : List Int) (a m b : Nat), A.length + B.length ≤ sz → P.length = a → a + A.length = m → m + B.length = b → b + R.length = N → 0 < A.length → 0 < B.length → (∀ x ∈ A, Sd x) → (∀ y ∈ B, Sd y) → A.Pairwise lt → B.Pairwise lt → (∀ x ∈ A, ∀ y ∈ B, Hc c lt x y) →
    ∃ C, C.Perm (A ++ B) ∧ C.Pairwise lt ∧ Go.V.Call tab E 140 [.arr K 0, .int .i64 a, .int .i64 m, .int .i64 b, .fn f caps] (rowM M1 M2 N (P ++ (A ++ (B ++ R)))) (.tup []) (rowM M1 M2 N (P ++ (C ++ R)))
theorem sym_right {Q : List Int → Prop} {mem0 : List AObj} {P A2 B2 R : List Int} {mid e b sz : Nat} (ih : SymP E M1 M2 K N f caps Sd c lt sz) (hsz : A2.length + B2.length ≤ sz) (hp : P.length = mid) (he : mid + A2.length = e) (hb : e + B2.length = b) (hN : b + R.length = N) (hN2 : N ≤ 1000000)
    (h1 : ∀ x ∈ A2, Sd x) (h2 : ∀ y ∈ B2, Sd y) (h3 : A2.Pairwise lt) (h4 : B2.Pairwise lt) (h5 : ∀ x ∈ A2, ∀ y ∈ B2, Hc c lt x y)
    (hQ : ∀ C2 : List Int, C2.Perm (A2 ++ B2) → C2.Pairwise lt → ∃ C, Q C ∧ P ++ (C2 ++ R) = C) :
    Mach (Go.V.Call tab E) (fun x st => ∃ C, Q C ∧ Fin i140 mem0 (.tup []) (rowM M1 M2 N C) x st) [.code t140_0] .nrm ⟨[(0, .arr K 0), (3, .int .i64 b), (4, .fn f caps), (18, .int .i64 mid), (24, .int .i64 e)], rowM M1 M2 N (P ++ (A2 ++ (B2 ++ R)))⟩ := by
  by_cases c1 : mid < e
  · have c1' : (mid : Int) < (e : Int) := by omega
    by_cases c2 : e < b
    · have c2' : (e : Int) < (b : Int) := by omega
      obtain ⟨C2, g1, g2, g3⟩ := ih P A2 B2 R mid e b hsz hp he hb hN (by omega) (by omega) h1 h2 h3 h4 h5
      obtain ⟨C, q1, q2⟩ := hQ C2 g1 g2
      rw [q2] at g3
      simp only [t140_0, go_sem, c1', c2']
      refine goM g3 ?_
      simp only [go_sem]
      exact ⟨C, q1, by simp only [i140, Out, resAll, geto, ints, List.getElem?_cons_zero, List.getElem?_cons_succ, resOf, outOf, snap, snapL, ev, getE, List.mapM_cons, List.mapM_nil, Option.bind_some, Option.pure_def, Option.bind_eq_bind, Option.map_some, reduceIte, Nat.reduceEqDiff, true_and, and_true]⟩
    · have c2' : ¬ (e : Int) < (b : Int) := by omega
      obtain rfl : B2 = [] := List.length_eq_zero_iff.1 (by omega)
      obtain ⟨C, q1, q2⟩ := hQ A2 (by simp) h3
      rw [List.nil_append, q2]
      simp only [t140_0, go_sem, c1', c2']
      exact ⟨C, q1, by simp only [i140, Out, resAll, geto, ints, List.getElem?_cons_zero, List.getElem?_cons_succ, resOf, outOf, snap, snapL, ev, getE, List.mapM_cons, List.mapM_nil, Option.bind_some, Option.pure_def, Option.bind_eq_bind, Option.map_some, reduceIte, Nat.reduceEqDiff, true_and, and_true]⟩
  · have c1' : ¬ (mid : Int) < (e : Int) := by omega
    obtain rfl : A2 = [] := List.length_eq_zero_iff.1 (by omega)
    obtain ⟨C, q1, q2⟩ := hQ B2 (by simp) h4
    rw [List.nil_append, q2]
    simp only [t140_0, go_sem, c1']
    exact ⟨C, q1, by simp only [i140, Out, resAll, geto, ints, List.getElem?_cons_zero, List.getElem?_cons_succ, resOf, outOf, snap, snapL, ev, getE, List.mapM_cons, List.mapM_nil, Option.bind_some, Option.pure_def, Option.bind_eq_bind, Option.map_some, reduceIte, Nat.reduceEqDiff, true_and, and_true]⟩
theorem sym_both {Q : List Int → Prop} {mem0 : List AObj} {P A1 B1 A2 B2 R : List Int} {a s mid e b sz : Nat} (ih : SymP E M1 M2 K N f caps Sd c lt sz) (hsz : A1.length + B1.length ≤ sz) (hsz2 : A2.length + B2.length ≤ sz) (hp : P.length = a) (hs : a + A1.length = s) (hmid : s + B1.length = mid) (he : mid + A2.length = e) (hb : e + B2.length = b) (hN : b + R.length = N) (hN2 : N ≤ 1000000)
    (hA1 : ∀ x ∈ A1, Sd x) (hB1 : ∀ x ∈ B1, Sd x) (hA2 : ∀ x ∈ A2, Sd x) (hB2 : ∀ x ∈ B2, Sd x) (pA : (A1 ++ A2).Pairwise lt) (pB : (B1 ++ B2).Pairwise lt) (h11 : ∀ x ∈ A1, ∀ y ∈ B1, Hc c lt x y) (h22 : ∀ x ∈ A2, ∀ y ∈ B2, Hc c lt x y) (h12 : ∀ x ∈ A1, ∀ y ∈ B2, lt x y) (h21 : ∀ x ∈ B1, ∀ y ∈ A2, lt x y)
    (hQ : ∀ C : List Int, C.Perm ((A1 ++ A2) ++ (B1 ++ B2)) → C.Pairwise lt → Q (P ++ (C ++ R))) :
    Mach (Go.V.Call tab E) (fun x st => ∃ C, Q C ∧ Fin i140 mem0 (.tup []) (rowM M1 M2 N C) x st) [.code t140_1] .nrm ⟨[(0, .arr K 0), (1, .int .i64 a), (3, .int .i64 b), (4, .fn f caps), (18, .int .i64 mid), (20, .int .i64 s), (24, .int .i64 e)], rowM M1 M2 N (P ++ (A1 ++ (B1 ++ (A2 ++ (B2 ++ R)))))⟩ := by
  obtain ⟨pA1, pA2, pA3⟩ := List.pairwise_append.1 pA
  obtain ⟨pB1, pB2, pB3⟩ := List.pairwise_append.1 pB
  have rest : ∀ C1 : List Int, C1.Perm (A1 ++ B1) → C1.Pairwise lt → Mach (Go.V.Call tab E) (fun x st => ∃ C, Q C ∧ Fin i140 mem0 (.tup []) (rowM M1 M2 N C) x st) [.code t140_0] .nrm ⟨[(0, .arr K 0), (3, .int .i64 b), (4, .fn f caps), (18, .int .i64 mid), (24, .int .i64 e)], rowM M1 M2 N (P ++ (C1 ++ (A2 ++ (B2 ++ R))))⟩ := by
    intro C1 q1 q2
    have hl1 := q1.length_eq
    rw [List.length_append] at hl1
    rw [← List.append_assoc]
    refine sym_right ih hsz2 (by rw [List.length_append]; omega) he hb hN hN2 hA2 hB2 pA2 pB2 h22 fun C2 q3 q4 => ⟨_, hQ (C1 ++ C2) ?_ ?_, by simp⟩
    · refine (q1.append q3).trans ?_
      have h : (A1 ++ B1 ++ (A2 ++ B2)).Perm (A1 ++ (A2 ++ (B1 ++ B2))) := by
        rw [List.append_assoc]
        refine List.Perm.append_left _ ?_
        rw [← List.append_assoc, ← List.append_assoc]
        exact List.Perm.append_right _ List.perm_append_comm
      rwa [← List.append_assoc A1] at h
    · refine List.pairwise_append.2 ⟨q2, q4, fun x hx y hy => ?_⟩
      rcases List.mem_append.1 (q1.mem_iff.1 hx) with hx | hx <;> rcases List.mem_append.1 (q3.mem_iff.1 hy) with hy | hy
      · exact pA3 x hx y hy
      · exact h12 x hx y hy
      · exact h21 x hx y hy
      · exact pB3 x hx y hy
  by_cases c1 : a < s
  · have c1' : (a : Int) < (s : Int) := by omega
    by_cases c2 : s < mid
    · have c2' : (s : Int) < (mid : Int) := by omega
      obtain ⟨C1, g1, g2, g3⟩ := ih P A1 B1 (A2 ++ (B2 ++ R)) a s mid hsz hp hs hmid (by simp; omega) (by omega) (by omega) hA1 hB1 pA1 pB1 h11
      simp only [t140_1, go_sem, c1', c2']
      refine goM g3 ?_
      simp only [go_sem]
      exact rest C1 g1 g2
    · have c2' : ¬ (s : Int) < (mid : Int) := by omega
      obtain rfl : B1 = [] := List.length_eq_zero_iff.1 (by omega)
      rw [List.nil_append]
      simp only [t140_1, go_sem, c1', c2']
      exact rest A1 (by simp) pA1
  · have c1' : ¬ (a : Int) < (s : Int) := by omega
    obtain rfl : A1 = [] := List.length_eq_zero_iff.1 (by omega)
    rw [List.nil_append]
    simp only [t140_1, go_sem, c1']
    exact rest B1 (by simp) pB1
theorem mid_A {P A X : List Int} {q : Nat} (h : P.length ≤ q) (h2 : q < P.length + A.length) : (P ++ (A ++ X)).getD q 0 = A.getD (q - P.length) 0 := by
  simp only [List.getD]
  rw [List.getElem?_append_right h, List.getElem?_append_left (by omega)]
theorem mid_B {P A B X : List Int} {q : Nat} (h : P.length + A.length ≤ q) (h2 : q < P.length + A.length + B.length) : (P ++ (A ++ (B ++ X))).getD q 0 = B.getD (q - P.length - A.length) 0 := by
  simp only [List.getD]
  rw [List.getElem?_append_right (by omega), List.getElem?_append_right (by omega), List.getElem?_append_left (by omega)]
theorem getD_memI {A : List Int} {i : Nat} (h : i < A.length) : A.getD i 0 ∈ A := by simp [List.getD, h]
theorem le_get {A : List Int} (hO : Ord lt) (h : A.Pairwise lt) {i j : Nat} (hij : i ≤ j) (hj : j < A.length) : A.getD i 0 = A.getD j 0 ∨ lt (A.getD i 0) (A.getD j 0) := by
  rcases Nat.lt_or_ge i j with h1 | h1
  · exact .inr (pw_get h h1 hj)
  · exact .inl (by rw [show i = j by omega])
set_option maxHeartbeats 2000000 in
theorem sym_tail {P A B R : List Int} {a m b mid s0 r0 sz : Nat} (hO : Ord lt) (hC : CmpOk (Go.V.Call tab E) M1 M2 N f caps bs Sd c) (hK : M1.length = K) (ih : SymP E M1 M2 K N f caps Sd c lt sz) (hsz : A.length + B.length ≤ sz + 1)
    (ha : P.length = a) (hm : a + A.length = m) (hb : m + B.length = b) (hN : b + R.length = N) (hN2 : N ≤ 1000000) (hA2 : 2 ≤ A.length) (hB2 : 2 ≤ B.length) (hSA : ∀ x ∈ A, Sd x) (hSB : ∀ y ∈ B, Sd y) (hA : A.Pairwise lt) (hB : B.Pairwise lt) (hH : ∀ x ∈ A, ∀ y ∈ B, Hc c lt x y)
    (hmid : mid = (a + b) / 2) (h1 : s0 ≤ r0) (h2 : a ≤ s0) (h3 : mid + m ≤ s0 + b) (h4 : r0 ≤ m) (h5 : r0 ≤ mid) (h6 : s0 = a ∨ s0 + b = mid + m) (h7 : r0 = m ∨ r0 = mid) :
    Mach (Go.V.Call tab E) (fun x st => ∃ C, (∃ C', C'.Perm (A ++ B) ∧ C'.Pairwise lt ∧ C = P ++ (C' ++ R)) ∧ Fin i140 (rowM M1 M2 N (P ++ (A ++ (B ++ R)))) (.tup []) (rowM M1 M2 N C) x st)
      [.code (.loop [0, 1, 2, 3, 4, 18, 19, 20, 21, 22] none b140_4), .endb 8, .code k140_4] .nrm
      ⟨[(0, .arr K 0), (1, .int .i64 a), (2, .int .i64 m), (3, .int .i64 b), (4, .fn f caps), (18, .int .i64 mid), (19, .int .i64 (mid + m : Nat)), (20, .int .i64 s0), (21, .int .i64 r0), (22, .int .i64 (mid + m - 1 : Nat))], rowM M1 M2 N (P ++ (A ++ (B ++ R)))⟩ := by
  generalize hmem0 : rowM M1 M2 N (P ++ (A ++ (B ++ R))) = mem0
  have hmid1 : a < mid ∧ mid < b := by omega
  have hg : ∀ o : AObj, (M1 ++ o :: M2)[K]? = some o := fun o => row_get hK
  have hlen : (P ++ (A ++ (B ++ R))).length = N := by simp; omega
  have hcaps := hC.1 (P ++ (A ++ (B ++ R)))
  have gA : ∀ q : Nat, a ≤ q → q < m → (P ++ (A ++ (B ++ R))).getD q 0 = A.getD (q - a) 0 := fun q g1 g2 => by rw [mid_A (by omega) (by omega), ha]
  have gB : ∀ q : Nat, m ≤ q → q < b → (P ++ (A ++ (B ++ R))).getD q 0 = B.getD (q - m) 0 := fun q g1 g2 => by rw [mid_B (by omega) (by omega)]; congr 1; omega
  refine mLoop (fun M st => ∃ lo hi : Nat, s0 ≤ lo ∧ lo ≤ hi ∧ hi ≤ r0 ∧ M = hi - lo ∧ (lo = s0 ∨ ¬ lt ((P ++ (A ++ (B ++ R))).getD (mid + m - lo) 0) ((P ++ (A ++ (B ++ R))).getD (lo - 1) 0)) ∧ (hi = r0 ∨ lt ((P ++ (A ++ (B ++ R))).getD (mid + m - 1 - hi) 0) ((P ++ (A ++ (B ++ R))).getD hi 0)) ∧
    st = ⟨[(0, .arr K 0), (1, .int .i64 a), (2, .int .i64 m), (3, .int .i64 b), (4, .fn f caps), (18, .int .i64 mid), (19, .int .i64 (mid + m : Nat)), (20, .int .i64 lo), (21, .int .i64 hi), (22, .int .i64 (mid + m - 1 : Nat))], mem0⟩) (r0 - s0)
    ⟨_, rfl, s0, r0, Nat.le_refl _, h1, Nat.le_refl _, rfl, .inl rfl, .inl rfl, rfl⟩ ?_
  rintro M s1 ⟨lo, hi, g1, g2, g3, rfl, g4, g5, rfl⟩
  by_cases hlt : lo < hi
  · have hlt' : (lo : Int) < (hi : Int) := by omega
    have e0 := wad (a := lo) (b := hi) (by omega)
    have e1 := wu64 (n := lo + hi) (by omega)
    have e3 := wi64 (n := (lo + hi) / 2) (by omega)
    have hh : (lo + hi) / 2 < hi ∧ lo ≤ (lo + hi) / 2 := by omega
    generalize hhe : (lo + hi) / 2 = h at *
    have e4 := wsb (a := mid + m - 1) (b := h) (by omega) (by omega)
    have e5 : IntKind.i64.wrap ((h : Int) + 1) = ((h + 1 : Nat) : Int) := by rw [wrap_i64 (by omega) (by omega)]; omega
    have x1 := gA h (by omega) (by omega)
    have x2 := gB (mid + m - 1 - h) (by omega) (by omega)
    have mA := getD_memI (A := A) (i := h - a) (by omega)
    have mB := getD_memI (A := B) (i := mid + m - 1 - h - m) (by omega)
    rw [← x1] at mA
    rw [← x2] at mB
    have hcall := hC.2 _ _ (hSB _ mB) (hSA _ mA)
    have hcw := (hH _ mA _ mB).2
    have n1 : mid + m - (h + 1) = mid + m - 1 - h := by omega
    have n2 : h + 1 - 1 = h := by omega
    have s1 := sub_nums (k := .i64) (l := P ++ (A ++ (B ++ R))) (i := h) (by omega)
    have s2 := sub_nums (k := .i64) (l := P ++ (A ++ (B ++ R))) (i := mid + m - 1 - h) (by omega)
    have k1 : (0 : Int) ≤ (h : Int) := by omega
    have k2 : (0 : Int) ≤ ((mid + m - 1 - h : Nat) : Int) := by omega
    have k3 : (h : Int) < (N : Int) := by omega
    have k4 : ((mid + m - 1 - h : Nat) : Int) < (N : Int) := by omega
    clear x1 x2 mA mB gA gB
    by_cases hty : lt ((P ++ (A ++ (B ++ R))).getD (mid + m - 1 - h) 0) ((P ++ (A ++ (B ++ R))).getD h 0)
    · have hcl := hcw.2 hty
      have fin : LoopQ [0, 1, 2, 3, 4, 18, 19, 20, 21, 22] none (fun M st => ∃ lo hi : Nat, s0 ≤ lo ∧ lo ≤ hi ∧ hi ≤ r0 ∧ M = hi - lo ∧ (lo = s0 ∨ ¬ lt ((P ++ (A ++ (B ++ R))).getD (mid + m - lo) 0) ((P ++ (A ++ (B ++ R))).getD (lo - 1) 0)) ∧ (hi = r0 ∨ lt ((P ++ (A ++ (B ++ R))).getD (mid + m - 1 - hi) 0) ((P ++ (A ++ (B ++ R))).getD hi 0)) ∧
          st = ⟨[(0, .arr K 0), (1, .int .i64 a), (2, .int .i64 m), (3, .int .i64 b), (4, .fn f caps), (18, .int .i64 mid), (19, .int .i64 (mid + m : Nat)), (20, .int .i64 lo), (21, .int .i64 hi), (22, .int .i64 (mid + m - 1 : Nat))], mem0⟩) (hi - lo) (Mach (Go.V.Call tab E) (fun x st => ∃ C, (∃ C', C'.Perm (A ++ B) ∧ C'.Pairwise lt ∧ C = P ++ (C' ++ R)) ∧ Fin i140 mem0 (.tup []) (rowM M1 M2 N C) x st) [.endb 8, .code k140_4]) .nrm
          ⟨[(0, .arr K 0), (1, .int .i64 a), (2, .int .i64 m), (3, .int .i64 b), (4, .fn f caps), (18, .int .i64 mid), (19, .int .i64 (mid + m : Nat)), (20, .int .i64 lo), (21, .int .i64 h), (22, .int .i64 (mid + m - 1 : Nat))], mem0⟩ :=
        loopQ_go rfl (h - lo) (by omega) ⟨lo, h, g1, by omega, by omega, rfl, g4, .inr hty, rfl⟩
      clear g4 g5 hcw hty
      generalize (P ++ (A ++ (B ++ R))).getD h 0 = xa at *
      generalize (P ++ (A ++ (B ++ R))).getD (mid + m - 1 - h) 0 = xb at *
      subst hmem0
      simp only [rowM] at hcaps
      generalize P ++ (A ++ (B ++ R)) = l at *
      simp only [b140_4, rowM, go_sem, mapI, hlt', e0, e1, shr1, hhe, e3, e4, hg, k1, k2, k3, k4, Int.toNat_natCast, s1, s2]
      refine goFn hcaps hcall rfl ?_
      simp only [b140_4, rowM, go_sem, hcl]
      simp only [rowM] at fin
      exact fin
    · have hcl : ¬ c _ _ < 0 := fun h => hty (hcw.1 h)
      have fin : LoopQ [0, 1, 2, 3, 4, 18, 19, 20, 21, 22] none (fun M st => ∃ lo hi : Nat, s0 ≤ lo ∧ lo ≤ hi ∧ hi ≤ r0 ∧ M = hi - lo ∧ (lo = s0 ∨ ¬ lt ((P ++ (A ++ (B ++ R))).getD (mid + m - lo) 0) ((P ++ (A ++ (B ++ R))).getD (lo - 1) 0)) ∧ (hi = r0 ∨ lt ((P ++ (A ++ (B ++ R))).getD (mid + m - 1 - hi) 0) ((P ++ (A ++ (B ++ R))).getD hi 0)) ∧
          st = ⟨[(0, .arr K 0), (1, .int .i64 a), (2, .int .i64 m), (3, .int .i64 b), (4, .fn f caps), (18, .int .i64 mid), (19, .int .i64 (mid + m : Nat)), (20, .int .i64 lo), (21, .int .i64 hi), (22, .int .i64 (mid + m - 1 : Nat))], mem0⟩) (hi - lo) (Mach (Go.V.Call tab E) (fun x st => ∃ C, (∃ C', C'.Perm (A ++ B) ∧ C'.Pairwise lt ∧ C = P ++ (C' ++ R)) ∧ Fin i140 mem0 (.tup []) (rowM M1 M2 N C) x st) [.endb 8, .code k140_4]) .nrm
          ⟨[(0, .arr K 0), (1, .int .i64 a), (2, .int .i64 m), (3, .int .i64 b), (4, .fn f caps), (18, .int .i64 mid), (19, .int .i64 (mid + m : Nat)), (20, .int .i64 (h + 1 : Nat)), (21, .int .i64 hi), (22, .int .i64 (mid + m - 1 : Nat))], mem0⟩ :=
        loopQ_go rfl (hi - (h + 1)) (by omega) ⟨h + 1, hi, by omega, by omega, g3, rfl, .inr (by rw [n1, n2]; exact hty), g5, rfl⟩
      clear g4 g5 hcw hty
      generalize (P ++ (A ++ (B ++ R))).getD h 0 = xa at *
      generalize (P ++ (A ++ (B ++ R))).getD (mid + m - 1 - h) 0 = xb at *
      subst hmem0
      simp only [rowM] at hcaps
      generalize P ++ (A ++ (B ++ R)) = l at *
      simp only [b140_4, rowM, go_sem, mapI, hlt', e0, e1, shr1, hhe, e3, e4, hg, k1, k2, k3, k4, Int.toNat_natCast, s1, s2]
      refine goFn hcaps hcall rfl ?_
      simp only [b140_4, rowM, go_sem, hcl, e5]
      simp only [rowM] at fin
      exact fin
  · have hlt' : ¬ (lo : Int) < (hi : Int) := by omega
    obtain rfl : hi = lo := by omega
    have e6 := wsb (a := mid + m) (b := hi) (by omega) (by omega)
    -- the four parts
    have lA1 : (A.take (hi - a)).length = hi - a := by rw [List.length_take]; omega
    have lA2 : (A.drop (hi - a)).length = m - hi := by rw [List.length_drop]; omega
    have lB1 : (B.take (mid - hi)).length = mid - hi := by rw [List.length_take]; omega
    have lB2 : (B.drop (mid - hi)).length = b - (mid + m - hi) := by rw [List.length_drop]; omega
    have cA := List.take_append_drop (hi - a) A
    have cB := List.take_append_drop (mid - hi) B
    have c12 : ∀ x ∈ A.take (hi - a), ∀ y ∈ B.drop (mid - hi), lt x y := by
      intro x hx y hy
      obtain ⟨i, hi1, hi2, rfl⟩ := mem_take hx
      obtain ⟨k, hk1, hk2, rfl⟩ := mem_drop hy
      have hne : ¬ lt ((P ++ (A ++ (B ++ R))).getD (mid + m - hi) 0) ((P ++ (A ++ (B ++ R))).getD (hi - 1) 0) := g4.resolve_left fun h => by
        rcases h6 with h6 | h6 <;> omega
      rw [gA (hi - 1) (by omega) (by omega), gB (mid + m - hi) (by omega) (by omega)] at hne
      have hx2 := (hH _ (getD_memI (i := hi - 1 - a) (by omega)) _ (getD_memI (i := mid + m - hi - m) (by omega))).not hO hne
      have hx3 := le_get hO hA (i := i) (j := hi - 1 - a) (by omega) (by omega)
      have hx4 := le_get hO hB (i := mid + m - hi - m) (j := k) (by omega) (by omega)
      have hx5 : lt (A.getD i 0) (B.getD (mid + m - hi - m) 0) := by
        rcases hx3 with e | e
        · rw [e]; exact hx2
        · exact hO.tra e hx2
      rcases hx4 with e | e
      · rw [← e]; exact hx5
      · exact hO.tra hx5 e
    have c21 : ∀ x ∈ B.take (mid - hi), ∀ y ∈ A.drop (hi - a), lt x y := by
      intro x hx y hy
      obtain ⟨k, hk1, hk2, rfl⟩ := mem_take hx
      obtain ⟨i, hi1, hi2, rfl⟩ := mem_drop hy
      have hne : lt ((P ++ (A ++ (B ++ R))).getD (mid + m - 1 - hi) 0) ((P ++ (A ++ (B ++ R))).getD hi 0) := g5.resolve_left fun h => by
        rcases h7 with h7 | h7 <;> omega
      rw [gA hi (by omega) (by omega), gB (mid + m - 1 - hi) (by omega) (by omega)] at hne
      have hx3 := le_get hO hB (i := k) (j := mid + m - 1 - hi - m) (by omega) (by omega)
      have hx4 := le_get hO hA (i := hi - a) (j := i) (by omega) (by omega)
      have hx5 : lt (B.getD k 0) (A.getD (hi - a) 0) := by
        rcases hx3 with e | e
        · rw [e]; exact hne
        · exact hO.tra e hne
      rcases hx4 with e | e
      · rw [← e]; exact hx5
      · exact hO.tra hx5 e
    have mA1 : ∀ x ∈ A.take (hi - a), x ∈ A := fun x hx => List.mem_of_mem_take hx
    have mA2 : ∀ x ∈ A.drop (hi - a), x ∈ A := fun x hx => List.mem_of_mem_drop hx
    have mB1 : ∀ x ∈ B.take (mid - hi), x ∈ B := fun x hx => List.mem_of_mem_take hx
    have mB2 : ∀ x ∈ B.drop (mid - hi), x ∈ B := fun x hx => List.mem_of_mem_drop hx
    have pA := hA
    have pB := hB
    rw [← cA] at pA
    rw [← cB] at pB
    have hrest : Mach (Go.V.Call tab E) (fun x st => ∃ C, (∃ C', C'.Perm (A ++ B) ∧ C'.Pairwise lt ∧ C = P ++ (C' ++ R)) ∧ Fin i140 mem0 (.tup []) (rowM M1 M2 N C) x st) [.code t140_1] .nrm ⟨[(0, .arr K 0), (1, .int .i64 a), (3, .int .i64 b), (4, .fn f caps), (18, .int .i64 mid), (20, .int .i64 hi), (24, .int .i64 (mid + m - hi : Nat))], rowM M1 M2 N (P ++ (A.take (hi - a) ++ (B.take (mid - hi) ++ (A.drop (hi - a) ++ (B.drop (mid - hi) ++ R)))))⟩ :=
      sym_both (Q := fun C => ∃ C', C'.Perm (A ++ B) ∧ C'.Pairwise lt ∧ C = P ++ (C' ++ R)) (mem0 := mem0) (P := P) (A1 := A.take (hi - a)) (B1 := B.take (mid - hi)) (A2 := A.drop (hi - a)) (B2 := B.drop (mid - hi)) (R := R) (a := a) (s := hi) (mid := mid) (e := mid + m - hi) (b := b) (sz := sz) ih (by omega) (by omega) ha (by omega) (by omega) (by omega) (by omega) hN hN2 (fun x hx => hSA x (mA1 x hx)) (fun x hx => hSB x (mB1 x hx)) (fun x hx => hSA x (mA2 x hx)) (fun x hx => hSB x (mB2 x hx)) pA pB
        (fun x hx y hy => hH x (mA1 x hx) y (mB1 y hy)) (fun x hx y hy => hH x (mA2 x hx) y (mB2 y hy)) c12 c21 fun C q1 q2 => ⟨C, by rwa [cA, cB] at q1, q2, rfl⟩
    have hmem1 : mem0 = rowM M1 M2 N (P ++ (A.take (hi - a) ++ (A.drop (hi - a) ++ (B.take (mid - hi) ++ (B.drop (mid - hi) ++ R))))) := by
      rw [← hmem0, ← List.append_assoc (A.take (hi - a)), cA, ← List.append_assoc (B.take (mid - hi)), cB]
    clear gA gB g4 g5 c12 c21 mA1 mA2 mB1 mB2 pA pB
    by_cases d1 : hi < m ∧ hi < mid
    · have d1' : (hi : Int) < (m : Int) := by omega
      have d2' : (m : Int) < ((mid + m - hi : Nat) : Int) := by omega
      have h162 := c162_ok (E := E) (fn := .fn f caps) (M1 := M1) (M2 := M2) (K := K) (N := N) (P := P ++ A.take (hi - a)) (X := A.drop (hi - a)) (Y := B.take (mid - hi)) (R := B.drop (mid - hi) ++ R) (a := hi) (m := m) (b := mid + m - hi) hK (by rw [List.length_append]; omega) (by omega) (by omega) (by rw [List.length_append]; omega) hN2 (by omega) (by omega)
      rw [List.append_assoc, List.append_assoc, ← hmem1] at h162
      simp only [b140_4, k140_4, go_sem, hlt', e6, d1', d2']
      refine goM h162 ?_
      simp only [go_sem]
      exact hrest
    · have hsame : mem0 = rowM M1 M2 N (P ++ (A.take (hi - a) ++ (B.take (mid - hi) ++ (A.drop (hi - a) ++ (B.drop (mid - hi) ++ R))))) := by
        rw [hmem1]
        rcases Nat.lt_or_ge hi m with q | q
        · rw [List.length_eq_zero_iff.1 (show (B.take (mid - hi)).length = 0 by omega)]; simp
        · rw [List.length_eq_zero_iff.1 (show (A.drop (hi - a)).length = 0 by omega)]; simp
      rw [← hsame] at hrest
      by_cases d2 : hi < m
      · have d2' : (hi : Int) < (m : Int) := by omega
        have d3' : ¬ (m : Int) < ((mid + m - hi : Nat) : Int) := by omega
        simp only [b140_4, k140_4, go_sem, hlt', e6, d2', d3']
        exact hrest
      · have d2' : ¬ (hi : Int) < (m : Int) := by omega
        simp only [b140_4, k140_4, go_sem, hlt', e6, d2']
        exact hrest
set_option maxHeartbeats 1000000 in
theorem c140_ok (hO : Ord lt) (hC : CmpOk (Go.V.Call tab E) M1 M2 N f caps bs Sd c) (hK : M1.length = K) (hN2 : N ≤ 1000000) : ∀ sz : Nat, SymP E M1 M2 K N f caps Sd c lt sz
  | 0 => fun P A B R a m b h _ _ _ _ hA _ => by omega
  | sz + 1 => fun P A B R a m b hsz ha hm hb hN hA0 hB0 hSA hSB hA hB hH => by
    have ih := c140_ok hO hC hK hN2 sz
    by_cases hA1 : A.length = 1
    · obtain ⟨x, rfl⟩ := List.length_eq_one_iff.1 hA1
      exact c140_one hO hC hK ha hm hb hN hN2 (hSA x (by simp)) hSB hB fun y hy => hH x (by simp) y hy
    by_cases hB1 : B.length = 1
    · obtain ⟨y, rfl⟩ := List.length_eq_one_iff.1 hB1
      exact c140_last hO hC hK ha hm hA1 hb hN hN2 (hSB y (by simp)) hSA hA fun x hx => hH x hx y (by simp)
    suffices h : Mach (Go.V.Call tab E) (fun x st => ∃ C, (∃ C', C'.Perm (A ++ B) ∧ C'.Pairwise lt ∧ C = P ++ (C' ++ R)) ∧ Fin i140 (rowM M1 M2 N (P ++ (A ++ (B ++ R)))) (.tup []) (rowM M1 M2 N C) x st) [.code c140] .nrm ⟨argsE 0 [.arr K 0, .int .i64 a, .int .i64 m, .int .i64 b, .fn f caps], rowM M1 M2 N (P ++ (A ++ (B ++ R)))⟩ by
      obtain ⟨x, st, h1, h4⟩ := wp_exec h
      rw [mNil] at h4
      obtain ⟨_, ⟨C, h2, h3, rfl⟩, h5⟩ := h4
      exact ⟨C, h2, h3, Go.V.Call.go i140 c140 rfl rfl rfl rfl (exec_wp h1 h5)⟩
    have tail := fun {s0 r0 : Nat} => sym_tail (s0 := s0) (r0 := r0) (mid := (a + b) / 2) hO hC hK ih hsz ha hm hb hN hN2 (by omega) (by omega) hSA hSB hA hB hH rfl
    have w1 : IntKind.i64.wrap ((m : Int) - (a : Int)) = (A.length : Int) := by rw [wrap_i64 (by omega) (by omega)]; omega
    have w2 : IntKind.i64.wrap ((b : Int) - (m : Int)) = (B.length : Int) := by rw [wrap_i64 (by omega) (by omega)]; omega
    have w3 : ((A.length : Int) == 1) = false := beq_eq_false_iff_ne.2 (by omega)
    have w4 : ((B.length : Int) == 1) = false := beq_eq_false_iff_ne.2 (by omega)
    have e0 := wad (a := a) (b := b) (by omega)
    have e1 := wu64 (n := a + b) (by omega)
    have e3 := wi64 (n := (a + b) / 2) (by omega)
    have hmid : a < (a + b) / 2 ∧ (a + b) / 2 < b ∧ 2 * ((a + b) / 2) ≤ a + b ∧ a + b ≤ 2 * ((a + b) / 2) + 1 := by omega
    generalize hme : (a + b) / 2 = mid at *
    have e4 := wad (a := mid) (b := m) (by omega)
    have e5 : IntKind.i64.wrap (((mid + m : Nat) : Int) - 1) = ((mid + m - 1 : Nat) : Int) := by rw [wrap_i64 (by omega) (by omega)]; omega
    by_cases hgt : mid < m
    · have hgt' : (mid : Int) < (m : Int) := by omega
      have e6 := wsb (a := mid + m) (b := b) (by omega) (by omega)
      simp only [c140, k140_6, k140_5, go_sem, w1, w2, w3, w4, e0, e1, shr1, hme, e3, e4, e5, hgt', e6]
      exact tail (by omega) (by omega) (by omega) (by omega) (by omega) (.inr (by omega)) (.inr rfl)
    · have hgt' : ¬ (mid : Int) < (m : Int) := by omega
      simp only [c140, k140_6, k140_5, go_sem, w1, w2, w3, w4, e0, e1, shr1, hme, e3, e4, e5, hgt']
      exact tail (by omega) (by omega) (by omega) (by omega) (by omega) (.inl rfl) (.inl rfl)
end
def seg (l : List Int) (p q : Nat) : List Int := (l.drop p).take (q - p)
theorem seg_len {l : List Int} {p q : Nat} : (seg l p q).length = min (q - p) (l.length - p) := by simp [seg]
theorem seg_split {l : List Int} {p m q : Nat} (h : p ≤ m) (h2 : m ≤ q) : seg l p q = seg l p m ++ seg l m q := by
  simp only [seg]
  have e : l.drop m = (l.drop p).drop (m - p) := by rw [List.drop_drop, show p + (m - p) = m by omega]
  rw [e]
  generalize l.drop p = x
  conv => lhs; rw [← List.take_append_drop (m - p) x]
  rw [List.take_append]
  congr 1
  · rw [List.take_take, Nat.min_eq_right (by omega)]
  · rw [List.length_take]
    rcases Nat.le_total (m - p) x.length with h3 | h3
    · rw [Nat.min_eq_left h3, show q - p - (m - p) = q - m by omega]
    · rw [List.drop_eq_nil_of_le h3]; simp
theorem cut3 {l : List Int} {p q : Nat} (h : p ≤ q) : l = l.take p ++ (seg l p q ++ l.drop q) := by
  have e : l.drop q = (l.drop p).drop (q - p) := by rw [List.drop_drop, show p + (q - p) = q by omega]
  rw [seg, e, List.take_append_drop, List.take_append_drop]
theorem seg_end {l : List Int} {p q r : Nat} (h : l.length ≤ q) (h2 : l.length ≤ r) : seg l p q = seg l p r := by
  rw [seg, seg, List.take_of_length_le (by simp; omega), List.take_of_length_le (by simp; omega)]
theorem seg_left {P X : List Int} {p q : Nat} (h : q ≤ P.length) : seg (P ++ X) p q = seg P p q := by
  rw [seg, seg]
  rcases Nat.le_total p P.length with h3 | h3
  · rw [List.drop_append_of_le_length h3, List.take_append_of_le_length (by simp; omega)]
  · rw [show q - p = 0 by omega, List.take_zero, List.take_zero]
theorem seg_right {P S D R : List Int} {p q : Nat} (h : P.length + S.length ≤ p) (hD : D.length = S.length) : seg (P ++ (D ++ R)) p q = seg (P ++ (S ++ R)) p q := by
  have d1 : ∀ x : List Int, x.length ≤ p - P.length → x.drop (p - P.length) = [] := fun x h => List.drop_eq_nil_of_le h
  rw [seg, seg, List.drop_append, List.drop_append, List.drop_append, List.drop_append, d1 D (by omega), d1 S (by omega), hD]
theorem seg_mid {P D R : List Int} {p q : Nat} (h : P.length = p) (h2 : p + D.length = q) : seg (P ++ (D ++ R)) p q = D := by
  subst h; subst h2
  rw [seg, List.drop_left, Nat.add_sub_cancel_left, List.take_left]
theorem mem_seg {l : List Int} {p q : Nat} {z : Int} (h : z ∈ seg l p q) : ∃ k, p ≤ k ∧ k < q ∧ k < l.length ∧ l.getD k 0 = z := by
  obtain ⟨k, hk, hk2, rfl⟩ := mem_take h
  rw [List.length_drop] at hk2
  exact ⟨p + k, by omega, by omega, by omega, by simp [List.getD]⟩
def Gd (lt : Int → Int → Prop) (l0 l : List Int) (p q : Nat) : Prop := (seg l p q).Perm (seg l0 p q) ∧ (seg l p q).Pairwise lt
theorem Gd.put {lt : Int → Int → Prop} {l0 P S D R : List Int} {p q p' q' : Nat} (hp : P.length = p) (hq : p + S.length = q) (hD : D.length = S.length) (h : q' ≤ p ∨ q ≤ p') (hG : Gd lt l0 (P ++ (S ++ R)) p' q') : Gd lt l0 (P ++ (D ++ R)) p' q' := by
  have e : seg (P ++ (D ++ R)) p' q' = seg (P ++ (S ++ R)) p' q' := by
    rcases h with h | h
    · rw [seg_left (by omega), seg_left (by omega)]
    · exact seg_right (by omega) hD
  rw [Gd, e]
  exact hG
def Blk (W p : Nat) : Prop := ∃ t, p = t * W
theorem Blk.zero {W : Nat} : Blk W 0 := ⟨0, by simp⟩
theorem Blk.next {W p : Nat} (h : Blk W p) : Blk W (p + W) := by
  obtain ⟨t, rfl⟩ := h
  exact ⟨t + 1, by rw [Nat.succ_mul]⟩
theorem Blk.half {W p : Nat} (h : Blk (2 * W) p) : Blk W p := by
  obtain ⟨t, rfl⟩ := h
  exact ⟨2 * t, by rw [Nat.mul_comm 2 t, Nat.mul_assoc]⟩
theorem Blk.le {W p a : Nat} (hp : Blk W p) (ha : Blk W a) (h : p < a) : p + W ≤ a := by
  obtain ⟨t, rfl⟩ := hp
  obtain ⟨u, rfl⟩ := ha
  have h1 : t < u := Nat.lt_of_mul_lt_mul_right h
  have := Nat.mul_le_mul_right W (show t + 1 ≤ u from h1)
  rwa [Nat.succ_mul] at this
section
variable {E : CallRel} {M1 M2 : List AObj} {K N f : Nat} {caps bs : List AV} {Sd : Int → Prop} {c : Int → Int → Int} {lt : Int → Int → Prop}
theorem ins_step {l0 l : List Int} {a b : Nat} (hO : Ord lt) (hC : CmpOk (Go.V.Call tab E) M1 M2 N f caps bs Sd c) (hK : M1.length = K) (hN2 : N ≤ 1000000) (h0 : l0.length = N) (hl : l.length = N) (hS : ∀ x ∈ l0, Sd x) (hp : l0.Pairwise (Hc c lt)) (hab : a ≤ b) (hb : b ≤ N) (hd : l.drop a = l0.drop a) :
    ∃ l', l'.length = N ∧ Gd lt l0 l' a b ∧ l'.drop b = l0.drop b ∧ (∀ p q, q ≤ a → Gd lt l0 l p q → Gd lt l0 l' p q) ∧ Go.V.Call tab E 139 [.arr K 0, .int .i64 a, .int .i64 b, .fn f caps] (rowM M1 M2 N l) (.tup []) (rowM M1 M2 N l') := by
  have hc := cut3 (l := l) hab
  have e1 : seg l a b = seg l0 a b := by rw [seg, seg, hd]
  have e2 : l.drop b = l0.drop b := by
    have x1 : l.drop b = (l.drop a).drop (b - a) := by rw [List.drop_drop, show a + (b - a) = b by omega]
    rw [x1, hd, List.drop_drop, show a + (b - a) = b by omega]
  have sl := seg_len (l := l) (p := a) (q := b)
  have tl : (l.take a).length = a := by rw [List.length_take]; omega
  obtain ⟨D, g1, g2, g3⟩ := c139_ok (P := l.take a) (S := seg l a b) (R := l.drop b) (a := a) (b := b) hO hC hK tl (by omega) (by rw [List.length_drop]; omega) hN2 (fun x hx => by
    rw [e1] at hx
    exact hS x (List.mem_of_mem_drop (List.mem_of_mem_take hx))) (by
    rw [e1]
    exact (hp.sublist (List.drop_sublist _ _)).sublist (List.take_sublist _ _))
  rw [← hc] at g3
  have gl := g1.length_eq
  refine ⟨_, ?_, ⟨?_, ?_⟩, ?_, fun p q hq hG => ?_, g3⟩
  · rw [List.length_append, List.length_append, List.length_drop]; omega
  · rw [seg_mid tl (by omega), ← e1]; exact g1
  · rw [seg_mid tl (by omega)]; exact g2
  · rw [← List.append_assoc, List.drop_left' (by rw [List.length_append]; omega), e2]
  · rw [hc] at hG
    exact Gd.put (q := b) tl (by omega) gl (.inl hq) hG
theorem mrg_step {l0 l : List Int} {a m b : Nat} (hO : Ord lt) (hC : CmpOk (Go.V.Call tab E) M1 M2 N f caps bs Sd c) (hK : M1.length = K) (hN2 : N ≤ 1000000) (h0 : l0.length = N) (hl : l.length = N) (hS : ∀ x ∈ l0, Sd x) (hp : l0.Pairwise (Hc c lt)) (ham : a < m) (hmb : m < b) (hb : b ≤ N) (hA : Gd lt l0 l a m) (hB : Gd lt l0 l m b) :
    ∃ l', l'.length = N ∧ Gd lt l0 l' a b ∧ (∀ p q, q ≤ a ∨ b ≤ p → Gd lt l0 l p q → Gd lt l0 l' p q) ∧ Go.V.Call tab E 140 [.arr K 0, .int .i64 a, .int .i64 m, .int .i64 b, .fn f caps] (rowM M1 M2 N l) (.tup []) (rowM M1 M2 N l') := by
  have hc := cut3 (l := l) (show a ≤ b by omega)
  have hsp := seg_split (l := l) (show a ≤ m by omega) (show m ≤ b by omega)
  have hsp0 := seg_split (l := l0) (show a ≤ m by omega) (show m ≤ b by omega)
  have sl := seg_len (l := l) (p := a) (q := b)
  have sA := seg_len (l := l) (p := a) (q := m)
  have sB := seg_len (l := l) (p := m) (q := b)
  have tl : (l.take a).length = a := by rw [List.length_take]; omega
  have inS : ∀ p q x, x ∈ seg l0 p q → Sd x := fun p q x hx => hS x (List.mem_of_mem_drop (List.mem_of_mem_take hx))
  obtain ⟨C, g1, g2, g3⟩ := c140_ok hO hC hK hN2 ((seg l a m).length + (seg l m b).length) (l.take a) (seg l a m) (seg l m b) (l.drop b) a m b (Nat.le_refl _) tl (by omega) (by omega) (by rw [List.length_drop]; omega) (by omega) (by omega)
    (fun x hx => inS a m x (hA.1.mem_iff.1 hx)) (fun x hx => inS m b x (hB.1.mem_iff.1 hx)) hA.2 hB.2 (fun x hx y hy => by
      obtain ⟨i, i1, i2, i3, rfl⟩ := mem_seg (hA.1.mem_iff.1 hx)
      obtain ⟨j, j1, j2, j3, rfl⟩ := mem_seg (hB.1.mem_iff.1 hy)
      exact pw_get hp (by omega) j3)
  have hc2 : l = l.take a ++ (seg l a m ++ (seg l m b ++ l.drop b)) := by
    conv => lhs; rw [hc, hsp]
    rw [List.append_assoc]
  rw [← hc2] at g3
  have gl := g1.length_eq
  rw [List.length_append] at gl
  refine ⟨_, ?_, ⟨?_, ?_⟩, fun p q hq hG => ?_, g3⟩
  · rw [List.length_append, List.length_append, List.length_drop]; omega
  · rw [seg_mid tl (by omega), hsp0]; exact g1.trans (hA.1.append hB.1)
  · rw [seg_mid tl (by omega)]; exact g2
  · rw [hc] at hG
    exact Gd.put (q := b) tl (by omega) (by omega) hq hG
set_option maxHeartbeats 2000000 in
theorem c102_ok {l0 : List Int} (hO : Ord lt) (hC : CmpOk (Go.V.Call tab E) M1 M2 N f caps bs Sd c) (hK : M1.length = K) (hN2 : N ≤ 1000000) (h0 : l0.length = N) (hS : ∀ x ∈ l0, Sd x) (hp : l0.Pairwise (Hc c lt)) :
    ∃ l, l.Perm l0 ∧ l.Pairwise lt ∧ Go.V.Call tab E 102 [.arr K 0, .int .i64 N, .fn f caps] (rowM M1 M2 N l0) (.tup []) (rowM M1 M2 N l) := by
  suffices h : Mach (Go.V.Call tab E) (fun x st => ∃ l, (l.Perm l0 ∧ l.Pairwise lt) ∧ Fin i102 (rowM M1 M2 N l0) (.tup []) (rowM M1 M2 N l) x st) [.code c102] .nrm ⟨argsE 0 [.arr K 0, .int .i64 N, .fn f caps], rowM M1 M2 N l0⟩ by
    obtain ⟨x, st, h1, h4⟩ := wp_exec h
    rw [mNil] at h4
    obtain ⟨l, ⟨h2, h3⟩, h5⟩ := h4
    exact ⟨l, h2, h3, Go.V.Call.go i102 c102 rfl rfl rfl rfl (exec_wp h1 h5)⟩
  simp only [c102, go_sem]
  refine mLoop (fun M st => ∃ (a : Nat) (l : List Int), Blk 20 a ∧ a ≤ N ∧ M = N - a ∧ l.length = N ∧ l.drop a = l0.drop a ∧ (∀ p, Blk 20 p → p < a → Gd lt l0 l p (p + 20)) ∧
    st = ⟨[(0, .arr K 0), (1, .int .i64 N), (2, .fn f caps), (6, .int .i64 20), (7, .int .i64 a), (8, .int .i64 (a + 20 : Nat))], rowM M1 M2 N l⟩) N ⟨_, rfl, 0, l0, Blk.zero, by omega, by omega, h0, rfl, fun p _ h => by omega, rfl⟩ ?_
  rintro M s0 ⟨a, l, ha, haN, rfl, hl, hd, hG, rfl⟩
  by_cases hlt : a + 20 ≤ N
  · have hlt' : ((a + 20 : Nat) : Int) ≤ (N : Int) := by omega
    have w1 : IntKind.i64.wrap (((a + 20 : Nat) : Int) + 20) = ((a + 20 + 20 : Nat) : Int) := by rw [wrap_i64 (by omega) (by omega)]; omega
    obtain ⟨l', g1, g2, g3, g4, g5⟩ := ins_step (a := a) (b := a + 20) hO hC hK hN2 h0 hl hS hp (by omega) hlt hd
    simp only [b102_0, go_sem, hlt']
    refine goM g5 ?_
    simp only [go_sem, w1]
    refine loopQ_go rfl (N - (a + 20)) (by omega) ⟨a + 20, l', ha.next, by omega, rfl, g1, g3, fun p hpb hpa => ?_, rfl⟩
    rcases Nat.lt_or_ge p a with h | h
    · exact g4 p (p + 20) (hpb.le ha h) (hG p hpb h)
    · have : p + 20 ≤ a + 20 := hpb.le ha.next hpa
      rw [show p = a by omega]
      exact g2
  · have hlt' : ¬ ((a + 20 : Nat) : Int) ≤ (N : Int) := by omega
    obtain ⟨l', g1, g2, g3, g4, g5⟩ := ins_step (a := a) (b := N) hO hC hK hN2 h0 hl hS hp haN (Nat.le_refl _) hd
    have hAll : ∀ p, Blk 20 p → Gd lt l0 l' p (p + 20) := fun p hpb => by
      rcases Nat.lt_or_ge p a with h | h
      · exact g4 p (p + 20) (hpb.le ha h) (hG p hpb h)
      · rcases Nat.lt_or_ge p (a + 20) with h2 | h2
        · have : p + 20 ≤ a + 20 := hpb.le ha.next h2
          rw [show p = a by omega, Gd, seg_end (l := l') (r := N) (by omega) (by omega), seg_end (l := l0) (r := N) (by omega) (by omega)]
          exact g2
        · have e1 : seg l' p (p + 20) = [] := List.length_eq_zero_iff.1 (by rw [seg_len]; omega)
          have e2 : seg l0 p (p + 20) = [] := List.length_eq_zero_iff.1 (by rw [seg_len]; omega)
          rw [Gd, e1, e2]
          exact ⟨List.Perm.refl _, List.Pairwise.nil⟩
    simp only [b102_0, k102_1, go_sem, hlt']
    refine goM g5 ?_
    simp only [go_sem]
    clear hG g2 g3 g4 g5 hd hl
    refine mLoop (fun M st => ∃ (w : Nat) (l : List Int), 20 ≤ w ∧ w ≤ 4000000 ∧ M = N - w ∧ l.length = N ∧ (∀ p, Blk w p → Gd lt l0 l p (p + w)) ∧ st = ⟨[(0, .arr K 0), (1, .int .i64 N), (2, .fn f caps), (6, .int .i64 w)], rowM M1 M2 N l⟩) (N - 20) ⟨_, rfl, 20, l', by omega, by omega, rfl, g1, hAll, rfl⟩ ?_
    rintro M s1 ⟨w, l, hw, hw4, rfl, hl, hG, rfl⟩
    by_cases hwn : w < N
    · have hwn' : (w : Int) < (N : Int) := by omega
      have w1 : IntKind.i64.wrap (2 * (w : Int)) = ((2 * w : Nat) : Int) := by rw [wrap_i64 (by omega) (by omega)]; omega
      have w2 : IntKind.i64.wrap ((w : Int) * 2) = ((2 * w : Nat) : Int) := by rw [wrap_i64 (by omega) (by omega)]; omega
      simp only [b102_1, go_sem, hwn', w1]
      refine mLoop (fun M st => ∃ (a : Nat) (l : List Int), Blk (2 * w) a ∧ a ≤ N ∧ M = N - a ∧ l.length = N ∧ (∀ p, Blk (2 * w) p → p < a → Gd lt l0 l p (p + 2 * w)) ∧ (∀ p, Blk w p → a ≤ p → Gd lt l0 l p (p + w)) ∧
        st = ⟨[(0, .arr K 0), (1, .int .i64 N), (2, .fn f caps), (6, .int .i64 w), (7, .int .i64 a), (8, .int .i64 (a + 2 * w : Nat))], rowM M1 M2 N l⟩) N ⟨_, rfl, 0, l, Blk.zero, by omega, by omega, hl, fun p _ h => by omega, fun p hpb _ => hG p hpb, by simp [getE]⟩ ?_
      rintro M s2 ⟨a, l, ha, haN, rfl, hl, hG1, hG2, rfl⟩
      have v1 := wad (a := a) (b := w) (by omega)
      by_cases hlt : a + 2 * w ≤ N
      · have hlt' : ((a + 2 * w : Nat) : Int) ≤ (N : Int) := by omega
        have v2 := wad (a := a + 2 * w) (b := 2 * w) (by omega)
        have gA := hG2 a ha.half (Nat.le_refl _)
        have gB := hG2 (a + w) ha.half.next (by omega)
        rw [show a + w + w = a + 2 * w by omega] at gB
        obtain ⟨l', g1, g2, g3, g4⟩ := mrg_step (a := a) (m := a + w) (b := a + 2 * w) hO hC hK hN2 h0 hl hS hp (by omega) (by omega) hlt gA gB
        simp only [b102_2, go_sem, hlt', v1]
        refine goM g4 ?_
        simp only [go_sem, w1, v2]
        refine loopQ_go rfl (N - (a + 2 * w)) (by omega) ⟨a + 2 * w, l', ha.next, hlt, rfl, g1, fun p hpb hpa => ?_, fun p hpb hpa => g3 p (p + w) (.inr hpa) (hG2 p hpb (by omega)), rfl⟩
        rcases Nat.lt_or_ge p a with h | h
        · exact g3 p (p + 2 * w) (.inl (hpb.le ha h)) (hG1 p hpb h)
        · have : p + 2 * w ≤ a + 2 * w := hpb.le ha.next hpa
          rw [show p = a by omega]
          exact g2
      · have hlt' : ¬ ((a + 2 * w : Nat) : Int) ≤ (N : Int) := by omega
        have gA := hG2 a ha.half (Nat.le_refl _)
        have gB := hG2 (a + w) ha.half.next (by omega)
        have fin : ∀ l', l'.length = N → Gd lt l0 l' a N → (∀ p, Blk (2 * w) p → p < a → Gd lt l0 l' p (p + 2 * w)) → ∀ p, Blk (2 * w) p → Gd lt l0 l' p (p + 2 * w) := fun l' q1 q2 q3 p hpb => by
          rcases Nat.lt_or_ge p a with h | h
          · exact q3 p hpb h
          · rcases Nat.lt_or_ge p (a + 2 * w) with h2 | h2
            · have : p + 2 * w ≤ a + 2 * w := hpb.le ha.next h2
              rw [show p = a by omega, Gd, seg_end (l := l') (r := N) (by omega) (by omega), seg_end (l := l0) (r := N) (by omega) (by omega)]
              exact q2
            · have e1 : seg l' p (p + 2 * w) = [] := List.length_eq_zero_iff.1 (by rw [seg_len]; omega)
              have e2 : seg l0 p (p + 2 * w) = [] := List.length_eq_zero_iff.1 (by rw [seg_len]; omega)
              rw [Gd, e1, e2]
              exact ⟨List.Perm.refl _, List.Pairwise.nil⟩
        by_cases hm : a + w < N
        · have hm' : ((a + w : Nat) : Int) < (N : Int) := by omega
          rw [Gd, seg_end (l := l) (r := N) (by omega) (by omega), seg_end (l := l0) (r := N) (by omega) (by omega)] at gB
          obtain ⟨l', g1, g2, g3, g4⟩ := mrg_step (a := a) (m := a + w) (b := N) hO hC hK hN2 h0 hl hS hp (by omega) hm (Nat.le_refl _) gA gB
          simp only [b102_2, k102_0, go_sem, hlt', v1, hm']
          refine goM g4 ?_
          simp only [go_sem, w2]
          exact loopQ_go rfl (N - 2 * w) (by omega) ⟨2 * w, l', by omega, by omega, rfl, g1, fin l' g1 g2 fun p hpb h => g3 p (p + 2 * w) (.inl (hpb.le ha h)) (hG1 p hpb h), rfl⟩
        · have hm' : ¬ ((a + w : Nat) : Int) < (N : Int) := by omega
          rw [Gd, seg_end (l := l) (r := N) (by omega) (by omega), seg_end (l := l0) (r := N) (by omega) (by omega)] at gA
          simp only [b102_2, k102_0, go_sem, hlt', v1, hm', w2]
          exact loopQ_go rfl (N - 2 * w) (by omega) ⟨2 * w, l, by omega, by omega, rfl, hl, fin l hl gA hG1, rfl⟩
    · have hwn' : ¬ (w : Int) < (N : Int) := by omega
      have g := hG 0 Blk.zero
      have e : ∀ x : List Int, x.length = N → seg x 0 (0 + w) = x := fun x hx => by rw [seg, List.drop_zero, List.take_of_length_le (by omega)]
      rw [Gd, e l hl, e l0 h0] at g
      simp only [b102_1, go_sem, hwn']
      exact ⟨l, g, by simp only [i102, Out, resAll, geto, ints, List.getElem?_cons_zero, List.getElem?_cons_succ, resOf, outOf, snap, snapL, ev, getE, List.mapM_cons, List.mapM_nil, Option.bind_some, Option.pure_def, Option.bind_eq_bind, Option.map_some, reduceIte, Nat.reduceEqDiff, true_and, and_true]⟩
theorem c58_ok {l0 : List Int} (hO : Ord lt) (hC : CmpOk (Go.V.Call tab E) M1 M2 N f caps bs Sd c) (hK : M1.length = K) (hN2 : N ≤ 1000000) (h0 : l0.length = N) (hS : ∀ x ∈ l0, Sd x) (hp : l0.Pairwise (Hc c lt)) :
    ∃ l, l.Perm l0 ∧ l.Pairwise lt ∧ Go.V.Call tab E 58 [.arr K 0, .fn f caps] (rowM M1 M2 N l0) (.tup []) (rowM M1 M2 N l) := by
  obtain ⟨l, g1, g2, g3⟩ := c102_ok hO hC hK hN2 h0 hS hp
  refine ⟨l, g1, g2, Go.V.Call.mach i58 c58 rfl rfl rfl rfl ?_⟩
  have hg : ∀ o : AObj, (M1 ++ o :: M2)[K]? = some o := fun o => row_get hK
  simp only [rowM] at g3
  simp only [c58, rowM, go_sem, hg]
  refine goM g3 ?_
  simp only [go_sem]
  simp only [i58, Out, resAll, geto, ints, List.getElem?_cons_zero, List.getElem?_cons_succ, resOf, outOf, snap, snapL, ev, getE, List.mapM_cons, List.mapM_nil, Option.bind_some, Option.pure_def, Option.bind_eq_bind, Option.map_some, reduceIte, Nat.reduceEqDiff, true_and, and_true]
end
structure Cf {α : Type} (v : α → α → Int) : Prop where
  anti : ∀ {x y : α}, v x y < 0 ↔ 0 < v y x
  neg : ∀ {x y : α} (z : α), v x y < 0 → v x z < 0 ∨ v z y < 0
theorem Cf.irr {α : Type} {v : α → α → Int} (h : Cf v) {x : α} : ¬ v x x < 0 := fun hx => by
  have := h.anti.1 hx
  omega
theorem Cf.tra {α : Type} {v : α → α → Int} (h : Cf v) {x y z : α} (h1 : v x y < 0) (h2 : v y z < 0) : v x z < 0 := by
  rcases h.neg z h1 with h3 | h3
  · exact h3
  · have := h.anti.1 h2
    omega
theorem Cf.flip {α : Type} {v : α → α → Int} (h : Cf v) : Cf fun x y => v y x := ⟨h.anti, fun z h1 => (h.neg z h1).symm⟩
def cmpI (x y : Int) : Int := if x < y then -1 else if y < x then 1 else 0
theorem cmpI_cf : Cf cmpI := by
  constructor
  · intro x y; unfold cmpI; split <;> split <;> (try split) <;> (try split) <;> omega
  · intro x y z; unfold cmpI; split <;> split <;> split <;> (try split) <;> (try split) <;> (try split) <;> omega
def sg (x : Rt) : Int := if x.1 then -(x.2.1 : Int) else x.2.1
def dnI (x : Rt) : Int := (dn x.2.2 : Nat)
theorem dnI_pos {x : Rt} : 0 < dnI x := by
  unfold dnI dn
  split <;> omega
theorem wcmp_sg {b d : Bool} {p q : Nat} : (wcmp ((b != false) && decide (p ≠ 0)) p ((d != false) && decide (q ≠ 0)) q < 0 ↔ (if b then -(p : Int) else p) < (if d then -(q : Int) else q)) ∧
    (0 < wcmp ((b != false) && decide (p ≠ 0)) p ((d != false) && decide (q ≠ 0)) q ↔ (if d then -(q : Int) else q) < (if b then -(p : Int) else p)) := by
  by_cases hp : p = 0 <;> by_cases hq : q = 0 <;> cases b <;> cases d <;> simp [wcmp, cmpZ, hp, hq] <;> (try split) <;> (try split) <;> (try omega)
theorem rcmp_sg {x y : Rt} : (rcmp x y < 0 ↔ sg x * dnI y < sg y * dnI x) ∧ (0 < rcmp x y ↔ sg y * dnI x < sg x * dnI y) := by
  have h := wcmp_sg (b := x.1) (d := y.1) (p := x.2.1 * dn y.2.2) (q := y.2.1 * dn x.2.2)
  have e : ∀ (b : Bool) (p d : Nat), (if b then -((p * d : Nat) : Int) else ((p * d : Nat) : Int)) = (if b then -(p : Int) else p) * (d : Int) := fun b p d => by
    cases b
    · simp
    · simp [Int.neg_mul]
  rw [e, e] at h
  exact h
theorem rcmp_cf : Cf rcmp := by
  constructor
  · intro x y
    rw [rcmp_sg.1, rcmp_sg.2]
  · intro x y z
    rw [rcmp_sg.1, rcmp_sg.1, rcmp_sg.1]
    intro h
    by_cases h1 : sg x * dnI z < sg z * dnI x
    · exact .inl h1
    · refine .inr ?_
      have hx := dnI_pos (x := x)
      have hy := dnI_pos (x := y)
      have hz := dnI_pos (x := z)
      have a1 := Int.mul_le_mul_of_nonneg_right (show sg z * dnI x ≤ sg x * dnI z by omega) (Int.le_of_lt hy)
      have a2 := Int.mul_lt_mul_of_pos_right h hz
      refine Int.lt_of_mul_lt_mul_right (a := dnI x) ?_ (Int.le_of_lt hx)
      have e1 : sg z * dnI y * dnI x = sg z * dnI x * dnI y := by rw [Int.mul_assoc, Int.mul_comm (dnI y), ← Int.mul_assoc]
      have e2 : sg x * dnI z * dnI y = sg x * dnI y * dnI z := by rw [Int.mul_assoc, Int.mul_comm (dnI z), ← Int.mul_assoc]
      have e3 : sg y * dnI z * dnI x = sg y * dnI x * dnI z := by rw [Int.mul_assoc, Int.mul_comm (dnI z), ← Int.mul_assoc]
      rw [e1, e3]
      omega
def ordV (ch : Bool) (t : List Int) (L : List Rt) (i : Int) (t' : List Int) (L' : List Rt) (k : Int) : Int := if ch then cmpI (runeAt t i) (runeAt t' k) else rcmp (pickR L i) (pickR L' k)
theorem ordV_cf {ch : Bool} {t : List Int} {L : List Rt} : Cf fun i k : Int => ordV ch t L i t L k := by
  cases ch with
  | true => exact ⟨cmpI_cf.anti, fun z => cmpI_cf.neg _⟩
  | false => exact ⟨rcmp_cf.anti, fun z => rcmp_cf.neg _⟩
def stb (v : Int → Int → Int) (i k : Int) : Prop := v i k < 0 ∨ (v i k = 0 ∧ i < k)
theorem Cf.zero {α : Type} {v : α → α → Int} (h : Cf v) {x y : α} : v x y = 0 ↔ ¬ v x y < 0 ∧ ¬ v y x < 0 := by
  have h1 := h.anti (x := x) (y := y)
  have h2 := h.anti (x := y) (y := x)
  omega
theorem stb_ord {v : Int → Int → Int} (h : Cf v) : Ord (stb v) := by
  constructor
  · intro x y z h1 h2
    unfold stb at *
    rw [h.zero] at *
    rcases h1 with h1 | ⟨⟨a1, a2⟩, a3⟩ <;> rcases h2 with h2 | ⟨⟨b1, b2⟩, b3⟩
    · exact .inl (h.tra h1 h2)
    · rcases h.neg z h1 with h3 | h3
      · exact .inl h3
      · exact absurd h3 b2
    · rcases h.neg x h2 with h3 | h3
      · exact absurd h3 a2
      · exact .inl h3
    · refine .inr ⟨⟨fun h3 => ?_, fun h3 => ?_⟩, by omega⟩
      · rcases h.neg y h3 with h4 | h4
        · exact a1 h4
        · exact b1 h4
      · rcases h.neg y h3 with h4 | h4
        · exact b2 h4
        · exact a2 h4
  · intro x y hxy
    unfold stb
    have h1 := h.anti (x := x) (y := y)
    have h2 := h.anti (x := y) (y := x)
    omega
  · intro x hx
    unfold stb at hx
    have := h.irr (x := x)
    omega
section
variable {E : CallRel}
theorem c105_ok {x : Int} : Go.V.Call tab E 105 [.int .i64 x] [] (.bool false) [] := by
  refine Go.V.Call.mach i105 c105 rfl rfl rfl rfl ?_
  simp only [c105, go_sem, bne_self_eq_false]
  simp only [i105, Out, resAll, geto, ints, List.getElem?_cons_zero, List.getElem?_cons_succ, resOf, outOf, snap, snapL, ev, getE, List.mapM_cons, List.mapM_nil, Option.bind_some, Option.pure_def, Option.bind_eq_bind, Option.map_some, reduceIte, Nat.reduceEqDiff, true_and, and_true]
theorem c141_ok {x : Int} : Go.V.Call tab E 141 [.int .i32 x] [] (.bool false) [] := by
  refine Go.V.Call.mach i141 c141 rfl rfl rfl rfl ?_
  simp only [c141, go_sem, bne_self_eq_false]
  simp only [i141, Out, resAll, geto, ints, List.getElem?_cons_zero, List.getElem?_cons_succ, resOf, outOf, snap, snapL, ev, getE, List.mapM_cons, List.mapM_nil, Option.bind_some, Option.pure_def, Option.bind_eq_bind, Option.map_some, reduceIte, Nat.reduceEqDiff, true_and, and_true]
theorem c62_ok {x y : Int} : Go.V.Call tab E 62 [.int .i64 x, .int .i64 y] [] (.int .i64 (cmpI x y)) [] := by
  refine Go.V.Call.mach i62 c62 rfl rfl rfl rfl ?_
  simp only [c62, go_sem, snap]
  refine goP c105_ok ?_
  simp only [go_sem, snap]
  refine goP c105_ok ?_
  by_cases h1 : x < y
  · simp only [go_sem, h1]
    simp only [i62, Out, resAll, geto, ints, List.getElem?_cons_zero, List.getElem?_cons_succ, resOf, outOf, snap, snapL, ev, getE, List.mapM_cons, List.mapM_nil, Option.bind_some, Option.pure_def, Option.bind_eq_bind, Option.map_some, reduceIte, Nat.reduceEqDiff, true_and, and_true, cmpI, h1, if_true]
  · by_cases h2 : y < x
    · simp only [go_sem, h1, h2]
      simp only [i62, Out, resAll, geto, ints, List.getElem?_cons_zero, List.getElem?_cons_succ, resOf, outOf, snap, snapL, ev, getE, List.mapM_cons, List.mapM_nil, Option.bind_some, Option.pure_def, Option.bind_eq_bind, Option.map_some, reduceIte, Nat.reduceEqDiff, true_and, and_true, cmpI, h1, h2, if_true, if_false]
    · simp only [go_sem, h1, h2]
      simp only [i62, Out, resAll, geto, ints, List.getElem?_cons_zero, List.getElem?_cons_succ, resOf, outOf, snap, snapL, ev, getE, List.mapM_cons, List.mapM_nil, Option.bind_some, Option.pure_def, Option.bind_eq_bind, Option.map_some, reduceIte, Nat.reduceEqDiff, true_and, and_true, cmpI, h1, h2, if_false]
theorem c103_ok {x y : Int} : Go.V.Call tab E 103 [.int .i32 x, .int .i32 y] [] (.int .i64 (cmpI x y)) [] := by
  refine Go.V.Call.mach i103 c103 rfl rfl rfl rfl ?_
  simp only [c103, go_sem, snap]
  refine goP c141_ok ?_
  simp only [go_sem, snap]
  refine goP c141_ok ?_
  by_cases h1 : x < y
  · simp only [go_sem, h1]
    simp only [i103, Out, resAll, geto, ints, List.getElem?_cons_zero, List.getElem?_cons_succ, resOf, outOf, snap, snapL, ev, getE, List.mapM_cons, List.mapM_nil, Option.bind_some, Option.pure_def, Option.bind_eq_bind, Option.map_some, reduceIte, Nat.reduceEqDiff, true_and, and_true, cmpI, h1, if_true]
  · by_cases h2 : y < x
    · simp only [go_sem, h1, h2]
      simp only [i103, Out, resAll, geto, ints, List.getElem?_cons_zero, List.getElem?_cons_succ, resOf, outOf, snap, snapL, ev, getE, List.mapM_cons, List.mapM_nil, Option.bind_some, Option.pure_def, Option.bind_eq_bind, Option.map_some, reduceIte, Nat.reduceEqDiff, true_and, and_true, cmpI, h1, h2, if_true, if_false]
    · simp only [go_sem, h1, h2]
      simp only [i103, Out, resAll, geto, ints, List.getElem?_cons_zero, List.getElem?_cons_succ, resOf, outOf, snap, snapL, ev, getE, List.mapM_cons, List.mapM_nil, Option.bind_some, Option.pure_def, Option.bind_eq_bind, Option.map_some, reduceIte, Nat.reduceEqDiff, true_and, and_true, cmpI, h1, h2, if_false]
end
theorem pick_RtOk {L : List Rt} (h : ∀ x ∈ L, RtOk x) {k : Int} : RtOk (pickR L k) := by
  rw [pickR]
  split
  · exact h _ (rtAt_mem (by omega))
  · exact ⟨(zR_ok (z := 0) ⟨by omega, by omega⟩).1, (zR_ok (z := 0) ⟨by omega, by omega⟩).2⟩
section
variable {s t s' t' : List Int} {ch ch' : Bool} {L L' : List Rt} {i k : Int}
theorem c61_ok (ht : (t.length : Int) ≤ 1000000000) (ht' : (t'.length : Int) ≤ 1000000000) (hL : (L.length : Int) ≤ 1000000000) (hL' : (L'.length : Int) ≤ 1000000000) (hk : ∀ x ∈ L, RtOk x) (hk' : ∀ x ∈ L', RtOk x) :
    Go.V.Call tab E 61 [.agg (arrX s ch t L), .int .i64 i, .agg (arrX s' ch' t' L'), .int .i64 k] [] (.int .i64 (ordV ch t L i t' L' k)) [] := by
  refine Go.V.Call.mach i61 c61 rfl rfl rfl rfl ?_
  have h39 := c39_ok (s := s) (t := t) (l := L) (ch := ch)
  cases ch with
  | true =>
    have h1 := c104_ok (s := s) (t := t) (l := L) (ch := true) (k := i) (by omega)
    have h2 := c104_ok (s := s') (t := t') (l := L') (ch := ch') (k := k) (by omega)
    simp only [arrX, runes, ints] at h39 h1 h2
    simp only [c61, arrX, runes, ints, go_sem, fillAll, fillIn, shiftR, shiftV, List.take_succ_cons, List.take_zero, List.drop_succ_cons, List.drop_zero, List.append_nil, Nat.zero_add, subA5]
    refine goP h39 ?_
    simp only [go_sem, fillAll, fillIn, shiftR, shiftV, List.take_succ_cons, List.take_zero, List.drop_succ_cons, List.drop_zero, List.append_nil, Nat.zero_add, subA5]
    refine goP h1 ?_
    simp only [go_sem, fillAll, fillIn, shiftR, shiftV, List.take_succ_cons, List.take_zero, List.drop_succ_cons, List.drop_zero, List.append_nil, Nat.zero_add, subA5]
    refine goP h2 ?_
    simp only [go_sem, fillAll, fillIn, shiftR, shiftV, List.take_succ_cons, List.take_zero, List.drop_succ_cons, List.drop_zero, List.append_nil, Nat.zero_add, subA5]
    refine goP c103_ok ?_
    simp only [go_sem]
    simp only [i61, Out, resAll, geto, ints, List.getElem?_cons_zero, List.getElem?_cons_succ, resOf, outOf, snap, snapL, ev, getE, List.mapM_cons, List.mapM_nil, Option.bind_some, Option.pure_def, Option.bind_eq_bind, Option.map_some, reduceIte, Nat.reduceEqDiff, true_and, and_true, ordV, if_true]
  | false =>
    have h1 := c24_ok (s := s) (t := t) (l := L) (ch := false) (k := i) (by omega)
    have h2 := c24_ok (s := s') (t := t') (l := L') (ch := ch') (k := k) (by omega)
    have h3 := c25_ok (E := E) (pick_RtOk hk (k := i)) (pick_RtOk hk' (k := k))
    have e : ordV false t L i t' L' k = rcmp (pickR L i) (pickR L' k) := rfl
    rw [e]
    generalize pickR L i = a at *
    generalize pickR L' k = b at *
    simp only [arrX, runes, ints, rtC, ratG, us32] at h39 h1 h2 h3
    simp only [c61, arrX, runes, ints, go_sem, fillAll, fillIn, shiftR, shiftV, List.take_succ_cons, List.take_zero, List.drop_succ_cons, List.drop_zero, List.append_nil, Nat.zero_add, subA5]
    refine goP h39 ?_
    simp only [go_sem, fillAll, fillIn, shiftR, shiftV, List.take_succ_cons, List.take_zero, List.drop_succ_cons, List.drop_zero, List.append_nil, Nat.zero_add, subA5]
    refine goP h1 ?_
    simp only [go_sem, fillAll, fillIn, shiftR, shiftV, List.take_succ_cons, List.take_zero, List.drop_succ_cons, List.drop_zero, List.append_nil, Nat.zero_add, subA5]
    refine goP h2 ?_
    simp only [go_sem, fillAll, fillIn, shiftR, shiftV, List.take_succ_cons, List.take_zero, List.drop_succ_cons, List.drop_zero, List.append_nil, Nat.zero_add, subA5]
    refine goP h3 ?_
    simp only [go_sem]
    simp only [i61, Out, resAll, geto, ints, List.getElem?_cons_zero, List.getElem?_cons_succ, resOf, outOf, snap, snapL, ev, getE, List.mapM_cons, List.mapM_nil, Option.bind_some, Option.pure_def, Option.bind_eq_bind, Option.map_some, reduceIte, Nat.reduceEqDiff, true_and, and_true]
theorem c101_ok (ht : (t.length : Int) ≤ 1000000000) (hL : (L.length : Int) ≤ 1000000000) (hk : ∀ x ∈ L, RtOk x) :
    Go.V.Call tab E 101 [.int .i64 i, .int .i64 k, .ptr (arrX s ch t L) 0] [] (.int .i64 (ordV ch t L i t L k)) [] := by
  refine Go.V.Call.mach i101 c101 rfl rfl rfl rfl ?_
  have h := c61_ok (s := s) (s' := s) (t := t) (t' := t) (ch := ch) (ch' := ch) (L := L) (L' := L) (i := i) (k := k) ht ht hL hL hk hk
  simp only [arrX, runes, ints] at h
  simp only [c101, arrX, runes, ints, go_sem, fillAll, fillIn, shiftR, shiftV, List.take_succ_cons, List.take_zero, List.drop_succ_cons, List.drop_zero, List.append_nil, Nat.zero_add, subA5]
  refine goP h ?_
  simp only [go_sem]
  simp only [i101, Out, resAll, geto, ints, List.getElem?_cons_zero, List.getElem?_cons_succ, resOf, outOf, snap, snapL, ev, getE, List.mapM_cons, List.mapM_nil, Option.bind_some, Option.pure_def, Option.bind_eq_bind, Option.map_some, reduceIte, Nat.reduceEqDiff, true_and, and_true, ownOut, ownL, ownV, scalar, Nat.zero_add]
def rng (n : Nat) : List Int := (List.range n).map fun i : Nat => (i : Int)
theorem rng_len {n : Nat} : (rng n).length = n := by simp [rng]
theorem rng_mem {n : Nat} {x : Int} : x ∈ rng n ↔ 0 ≤ x ∧ x < n := by
  rw [rng, List.mem_map]
  constructor
  · rintro ⟨i, hi, rfl⟩
    have := List.mem_range.1 hi
    omega
  · intro h
    exact ⟨x.toNat, List.mem_range.2 (by omega), by omega⟩
theorem rng_pw {n : Nat} : (rng n).Pairwise (· < ·) := by
  rw [rng, List.pairwise_map]
  exact List.pairwise_lt_range.imp fun h => by omega
theorem Hc_stb {v : Int → Int → Int} {x y : Int} (h : x < y) : Hc v (stb v) x y := by
  refine ⟨by omega, ?_⟩
  unfold stb
  omega
theorem c57_ok (hsl : (s.length : Int) ≤ 1000000000) (hn : t.length + L.length ≤ 1000000) (hk : ∀ x ∈ L, RtOk x) :
    ∃ l, l.Perm (rng (t.length + L.length)) ∧ l.Pairwise (stb fun i k => ordV ch t L i t L k) ∧ Go.V.Call tab E 57 [.agg (arrX s ch t L)] [] (.arr 0 0) [rowI l] := by
  obtain ⟨l, g1, g2, g3⟩ := c58_ok (E := E) (M1 := [⟨true, 31, 5, 0, 1, arrX s ch t L, false⟩, ⟨false, 3, 1, 0, 0, [], false⟩]) (M2 := []) (K := 2) (N := t.length + L.length) (f := 101) (caps := [.loc 0 0 0]) (bs := [.ptr (arrX s ch t L) 0]) (Sd := fun _ => True) (c := fun i k => ordV ch t L i t L k) (lt := stb fun i k => ordV ch t L i t L k) (l0 := rng (t.length + L.length))
    (stb_ord ordV_cf) ⟨fun _ => rfl, fun x y _ _ => c101_ok (by omega) (by omega) hk⟩ rfl hn rng_len (fun _ _ => trivial) (rng_pw.imp fun h => Hc_stb h)
  have hll : l.length = t.length + L.length := by rw [g1.length_eq, rng_len]
  refine ⟨l, g1, g2, Go.V.Call.mach i57 c57 rfl rfl rfl rfl ?_⟩
  have h23 := c23_X (s := s) (t := t) (l := L) (ch := ch) (by omega) (by omega)
  generalize hN : t.length + L.length = N at *
  have z0 : (0 : Int) ≤ (N : Int) := by omega
  have z1 : 8 * N ≤ 140737488355328 := by omega
  have z2 : (N : Int) ≤ 140737488355328 := by omega
  simp only [arrX, runes, ints] at h23
  simp only [c57, arrX, runes, ints, go_sem, fillAll, fillIn, shiftR, shiftV, List.take_succ_cons, List.take_zero, List.drop_succ_cons, List.drop_zero, List.append_nil, Nat.zero_add, subA5]
  refine goP h23 ?_
  simp only [go_sem, fillAll, fillIn, shiftR, shiftV, List.take_succ_cons, List.take_zero, List.drop_succ_cons, List.drop_zero, List.append_nil, Nat.zero_add, subA5, Int.toNat_natCast, z0, z1, z2, flat_nums]
  refine mLoop (fun M st => ∃ i : Nat, i ≤ N ∧ M = N - i ∧ st = ⟨[(1, .loc 0 0 0), (3, .arr 2 0), (9, .int .i64 N), (10, .int .i64 i)],
    [⟨true, 31, 5, 0, 1, arrX s ch t L, false⟩, ⟨false, 3, 1, 0, 0, [], false⟩, ⟨false, 3, 1, 0, N, nums .i64 ((rng N).take i ++ List.replicate (N - i) 0), false⟩]⟩) N ⟨_, rfl, 0, by omega, by omega, by simp [getE, arrX, ints, runes, nums]⟩ ?_
  rintro M s0 ⟨i, hi, rfl, rfl⟩
  by_cases hlt : i < N
  · have hlt' : (i : Int) < (N : Int) := by omega
    have hi0 : (0 : Int) ≤ (i : Int) := by omega
    have hi1 : IntKind.i64.wrap ((i : Int) + 1) = ((i + 1 : Nat) : Int) := by rw [wrap_i64 (by omega) (by omega)]; omega
    have hrow : ((rng N).take i ++ List.replicate (N - i) 0).take i ++ (i : Int) :: ((rng N).take i ++ List.replicate (N - i) 0).drop (i + 1) = (rng N).take (i + 1) ++ List.replicate (N - (i + 1)) 0 := by
      have e : ((rng N).take i).length = i := by rw [List.length_take, rng_len]; omega
      rw [List.take_left' e, tk_getD (l := rng N) (by rw [rng_len]; omega), List.drop_append, List.drop_eq_nil_of_le (by omega), e]
      simp [rng, List.getD, hlt]
      omega
    have hst : i * 1 + 1 ≤ ((rng N).take i ++ List.replicate (N - i) 0).length := by
      rw [List.length_append, List.length_take, rng_len, List.length_replicate]; omega
    generalize (rng N).take i ++ List.replicate (N - i) 0 = y at *
    simp only [b57_0, go_sem, mapI, hlt', hi0, Int.toNat_natCast, hst, put_nums, hrow, hi1]
    exact loopQ_go rfl (N - (i + 1)) (by omega) ⟨i + 1, by omega, rfl, rfl⟩
  · have hlt' : ¬ (i : Int) < (N : Int) := by omega
    obtain rfl : i = N := by omega
    rw [List.take_of_length_le (by rw [rng_len]; omega), Nat.sub_self, List.replicate_zero, List.append_nil]
    simp only [rowM, arrX, runes, ints, List.cons_append, List.nil_append] at g3
    simp only [b57_0, k57_0, arrX, runes, ints, go_sem, fillAll, fillIn, shiftR, shiftV, List.take_succ_cons, List.take_zero, List.drop_succ_cons, List.drop_zero, List.append_nil, Nat.zero_add, hlt']
    refine goM g3 ?_
    simp only [go_sem]
    simp only [i57, Out, resAll, geto, ints, List.getElem?_cons_zero, List.getElem?_cons_succ, resOf, outOf, snap, snapL, ev, getE, List.mapM_cons, List.mapM_nil, Option.bind_some, Option.pure_def, Option.bind_eq_bind, Option.map_some, reduceIte, Nat.reduceEqDiff, true_and, and_true, ownOut, ownL, ownV, scalar, List.contains_nil, List.length_nil, List.length_cons, List.nil_append, List.cons_append, storeOp, apartOf, freeze_nil, refsL, refs, List.flatMap_cons, List.flatMap_nil, List.append_nil, List.contains_nil, List.set_cons_zero, List.set_cons_succ, snap, snapL, fill_nums, flat_nums, nums_length, reduceCtorEq, Bool.false_eq_true, and_self, not_false_eq_true, beq_self_eq_true, Nat.zero_add, rowI, hll]
end
def orI : List Int → Int
  | [] => 0
  | a :: l => if a ≠ 0 then a else orI l
section
variable {E : CallRel}
theorem c60_ok {l : List Int} (hl : (l.length : Int) ≤ 1000000) : Go.V.Call tab E 60 [ints l] [] (.int .i64 (orI l)) [] := by
  refine Go.V.Call.mach i60 c60 rfl rfl rfl rfl ?_
  simp only [c60, go_sem]
  refine mLoop (fun N st => ∃ i : Nat, i ≤ l.length ∧ N = l.length - i ∧ orI l = orI (l.drop i) ∧ st = ⟨[(3, .int .i64 0), (6, ints l), (7, .int .i64 l.length), (8, .int .i64 i)], []⟩) l.length ⟨_, rfl, 0, by omega, by omega, rfl, rfl⟩ ?_
  rintro N s0 ⟨i, hi, rfl, hx, rfl⟩
  by_cases hlt : i < l.length
  · have hlt' : (i : Int) < (l.length : Int) := by omega
    have hi0 : (0 : Int) ≤ (i : Int) := by omega
    have hi1 : IntKind.i64.wrap ((i : Int) + 1) = ((i + 1 : Nat) : Int) := by rw [wrap_i64 (by omega) (by omega)]; omega
    have hsub := sub_nums (k := .i64) hlt
    rw [getD_drop hlt, orI] at hx
    by_cases he : l.getD i 0 = 0
    · rw [if_neg (by omega)] at hx
      have he' : (l.getD i 0 != 0) = false := by rw [he]; rfl
      simp only [b60_0, go_sem, hlt', hi0, Int.toNat_natCast, hsub, he', hi1]
      exact loopQ_go rfl (l.length - (i + 1)) (by omega) ⟨i + 1, by omega, rfl, hx, rfl⟩
    · rw [if_pos he] at hx
      have he' : (l.getD i 0 != 0) = true := by rw [bne_iff_ne]; exact he
      simp only [b60_0, go_sem, hlt', hi0, Int.toNat_natCast, hsub, he']
      simp only [i60, Out, resAll, geto, ints, List.getElem?_cons_zero, List.getElem?_cons_succ, resOf, outOf, snap, snapL, ev, getE, List.mapM_cons, List.mapM_nil, Option.bind_some, Option.pure_def, Option.bind_eq_bind, Option.map_some, reduceIte, Nat.reduceEqDiff, true_and, and_true, hx]
  · have hlt' : ¬ (i : Int) < (l.length : Int) := by omega
    rw [List.drop_eq_nil_of_le (by omega), orI] at hx
    simp only [b60_0, k60_0, go_sem, hlt']
    simp only [i60, Out, resAll, geto, ints, List.getElem?_cons_zero, List.getElem?_cons_succ, resOf, outOf, snap, snapL, ev, getE, List.mapM_cons, List.mapM_nil, Option.bind_some, Option.pure_def, Option.bind_eq_bind, Option.map_some, reduceIte, Nat.reduceEqDiff, true_and, and_true, hx]
end
def dwnV (v : Int → Int → Int) (i k : Int) : Int := orI [v k i, cmpI i k]
theorem Hc_dwn {v : Int → Int → Int} (hv : Cf v) {x y : Int} (h : x ≠ y) : Hc (dwnV v) (stb fun i k => v k i) x y := by
  refine ⟨h, ?_⟩
  have e : dwnV v y x = if v x y ≠ 0 then v x y else cmpI y x := by
    simp only [dwnV, orI]
    split
    · rfl
    · split
      · rfl
      · omega
  rw [e]
  simp only [stb, cmpI]
  split <;> (try split) <;> (try split) <;> omega
section
variable {s t : List Int} {ch : Bool} {L : List Rt} {i k o : Int}
theorem c59_ok (ht : (t.length : Int) ≤ 1000000000) (hL : (L.length : Int) ≤ 1000000000) (hk : ∀ x ∈ L, RtOk x) :
    Go.V.Call tab E 59 [.int .i64 i, .int .i64 k, .ptr (arrX s ch t L) 0] [] (.int .i64 (dwnV (fun i k => ordV ch t L i t L k) i k)) [] := by
  refine Go.V.Call.mach i59 c59 rfl rfl rfl rfl ?_
  have h := c61_ok (s := s) (s' := s) (t := t) (t' := t) (ch := ch) (ch' := ch) (L := L) (L' := L) (i := k) (k := i) ht ht hL hL hk hk
  have h60 := c60_ok (E := E) (l := [ordV ch t L k t L i, cmpI i k]) (by simp)
  simp only [arrX, runes, ints, nums, List.map_cons, List.map_nil, List.length_cons, List.length_nil] at h h60
  simp only [c59, arrX, runes, ints, go_sem, fillAll, fillIn, shiftR, shiftV, List.take_succ_cons, List.take_zero, List.drop_succ_cons, List.drop_zero, List.append_nil, Nat.zero_add, subA5]
  refine goP h ?_
  simp only [go_sem, fillAll, fillIn, shiftR, shiftV, List.take_succ_cons, List.take_zero, List.drop_succ_cons, List.drop_zero, List.append_nil, Nat.zero_add]
  refine goP c62_ok ?_
  simp only [go_sem, fillAll, fillIn, shiftR, shiftV, List.take_succ_cons, List.take_zero, List.drop_succ_cons, List.drop_zero, List.append_nil, Nat.zero_add, List.flatten_cons, List.flatten_nil]
  refine goR h60 rfl ?_
  simp only [go_sem]
  simp only [i59, Out, resAll, geto, ints, List.getElem?_cons_zero, List.getElem?_cons_succ, resOf, outOf, snap, snapL, ev, getE, List.mapM_cons, List.mapM_nil, Option.bind_some, Option.pure_def, Option.bind_eq_bind, Option.map_some, reduceIte, Nat.reduceEqDiff, true_and, and_true, dwnV]
def grdM (s t : List Int) (ch : Bool) (L : List Rt) : List AObj :=
  [⟨true, 31, 5, 0, 1, arrX s ch t L, false⟩, ⟨false, 3, 1, 0, 0, [], false⟩, ⟨false, 21, 1, 0, 0, [], false⟩, ⟨false, 57, 3, 0, 0, [], false⟩, ⟨true, 31, 5, 0, 1, [.arr 1 0, .bool false, .arr 2 0, .arr 3 0, .bool false], false⟩]
def plus (l : List Int) (o : Int) : List Int := l.map fun z => z + o
theorem plus_len {l : List Int} {o : Int} : (plus l o).length = l.length := by simp [plus]
theorem grd_tail {l : List Int} {N : Nat} (hN : l.length = N) (hN2 : N ≤ 1000000) (ho : 0 ≤ o ∧ o ≤ 1) (hl : ∀ z ∈ l, 0 ≤ z ∧ z < N) :
    Mach (Go.V.Call tab E) (Fin i18 [] (.tup [.agg (arrX [(N : Int)] false [] ((plus l o).map zR)), .int .i64 0]) []) [.code (.loop [2, 6, 8, 21, 22] (some (6, [])) b18_0), .endb 0, .code k18_0] .nrm
      ⟨[(2, .int .i64 o), (6, .loc 4 0 0), (8, .arr 5 0), (21, .int .i64 N), (22, .int .i64 0)], rowM (grdM s t ch L) [] N l⟩ := by
  have hp64 : ∀ z ∈ plus l o, In64 z := fun z hz => by
    obtain ⟨x, hx, rfl⟩ := List.mem_map.1 hz
    have := hl x hx
    exact ⟨by omega, by omega⟩
  have h34 := c34_X (l := plus l o) (by rw [plus_len]; omega) hp64
  rw [plus_len, hN] at h34
  refine mLoop (fun M st => ∃ i : Nat, i ≤ N ∧ M = N - i ∧ st = ⟨[(2, .int .i64 o), (6, .loc 4 0 0), (8, .arr 5 0), (21, .int .i64 N), (22, .int .i64 i)], rowM (grdM s t ch L) [] N ((plus l o).take i ++ l.drop i)⟩) N ⟨_, rfl, 0, by omega, by omega, by simp [getE, grdM, rowM, arrX, ints, runes]⟩ ?_
  rintro M s0 ⟨i, hi, rfl, rfl⟩
  by_cases hlt : i < N
  · have hlt' : (i : Int) < (N : Int) := by omega
    have hi0 : (0 : Int) ≤ (i : Int) := by omega
    have hi1 : IntKind.i64.wrap ((i : Int) + 1) = ((i + 1 : Nat) : Int) := by rw [wrap_i64 (by omega) (by omega)]; omega
    have hlm := hl (l.getD i 0) (getD_memI (by omega))
    have e : ((plus l o).take i).length = i := by rw [List.length_take, plus_len]; omega
    have e1 : (plus l o).take i ++ l.drop i = (plus l o).take i ++ l.getD i 0 :: l.drop (i + 1) := by rw [getD_drop (by omega)]
    have e2 : (plus l o).take (i + 1) = (plus l o).take i ++ [l.getD i 0 + o] := by
      rw [tk_getD (by rw [plus_len]; omega)]
      simp [plus, List.getD, show i < l.length by omega]
    have g1 : ((plus l o).take i ++ l.drop i).getD i 0 = l.getD i 0 := by rw [e1]; exact at_get e
    have g2 : ((plus l o).take i ++ l.drop i).take i ++ (l.getD i 0 + o) :: ((plus l o).take i ++ l.drop i).drop (i + 1) = (plus l o).take (i + 1) ++ l.drop (i + 1) := by
      rw [e1, at_put e, e2]; simp
    have g3 : ((plus l o).take i ++ l.drop i).length = N := by rw [List.length_append, e, List.length_drop]; omega
    have w1 : IntKind.i64.wrap (l.getD i 0 + o) = l.getD i 0 + o := wrap_i64 (by omega) (by omega)
    generalize (plus l o).take i ++ l.drop i = y at *
    have hsub := sub_nums (k := .i64) (l := y) (i := i) (by omega)
    rw [g1] at hsub
    have hst : i * 1 + 1 ≤ y.length := by omega
    simp only [b18_0, rowM, grdM, go_sem, fillAll, fillIn, shiftR, shiftV, List.take_succ_cons, List.take_zero, List.drop_succ_cons, List.drop_zero, List.append_nil, Nat.zero_add, hlt', hi0, Int.toNat_natCast, hsub, w1, hst, put_nums, g2, hi1]
    exact loopQ_go rfl (N - (i + 1)) (by omega) ⟨i + 1, by omega, rfl, rfl⟩
  · have hlt' : ¬ (i : Int) < (N : Int) := by omega
    obtain rfl : i = N := by omega
    rw [List.take_of_length_le (by rw [plus_len]; omega), List.drop_eq_nil_of_le (by omega), List.append_nil]
    simp only [arrX, runes, ints, plus_len, hN] at h34
    simp only [b18_0, k18_0, rowM, grdM, arrX, runes, ints, go_sem, fillAll, fillIn, shiftR, shiftV, List.take_succ_cons, List.take_zero, List.drop_succ_cons, List.drop_zero, List.append_nil, Nat.zero_add, hlt']
    refine goF h34 ?_
    simp only [go_sem, fillAll, fillIn, shiftR, shiftV, List.take_succ_cons, List.take_zero, List.drop_succ_cons, List.drop_zero, List.append_nil, Nat.zero_add, subA5]
    simp only [i18, Out, resAll, geto, ints, List.getElem?_cons_zero, List.getElem?_cons_succ, resOf, outOf, snap, snapL, ev, getE, List.mapM_cons, List.mapM_nil, Option.bind_some, Option.pure_def, Option.bind_eq_bind, Option.map_some, reduceIte, Nat.reduceEqDiff, true_and, and_true, subA5]
theorem c18_err {down : Bool} (hsl : (s.length : Int) ≤ 1000000000) (h : s.length ≠ 1) : Go.V.Call tab E 18 [.agg (arrX s ch t L), .bool down, .int .i64 o] [] (.tup [.agg noA, .int .i64 23]) [] := by
  refine Go.V.Call.mach i18 c18 rfl rfl rfl rfl ?_
  have h38 := c38_X (s := s) (t := t) (l := L) (ch := ch) (by omega)
  have hne : ((s.length : Int) != 1) = true := by rw [bne_iff_ne]; omega
  simp only [arrX, runes, ints] at h38
  simp only [c18, arrX, runes, ints, go_sem, fillAll, fillIn, shiftR, shiftV, List.take_succ_cons, List.take_zero, List.drop_succ_cons, List.drop_zero, List.append_nil, Nat.zero_add, subA5]
  refine goP h38 ?_
  simp only [go_sem, fillAll, fillIn, shiftR, shiftV, List.take_succ_cons, List.take_zero, List.drop_succ_cons, List.drop_zero, List.append_nil, Nat.zero_add, subA5, hne]
  simp only [i18, Out, resAll, geto, ints, List.getElem?_cons_zero, List.getElem?_cons_succ, resOf, outOf, snap, snapL, ev, getE, List.mapM_cons, List.mapM_nil, Option.bind_some, Option.pure_def, Option.bind_eq_bind, Option.map_some, reduceIte, Nat.reduceEqDiff, true_and, and_true, subA5, noA]
theorem hone1 : (((1 : Nat) : Int) != 1) = false := rfl
def grdO (down : Bool) (ch : Bool) (t : List Int) (L : List Rt) : Int → Int → Prop := stb fun i k => if down then ordV ch t L k t L i else ordV ch t L i t L k
theorem c18_ok {down : Bool} (hs1 : s.length = 1) (hn : t.length + L.length ≤ 1000000) (hk : ∀ x ∈ L, RtOk x) (ho : 0 ≤ o ∧ o ≤ 1) :
    ∃ l, l.Perm (rng (t.length + L.length)) ∧ l.Pairwise (grdO down ch t L) ∧ Go.V.Call tab E 18 [.agg (arrX s ch t L), .bool down, .int .i64 o] [] (.tup [.agg (arrX [((t.length + L.length : Nat) : Int)] false [] ((plus l o).map zR)), .int .i64 0]) [] := by
  obtain ⟨l, g1, g2, g3⟩ := c57_ok (s := s) (t := t) (ch := ch) (L := L) (by omega) hn hk
  have h38 := c38_X (s := s) (t := t) (l := L) (ch := ch) (by omega)
  rw [hs1] at h38
  have hll : l.length = t.length + L.length := by rw [g1.length_eq, rng_len]
  have hmem : ∀ x : List Int, x.Perm (rng (t.length + L.length)) → ∀ z ∈ x, 0 ≤ z ∧ z < ((t.length + L.length : Nat) : Int) := fun x hx z hz => rng_mem.1 (hx.mem_iff.1 hz)
  cases down with
  | false =>
    refine ⟨l, g1, g2, Go.V.Call.mach i18 c18 rfl rfl rfl rfl ?_⟩
    have tail := grd_tail (s := s) (t := t) (ch := ch) (L := L) (o := o) hll hn ho (hmem l g1)
    simp only [rowM, grdM, List.cons_append, List.nil_append] at tail
    simp only [arrX, runes, ints, rowI, hll] at h38 g3 tail
    simp only [c18, arrX, runes, ints, go_sem, fillAll, fillIn, shiftR, shiftV, List.take_succ_cons, List.take_zero, List.drop_succ_cons, List.drop_zero, List.append_nil, Nat.zero_add, subA5]
    refine goP h38 ?_
    simp only [go_sem, fillAll, fillIn, shiftR, shiftV, List.take_succ_cons, List.take_zero, List.drop_succ_cons, List.drop_zero, List.append_nil, Nat.zero_add, subA5, hone1]
    refine goO g3 rfl rfl ?_
    simp only [go_sem, fillAll, fillIn, shiftR, shiftV, List.take_succ_cons, List.take_zero, List.drop_succ_cons, List.drop_zero, List.append_nil, Nat.zero_add, subA5]
    exact tail
  | true =>
    have hnd : l.Pairwise fun x y => x ≠ y := (g1.symm.pairwise (rng_pw.imp fun h => (by omega))) (fun h => h.symm)
    obtain ⟨l2, q1, q2, q3⟩ := c58_ok (E := E) (M1 := grdM s t ch L) (M2 := []) (K := 5) (N := t.length + L.length) (f := 59) (caps := [.loc 0 0 0]) (bs := [.ptr (arrX s ch t L) 0]) (Sd := fun _ => True) (c := dwnV fun i k => ordV ch t L i t L k) (lt := grdO true ch t L) (l0 := l)
      (stb_ord ordV_cf.flip) ⟨fun _ => rfl, fun x y _ _ => c59_ok (by omega) (by omega) hk⟩ rfl hn hll (fun _ _ => trivial) (hnd.imp fun h => Hc_dwn ordV_cf h)
    have hll2 : l2.length = t.length + L.length := by rw [q1.length_eq, hll]
    refine ⟨l2, q1.trans g1, q2, Go.V.Call.mach i18 c18 rfl rfl rfl rfl ?_⟩
    have tail := grd_tail (s := s) (t := t) (ch := ch) (L := L) (o := o) hll2 hn ho (hmem l2 (q1.trans g1))
    simp only [rowM, grdM, List.cons_append, List.nil_append] at tail q3
    simp only [arrX, runes, ints, rowI, hll] at h38 g3 tail q3
    simp only [c18, arrX, runes, ints, go_sem, fillAll, fillIn, shiftR, shiftV, List.take_succ_cons, List.take_zero, List.drop_succ_cons, List.drop_zero, List.append_nil, Nat.zero_add, subA5]
    refine goP h38 ?_
    simp only [go_sem, fillAll, fillIn, shiftR, shiftV, List.take_succ_cons, List.take_zero, List.drop_succ_cons, List.drop_zero, List.append_nil, Nat.zero_add, subA5, hone1]
    refine goO g3 rfl rfl ?_
    simp only [go_sem, fillAll, fillIn, shiftR, shiftV, List.take_succ_cons, List.take_zero, List.drop_succ_cons, List.drop_zero, List.append_nil, Nat.zero_add, subA5]
    refine goM q3 ?_
    simp only [go_sem, fillAll, fillIn, shiftR, shiftV, List.take_succ_cons, List.take_zero, List.drop_succ_cons, List.drop_zero, List.append_nil, Nat.zero_add, subA5]
    exact tail
end
end Go.Proofs.YtlejgleocnemoabGreat.I

namespace Go.Proofs.YtlejgleocnemoabGreat.I
open Go Go.V
attribute [local go_sem] mNil nat0 beq_self_eq_true mSkip mRet mExit mReg mSeq mCond mTrue mFalse mBlock mLv mCodeE mCodeR mEndN mEndR mEndE mOps mSome mGuard mGtt mGff mGtf mGft mGu mCallP mCallR mCallF mCallO mCallZ mCallG mCallM mCallV loopQ_exit loopQ_ret mO_mov mO_newnil mO_pick mO_alloc mO_box mO_build mO_bsl mO_bslF mO_ldf mO_ld mO_st mO_sta mO_nilchk mO_bin mO_binb mO_binp mO_bins mO_neg mO_com mO_not mO_conv mO_mk mO_mk0 mO_s2b mO_b2s mO_cpy mO_cut mO_faddr mO_fld mO_iaddr mO_iaddrf mO_sidx mO_len mO_lenf mO_slen mO_scut mO_app mO_ext mO_mx mO_mn mO_mkfn evalOp cutOp argsE ev getE putE cellsOf adopt rowOf binV boolV nilV ar_add ar_sub ar_mul ar_quo ar_rem ar_eq ar_ne ar_lt ar_le ar_gt ar_ge ar_and ar_or ar_xor geto bound finRet finNrm ints List.length_cons List.length_nil List.length_append List.getElem?_cons_zero List.getElem?_cons_succ List.nil_append List.cons_append List.map_cons List.map_nil List.mapM_cons List.mapM_nil Option.map_some Option.map_none Option.bind_some Option.pure_def Option.bind_eq_bind List.drop_zero or_self or_false false_or or_true true_or true_and and_true and_self decide_true decide_false Bool.false_eq_true Bool.true_eq_false Bool.not_true Bool.not_false Nat.le_refl eq_self gt_iff_lt ge_iff_le ne_eq not_true_eq_false not_false_eq_true storeOp apartOf freeze_nil refsL refs List.flatMap_cons List.flatMap_nil List.append_nil List.contains_nil List.set_cons_zero List.set_cons_succ snap snapL fill_nums flat_nums nums_length Go.V.freeze List.mapIdx_cons List.mapIdx_nil List.contains_cons Bool.or_false Bool.false_or Bool.or_true Bool.true_or
theorem c17_awake : Go.V.Call tab E 17 [] [] (.bool true) [] := Go.V.Call.run (ext := ext) (fun h => h) (fuel := 1000) (n := 60) (by kernel_rfl)
theorem c16_ok {s t : List Int} {l : List Nm} {ch ok : Bool} (hs : ∀ d ∈ s, In64 d) (hu : ∀ x ∈ l, U8 x.2.1 ∧ U8 x.2.2) (hok : ok = true ↔ LightP s ch t l 120) : Go.V.Call tab E 16 [.agg (plX s ch t l)] [] (.bool ok) [] := by
  refine Go.V.Call.mach i16 c16 rfl rfl rfl rfl ?_
  have h := c32_ok (s := s) (t := t) (l := l) (ch := ch) (ok := ok) (most := 120) (by omega) hs hu hok
  simp only [plX, runes, ints] at h
  simp only [c16, plX, runes, ints, go_sem, ↓reduceIte, Nat.reduceEqDiff, Nat.reduceAdd, Nat.reduceMul, Nat.reduceLeDiff, Nat.reduceLT, Int.reduceToNat, Int.reduceLT, Int.reduceLE, reduceCtorEq, Nat.reduceBEq, fillAll, fillIn, shiftR, shiftV, List.take_succ_cons, List.take_zero, List.drop_succ_cons, List.drop_zero, List.append_nil, Nat.zero_add, subP4]
  refine goP h ?_
  simp only [go_sem, ↓reduceIte, Nat.reduceEqDiff, Nat.reduceAdd, Nat.reduceMul, Nat.reduceLeDiff, Nat.reduceLT, Int.reduceToNat, Int.reduceLT, Int.reduceLE, reduceCtorEq, Nat.reduceBEq]
  simp only [i16, Out, resAll, geto, ints, List.getElem?_cons_zero, List.getElem?_cons_succ, resOf, outOf, snap, snapL, ev, getE, List.mapM_cons, List.mapM_nil, Option.bind_some, Option.pure_def, Option.bind_eq_bind, Option.map_some, reduceIte, Nat.reduceEqDiff, true_and, and_true]
def metC (g : List Int) (n : Nat) : List AV := (List.range n).map fun j : Nat => .bool (decide ((j : Int) ∈ g))
def risM (s t : List Int) (ch : Bool) (l : List Nm) (L : List Rt) (n : Nat) (g : List Int) (i : Nat) : List AObj :=
  [⟨true, 26, 4, 0, 1, plX s ch t l, false⟩, ⟨false, 3, 1, 0, 0, [], false⟩, ⟨false, 21, 1, 0, 0, [], false⟩, ⟨false, 57, 3, 0, 0, [], false⟩, ⟨true, 31, 5, 0, 1, arrX s ch t L, false⟩, ⟨false, 3, 1, 0, 0, [], false⟩, ⟨false, 21, 1, 0, 0, [], false⟩, ⟨false, 57, 3, 0, 0, [], false⟩, ⟨true, 31, 5, 0, 1, arrX [(n : Int)] false [] (g.map zR), false⟩,
    ⟨false, 3, 1, 0, n, nums .i64 g, false⟩, ⟨false, 4, 1, 0, n, metC (g.take i) n, false⟩]
end Go.Proofs.YtlejgleocnemoabGreat.I

namespace Go.Proofs.YtlejgleocnemoabGreat.I
open Go Go.V
theorem sgn_mul {a b : Int} : decide (a * b < 0) = ((decide (a < 0) != decide (b < 0)) && decide (a.natAbs * b.natAbs ≠ 0)) := by
  by_cases ha : a < 0
  · by_cases hb : b < 0
    · have h1 := Int.mul_pos_of_neg_of_neg ha hb
      rw [decide_eq_true ha, decide_eq_true hb, decide_eq_false (show ¬ a * b < 0 by omega)]
      rfl
    · rw [decide_eq_true ha, decide_eq_false hb]
      by_cases h0 : b = 0
      · subst h0; simp
      · have h1 := Int.mul_neg_of_neg_of_pos ha (show 0 < b by omega)
        rw [decide_eq_true h1, decide_eq_true (Nat.mul_ne_zero (by omega) (by omega))]
        rfl
  · rw [decide_eq_false ha]
    by_cases hb : b < 0
    · rw [decide_eq_true hb]
      by_cases h0 : a = 0
      · subst h0; simp
      · have h1 := Int.mul_neg_of_pos_of_neg (show 0 < a by omega) hb
        rw [decide_eq_true h1, decide_eq_true (Nat.mul_ne_zero (by omega) (by omega))]
        rfl
    · have h1 := Int.mul_nonneg (show 0 ≤ a by omega) (show 0 ≤ b by omega)
      rw [decide_eq_false hb, decide_eq_false (show ¬ a * b < 0 by omega)]
      rfl
theorem divInt_parts {a b : Int} (hb : b ≠ 0) : (Rat.divInt a b).num.natAbs = a.natAbs / Nat.gcd a.natAbs b.natAbs ∧ (Rat.divInt a b).den = b.natAbs / Nat.gcd a.natAbs b.natAbs ∧
    (decide ((Rat.divInt a b).num < 0)) = ((decide (a < 0) != decide (b < 0)) && decide (a.natAbs / Nat.gcd a.natAbs b.natAbs ≠ 0)) := by
  have hg : Int.gcd b a = Nat.gcd a.natAbs b.natAbs := by rw [Int.gcd_comm]; rfl
  have hgp : 0 < Nat.gcd a.natAbs b.natAbs := Nat.gcd_pos_of_pos_right _ (by omega)
  have hd1 : Nat.gcd a.natAbs b.natAbs ∣ a.natAbs := Nat.gcd_dvd_left _ _
  rw [Rat.num_divInt, Rat.den_divInt, if_neg hb, hg]
  generalize Nat.gcd a.natAbs b.natAbs = g at *
  have hdi : (g : Int) ∣ a := Int.dvd_natAbs.1 (Int.natCast_dvd_natCast.2 hd1)
  obtain ⟨k, hk⟩ := hdi
  have hgz : (g : Int) ≠ 0 := by omega
  have hq : b.sign * a / (g : Int) = b.sign * k := by
    rw [hk, ← Int.mul_assoc, Int.mul_comm b.sign, Int.mul_assoc]
    exact Int.mul_ediv_cancel_left _ hgz
  have hka : a.natAbs / g = k.natAbs := by
    rw [hk, Int.natAbs_mul, Int.natAbs_natCast]
    exact Nat.mul_div_cancel_left _ hgp
  have hs : (b.sign).natAbs = 1 := Int.natAbs_sign_of_ne_zero hb
  rw [hq, hka]
  refine ⟨by rw [Int.natAbs_mul, hs, Nat.one_mul], rfl, ?_⟩
  have hak : decide (a < 0) = decide (k < 0) := by
    by_cases h : k < 0
    · have := Int.mul_neg_of_pos_of_neg (show (0 : Int) < g by omega) h
      rw [decide_eq_true h, decide_eq_true (show a < 0 by omega)]
    · have := Int.mul_nonneg (show (0 : Int) ≤ g by omega) (show 0 ≤ k by omega)
      rw [decide_eq_false h, decide_eq_false (show ¬ a < 0 by omega)]
  rw [hak, sgn_mul]
  have hsb : decide (b.sign < 0) = decide (b < 0) := by
    rcases Int.lt_trichotomy b 0 with h | h | h
    · rw [Int.sign_eq_neg_one_of_neg h]; simp [h]
    · exact absurd h hb
    · rw [Int.sign_eq_one_of_pos h]; simp; omega
  rw [hsb, hs, Nat.one_mul]
  cases decide (b < 0) <;> cases decide (k < 0) <;> rfl
theorem add_divInt (a b : Rat) : Rat.divInt (a.num * b.den + b.num * a.den) ((a.den : Int) * b.den) = a + b := by
  rw [Rat.add_def', ← Rat.divInt_ofNat]; rfl
theorem mul_divInt (a b : Rat) : Rat.divInt (a.num * b.num) ((a.den : Int) * b.den) = a * b := by
  rw [Rat.mul_def', ← Rat.divInt_ofNat]; rfl
def Sz (k : Nat) (r : Rat) : Prop := r.num.natAbs < 2 ^ k ∧ r.den < 2 ^ k
theorem Sz.mono {i j : Nat} {r : Rat} (h : Sz i r) (hij : i ≤ j) : Sz j r := ⟨Nat.lt_of_lt_of_le h.1 (Nat.pow_le_pow_right (by omega) hij), Nat.lt_of_lt_of_le h.2 (Nat.pow_le_pow_right (by omega) hij)⟩
theorem lt_mul_pow {a b i j : Nat} (ha : a < 2 ^ i) (hb : b < 2 ^ j) : a * b < 2 ^ (i + j) := by
  rw [Nat.pow_add]
  exact Nat.mul_lt_mul'' ha hb
theorem add_num_lt {a b : Rat} {i j : Nat} (ha : Sz i a) (hb : Sz j b) : (a.num * b.den + b.num * a.den).natAbs < 2 ^ (i + j + 1) ∧ ((a.den : Int) * b.den).natAbs < 2 ^ (i + j) := by
  have h1 := lt_mul_pow ha.1 hb.2
  have h2 := lt_mul_pow hb.1 ha.2
  have h3 := lt_mul_pow ha.2 hb.2
  rw [Nat.add_comm j i] at h2
  have e1 : (a.num * b.den).natAbs = a.num.natAbs * b.den := by rw [Int.natAbs_mul, Int.natAbs_natCast]
  have e2 : (b.num * a.den).natAbs = b.num.natAbs * a.den := by rw [Int.natAbs_mul, Int.natAbs_natCast]
  refine ⟨?_, by rw [Int.natAbs_mul, Int.natAbs_natCast, Int.natAbs_natCast]; exact h3⟩
  rw [Nat.pow_succ]
  have := Int.natAbs_add_le (a.num * b.den) (b.num * a.den)
  omega
theorem Sz.of_divInt {a b : Int} {k : Nat} (h1 : a.natAbs < 2 ^ k) (h2 : b.natAbs < 2 ^ k) (hb : b ≠ 0) : Sz k (Rat.divInt a b) := by
  obtain ⟨p1, p2, _⟩ := divInt_parts (a := a) hb
  exact ⟨by rw [p1]; exact Nat.lt_of_le_of_lt (Nat.div_le_self _ _) h1, by rw [p2]; exact Nat.lt_of_le_of_lt (Nat.div_le_self _ _) h2⟩
theorem den_mul_ne {a b : Rat} : ((a.den : Int) * b.den) ≠ 0 := by
  have := a.den_nz; have := b.den_nz
  exact Int.mul_ne_zero (by omega) (by omega)
theorem Sz.add {a b : Rat} {i j : Nat} (ha : Sz i a) (hb : Sz j b) : Sz (i + j + 1) (a + b) := by
  obtain ⟨h1, h2⟩ := add_num_lt ha hb
  rw [← add_divInt]
  exact Sz.of_divInt h1 (Nat.lt_trans h2 (Nat.pow_lt_pow_right (by omega) (by omega))) den_mul_ne
theorem mul_num_lt {a b : Rat} {i j : Nat} (ha : Sz i a) (hb : Sz j b) : (a.num * b.num).natAbs < 2 ^ (i + j) ∧ ((a.den : Int) * b.den).natAbs < 2 ^ (i + j) :=
  ⟨by rw [Int.natAbs_mul]; exact lt_mul_pow ha.1 hb.1, by rw [Int.natAbs_mul, Int.natAbs_natCast, Int.natAbs_natCast]; exact lt_mul_pow ha.2 hb.2⟩
theorem Sz.mul {a b : Rat} {i j : Nat} (ha : Sz i a) (hb : Sz j b) : Sz (i + j) (a * b) := by
  obtain ⟨h1, h2⟩ := mul_num_lt ha hb
  rw [← mul_divInt]
  exact Sz.of_divInt h1 h2 den_mul_ne
theorem Sz.neg {a : Rat} {i : Nat} (ha : Sz i a) : Sz i (-a) := by
  unfold Sz
  rw [Rat.neg_num, Rat.neg_den, Int.natAbs_neg]
  exact ha
def rR (r : Rat) : Rt := (decide (r.num < 0), r.num.natAbs, r.den)
def RV (x : Rt) (r : Rat) : Prop := x.1 = decide (r.num < 0) ∧ x.2.1 = r.num.natAbs ∧ dn x.2.2 = r.den
theorem RV.zero : RV (false, 0, 0) 0 := ⟨rfl, rfl, rfl⟩
def wI (z : Int) : List AV := whC (decide (z < 0)) z.natAbs
def ofN (x : Rt) : Rat := mkRat (if x.1 then -(x.2.1 : Int) else x.2.1) x.2.2
theorem ofN_rR {x : Rt} (hq : x.2.2 ≠ 0) (hg : Nat.gcd x.2.1 x.2.2 = 1) (hs : x.1 = true → x.2.1 ≠ 0) : rR (ofN x) = x := by
  obtain ⟨n, p, q⟩ := x
  simp only at hq hg hs
  have hnum : ∀ z : Int, z.natAbs = p → (mkRat z q).num = z ∧ (mkRat z q).den = q := fun z hz => by
    rw [Rat.mkRat_def, dif_neg hq, Rat.normalize_eq]
    simp only [hz, hg, Nat.div_one]
    exact ⟨by simp, trivial⟩
  cases n with
  | true =>
    have := hs rfl
    obtain ⟨h1, h2⟩ := hnum (-(p : Int)) (by omega)
    simp only [rR, ofN, if_true, h1, h2]
    rw [decide_eq_true (by omega)]
    congr 2
    omega
  | false =>
    obtain ⟨h1, h2⟩ := hnum (p : Int) (by omega)
    simp only [rR, ofN, Bool.false_eq_true, if_false, h1, h2]
    rw [decide_eq_false (by omega)]
    congr 2
end Go.Proofs.YtlejgleocnemoabGreat.I

namespace Go.Proofs.YtlejgleocnemoabGreat.I
open Go Go.V
attribute [local go_sem] mNil nat0 beq_self_eq_true mSkip mRet mExit mReg mSeq mCond mTrue mFalse mBlock mLv mCodeE mCodeR mEndN mEndR mEndE mOps mSome mGuard mGtt mGff mGtf mGft mGu mCallP mCallR mCallF mCallO mCallZ mCallG mCallM mCallV loopQ_exit loopQ_ret mO_mov mO_newnil mO_pick mO_alloc mO_box mO_build mO_bsl mO_bslF mO_ldf mO_ld mO_st mO_sta mO_nilchk mO_bin mO_binb mO_binp mO_bins mO_neg mO_com mO_not mO_conv mO_mk mO_mk0 mO_s2b mO_b2s mO_cpy mO_cut mO_faddr mO_fld mO_iaddr mO_iaddrf mO_sidx mO_len mO_lenf mO_slen mO_scut mO_app mO_ext mO_mx mO_mn mO_mkfn evalOp cutOp argsE ev getE putE cellsOf adopt rowOf binV boolV nilV ar_add ar_sub ar_mul ar_quo ar_rem ar_eq ar_ne ar_lt ar_le ar_gt ar_ge ar_and ar_or ar_xor geto bound finRet finNrm ints List.length_cons List.length_nil List.length_append List.getElem?_cons_zero List.getElem?_cons_succ List.nil_append List.cons_append List.map_cons List.map_nil List.mapM_cons List.mapM_nil Option.map_some Option.map_none Option.bind_some Option.pure_def Option.bind_eq_bind List.drop_zero or_self or_false false_or or_true true_or true_and and_true and_self decide_true decide_false Bool.false_eq_true Bool.true_eq_false Bool.not_true Bool.not_false Nat.le_refl eq_self gt_iff_lt ge_iff_le ne_eq not_true_eq_false not_false_eq_true storeOp apartOf freeze_nil refsL refs List.flatMap_cons List.flatMap_nil List.append_nil List.contains_nil List.set_cons_zero List.set_cons_succ snap snapL fill_nums flat_nums nums_length Go.V.freeze List.mapIdx_cons List.mapIdx_nil List.contains_cons Bool.or_false Bool.false_or Bool.or_true Bool.true_or
section
variable {E : CallRel}
end
theorem sgn_zero {z : Int} : (decide (z < 0) && decide (z.natAbs ≠ 0)) = decide (z < 0) := by
  by_cases h : z < 0
  · rw [decide_eq_true h, decide_eq_true (by omega)]; rfl
  · rw [decide_eq_false h]; rfl
section
variable {E : CallRel}
end
end Go.Proofs.YtlejgleocnemoabGreat.I

namespace Go.Proofs.YtlejgleocnemoabGreat.I
open Go Go.V
attribute [local go_sem_proc ↓] reduceIte
attribute [local go_sem_proc] Nat.reduceEqDiff Nat.reduceAdd Nat.reduceMul Nat.reduceLeDiff Nat.reduceLT Int.reduceToNat Int.reduceLT Int.reduceLE reduceCtorEq Nat.reduceBEq
attribute [local go_sem] mNil nat0 beq_self_eq_true mSkip mRet mExit mReg mSeq mCond mTrue mFalse mBlock mLv mCodeE mCodeR mEndN mEndR mEndE mOps mSome mGuard mGtt mGff mGtf mGft mGu mCallP mCallR mCallF mCallO mCallZ mCallG mCallM mCallV loopQ_exit loopQ_ret mO_mov mO_newnil mO_pick mO_alloc mO_box mO_build mO_bsl mO_bslF mO_ldf mO_ld mO_st mO_sta mO_nilchk mO_bin mO_binb mO_binp mO_bins mO_neg mO_com mO_not mO_conv mO_mk mO_mk0 mO_s2b mO_b2s mO_cpy mO_cut mO_faddr mO_fld mO_iaddr mO_iaddrf mO_sidx mO_len mO_lenf mO_slen mO_scut mO_app mO_ext mO_mx mO_mn mO_mkfn evalOp cutOp argsE ev getE putE cellsOf adopt rowOf binV boolV nilV ar_add ar_sub ar_mul ar_quo ar_rem ar_eq ar_ne ar_lt ar_le ar_gt ar_ge ar_and ar_or ar_xor geto bound finRet finNrm ints List.length_cons List.length_nil List.length_append List.getElem?_cons_zero List.getElem?_cons_succ List.nil_append List.cons_append List.map_cons List.map_nil List.mapM_cons List.mapM_nil Option.map_some Option.map_none Option.bind_some Option.pure_def Option.bind_eq_bind List.drop_zero or_self or_false false_or or_true true_or true_and and_true and_self decide_true decide_false Bool.false_eq_true Bool.true_eq_false Bool.not_true Bool.not_false Nat.le_refl eq_self gt_iff_lt ge_iff_le ne_eq not_true_eq_false not_false_eq_true storeOp apartOf freeze_nil refsL refs List.flatMap_cons List.flatMap_nil List.append_nil List.contains_nil List.set_cons_zero List.set_cons_succ snap snapL fill_nums flat_nums nums_length Go.V.freeze List.mapIdx_cons List.mapIdx_nil List.contains_cons Bool.or_false Bool.false_or Bool.or_true Bool.true_or
theorem dgs_digit {n i : Nat} : ∃ d : Nat, (dgs n).getD i 0 = (d : Int) ∧ d ≤ 9 ∧ n % 10 ^ (i + 1) = n % 10 ^ i + 10 ^ i * d := by
  refine ⟨n / 10 ^ i % 10, dgs_get, by omega, ?_⟩
  rw [Nat.mod_pow_succ]
def R9d (l : List Int) : Prop := ∀ x ∈ l, 0 ≤ x ∧ x ≤ 9
theorem R9d_put {l : List Int} {k d : Nat} (h : R9d l) (hd : d ≤ 9) : R9d (put l k (d : Int)) := fun y hy => by
  unfold put at hy
  rcases List.mem_append.1 hy with h1 | h1
  · exact h y (List.mem_of_mem_take h1)
  · rcases List.mem_cons.1 h1 with h1 | h1
    · subst h1; omega
    · exact h y (List.mem_of_mem_drop h1)
theorem dval_append : ∀ {a b : List Int}, dval (a ++ b) = dval a + 10 ^ a.length * dval b
  | [], b => by simp [dval]
  | x :: a, b => by
    rw [List.cons_append, dval, dval_append, dval, List.length_cons, Nat.pow_succ, Nat.mul_add, ← Nat.mul_assoc, Nat.mul_comm 10 (10 ^ a.length)]
    omega
theorem put_dval {l : List Int} {k : Nat} {v : Int} (h : k < l.length) : dval (put l k v) + 10 ^ k * (l.getD k 0).toNat = dval l + 10 ^ k * v.toNat := by
  have e1 : l = l.take k ++ l.getD k 0 :: l.drop (k + 1) := by
    conv => lhs; rw [← List.take_append_drop k l]
    congr 1
    rw [List.drop_eq_getElem_cons h]
    simp [List.getD, h]
  have hl : (l.take k).length = k := by rw [List.length_take]; omega
  have e2 : dval l = dval (l.take k) + 10 ^ k * ((l.getD k 0).toNat + 10 * dval (l.drop (k + 1))) := by
    conv => lhs; rw [e1]
    rw [dval_append, hl, dval]
  have e3 : dval (put l k v) = dval (l.take k) + 10 ^ k * (v.toNat + 10 * dval (l.drop (k + 1))) := by
    rw [put, dval_append, hl, dval]
  rw [e2, e3, Nat.mul_add, Nat.mul_add]
  omega
theorem dval_zeros : ∀ {n : Nat}, dval (List.replicate n 0) = 0
  | 0 => rfl
  | n + 1 => by rw [List.replicate_succ, dval, dval_zeros]; rfl
section
variable {E : CallRel}
end
theorem mul_facts {o x y c : Nat} (ho : o ≤ 9) (hx : x ≤ 9) (hy : y ≤ 9) (hc : c ≤ 9) : ∃ d c' : Nat, d ≤ 9 ∧ c' ≤ 9 ∧ o + x * y + c = d + 10 * c' ∧
    IntKind.i64.wrap ((x : Int) * (y : Int)) = ((x * y : Nat) : Int) ∧ IntKind.i64.wrap ((o : Int) + ((x * y : Nat) : Int)) = ((o + x * y : Nat) : Int) ∧ IntKind.i64.wrap (((o + x * y : Nat) : Int) + (c : Int)) = ((o + x * y + c : Nat) : Int) ∧
    (((o + x * y + c : Nat) : Int)).tmod 10 = (d : Int) ∧ (((o + x * y + c : Nat) : Int)).tdiv 10 = (c' : Int) ∧ IntKind.i64.wrap (c' : Int) = (c' : Int) := by
  have hxy : x * y ≤ 81 := Nat.le_trans (Nat.mul_le_mul hx hy) (by omega)
  have hcast : (x : Int) * (y : Int) = ((x * y : Nat) : Int) := by omega
  rw [hcast]
  generalize x * y = z at *
  refine ⟨(o + z + c) % 10, (o + z + c) / 10, by omega, by omega, by omega, wrap_i64 (by omega) (by omega), by rw [wrap_i64 (by omega) (by omega)]; omega, by rw [wrap_i64 (by omega) (by omega)]; omega, tmodN _ 10, tdivN _ 10, wrap_i64 (by omega) (by omega)⟩
section
variable {E : CallRel}
theorem c160_ok {a b : Nat} (ha : (decL a).length ≤ 1000000) (hb : (decL b).length ≤ 1000000) : Go.V.Call tab E 160 [.str (dec a), .str (dec b)] [] (.str (dec (a * b))) [] := by
  refine Go.V.Call.mach i160 c160 rfl rfl rfl rfl ?_
  have hak := dgs_len (n := a)
  have hbk := dgs_len (n := b)
  have hda := fun i h => c170_ok (E := E) (n := a) (i := i) (by omega) h
  have hdb := fun i h => c170_ok (E := E) (n := b) (i := i) (by omega) h
  have hsa : (dec a).size = (decL a).length := by rw [dec_eq, bs_size]
  have hsb : (dec b).size = (decL b).length := by rw [dec_eq, bs_size]
  obtain ⟨la, hla⟩ : ∃ la, la = (decL a).length := ⟨_, rfl⟩
  obtain ⟨lb, hlb⟩ : ∃ lb, lb = (decL b).length := ⟨_, rfl⟩
  rw [← hla] at hak hsa ha
  rw [← hlb] at hbk hsb hb
  clear hla hlb
  obtain ⟨n, hn⟩ : ∃ n, n = la + lb + 1 := ⟨_, rfl⟩
  have v1 : IntKind.i64.wrap ((la : Int) + (lb : Int)) = (la : Int) + (lb : Int) := wrap_i64 (by omega) (by omega)
  have v2 : IntKind.i64.wrap ((la : Int) + (lb : Int) + 1) = (n : Int) := by rw [wrap_i64 (by omega) (by omega)]; omega
  have b1 : (0 : Int) ≤ (n : Int) := by omega
  have b2 : 8 * n ≤ 140737488355328 := by omega
  have b3 : (n : Int) ≤ 140737488355328 := by omega
  have q10 : ¬ ((10 : Int) = 0) := by decide
  simp only [c160, go_sem, hsa, hsb, v1, v2, b1, b2, b3, Int.toNat_natCast, flat_nums]
  refine mLoop (fun N st => ∃ (i : Nat) (L : List Int), N = la - i ∧ i ≤ la ∧ L.length = n ∧ R9d L ∧ dval L = a % 10 ^ i * b ∧
    st = ⟨[(0, .str (dec a)), (1, .str (dec b)), (5, .arr 0 0), (6, .int .i64 i)], [⟨false, 3, 1, 0, n, nums .i64 L, false⟩]⟩) la
    ⟨_, rfl, 0, List.replicate n 0, by omega, by omega, by simp, fun x hx => by have := List.eq_of_mem_replicate hx; omega, by rw [dval_zeros]; simp [Nat.mod_one], by simp [getE]⟩ ?_
  rintro N s0 ⟨i, L, rfl, hi, hL, hR, hv, rfl⟩
  by_cases hil : i < la
  · have hil' : (i : Int) < (la : Int) := by omega
    have hi1 : IntKind.i64.wrap ((i : Int) + 1) = ((i + 1 : Nat) : Int) := by rw [wrap_i64 (by omega) (by omega)]; omega
    obtain ⟨x, hx, hx9, hax⟩ := dgs_digit (n := a) (i := i)
    have h1 := hda i (by omega)
    rw [hx] at h1
    have hub : a % 10 ^ (i + 1) * b < 10 ^ (i + 1) * 10 ^ lb := by
      have h3 : a % 10 ^ (i + 1) < 10 ^ (i + 1) := Nat.mod_lt _ (Nat.pow_pos (by omega))
      exact Nat.mul_lt_mul'' h3 hbk
    have hax2 : a % 10 ^ (i + 1) * b = a % 10 ^ i * b + 10 ^ i * (x * b) := by rw [hax, Nat.add_mul, Nat.mul_assoc]
    simp only [b160_0, go_sem, hsa, hsb, hil']
    refine mLoop (fun N st => ∃ (j : Nat) (L : List Int) (c : Nat), N = lb + 1 - j ∧ j ≤ lb + 1 ∧ L.length = n ∧ R9d L ∧ c ≤ 9 ∧ (0 < c → j ≤ lb) ∧ dval L + 10 ^ (i + j) * c = a % 10 ^ i * b + 10 ^ i * (x * (b % 10 ^ j)) ∧
      st = ⟨[(0, .str (dec a)), (1, .str (dec b)), (5, .arr 0 0), (6, .int .i64 i), (7, .int .i64 c), (8, .int .i64 j)], [⟨false, 3, 1, 0, n, nums .i64 L, false⟩]⟩) (lb + 1)
      ⟨_, rfl, 0, L, 0, by omega, by omega, hL, hR, by omega, fun h => by omega, by rw [hv]; simp [Nat.mod_one], by simp [getE]⟩ ?_
    clear hv hR hL
    rintro N s0 ⟨j, L, c, rfl, hj, hL, hR, hc, hcj, hv, rfl⟩
    obtain ⟨y, hy, hy9, hby⟩ := dgs_digit (n := b) (i := j)
    have h2 := hdb j (by omega)
    rw [hy] at h2
    have hj1 : IntKind.i64.wrap ((j : Int) + 1) = ((j + 1 : Nat) : Int) := by rw [wrap_i64 (by omega) (by omega)]; omega
    have goOn : j ≤ lb → i + j < L.length ∧ ∃ o : Nat, L.getD (i + j) 0 = (o : Int) ∧ o ≤ 9 ∧ ∀ d c', d ≤ 9 → c' ≤ 9 → o + x * y + c = d + 10 * c' →
        ∃ m, m < lb + 1 - j ∧ ∃ (j' : Nat) (L' : List Int) (cc : Nat), m = lb + 1 - j' ∧ j' ≤ lb + 1 ∧ L'.length = n ∧ R9d L' ∧ cc ≤ 9 ∧ (0 < cc → j' ≤ lb) ∧ dval L' + 10 ^ (i + j') * cc = a % 10 ^ i * b + 10 ^ i * (x * (b % 10 ^ j')) ∧
        (⟨[(0, .str (dec a)), (1, .str (dec b)), (5, .arr 0 0), (6, .int .i64 i), (7, .int .i64 c'), (8, .int .i64 ((j + 1 : Nat) : Int))], [⟨false, 3, 1, 0, n, nums .i64 (put L (i + j) (d : Int)), false⟩]⟩ : St) =
         ⟨[(0, .str (dec a)), (1, .str (dec b)), (5, .arr 0 0), (6, .int .i64 i), (7, .int .i64 cc), (8, .int .i64 j')], [⟨false, 3, 1, 0, n, nums .i64 L', false⟩]⟩ := fun hjl => by
      have hlt : i + j < L.length := by omega
      have ho := hR (L.getD (i + j) 0) (by simp [List.getD, hlt])
      refine ⟨hlt, (L.getD (i + j) 0).toNat, by omega, by omega, fun d c' hd hc' hst => ?_⟩
      have hpd := put_dval (l := L) (k := i + j) (v := (d : Int)) hlt
      rw [Int.toNat_natCast] at hpd
      have hinv : dval (put L (i + j) (d : Int)) + 10 ^ (i + (j + 1)) * c' = a % 10 ^ i * b + 10 ^ i * (x * (b % 10 ^ (j + 1))) := by
        have e4 : 10 ^ i * (x * (b % 10 ^ (j + 1))) = 10 ^ i * (x * (b % 10 ^ j)) + 10 ^ (i + j) * (x * y) := by
          rw [hby, Nat.mul_add, Nat.mul_add, Nat.pow_add, Nat.mul_assoc (10 ^ i) (10 ^ j)]
          congr 2
          rw [← Nat.mul_assoc, ← Nat.mul_assoc, Nat.mul_comm x]
        rw [e4, show i + (j + 1) = (i + j) + 1 by omega, Nat.pow_succ, Nat.mul_assoc]
        generalize 10 ^ (i + j) = P at *
        have e3 : P * ((L.getD (i + j) 0).toNat + x * y + c) = P * (d + 10 * c') := by rw [hst]
        simp only [Nat.mul_add] at e3
        omega
      refine ⟨lb + 1 - (j + 1), by omega, j + 1, put L (i + j) (d : Int), c', rfl, by omega, by rw [put_len hlt, hL], R9d_put hR hd, hc', fun hcp => ?_, hinv, rfl⟩
      by_cases hjb : j + 1 ≤ lb
      · exact hjb
      · exfalso
        have hjb2 : j = lb := by omega
        subst hjb2
        have hbm : b % 10 ^ (j + 1) = b := Nat.mod_eq_of_lt (Nat.lt_of_lt_of_le hbk (Nat.pow_le_pow_right (by omega) (by omega)))
        rw [hbm, ← hax2] at hinv
        have h5 : 10 ^ (i + (j + 1)) ≤ 10 ^ (i + (j + 1)) * c' := Nat.le_mul_of_pos_right _ hcp
        have h6 : 10 ^ (i + (j + 1)) = 10 ^ (i + 1) * 10 ^ j := by rw [← Nat.pow_add]; congr 1; omega
        omega
    by_cases hjb : j < lb
    · have hjb' : (j : Int) < (lb : Int) := by omega
      obtain ⟨hlt, o, ho, ho9, hgo⟩ := goOn (by omega)
      obtain ⟨d, c', hd, hc', hst, w1, w2, w3, w4, w5, w6⟩ := mul_facts ho9 hx9 hy9 hc
      obtain ⟨m, hm, hI⟩ := hgo d c' hd hc' hst
      have hij : IntKind.i64.wrap ((i : Int) + (j : Int)) = ((i + j : Nat) : Int) := by rw [wrap_i64 (by omega) (by omega)]; omega
      have hij0 : (0 : Int) ≤ ((i + j : Nat) : Int) := by omega
      have hijn : ((i + j : Nat) : Int) < (n : Int) := by omega
      have hsub := sub_nums (k := .i64) hlt
      rw [ho] at hsub
      have t1 : (i + j) * 1 + 1 ≤ L.length := by omega
      clear goOn hgo hst hv hub hax hax2 hby hak hbk hda hdb hR hcj
      simp only [b160_1, go_sem, hsa, hsb, hjb', hij, hij0, hijn, Int.toNat_natCast, hsub]
      refine goP h1 ?_
      simp only [go_sem]
      refine goP h2 ?_
      simp only [go_sem, w1, w2, w3, w4, w5, w6, q10, hij, hij0, hijn, Int.toNat_natCast, t1, hj1]
      exact loopQ_go rfl m hm hI
    · have hjb' : ¬ (j : Int) < (lb : Int) := by omega
      by_cases hcp : 0 < c
      · have hcp' : (0 : Int) < (c : Int) := by omega
        obtain ⟨hlt, o, ho, ho9, hgo⟩ := goOn (hcj hcp)
        obtain ⟨d, c', hd, hc', hst, w1, w2, w3, w4, w5, w6⟩ := mul_facts ho9 hx9 hy9 hc
        obtain ⟨m, hm, hI⟩ := hgo d c' hd hc' hst
        have hij : IntKind.i64.wrap ((i : Int) + (j : Int)) = ((i + j : Nat) : Int) := by rw [wrap_i64 (by omega) (by omega)]; omega
        have hij0 : (0 : Int) ≤ ((i + j : Nat) : Int) := by omega
        have hijn : ((i + j : Nat) : Int) < (n : Int) := by omega
        have hsub := sub_nums (k := .i64) hlt
        rw [ho] at hsub
        have t1 : (i + j) * 1 + 1 ≤ L.length := by omega
        clear goOn hgo hst hv hub hax hax2 hby hak hbk hda hdb hR hcj
        simp only [b160_1, go_sem, hsa, hsb, hjb', hcp', hij, hij0, hijn, Int.toNat_natCast, hsub]
        refine goP h1 ?_
        simp only [go_sem]
        refine goP h2 ?_
        simp only [go_sem, w1, w2, w3, w4, w5, w6, q10, hij, hij0, hijn, Int.toNat_natCast, t1, hj1]
        exact loopQ_go rfl m hm hI
      · have hcp' : ¬ (0 : Int) < (c : Int) := by omega
        have hc0 : c = 0 := by omega
        have hbm : b % 10 ^ j = b := Nat.mod_eq_of_lt (Nat.lt_of_lt_of_le hbk (Nat.pow_le_pow_right (by omega) (by omega)))
        rw [hc0, Nat.mul_zero, Nat.add_zero, hbm, ← hax2] at hv
        clear goOn hub hax hax2 hby hak hbk hda hdb hcj hbm
        simp only [b160_1, k160_0, go_sem, hsa, hsb, hjb', hcp', hi1]
        exact loopQ_go rfl (la - (i + 1)) (by omega) ⟨i + 1, L, rfl, by omega, hL, hR, hv, rfl⟩
  · have hil' : ¬ (i : Int) < (la : Int) := by omega
    obtain rfl : i = la := by omega
    rw [Nat.mod_eq_of_lt hak] at hv
    have h96 := c150_gen (E := E) (L := L) (by omega) (fun h => by rw [h] at hL; simp at hL; omega) hR
    rw [hv, ints, hL] at h96
    simp only [b160_0, k160_1, go_sem, hsa, hsb, hil', Int.lt_irrefl]
    refine goR h96 rfl ?_
    simp only [go_sem]
    simp only [i160, Out, resAll, geto, ints, List.getElem?_cons_zero, List.getElem?_cons_succ, resOf, outOf, snap, snapL, ev, getE, List.mapM_cons, List.mapM_nil, Option.bind_some, Option.pure_def, Option.bind_eq_bind, Option.map_some, reduceIte, Nat.reduceEqDiff, true_and, and_true]
end
def wdI (z : Int) : List AV := wdC (decide (z < 0)) z.natAbs
def numR (r : Rat) : List AV := numG (decide (r.num < 0)) r.num.natAbs r.den
theorem numR_nm {r : Rat} : numR r = nmC (toNm (rR r)) := by
  rw [← nmC_dec]
  simp only [rR, dn_pos r.den_nz]
  rfl
theorem wdI_mul {a b : Int} : wdC ((decide (a < 0) != decide (b < 0)) && decide (a.natAbs * b.natAbs ≠ 0)) (a.natAbs * b.natAbs) = wdI (a * b) := by
  rw [← sgn_mul, ← Int.natAbs_mul]
  rfl
theorem wdI_pos {p : Nat} : wdC (false && decide (p ≠ 0)) p = wdI (p : Int) := by
  have h1 : ((p : Int)).natAbs = p := by omega
  rw [wdI, h1, decide_eq_false (show ¬ (p : Int) < 0 by omega)]
  rfl
theorem dec_eqB {a b : Nat} : strOp .eq (dec a) (dec b) = some (.bool (decide (a = b))) := by
  rw [dec_eq, dec_eq]
  simp only [strOp, str_eq (decL_dig a).u8 (decL_dig b).u8]
  congr 2
  by_cases h : a = b
  · subst h; simp
  · rw [decide_eq_false h, decide_eq_false]
    intro hh
    exact h (by rw [← sval_decL a, hh, sval_decL])
theorem Sz.pos {i : Nat} {r : Rat} (h : Sz i r) : 1 ≤ i := by
  rcases Nat.eq_zero_or_pos i with h0 | h0
  · subst h0
    have := h.2
    have := r.den_nz
    simp at *
    omega
  · exact h0
theorem natAbs_den {r : Rat} : ((r.den : Int)).natAbs = r.den := by omega
section
variable {E : CallRel}
theorem c133_ok {a b : Int} (ha : (decL a.natAbs).length ≤ 1000000) (hb : (decL b.natAbs).length ≤ 1000000) (hab : (decL (a * b).natAbs).length ≤ 1000000000) : Go.V.Call tab E 133 [.agg (wdI a), .agg (wdI b)] [] (.agg (wdI (a * b))) [] := by
  refine Go.V.Call.mach i133 c133 rfl rfl rfl rfl ?_
  have h82 := c160_ok (E := E) ha hb
  rw [Int.natAbs_mul] at hab
  have h78 := c159_ok (E := E) (n := decide (a < 0) != decide (b < 0)) hab
  rw [wdI_mul] at h78
  simp only [wdI, wdC] at h78
  simp only [c133, wdI, wdC, go_sem, fillAll, fillIn, shiftR, shiftV, List.take_succ_cons, List.take_zero, List.drop_succ_cons, List.drop_zero, List.append_nil, Nat.zero_add, subD0, subD1]
  refine goP h82 ?_
  simp only [go_sem, fillAll, fillIn, shiftR, shiftV, List.take_succ_cons, List.take_zero, List.drop_succ_cons, List.drop_zero, List.append_nil, Nat.zero_add]
  refine goP h78 ?_
  simp only [go_sem, fillAll, fillIn, shiftR, shiftV, List.take_succ_cons, List.take_zero, List.drop_succ_cons, List.drop_zero, List.append_nil, Nat.zero_add]
  simp only [i133, Out, resAll, geto, ints, List.getElem?_cons_zero, List.getElem?_cons_succ, resOf, outOf, snap, snapL, ev, getE, List.mapM_cons, List.mapM_nil, Option.bind_some, Option.pure_def, Option.bind_eq_bind, Option.map_some, reduceIte, Nat.reduceEqDiff, true_and, and_true, subD2, wdI, wdC]
theorem c134_R {r : Rat} (hp : (decL r.num.natAbs).length ≤ 1000000000) : Go.V.Call tab E 134 [.agg (numR r)] [] (.agg (wdI r.num)) [] := by
  have h := c134_ok (E := E) (x := rR r) hp
  have e1 : wdC ((rR r).1 && decide ((rR r).2.1 ≠ 0)) (rR r).2.1 = wdI r.num := by
    show wdC (decide (r.num < 0) && decide (r.num.natAbs ≠ 0)) r.num.natAbs = _
    rw [sgn_zero]; rfl
  have e2 : numG (rR r).1 (rR r).2.1 (dn (rR r).2.2) = numR r := by
    show numG _ _ (dn r.den) = _
    rw [dn_pos r.den_nz]; rfl
  rw [e1, e2] at h
  exact h
theorem c135_ok {r : Rat} (hp : (decL r.den).length ≤ 1000000000) : Go.V.Call tab E 135 [.agg (numR r)] [] (.agg (wdI (r.den : Int))) [] := by
  refine Go.V.Call.mach i135 c135 rfl rfl rfl rfl ?_
  have h := c159_ok (E := E) (n := false) hp
  rw [wdI_pos] at h
  simp only [wdI, wdC] at h
  simp only [c135, numR, numG, go_sem, fillAll, fillIn, shiftR, shiftV, List.take_succ_cons, List.take_zero, List.drop_succ_cons, List.drop_zero, List.append_nil, Nat.zero_add, subN2]
  refine goP h ?_
  simp only [go_sem, fillAll, fillIn, shiftR, shiftV, List.take_succ_cons, List.take_zero, List.drop_succ_cons, List.drop_zero, List.append_nil, Nat.zero_add]
  simp only [i135, Out, resAll, geto, ints, List.getElem?_cons_zero, List.getElem?_cons_succ, resOf, outOf, snap, snapL, ev, getE, List.mapM_cons, List.mapM_nil, Option.bind_some, Option.pure_def, Option.bind_eq_bind, Option.map_some, reduceIte, Nat.reduceEqDiff, true_and, and_true, subD2, wdI, wdC]
end
theorem subU3 {a b c : AV} : sub true 3 [a, b, c] 0 = some (.agg [a, b, c]) := rfl
def sgnI (z : Int) : Int := if z = 0 then 0 else if z < 0 then -1 else 1
section
variable {E : CallRel}
theorem c163_ok {z : Int} : Go.V.Call tab E 163 [.agg (wdI z)] [] (.int .i64 (sgnI z)) [] := by
  refine Go.V.Call.mach i163 c163 rfl rfl rfl rfl ?_
  have he : strOp .eq (dec z.natAbs) ⟨#[48]⟩ = some (.bool (decide (z.natAbs = 0))) := dec_eqB (b := 0)
  by_cases h0 : z = 0
  · subst h0
    have he' : strOp .eq (dec (Int.natAbs 0)) ⟨#[48]⟩ = some (.bool true) := he
    simp only [c163, wdI, wdC, go_sem, fillAll, fillIn, shiftR, shiftV, List.take_succ_cons, List.take_zero, List.drop_succ_cons, List.drop_zero, List.append_nil, Nat.zero_add, subD0, subD1, he']
    simp only [i163, Out, resAll, geto, ints, List.getElem?_cons_zero, List.getElem?_cons_succ, resOf, outOf, snap, snapL, ev, getE, List.mapM_cons, List.mapM_nil, Option.bind_some, Option.pure_def, Option.bind_eq_bind, Option.map_some, reduceIte, Nat.reduceEqDiff, true_and, and_true, sgnI, if_true]
  · rw [decide_eq_false (by omega)] at he
    by_cases h1 : z < 0
    · have hd : decide (z < 0) = true := decide_eq_true h1
      simp only [c163, wdI, wdC, hd, go_sem, fillAll, fillIn, shiftR, shiftV, List.take_succ_cons, List.take_zero, List.drop_succ_cons, List.drop_zero, List.append_nil, Nat.zero_add, subD0, subD1, he]
      simp only [i163, Out, resAll, geto, ints, List.getElem?_cons_zero, List.getElem?_cons_succ, resOf, outOf, snap, snapL, ev, getE, List.mapM_cons, List.mapM_nil, Option.bind_some, Option.pure_def, Option.bind_eq_bind, Option.map_some, reduceIte, Nat.reduceEqDiff, true_and, and_true, sgnI, h0, h1, if_true, if_false]
    · have hd : decide (z < 0) = false := decide_eq_false h1
      simp only [c163, wdI, wdC, hd, go_sem, fillAll, fillIn, shiftR, shiftV, List.take_succ_cons, List.take_zero, List.drop_succ_cons, List.drop_zero, List.append_nil, Nat.zero_add, subD0, subD1, he]
      simp only [i163, Out, resAll, geto, ints, List.getElem?_cons_zero, List.getElem?_cons_succ, resOf, outOf, snap, snapL, ev, getE, List.mapM_cons, List.mapM_nil, Option.bind_some, Option.pure_def, Option.bind_eq_bind, Option.map_some, reduceIte, Nat.reduceEqDiff, true_and, and_true, sgnI, h0, h1, if_false]
theorem c142_ok {a b : Int} : Go.V.Call tab E 142 [.agg (wdI a), .agg (wdI b)] [] (.int .i64 (cmpI a b)) [] := by
  refine Go.V.Call.mach i142 c142 rfl rfl rfl rfl ?_
  have ha := c163_ok (E := E) (z := a)
  have hb := c163_ok (E := E) (z := b)
  have h1 := c164_ok (E := E) (a := a.natAbs) (b := b.natAbs)
  have h2 := c164_ok (E := E) (a := b.natAbs) (b := a.natAbs)
  simp only [wdI, wdC] at ha hb
  by_cases hs : sgnI a = sgnI b
  · have hne : (sgnI a != sgnI b) = false := by rw [hs, bne_self_eq_false]
    have hsd : ((a < 0 ↔ b < 0) ∧ (a = 0 ↔ b = 0)) := by
      unfold sgnI at hs
      split at hs <;> split at hs <;> (try split at hs) <;> (try split at hs) <;> omega
    by_cases hn : a < 0
    · have hd : decide (a < 0) = true := decide_eq_true hn
      have hr : cmpI a b = cmpZ b.natAbs a.natAbs := by unfold cmpI cmpZ; split <;> split <;> (try split) <;> (try split) <;> omega
      rw [hr]
      simp only [hd] at ha
      simp only [c142, wdI, wdC, hd, go_sem, fillAll, fillIn, shiftR, shiftV, List.take_succ_cons, List.take_zero, List.drop_succ_cons, List.drop_zero, List.append_nil, Nat.zero_add, subD0, subD1, subD2]
      refine goP ha ?_
      simp only [go_sem, fillAll, fillIn, shiftR, shiftV, List.take_succ_cons, List.take_zero, List.drop_succ_cons, List.drop_zero, List.append_nil, Nat.zero_add, subD0, subD1, subD2]
      refine goP hb ?_
      simp only [go_sem, fillAll, fillIn, shiftR, shiftV, List.take_succ_cons, List.take_zero, List.drop_succ_cons, List.drop_zero, List.append_nil, Nat.zero_add, subD0, subD1, subD2, hne]
      refine goP h2 ?_
      simp only [go_sem]
      simp only [i142, Out, resAll, geto, ints, List.getElem?_cons_zero, List.getElem?_cons_succ, resOf, outOf, snap, snapL, ev, getE, List.mapM_cons, List.mapM_nil, Option.bind_some, Option.pure_def, Option.bind_eq_bind, Option.map_some, reduceIte, Nat.reduceEqDiff, true_and, and_true]
    · have hd : decide (a < 0) = false := decide_eq_false hn
      have hr : cmpI a b = cmpZ a.natAbs b.natAbs := by unfold cmpI cmpZ; split <;> split <;> (try split) <;> (try split) <;> omega
      rw [hr]
      simp only [hd] at ha
      simp only [c142, wdI, wdC, hd, go_sem, fillAll, fillIn, shiftR, shiftV, List.take_succ_cons, List.take_zero, List.drop_succ_cons, List.drop_zero, List.append_nil, Nat.zero_add, subD0, subD1, subD2]
      refine goP ha ?_
      simp only [go_sem, fillAll, fillIn, shiftR, shiftV, List.take_succ_cons, List.take_zero, List.drop_succ_cons, List.drop_zero, List.append_nil, Nat.zero_add, subD0, subD1, subD2]
      refine goP hb ?_
      simp only [go_sem, fillAll, fillIn, shiftR, shiftV, List.take_succ_cons, List.take_zero, List.drop_succ_cons, List.drop_zero, List.append_nil, Nat.zero_add, subD0, subD1, subD2, hne]
      refine goP h1 ?_
      simp only [go_sem]
      simp only [i142, Out, resAll, geto, ints, List.getElem?_cons_zero, List.getElem?_cons_succ, resOf, outOf, snap, snapL, ev, getE, List.mapM_cons, List.mapM_nil, Option.bind_some, Option.pure_def, Option.bind_eq_bind, Option.map_some, reduceIte, Nat.reduceEqDiff, true_and, and_true]
  · have hne : (sgnI a != sgnI b) = true := by rw [bne_iff_ne]; exact hs
    have hr : cmpI a b = if sgnI a < sgnI b then -1 else 1 := by
      unfold cmpI sgnI at *
      split <;> (try split) <;> (try split) <;> (try split) <;> (try split) <;> (try split) <;> (try split) <;> (try split) <;> first | omega | (exfalso; apply hs; simp_all; done) | (simp_all; omega)
    rw [hr]
    by_cases hl : sgnI a < sgnI b
    · rw [if_pos hl]
      simp only [c142, wdI, wdC, go_sem, fillAll, fillIn, shiftR, shiftV, List.take_succ_cons, List.take_zero, List.drop_succ_cons, List.drop_zero, List.append_nil, Nat.zero_add, subD0, subD1, subD2]
      refine goP ha ?_
      simp only [go_sem, fillAll, fillIn, shiftR, shiftV, List.take_succ_cons, List.take_zero, List.drop_succ_cons, List.drop_zero, List.append_nil, Nat.zero_add, subD0, subD1, subD2]
      refine goP hb ?_
      simp only [go_sem, fillAll, fillIn, shiftR, shiftV, List.take_succ_cons, List.take_zero, List.drop_succ_cons, List.drop_zero, List.append_nil, Nat.zero_add, subD0, subD1, subD2, hne]
      refine goP ha ?_
      simp only [go_sem, fillAll, fillIn, shiftR, shiftV, List.take_succ_cons, List.take_zero, List.drop_succ_cons, List.drop_zero, List.append_nil, Nat.zero_add, subD0, subD1, subD2]
      refine goP hb ?_
      simp only [go_sem, hl]
      simp only [i142, Out, resAll, geto, ints, List.getElem?_cons_zero, List.getElem?_cons_succ, resOf, outOf, snap, snapL, ev, getE, List.mapM_cons, List.mapM_nil, Option.bind_some, Option.pure_def, Option.bind_eq_bind, Option.map_some, reduceIte, Nat.reduceEqDiff, true_and, and_true]
    · rw [if_neg hl]
      simp only [c142, wdI, wdC, go_sem, fillAll, fillIn, shiftR, shiftV, List.take_succ_cons, List.take_zero, List.drop_succ_cons, List.drop_zero, List.append_nil, Nat.zero_add, subD0, subD1, subD2]
      refine goP ha ?_
      simp only [go_sem, fillAll, fillIn, shiftR, shiftV, List.take_succ_cons, List.take_zero, List.drop_succ_cons, List.drop_zero, List.append_nil, Nat.zero_add, subD0, subD1, subD2]
      refine goP hb ?_
      simp only [go_sem, fillAll, fillIn, shiftR, shiftV, List.take_succ_cons, List.take_zero, List.drop_succ_cons, List.drop_zero, List.append_nil, Nat.zero_add, subD0, subD1, subD2, hne]
      refine goP ha ?_
      simp only [go_sem, fillAll, fillIn, shiftR, shiftV, List.take_succ_cons, List.take_zero, List.drop_succ_cons, List.drop_zero, List.append_nil, Nat.zero_add, subD0, subD1, subD2]
      refine goP hb ?_
      simp only [go_sem, hl]
      simp only [i142, Out, resAll, geto, ints, List.getElem?_cons_zero, List.getElem?_cons_succ, resOf, outOf, snap, snapL, ev, getE, List.mapM_cons, List.mapM_nil, Option.bind_some, Option.pure_def, Option.bind_eq_bind, Option.map_some, reduceIte, Nat.reduceEqDiff, true_and, and_true]
theorem sq_len (B : Nat) (hB : ∀ x, x < B → (decL x).length ≤ 2000) {p q : Nat} (hp : p < B) (hq : q < B) : (decL (p * q)).length ≤ 1000000 := by
  have h1 := dgs_len (n := p)
  have h2 := dgs_len (n := q)
  have h3 := hB p hp
  have h4 := hB q hq
  rcases Nat.eq_zero_or_pos (p * q) with h0 | h0
  · rw [h0, decL_digit (by omega)]; simp
  · have h5 := decL_len (n := p * q) (by omega)
    have h6 : p * q < 10 ^ ((decL p).length + (decL q).length) := by
      rw [Nat.pow_add]
      exact Nat.mul_lt_mul'' h1 h2
    have h7 := Nat.lt_of_le_of_lt h5 h6
    have h8 := (Nat.pow_lt_pow_iff_right (by omega : 1 < 10)).1 h7
    omega
theorem c106_ok {x y : Rat} (hx : RtOk (rR x)) (hy : RtOk (rR y)) : Go.V.Call tab E 106 [.agg (numR x), .agg (numR y)] [] (.int .i64 (cmpI (x.num * y.den) (y.num * x.den))) [] := by
  refine Go.V.Call.mach i106 c106 rfl rfl rfl rfl ?_
  have dx : x.den < lim2000 := by have := hx.2; rwa [show dn (rR x).2.2 = x.den from dn_pos x.den_nz] at this
  have dy : y.den < lim2000 := by have := hy.2; rwa [show dn (rR y).2.2 = y.den from dn_pos y.den_nz] at this
  have nx : x.num.natAbs < lim2000 := hx.1
  have ny : y.num.natAbs < lim2000 := hy.1
  have hl := fun (z : Nat) (h : z < lim2000) => lim2000_len h
  have q1 := hl _ dx
  have q2 := hl _ dy
  have q3 := hl _ nx
  have q4 := hl _ ny
  have m1 := sq_len _ hl nx dy
  have m2 := sq_len _ hl ny dx
  have t1 := c134_R (E := E) (r := x) (by omega)
  have t2 := c134_R (E := E) (r := y) (by omega)
  have b1 := c135_ok (E := E) (r := x) (by omega)
  have b2 := c135_ok (E := E) (r := y) (by omega)
  have p1 := c133_ok (E := E) (a := x.num) (b := (y.den : Int)) (by omega) (by rw [natAbs_den]; omega) (by rw [Int.natAbs_mul, natAbs_den]; omega)
  have p2 := c133_ok (E := E) (a := y.num) (b := (x.den : Int)) (by omega) (by rw [natAbs_den]; omega) (by rw [Int.natAbs_mul, natAbs_den]; omega)
  have cc := c142_ok (E := E) (a := x.num * (y.den : Int)) (b := y.num * (x.den : Int))
  clear hx hy dx dy nx ny hl q1 q2 q3 q4 m1 m2
  simp only [numR, numG, wdI, wdC] at t1 t2 b1 b2 p1 p2 cc
  simp only [c106, numR, numG, go_sem, fillAll, fillIn, shiftR, shiftV, List.take_succ_cons, List.take_zero, List.drop_succ_cons, List.drop_zero, List.append_nil, Nat.zero_add, subN2, subU3]
  refine goP t1 ?_
  simp only [go_sem, fillAll, fillIn, shiftR, shiftV, List.take_succ_cons, List.take_zero, List.drop_succ_cons, List.drop_zero, List.append_nil, Nat.zero_add, subN2, subU3]
  refine goP b2 ?_
  simp only [go_sem, fillAll, fillIn, shiftR, shiftV, List.take_succ_cons, List.take_zero, List.drop_succ_cons, List.drop_zero, List.append_nil, Nat.zero_add, subN2, subU3]
  refine goP p1 ?_
  simp only [go_sem, fillAll, fillIn, shiftR, shiftV, List.take_succ_cons, List.take_zero, List.drop_succ_cons, List.drop_zero, List.append_nil, Nat.zero_add, subN2, subU3]
  refine goP t2 ?_
  simp only [go_sem, fillAll, fillIn, shiftR, shiftV, List.take_succ_cons, List.take_zero, List.drop_succ_cons, List.drop_zero, List.append_nil, Nat.zero_add, subN2, subU3]
  refine goP b1 ?_
  simp only [go_sem, fillAll, fillIn, shiftR, shiftV, List.take_succ_cons, List.take_zero, List.drop_succ_cons, List.drop_zero, List.append_nil, Nat.zero_add, subN2, subU3]
  refine goP p2 ?_
  simp only [go_sem, fillAll, fillIn, shiftR, shiftV, List.take_succ_cons, List.take_zero, List.drop_succ_cons, List.drop_zero, List.append_nil, Nat.zero_add, subN2, subU3]
  refine goP cc ?_
  simp only [go_sem]
  simp only [i106, Out, resAll, geto, ints, List.getElem?_cons_zero, List.getElem?_cons_succ, resOf, outOf, snap, snapL, ev, getE, List.mapM_cons, List.mapM_nil, Option.bind_some, Option.pure_def, Option.bind_eq_bind, Option.map_some, reduceIte, Nat.reduceEqDiff, true_and, and_true]
end
theorem cmpI_neg {x y : Int} : cmpI x y < 0 ↔ x < y := by unfold cmpI; split <;> (try split) <;> omega
theorem subR1 {a b c d : AV} : sub false 1 [a, b, c, d] 1 = some b := rfl
theorem subR2 {a b c d : AV} : sub false 1 [a, b, c, d] 2 = some c := rfl
theorem subR3 {a b c d : AV} : sub false 1 [a, b, c, d] 3 = some d := rfl
section
variable {s t : List Int} {ch : Bool} {L : List Rt} {i k N : Nat} {o : Int}
theorem c64_ok (ht : t.length ≤ 1000000) (hL : L.length ≤ 1000000) (hch : (ch = true → L = []) ∧ (ch = false → t = [])) (hred : ∀ x ∈ L, RtRed x) (hi : i < t.length + L.length) (hk : k < t.length + L.length) :
    Go.V.Call tab E 64 [.agg (plX s ch t (L.map toNm)), .int .i64 i, .int .i64 k] [] (.bool (decide (ordV ch t L i t L k < 0))) [] := by
  refine Go.V.Call.mach i64 c64 rfl rfl rfl rfl ?_
  have i0 : (0 : Int) ≤ (i : Int) := by omega
  have k0 : (0 : Int) ≤ (k : Int) := by omega
  cases ch with
  | true =>
    obtain rfl := hch.1 rfl
    simp only [List.length_nil, Nat.add_zero] at hi hk
    have i1 : (i : Int) < (t.length : Int) := by omega
    have k1 : (k : Int) < (t.length : Int) := by omega
    have s1 := sub_nums (k := .i32) (l := t) (i := i) hi
    have s2 := sub_nums (k := .i32) (l := t) (i := k) hk
    have e : decide (ordV true t [] i t [] k < 0) = decide (t.getD i 0 < t.getD k 0) := by
      congr 1
      rw [ordV, if_pos rfl, runeAt, runeAt, if_pos (by omega), if_pos (by omega), Int.toNat_natCast, Int.toNat_natCast]
      exact propext cmpI_neg
    rw [e]
    simp only [c64, plX, runes, ints, go_sem, fillAll, fillIn, shiftR, shiftV, List.take_succ_cons, List.take_zero, List.drop_succ_cons, List.drop_zero, List.append_nil, Nat.zero_add, subP4, subR1, subR2, i0, k0, i1, k1, Int.toNat_natCast, s1, s2]
    simp only [i64, Out, resAll, geto, ints, List.getElem?_cons_zero, List.getElem?_cons_succ, resOf, outOf, snap, snapL, ev, getE, List.mapM_cons, List.mapM_nil, Option.bind_some, Option.pure_def, Option.bind_eq_bind, Option.map_some, reduceIte, Nat.reduceEqDiff, true_and, and_true]
  | false =>
    obtain rfl := hch.2 rfl
    simp only [List.length_nil, Nat.zero_add] at hi hk
    have i1 : (i : Int) < ((L.map toNm).length : Int) := by rw [List.length_map]; omega
    have k1 : (k : Int) < ((L.map toNm).length : Int) := by rw [List.length_map]; omega
    have s1 := sub_nms (l := L.map toNm) (i := i) (by simpa using hi)
    have s2 := sub_nms (l := L.map toNm) (i := k) (by simpa using hk)
    rw [nmAt_map hi] at s1
    rw [nmAt_map hk] at s2
    obtain ⟨r1, r2, r3, r4⟩ := hred _ (rtAt_mem hi)
    obtain ⟨u1, u2, u3, u4⟩ := hred _ (rtAt_mem hk)
    have e : ordV false [] L i [] L k = rcmp (rtAt L i) (rtAt L k) := by
      rw [ordV, if_neg (by simp), pickR, pickR, if_pos (by omega), if_pos (by omega), Int.toNat_natCast, Int.toNat_natCast]
    rw [e]
    have f1 := ofN_rR r2 r3 r4
    have f2 := ofN_rR u2 u3 u4
    generalize ofN (rtAt L i) = x at *
    generalize ofN (rtAt L k) = y at *
    have hc := c106_ok (E := E) (x := x) (y := y) (by rw [f1]; exact r1) (by rw [f2]; exact u1)
    have hr : (rcmp (rtAt L i) (rtAt L k) < 0) ↔ cmpI (x.num * y.den) (y.num * x.den) < 0 := by
      rw [rcmp_sg.1, cmpI_neg, ← f1, ← f2]
      have e1 : ∀ r : Rat, sg (rR r) = r.num := fun r => by
        by_cases h : r.num < 0
        · simp only [sg, rR, decide_eq_true h, if_true]; omega
        · simp only [sg, rR, decide_eq_false h, Bool.false_eq_true, if_false]; omega
      have e2 : ∀ r : Rat, dnI (rR r) = r.den := fun r => by
        simp only [dnI, rR, dn_pos r.den_nz]
      rw [e1, e1, e2, e2]
    rw [show decide (rcmp (rtAt L i) (rtAt L k) < 0) = decide (cmpI (x.num * y.den) (y.num * x.den) < 0) from decide_eq_decide.2 hr]
    rw [← f1, ← numR_nm] at s1
    rw [← f2, ← numR_nm] at s2
    clear hr e f1 f2 r1 u1 r2 r3 r4 u2 u3 u4
    generalize cmpI (x.num * y.den) (y.num * x.den) = cv at *
    simp only [numR, numG] at hc s1 s2
    simp only [c64, plX, runes, ints, go_sem, fillAll, fillIn, shiftR, shiftV, List.take_succ_cons, List.take_zero, List.drop_succ_cons, List.drop_zero, List.append_nil, Nat.zero_add, subP4, subR1, subR3, i0, k0, i1, k1, Int.toNat_natCast, s1, s2]
    refine goP hc ?_
    simp only [go_sem]
    simp only [i64, Out, resAll, geto, ints, List.getElem?_cons_zero, List.getElem?_cons_succ, resOf, outOf, snap, snapL, ev, getE, List.mapM_cons, List.mapM_nil, Option.bind_some, Option.pure_def, Option.bind_eq_bind, Option.map_some, reduceIte, Nat.reduceEqDiff, true_and, and_true]
def grdB (down : Bool) (ch : Bool) (t : List Int) (L : List Rt) (k i : Int) : Bool :=
  if down then decide (ordV ch t L i t L k < 0) || (decide (ordV ch t L i t L k = 0) && decide (k < i)) else decide (ordV ch t L k t L i < 0) || (decide (ordV ch t L k t L i = 0) && decide (k < i))
theorem grdB_iff {down : Bool} {k i : Int} : grdB down ch t L k i = true ↔ grdO down ch t L k i := by
  cases down <;> simp [grdB, grdO, stb]
theorem cnt_ahead {down : Bool} {g : List Int} {n p : Nat} (h1 : g.Perm (rng n)) (h2 : g.Pairwise (grdO down ch t L)) (hO : Ord (grdO down ch t L)) (hp : p < g.length) : (rng n).countP (fun k => grdB down ch t L k (g.getD p 0)) = p := by
  rw [← h1.countP_eq]
  have hsp : g.countP (fun k => grdB down ch t L k (g.getD p 0)) = (g.take p ++ g.getD p 0 :: g.drop (p + 1)).countP (fun k => grdB down ch t L k (g.getD p 0)) := by rw [← getD_drop hp, List.take_append_drop]
  rw [hsp, List.countP_append, List.countP_cons]
  have a1 : (g.take p).countP (fun k => grdB down ch t L k (g.getD p 0)) = (g.take p).length := by
    rw [List.countP_eq_length]
    intro x hx
    obtain ⟨k, k1, k2, rfl⟩ := mem_take hx
    exact grdB_iff.2 (pw_get h2 k1 hp)
  have a2 : (g.drop (p + 1)).countP (fun k => grdB down ch t L k (g.getD p 0)) = 0 := by
    rw [List.countP_eq_zero]
    intro x hx hb
    obtain ⟨k, k1, k2, rfl⟩ := mem_drop hx
    exact hO.irr (hO.tra (pw_get h2 (show p < k by omega) k2) (grdB_iff.1 hb))
  have a3 : ¬ grdB down ch t L (g.getD p 0) (g.getD p 0) = true := fun hb => hO.irr (grdB_iff.1 hb)
  rw [a1, a2, if_neg a3, List.length_take]
  omega
end
end Go.Proofs.YtlejgleocnemoabGreat.I

namespace Go.Proofs.YtlejgleocnemoabGreat.I
open Go Go.V
attribute [local go_sem] mNil nat0 beq_self_eq_true mSkip mRet mExit mReg mSeq mCond mTrue mFalse mBlock mLv mCodeE mCodeR mEndN mEndR mEndE mOps mSome mGuard mGtt mGff mGtf mGft mGu mCallP mCallR mCallF mCallO mCallZ mCallG mCallM mCallV loopQ_exit loopQ_ret mO_mov mO_newnil mO_pick mO_alloc mO_box mO_build mO_bsl mO_bslF mO_ldf mO_ld mO_st mO_sta mO_nilchk mO_bin mO_binb mO_binp mO_bins mO_neg mO_com mO_not mO_conv mO_mk mO_mk0 mO_s2b mO_b2s mO_cpy mO_cut mO_faddr mO_fld mO_iaddr mO_iaddrf mO_sidx mO_len mO_lenf mO_slen mO_scut mO_app mO_ext mO_mx mO_mn mO_mkfn evalOp cutOp argsE ev getE putE cellsOf adopt rowOf binV boolV nilV ar_add ar_sub ar_mul ar_quo ar_rem ar_eq ar_ne ar_lt ar_le ar_gt ar_ge ar_and ar_or ar_xor geto bound finRet finNrm ints List.length_cons List.length_nil List.length_append List.getElem?_cons_zero List.getElem?_cons_succ List.nil_append List.cons_append List.map_cons List.map_nil List.mapM_cons List.mapM_nil Option.map_some Option.map_none Option.bind_some Option.pure_def Option.bind_eq_bind List.drop_zero or_self or_false false_or or_true true_or true_and and_true and_self decide_true decide_false Bool.false_eq_true Bool.true_eq_false Bool.not_true Bool.not_false Nat.le_refl eq_self gt_iff_lt ge_iff_le ne_eq not_true_eq_false not_false_eq_true storeOp apartOf freeze_nil refsL refs List.flatMap_cons List.flatMap_nil List.append_nil List.contains_nil List.set_cons_zero List.set_cons_succ snap snapL fill_nums flat_nums nums_length Go.V.freeze List.mapIdx_cons List.mapIdx_nil List.contains_cons Bool.or_false Bool.false_or Bool.or_true Bool.true_or
def outA (e : Int) (s ks : List Int) (ch : Bool) (t : List Int) (L : List Rt) : List AV := if e = 0 then arrX s ch (picksT ch t ks) (picksR ch L ks) else noA
def outP (e : Int) (s ks : List Int) (ch : Bool) (t : List Int) (l : List Nm) : List AV := if e = 0 then plX s ch (picksT ch t ks) (picksN ch l ks) else noP
def negB (w : List Int) : Bool := w.any fun d => decide (d < 0)
def resE (e0 : Int) (w : List Int) : Int := if e0 ≠ 0 then e0 else if negB w = true then 22 else match count w with | none => if 8 < w.length then 23 else 26 | some _ => 0
def cyc (w : List Int) (len : Nat) : List Int := (List.range (prd w).toNat).map fun i => if len = 0 then (-1 : Int) else ((i % len : Nat) : Int)
end Go.Proofs.YtlejgleocnemoabGreat.I
