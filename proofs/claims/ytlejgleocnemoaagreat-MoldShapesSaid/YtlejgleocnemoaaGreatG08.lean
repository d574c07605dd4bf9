/- The texts L08b L08c WSized LNum, one behind the other. Conditions: each text's own. -/
import Derived.Test.YtlejgleocnemoaaGreatG07
import Derived.SizedLaws
import Derived.ChangeSlices
import Derived.Test.YtlejgleocnemoaaGreatG02
import Derived.Test.YtlejgleocnemoaaGreatG06
import Derived.Deep.Slices
import Derived.Deep.Fields
import Derived.ChangeArms
/- SEAT YtlejgleocnemoaaGreat. Layer 8: other shapes; MoldShapes. -/
set_option linter.unusedVariables false
set_option linter.unusedSimpArgs false
namespace Go.Proofs.YtlejgleocnemoaaGreat.I
open Go Go.V
attribute [local go_sem] mNil nat0 beq_self_eq_true mSkip mRet mExit mReg mSeq mCond mTrue mFalse mBlock mLv mCodeE mCodeR mEndN mEndR mEndE mOps mSome mGuard mGtt mGff mGtf mGft mGu mCallP mCallR mCallF mCallO mCallZ mCallG mCallM mCallV loopQ_exit loopQ_ret mO_mov mO_newnil mO_pick mO_alloc mO_box mO_build mO_bsl mO_bslF mO_ldf mO_ld mO_st mO_sta mO_nilchk mO_bin mO_binb mO_binp mO_bins mO_neg mO_com mO_not mO_conv mO_mk mO_mk0 mO_s2b mO_b2s mO_cpy mO_cut mO_faddr mO_fld mO_iaddr mO_iaddrf mO_sidx mO_len mO_lenf mO_slen mO_scut mO_app mO_ext mO_mx mO_mn mO_mkfn evalOp cutOp argsE ev getE putE cellsOf adopt rowOf binV boolV nilV ar_add ar_sub ar_mul ar_quo ar_rem ar_eq ar_ne ar_lt ar_le ar_gt ar_ge ar_and ar_or ar_xor geto bound finRet finNrm ints List.length_cons List.length_nil List.length_append List.getElem?_cons_zero List.getElem?_cons_succ List.nil_append List.cons_append List.map_cons List.map_nil List.mapM_cons List.mapM_nil Option.map_some Option.map_none Option.bind_some Option.pure_def Option.bind_eq_bind List.drop_zero or_self or_false false_or or_true true_or true_and and_true and_self decide_true decide_false Bool.false_eq_true Bool.true_eq_false Bool.not_true Bool.not_false Nat.le_refl eq_self gt_iff_lt ge_iff_le ne_eq not_true_eq_false not_false_eq_true storeOp apartOf freeze_nil refsL refs List.flatMap_cons List.flatMap_nil List.append_nil List.contains_nil List.set_cons_zero List.set_cons_succ snap snapL fill_nums flat_nums nums_length Go.V.freeze List.mapIdx_cons List.mapIdx_nil List.contains_cons Bool.or_false Bool.false_or Bool.or_true Bool.true_or
theorem count_nat {s : List Int} {m : Int} (h : count s = some m) : ∃ n : Nat, m = n ∧ n ≤ 4096 ∧ s.length ≤ 8 ∧ prd s = n := by
  obtain ⟨h1, h2, h3⟩ := count_bound h
  have h4 := h3 s.length
  rw [List.take_length, ← count_prd h] at h4
  exact ⟨m.toNat, by omega, by omega, h1, by rw [← count_prd h]; omega⟩
theorem fits_of {s : List Int} {n : Nat} (h : count s = some (n : Int)) : fits s n = true := by rw [fits, h]; simp
/-- A row that is filled from its start on. -/
theorem fill_row {ks : List Int} {i n : Nat} (hn : ks.length = n) (hi : i < n) : (ks.take i ++ List.replicate (n - i) 0).take i ++ ks.getD i 0 :: (ks.take i ++ List.replicate (n - i) 0).drop (i + 1) = ks.take (i + 1) ++ List.replicate (n - (i + 1)) 0 := by
  have h1 : (ks.take i).length = i := by rw [List.length_take]; omega
  rw [List.take_left' h1, List.drop_append, h1, List.drop_eq_nil_of_le (by omega), List.nil_append, List.drop_replicate, take_snoc (by omega), List.append_assoc]
  rw [show n - i - (i + 1 - i) = n - (i + 1) by omega]
  rfl
theorem row_len {ks : List Int} {i n : Nat} (hn : ks.length = n) (hi : i ≤ n) : (ks.take i ++ List.replicate (n - i) 0).length = n := by
  rw [List.length_append, List.length_take, List.length_replicate]; omega
theorem set_twice {y : List Int} {m : Nat} {v u : Int} (h : m < y.length) : (y.take m ++ v :: y.drop (m + 1)).take m ++ u :: (y.take m ++ v :: y.drop (m + 1)).drop (m + 1) = y.take m ++ u :: y.drop (m + 1) := by
  have h1 : (y.take m).length = m := by rw [List.length_take]; omega
  rw [List.take_left' h1, List.drop_append, h1, List.drop_eq_nil_of_le (by omega), List.nil_append, show m + 1 - m = 1 by omega]
  rfl
/-- An array of picks, or none. -/
def outA (e : Int) (s ks : List Int) (ch : Bool) (t : List Int) (L : List Rt) : List AV := if e = 0 then arrX s ch (picksT ch t ks) (picksR ch L ks) else noA
def outP (e : Int) (s ks : List Int) (ch : Bool) (t : List Int) (l : List Nm) : List AV := if e = 0 then plX s ch (picksT ch t ks) (picksN ch l ks) else noP
def negB (w : List Int) : Bool := w.any fun d => decide (d < 0)
def resE (e0 : Int) (w : List Int) : Int := if e0 ≠ 0 then e0 else if negB w = true then 22 else match count w with | none => if 8 < w.length then 23 else 26 | some _ => 0
def cyc (w : List Int) (len : Nat) : List Int := (List.range (prd w).toNat).map fun i => if len = 0 then (-1 : Int) else ((i % len : Nat) : Int)
theorem cyc_len {w : List Int} {len : Nat} : (cyc w len).length = (prd w).toNat := by simp [cyc]
theorem cyc_get {w : List Int} {len i : Nat} (h : i < (prd w).toNat) : (cyc w len).getD i 0 = if len = 0 then (-1 : Int) else ((i % len : Nat) : Int) := by simp [cyc, List.getD, h]
theorem negB_take {w : List Int} {i : Nat} (h : ∀ d ∈ w.take i, 0 ≤ d) (hi : i < w.length) (hd : w.getD i 0 < 0) : negB w = true := by
  rw [negB, List.any_eq_true]
  exact ⟨w.getD i 0, by simp [List.getD, hi], by simpa using hd⟩
theorem negB_no {w : List Int} (h : ∀ d ∈ w, 0 ≤ d) : negB w = false := by
  rw [← Bool.not_eq_true, negB, List.any_eq_true]
  rintro ⟨d, hd, hn⟩
  have := h d hd
  simp at hn
  omega
set_option maxHeartbeats 1000000 in
theorem c33_ok {sb tb s t : List Int} {cb ch : Bool} {Lb L : List Rt} (hsb : (sb.length : Int) ≤ 1000000000) (htb : (tb.length : Int) ≤ 1000000000) (hlb : (Lb.length : Int) ≤ 1000000000)
    (hs : (s.length : Int) ≤ 1000000000) (ht : (t.length : Int) ≤ 1000000000) (hl : (L.length : Int) ≤ 1000000000) :
    Go.V.Call tab E 33 [.agg (arrX sb cb tb Lb), .agg (arrX s ch t L)] [] (.tup [.agg (outA (resE (lisE sb cb tb Lb) (lisV sb cb tb Lb)) (lisV sb cb tb Lb) (cyc (lisV sb cb tb Lb) (t.length + L.length)) ch t L), .int .i64 (resE (lisE sb cb tb Lb) (lisV sb cb tb Lb))]) [] := by
  refine Go.V.Call.mach i33 c33 rfl rfl rfl rfl ?_
  have h89 := c89_ok (s := sb) (t := tb) (ch := cb) (L := Lb) hsb (by omega) (by omega)
  have hw64 : ∀ d ∈ lisV sb cb tb Lb, In64 d := fun d hd => by
    unfold lisV at hd
    split at hd
    · obtain ⟨x, _, rfl⟩ := List.mem_map.1 hd; exact rv_64
    · simp at hd
  have hwl : ((lisV sb cb tb Lb).length : Int) ≤ 1000000000 := by
    unfold lisV
    split <;> simp <;> omega
  have h55 := c55_X (s := s) (t := t) (l := L) (ch := ch) (by omega) (by omega)
  generalize hwd : lisV sb cb tb Lb = w at *
  generalize hed : lisE sb cb tb Lb = e0 at *
  clear hwd hed
  obtain ⟨len, hlen⟩ : ∃ len, len = t.length + L.length := ⟨_, rfl⟩
  rw [← hlen] at h55 ⊢
  simp only [arrX, runes, ints, rowI] at h89 h55
  by_cases he : e0 = 0
  · subst he
    have q0 : ((0 : Int) != 0) = false := rfl
    simp only [c33, arrX, runes, ints, go_sem, ↓reduceIte, Nat.reduceEqDiff, Nat.reduceAdd, Nat.reduceMul, Nat.reduceLeDiff, Nat.reduceLT, Int.reduceToNat, Int.reduceLT, Int.reduceLE, reduceCtorEq, Nat.reduceBEq, fillAll, fillIn, shiftR, shiftV, List.take_succ_cons, List.take_zero, List.drop_succ_cons, List.drop_zero, List.append_nil, Nat.zero_add, subA5]
    refine goO h89 rfl rfl ?_
    simp only [go_sem, ↓reduceIte, Nat.reduceEqDiff, Nat.reduceAdd, Nat.reduceMul, Nat.reduceLeDiff, Nat.reduceLT, Int.reduceToNat, Int.reduceLT, Int.reduceLE, reduceCtorEq, Nat.reduceBEq, fillAll, fillIn, shiftR, shiftV, List.take_succ_cons, List.take_zero, List.drop_succ_cons, List.drop_zero, List.append_nil, Nat.zero_add, subA5, q0]
    refine mLoop (fun N st => ∃ i : Nat, i ≤ w.length ∧ N = w.length - i ∧ (∀ d ∈ w.take i, 0 ≤ d) ∧
      st = ⟨[(3, .loc 1 0 0), (4, .loc 5 0 0), (6, .arr 6 0), (23, .arr 6 0), (24, .int .i64 w.length), (25, .int .i64 i)],
        [⟨true, 35, 5, 0, 1, arrX sb cb tb Lb, false⟩, ⟨true, 35, 5, 0, 1, arrX s ch t L, false⟩, ⟨false, 3, 1, 0, 0, [], false⟩, ⟨false, 21, 1, 0, 0, [], false⟩, ⟨false, 98, 3, 0, 0, [], false⟩,
         ⟨true, 35, 5, 0, 1, [.arr 2 0, .bool false, .arr 3 0, .arr 4 0, .bool false], false⟩, ⟨false, 3, 1, 0, w.length, nums .i64 w, false⟩]⟩) w.length
      ⟨_, rfl, 0, by omega, by omega, fun x hx => by simp at hx, by simp [getE, arrX, runes, ints]⟩ ?_
    rintro N s0 ⟨i, hi, rfl, hneg, rfl⟩
    by_cases hlt : i < w.length
    · have hlt' : (i : Int) < (w.length : Int) := by omega
      have hi0 : (0 : Int) ≤ (i : Int) := by omega
      have hi1 : IntKind.i64.wrap ((i : Int) + 1) = ((i + 1 : Nat) : Int) := by rw [wrap_i64 (by omega) (by omega)]; omega
      have hsub := sub_nums (k := .i64) hlt
      by_cases hd : w.getD i 0 < 0
      · have hr : resE 0 w = 22 := by rw [resE, if_neg (by omega), if_pos (negB_take hneg hlt hd)]
        simp only [b33_0, arrX, runes, ints, go_sem, ↓reduceIte, Nat.reduceEqDiff, Nat.reduceAdd, Nat.reduceMul, Nat.reduceLeDiff, Nat.reduceLT, Int.reduceToNat, Int.reduceLT, Int.reduceLE, reduceCtorEq, Nat.reduceBEq, fillAll, fillIn, shiftR, shiftV, List.take_succ_cons, List.take_zero, List.drop_succ_cons, List.drop_zero, List.append_nil, Nat.zero_add, hlt', hi0, Int.toNat_natCast, hsub, hd]
        simp only [i33, Out, resAll, geto, ints, List.getElem?_cons_zero, List.getElem?_cons_succ, resOf, outOf, snap, snapL, ev, getE, List.mapM_cons, List.mapM_nil, Option.bind_some, Option.pure_def, Option.bind_eq_bind, Option.map_some, reduceIte, Nat.reduceEqDiff, true_and, and_true, subA5, hr, outA, noA]
        rfl
      · simp only [b33_0, arrX, runes, ints, go_sem, ↓reduceIte, Nat.reduceEqDiff, Nat.reduceAdd, Nat.reduceMul, Nat.reduceLeDiff, Nat.reduceLT, Int.reduceToNat, Int.reduceLT, Int.reduceLE, reduceCtorEq, Nat.reduceBEq, hlt', hi0, Int.toNat_natCast, hsub, hd, hi1]
        refine loopQ_go rfl (w.length - (i + 1)) (by omega) ⟨i + 1, by omega, rfl, ?_, by simp only [arrX, runes, ints]; rfl⟩
        intro d hdm
        rw [take_snoc hlt] at hdm
        rcases List.mem_append.1 hdm with h | h
        · exact hneg d h
        · have := List.mem_singleton.1 h; omega
    · have hlt' : ¬ (i : Int) < (w.length : Int) := by omega
      obtain rfl : i = w.length := by omega
      rw [List.take_length] at hneg
      have hnb := negB_no hneg
      have h90 := c90_ok (E := E) hw64 (by omega)
      simp only [ints] at h90
      cases hc : count w with
      | none =>
        rw [hc] at h90
        simp only [optP] at h90
        by_cases h8 : 8 < w.length
        · have h8' : (8 : Int) < (w.length : Int) := by omega
          have hr : resE 0 w = 23 := by rw [resE, if_neg (by omega), if_neg (by rw [hnb]; simp), hc]; exact if_pos h8
          simp only [b33_0, k33_1, arrX, runes, ints, go_sem, ↓reduceIte, Nat.reduceEqDiff, Nat.reduceAdd, Nat.reduceMul, Nat.reduceLeDiff, Nat.reduceLT, Int.reduceToNat, Int.reduceLT, Int.reduceLE, reduceCtorEq, Nat.reduceBEq, fillAll, fillIn, shiftR, shiftV, List.take_succ_cons, List.take_zero, List.drop_succ_cons, List.drop_zero, List.append_nil, Nat.zero_add, hlt', Int.lt_irrefl]
          refine goR h90 rfl ?_
          simp only [go_sem, ↓reduceIte, Nat.reduceEqDiff, Nat.reduceAdd, Nat.reduceMul, Nat.reduceLeDiff, Nat.reduceLT, Int.reduceToNat, Int.reduceLT, Int.reduceLE, reduceCtorEq, Nat.reduceBEq, fillAll, fillIn, shiftR, shiftV, List.take_succ_cons, List.take_zero, List.drop_succ_cons, List.drop_zero, List.append_nil, Nat.zero_add, h8']
          simp only [i33, Out, resAll, geto, ints, List.getElem?_cons_zero, List.getElem?_cons_succ, resOf, outOf, snap, snapL, ev, getE, List.mapM_cons, List.mapM_nil, Option.bind_some, Option.pure_def, Option.bind_eq_bind, Option.map_some, reduceIte, Nat.reduceEqDiff, true_and, and_true, subA5, hr, outA, noA]
          rfl
        · have h8' : ¬ (8 : Int) < (w.length : Int) := by omega
          have hr : resE 0 w = 26 := by rw [resE, if_neg (by omega), if_neg (by rw [hnb]; simp), hc]; exact if_neg h8
          simp only [b33_0, k33_1, arrX, runes, ints, go_sem, ↓reduceIte, Nat.reduceEqDiff, Nat.reduceAdd, Nat.reduceMul, Nat.reduceLeDiff, Nat.reduceLT, Int.reduceToNat, Int.reduceLT, Int.reduceLE, reduceCtorEq, Nat.reduceBEq, fillAll, fillIn, shiftR, shiftV, List.take_succ_cons, List.take_zero, List.drop_succ_cons, List.drop_zero, List.append_nil, Nat.zero_add, hlt', Int.lt_irrefl]
          refine goR h90 rfl ?_
          simp only [go_sem, ↓reduceIte, Nat.reduceEqDiff, Nat.reduceAdd, Nat.reduceMul, Nat.reduceLeDiff, Nat.reduceLT, Int.reduceToNat, Int.reduceLT, Int.reduceLE, reduceCtorEq, Nat.reduceBEq, fillAll, fillIn, shiftR, shiftV, List.take_succ_cons, List.take_zero, List.drop_succ_cons, List.drop_zero, List.append_nil, Nat.zero_add, h8']
          simp only [i33, Out, resAll, geto, ints, List.getElem?_cons_zero, List.getElem?_cons_succ, resOf, outOf, snap, snapL, ev, getE, List.mapM_cons, List.mapM_nil, Option.bind_some, Option.pure_def, Option.bind_eq_bind, Option.map_some, reduceIte, Nat.reduceEqDiff, true_and, and_true, subA5, hr, outA, noA]
          rfl
      | some m =>
        obtain ⟨n, rfl, hn4, hw8, hp⟩ := count_nat hc
        have hr : resE 0 w = 0 := by rw [resE, if_neg (by omega), if_neg (by rw [hnb]; simp), hc]
        rw [hc] at h90
        simp only [optP] at h90
        have hkl : (cyc w len).length = n := by rw [cyc_len, hp]; rfl
        have hkg : ∀ i, i < n → (cyc w len).getD i 0 = if len = 0 then (-1 : Int) else ((i % len : Nat) : Int) := fun i hi => cyc_get (by rw [hp]; exact hi)
        rw [hr]
        generalize cyc w len = ks at *
        have h91 := c91_ok (s := s) (t := t) (s' := w) (ks := ks) (L := L) (ch := ch) hw64 (by omega) (by omega) (by omega) (by omega)
        rw [hkl, fits_of hc] at h91
        simp only [if_true, arrX, runes, ints] at h91
        have b1 : (0 : Int) ≤ (n : Int) := by omega
        have b2 : 8 * n ≤ 140737488355328 := by omega
        have b3 : (n : Int) ≤ 140737488355328 := by omega
        simp only [b33_0, k33_1, arrX, runes, ints, go_sem, ↓reduceIte, Nat.reduceEqDiff, Nat.reduceAdd, Nat.reduceMul, Nat.reduceLeDiff, Nat.reduceLT, Int.reduceToNat, Int.reduceLT, Int.reduceLE, reduceCtorEq, Nat.reduceBEq, fillAll, fillIn, shiftR, shiftV, List.take_succ_cons, List.take_zero, List.drop_succ_cons, List.drop_zero, List.append_nil, Nat.zero_add, hlt', Int.lt_irrefl]
        refine goR h90 rfl ?_
        simp only [go_sem, ↓reduceIte, Nat.reduceEqDiff, Nat.reduceAdd, Nat.reduceMul, Nat.reduceLeDiff, Nat.reduceLT, Int.reduceToNat, Int.reduceLT, Int.reduceLE, reduceCtorEq, Nat.reduceBEq, fillAll, fillIn, shiftR, shiftV, List.take_succ_cons, List.take_zero, List.drop_succ_cons, List.drop_zero, List.append_nil, Nat.zero_add, b1, b2, b3, Int.toNat_natCast, flat_nums]
        refine mLoop (fun N st => ∃ i : Nat, i ≤ n ∧ N = n - i ∧
          st = ⟨[(3, .loc 1 0 0), (4, .loc 5 0 0), (6, .arr 6 0), (12, .arr 7 0), (54, .int .i64 n), (55, .int .i64 i)],
            [⟨true, 35, 5, 0, 1, arrX sb cb tb Lb, false⟩, ⟨true, 35, 5, 0, 1, arrX s ch t L, false⟩, ⟨false, 3, 1, 0, 0, [], false⟩, ⟨false, 21, 1, 0, 0, [], false⟩, ⟨false, 98, 3, 0, 0, [], false⟩,
             ⟨true, 35, 5, 0, 1, [.arr 2 0, .bool false, .arr 3 0, .arr 4 0, .bool false], false⟩, ⟨false, 3, 1, 0, w.length, nums .i64 w, false⟩, ⟨false, 3, 1, 0, n, nums .i64 (ks.take i ++ List.replicate (n - i) 0), false⟩]⟩) n
          ⟨_, rfl, 0, by omega, by omega, by simp [getE, arrX, runes, ints]⟩ ?_
        clear hi hlt hlt' hneg
        rintro N s0 ⟨i, hi, rfl, rfl⟩
        by_cases hlt : i < n
        · have hlt' : (i : Int) < (n : Int) := by omega
          have hi0 : (0 : Int) ≤ (i : Int) := by omega
          have hi1 : IntKind.i64.wrap ((i : Int) + 1) = ((i + 1 : Nat) : Int) := by rw [wrap_i64 (by omega) (by omega)]; omega
          have hyl := row_len (i := i) hkl (by omega)
          have hfill := fill_row hkl hlt
          have hv := hkg i hlt
          rw [hv] at hfill
          generalize ks.take i ++ List.replicate (n - i) 0 = Y at *
          have t1 : i * 1 + 1 ≤ Y.length := by omega
          have t2 : i * 1 + 1 ≤ (Y.take i).length + ((Y.drop (i + 1)).length + 1) := by rw [List.length_take, List.length_drop]; omega
          by_cases hz : len = 0
          · have hz' : ¬ (0 : Int) < (len : Int) := by omega
            rw [if_pos hz] at hfill
            simp only [b33_1, arrX, runes, ints, go_sem, ↓reduceIte, Nat.reduceEqDiff, Nat.reduceAdd, Nat.reduceMul, Nat.reduceLeDiff, Nat.reduceLT, Int.reduceToNat, Int.reduceLT, Int.reduceLE, reduceCtorEq, Nat.reduceBEq, subA5, hlt', hi0, Int.toNat_natCast, t1]
            refine goP h55 ?_
            simp only [go_sem, ↓reduceIte, Nat.reduceEqDiff, Nat.reduceAdd, Nat.reduceMul, Nat.reduceLeDiff, Nat.reduceLT, Int.reduceToNat, Int.reduceLT, Int.reduceLE, reduceCtorEq, Nat.reduceBEq, hz', hi1]
            refine loopQ_go rfl (n - (i + 1)) (by omega) ⟨i + 1, by omega, rfl, ?_⟩
            rw [hfill]
            simp only [arrX, runes, ints]
            rfl
          · have hz' : (0 : Int) < (len : Int) := by omega
            have hz2 : ¬ (len : Int) = 0 := by omega
            rw [if_neg hz] at hfill
            have hst := set_twice (y := Y) (m := i) (v := -1) (u := ((i % len : Nat) : Int)) (by omega)
            have hmod := tmodN i len
            simp only [b33_1, arrX, runes, ints, go_sem, ↓reduceIte, Nat.reduceEqDiff, Nat.reduceAdd, Nat.reduceMul, Nat.reduceLeDiff, Nat.reduceLT, Int.reduceToNat, Int.reduceLT, Int.reduceLE, reduceCtorEq, Nat.reduceBEq, subA5, hlt', hi0, Int.toNat_natCast, t1]
            refine goP h55 ?_
            simp only [go_sem, ↓reduceIte, Nat.reduceEqDiff, Nat.reduceAdd, Nat.reduceMul, Nat.reduceLeDiff, Nat.reduceLT, Int.reduceToNat, Int.reduceLT, Int.reduceLE, reduceCtorEq, Nat.reduceBEq, subA5, hz']
            refine goP h55 ?_
            simp only [go_sem, ↓reduceIte, Nat.reduceEqDiff, Nat.reduceAdd, Nat.reduceMul, Nat.reduceLeDiff, Nat.reduceLT, Int.reduceToNat, Int.reduceLT, Int.reduceLE, reduceCtorEq, Nat.reduceBEq, hz', hz2, hmod, hi1, hlt', hi0, Int.toNat_natCast, t2, hst]
            refine loopQ_go rfl (n - (i + 1)) (by omega) ⟨i + 1, by omega, rfl, ?_⟩
            rw [hfill]
            simp only [arrX, runes, ints]
            rfl
        · have hlt' : ¬ (i : Int) < (n : Int) := by omega
          obtain rfl : i = n := by omega
          have hfin : ks.take i ++ List.replicate (i - i) 0 = ks := by rw [Nat.sub_self, List.replicate_zero, List.append_nil, List.take_of_length_le (by omega)]
          rw [hkl] at h91
          simp only [b33_1, k33_0, arrX, runes, ints, go_sem, ↓reduceIte, Nat.reduceEqDiff, Nat.reduceAdd, Nat.reduceMul, Nat.reduceLeDiff, Nat.reduceLT, Int.reduceToNat, Int.reduceLT, Int.reduceLE, reduceCtorEq, Nat.reduceBEq, fillAll, fillIn, shiftR, shiftV, List.take_succ_cons, List.take_zero, List.drop_succ_cons, List.drop_zero, List.append_nil, Nat.zero_add, subA5, hlt', Int.lt_irrefl, hfin]
          refine goF h91 ?_
          simp only [go_sem, ↓reduceIte, Nat.reduceEqDiff, Nat.reduceAdd, Nat.reduceMul, Nat.reduceLeDiff, Nat.reduceLT, Int.reduceToNat, Int.reduceLT, Int.reduceLE, reduceCtorEq, Nat.reduceBEq, fillAll, fillIn, shiftR, shiftV, List.take_succ_cons, List.take_zero, List.drop_succ_cons, List.drop_zero, List.append_nil, Nat.zero_add, subA5]
          simp only [i33, Out, resAll, geto, ints, List.getElem?_cons_zero, List.getElem?_cons_succ, resOf, outOf, snap, snapL, ev, getE, List.mapM_cons, List.mapM_nil, Option.bind_some, Option.pure_def, Option.bind_eq_bind, Option.map_some, reduceIte, Nat.reduceEqDiff, true_and, and_true, subA5, outA, arrX, runes, ints, if_true]
  · have q0 : (e0 != 0) = true := by rw [bne_iff_ne]; exact he
    have hr : resE e0 w = e0 := if_pos he
    simp only [c33, arrX, runes, ints, go_sem, ↓reduceIte, Nat.reduceEqDiff, Nat.reduceAdd, Nat.reduceMul, Nat.reduceLeDiff, Nat.reduceLT, Int.reduceToNat, Int.reduceLT, Int.reduceLE, reduceCtorEq, Nat.reduceBEq, fillAll, fillIn, shiftR, shiftV, List.take_succ_cons, List.take_zero, List.drop_succ_cons, List.drop_zero, List.append_nil, Nat.zero_add, subA5]
    refine goO h89 rfl rfl ?_
    simp only [go_sem, ↓reduceIte, Nat.reduceEqDiff, Nat.reduceAdd, Nat.reduceMul, Nat.reduceLeDiff, Nat.reduceLT, Int.reduceToNat, Int.reduceLT, Int.reduceLE, reduceCtorEq, Nat.reduceBEq, fillAll, fillIn, shiftR, shiftV, List.take_succ_cons, List.take_zero, List.drop_succ_cons, List.drop_zero, List.append_nil, Nat.zero_add, subA5, q0]
    simp only [i33, Out, resAll, geto, ints, List.getElem?_cons_zero, List.getElem?_cons_succ, resOf, outOf, snap, snapL, ev, getE, List.mapM_cons, List.mapM_nil, Option.bind_some, Option.pure_def, Option.bind_eq_bind, Option.map_some, reduceIte, Nat.reduceEqDiff, true_and, and_true, subA5, hr, outA, he, if_false, noA]
set_option maxHeartbeats 1000000 in
theorem c34_ok {sb tb s t : List Int} {cb ch : Bool} {Lb : List Rt} {l : List Nm} (hsb : (sb.length : Int) ≤ 1000000000) (htb : (tb.length : Int) ≤ 1000000000) (hlb : (Lb.length : Int) ≤ 1000000000) (hlk : ∀ x ∈ Lb, RtOk x) (hcb : (cb = true → Lb = []) ∧ (cb = false → tb = []))
    (hs : (s.length : Int) ≤ 1000000000) (ht : (t.length : Int) ≤ 1000000000) (hl : (l.length : Int) ≤ 1000000000) (hch : (ch = true → l = []) ∧ (ch = false → t = [])) :
    Go.V.Call tab E 34 [.agg (plX sb cb tb (Lb.map toNm)), .agg (plX s ch t l)] [] (.tup [.agg (outP (resE (lisE sb cb tb Lb) (lisV sb cb tb Lb)) (lisV sb cb tb Lb) (cyc (lisV sb cb tb Lb) (t.length + l.length)) ch t l), .int .i64 (resE (lisE sb cb tb Lb) (lisV sb cb tb Lb))]) [] := by
  refine Go.V.Call.mach i34 c34 rfl rfl rfl rfl ?_
  have h92 := c92_ok (s := sb) (t := tb) (ch := cb) (L := Lb) hsb (by omega) (by omega) hlk hcb
  have hw64 : ∀ d ∈ lisV sb cb tb Lb, In64 d := fun d hd => by
    unfold lisV at hd
    split at hd
    · obtain ⟨x, _, rfl⟩ := List.mem_map.1 hd; exact rv_64
    · simp at hd
  have hwl : ((lisV sb cb tb Lb).length : Int) ≤ 1000000000 := by
    unfold lisV
    split <;> simp <;> omega
  have h20 := c20_ok (s := s) (t := t) (l := l) (ch := ch) (by omega) (by omega)
  generalize hwd : lisV sb cb tb Lb = w at *
  generalize hed : lisE sb cb tb Lb = e0 at *
  clear hwd hed
  obtain ⟨len, hlen⟩ : ∃ len, len = t.length + l.length := ⟨_, rfl⟩
  rw [← hlen] at h20 ⊢
  have hlm : (Lb.map toNm).length = Lb.length := by simp
  simp only [plX, runes, ints] at h92 h20
  by_cases he : e0 = 0
  · subst he
    have q0 : ((0 : Int) != 0) = false := rfl
    simp only [c34, plX, runes, ints, go_sem, ↓reduceIte, Nat.reduceEqDiff, Nat.reduceAdd, Nat.reduceMul, Nat.reduceLeDiff, Nat.reduceLT, Int.reduceToNat, Int.reduceLT, Int.reduceLE, reduceCtorEq, Nat.reduceBEq, fillAll, fillIn, shiftR, shiftV, List.take_succ_cons, List.take_zero, List.drop_succ_cons, List.drop_zero, List.append_nil, Nat.zero_add, subP4]
    refine goP h92 ?_
    simp only [go_sem, ↓reduceIte, Nat.reduceEqDiff, Nat.reduceAdd, Nat.reduceMul, Nat.reduceLeDiff, Nat.reduceLT, Int.reduceToNat, Int.reduceLT, Int.reduceLE, reduceCtorEq, Nat.reduceBEq, fillAll, fillIn, shiftR, shiftV, List.take_succ_cons, List.take_zero, List.drop_succ_cons, List.drop_zero, List.append_nil, Nat.zero_add, subP4, q0]
    refine mLoop (fun N st => ∃ i : Nat, i ≤ w.length ∧ N = w.length - i ∧ (∀ d ∈ w.take i, 0 ≤ d) ∧
      st = ⟨[(3, .loc 1 0 0), (4, .loc 5 0 0), (6, ints w), (8, .int .i64 i)],
        [⟨true, 26, 4, 0, 1, plX sb cb tb (Lb.map toNm), false⟩, ⟨true, 26, 4, 0, 1, plX s ch t l, false⟩, ⟨false, 3, 1, 0, 0, [], false⟩, ⟨false, 21, 1, 0, 0, [], false⟩, ⟨false, 72, 3, 0, 0, [], false⟩,
         ⟨true, 26, 4, 0, 1, [.arr 2 0, .bool false, .arr 3 0, .arr 4 0], false⟩]⟩) w.length
      ⟨_, rfl, 0, by omega, by omega, fun x hx => by simp at hx, by simp [getE, plX, runes, ints]⟩ ?_
    rintro N s0 ⟨i, hi, rfl, hneg, rfl⟩
    by_cases hlt : i < w.length
    · have hlt' : (i : Int) < (w.length : Int) := by omega
      have hi0 : (0 : Int) ≤ (i : Int) := by omega
      have hi1 : IntKind.i64.wrap ((i : Int) + 1) = ((i + 1 : Nat) : Int) := by rw [wrap_i64 (by omega) (by omega)]; omega
      have hsub := sub_nums (k := .i64) hlt
      by_cases hd : w.getD i 0 < 0
      · have hr : resE 0 w = 22 := by rw [resE, if_neg (by omega), if_pos (negB_take hneg hlt hd)]
        simp only [b34_0, plX, runes, ints, go_sem, ↓reduceIte, Nat.reduceEqDiff, Nat.reduceAdd, Nat.reduceMul, Nat.reduceLeDiff, Nat.reduceLT, Int.reduceToNat, Int.reduceLT, Int.reduceLE, reduceCtorEq, Nat.reduceBEq, fillAll, fillIn, shiftR, shiftV, List.take_succ_cons, List.take_zero, List.drop_succ_cons, List.drop_zero, List.append_nil, Nat.zero_add, hlt', hi0, Int.toNat_natCast, hsub, hd]
        simp only [i34, Out, resAll, geto, ints, List.getElem?_cons_zero, List.getElem?_cons_succ, resOf, outOf, snap, snapL, ev, getE, List.mapM_cons, List.mapM_nil, Option.bind_some, Option.pure_def, Option.bind_eq_bind, Option.map_some, reduceIte, Nat.reduceEqDiff, true_and, and_true, subP4, hr, outP, noP, plX]
        rfl
      · simp only [b34_0, plX, runes, ints, go_sem, ↓reduceIte, Nat.reduceEqDiff, Nat.reduceAdd, Nat.reduceMul, Nat.reduceLeDiff, Nat.reduceLT, Int.reduceToNat, Int.reduceLT, Int.reduceLE, reduceCtorEq, Nat.reduceBEq, hlt', hi0, Int.toNat_natCast, hsub, hd, hi1]
        refine loopQ_go rfl (w.length - (i + 1)) (by omega) ⟨i + 1, by omega, rfl, ?_, by simp only [plX, runes, ints]; rfl⟩
        intro d hdm
        rw [take_snoc hlt] at hdm
        rcases List.mem_append.1 hdm with h | h
        · exact hneg d h
        · have := List.mem_singleton.1 h; omega
    · have hlt' : ¬ (i : Int) < (w.length : Int) := by omega
      obtain rfl : i = w.length := by omega
      rw [List.take_length] at hneg
      have hnb := negB_no hneg
      have h78 := c78_ok (E := E) hw64 (by omega)
      simp only [ints] at h78
      by_cases h8 : 8 < w.length
      · have h8' : (8 : Int) < (w.length : Int) := by omega
        have hc : count w = none := by
          cases hc : count w with
          | none => rfl
          | some m => have := (count_nat hc); obtain ⟨_, _, _, h, _⟩ := this; omega
        have hr : resE 0 w = 23 := by rw [resE, if_neg (by omega), if_neg (by rw [hnb]; simp), hc]; exact if_pos h8
        simp only [b34_0, k34_1, plX, runes, ints, go_sem, ↓reduceIte, Nat.reduceEqDiff, Nat.reduceAdd, Nat.reduceMul, Nat.reduceLeDiff, Nat.reduceLT, Int.reduceToNat, Int.reduceLT, Int.reduceLE, reduceCtorEq, Nat.reduceBEq, fillAll, fillIn, shiftR, shiftV, List.take_succ_cons, List.take_zero, List.drop_succ_cons, List.drop_zero, List.append_nil, Nat.zero_add, hlt', Int.lt_irrefl, h8']
        simp only [i34, Out, resAll, geto, ints, List.getElem?_cons_zero, List.getElem?_cons_succ, resOf, outOf, snap, snapL, ev, getE, List.mapM_cons, List.mapM_nil, Option.bind_some, Option.pure_def, Option.bind_eq_bind, Option.map_some, reduceIte, Nat.reduceEqDiff, true_and, and_true, subP4, hr, outP, noP, plX]
        rfl
      · have h8' : ¬ (8 : Int) < (w.length : Int) := by omega
        cases hc : count w with
        | none =>
          rw [hc] at h78
          simp only [optP] at h78
          have hr : resE 0 w = 26 := by rw [resE, if_neg (by omega), if_neg (by rw [hnb]; simp), hc]; exact if_neg h8
          simp only [b34_0, k34_1, plX, runes, ints, go_sem, ↓reduceIte, Nat.reduceEqDiff, Nat.reduceAdd, Nat.reduceMul, Nat.reduceLeDiff, Nat.reduceLT, Int.reduceToNat, Int.reduceLT, Int.reduceLE, reduceCtorEq, Nat.reduceBEq, fillAll, fillIn, shiftR, shiftV, List.take_succ_cons, List.take_zero, List.drop_succ_cons, List.drop_zero, List.append_nil, Nat.zero_add, hlt', Int.lt_irrefl, h8']
          refine goP h78 ?_
          simp only [go_sem, ↓reduceIte, Nat.reduceEqDiff, Nat.reduceAdd, Nat.reduceMul, Nat.reduceLeDiff, Nat.reduceLT, Int.reduceToNat, Int.reduceLT, Int.reduceLE, reduceCtorEq, Nat.reduceBEq, fillAll, fillIn, shiftR, shiftV, List.take_succ_cons, List.take_zero, List.drop_succ_cons, List.drop_zero, List.append_nil, Nat.zero_add]
          simp only [i34, Out, resAll, geto, ints, List.getElem?_cons_zero, List.getElem?_cons_succ, resOf, outOf, snap, snapL, ev, getE, List.mapM_cons, List.mapM_nil, Option.bind_some, Option.pure_def, Option.bind_eq_bind, Option.map_some, reduceIte, Nat.reduceEqDiff, true_and, and_true, subP4, hr, outP, noP, plX]
          rfl
        | some m =>
          obtain ⟨n, rfl, hn4, hw8, hp⟩ := count_nat hc
          have hr : resE 0 w = 0 := by rw [resE, if_neg (by omega), if_neg (by rw [hnb]; simp), hc]
          rw [hc] at h78
          simp only [optP] at h78
          have hkl : (cyc w len).length = n := by rw [cyc_len, hp]; rfl
          have hkg : ∀ i, i < n → (cyc w len).getD i 0 = if len = 0 then (-1 : Int) else ((i % len : Nat) : Int) := fun i hi => cyc_get (by rw [hp]; exact hi)
          rw [hr]
          generalize cyc w len = ks at *
          have h53 := c53_ok (s := s) (t := t) (s' := w) (ks := ks) (l := l) (ch := ch) hch (by omega) (by omega) (by omega)
          simp only [plX, runes, ints] at h53
          simp only [b34_0, k34_1, plX, runes, ints, go_sem, ↓reduceIte, Nat.reduceEqDiff, Nat.reduceAdd, Nat.reduceMul, Nat.reduceLeDiff, Nat.reduceLT, Int.reduceToNat, Int.reduceLT, Int.reduceLE, reduceCtorEq, Nat.reduceBEq, fillAll, fillIn, shiftR, shiftV, List.take_succ_cons, List.take_zero, List.drop_succ_cons, List.drop_zero, List.append_nil, Nat.zero_add, hlt', Int.lt_irrefl, h8']
          refine goP h78 ?_
          simp only [go_sem, ↓reduceIte, Nat.reduceEqDiff, Nat.reduceAdd, Nat.reduceMul, Nat.reduceLeDiff, Nat.reduceLT, Int.reduceToNat, Int.reduceLT, Int.reduceLE, reduceCtorEq, Nat.reduceBEq, fillAll, fillIn, shiftR, shiftV, List.take_succ_cons, List.take_zero, List.drop_succ_cons, List.drop_zero, List.append_nil, Nat.zero_add]
          refine mLoop (fun N st => ∃ i : Nat, i ≤ n ∧ N = n - i ∧
            st = ⟨[(3, .loc 1 0 0), (4, .loc 5 0 0), (6, ints w), (9, .int .i64 n), (11, .arr 6 i), (12, .int .i64 i)],
              [⟨true, 26, 4, 0, 1, plX sb cb tb (Lb.map toNm), false⟩, ⟨true, 26, 4, 0, 1, plX s ch t l, false⟩, ⟨false, 3, 1, 0, 0, [], false⟩, ⟨false, 21, 1, 0, 0, [], false⟩, ⟨false, 72, 3, 0, 0, [], false⟩,
               ⟨true, 26, 4, 0, 1, [.arr 2 0, .bool false, .arr 3 0, .arr 4 0], false⟩, ⟨false, 3, 1, i, i, nums .i64 (ks.take i), false⟩]⟩) n
            ⟨_, rfl, 0, by omega, by omega, by simp [getE, plX, runes, ints, nums]⟩ ?_
          clear hi hlt hlt' hneg
          rintro N s0 ⟨i, hi, rfl, rfl⟩
          by_cases hlt : i < n
          · have hlt' : (i : Int) < (n : Int) := by omega
            have hi1 : IntKind.i64.wrap ((i : Int) + 1) = ((i + 1 : Nat) : Int) := by rw [wrap_i64 (by omega) (by omega)]; omega
            have e1 : (i + 1) * 8 ≤ 140737488355328 := by omega
            have e2 : i + 1 ≤ 140737488355328 := by omega
            have htk : ks.take (i + 1) = ks.take i ++ [ks.getD i 0] := take_snoc (by omega)
            rw [hkg i hlt] at htk
            by_cases hz : len = 0
            · have hz' : ¬ (0 : Int) < (len : Int) := by omega
              rw [if_pos hz] at htk
              simp only [b34_1, plX, runes, ints, go_sem, ↓reduceIte, Nat.reduceEqDiff, Nat.reduceAdd, Nat.reduceMul, Nat.reduceLeDiff, Nat.reduceLT, Int.reduceToNat, Int.reduceLT, Int.reduceLE, reduceCtorEq, Nat.reduceBEq, subP4, hlt']
              refine goP h20 ?_
              simp only [go_sem, ↓reduceIte, Nat.reduceEqDiff, Nat.reduceAdd, Nat.reduceMul, Nat.reduceLeDiff, Nat.reduceLT, Int.reduceToNat, Int.reduceLT, Int.reduceLE, reduceCtorEq, Nat.reduceBEq, hz', hi1, e1, e2, List.flatten_cons, List.flatten_nil, Option.getD_some]
              refine loopQ_go rfl (n - (i + 1)) (by omega) ⟨i + 1, by omega, rfl, ?_⟩
              rw [htk]
              simp only [plX, runes, ints, nums, List.map_append, List.map_cons, List.map_nil]
              rfl
            · have hz' : (0 : Int) < (len : Int) := by omega
              have hz2 : ¬ (len : Int) = 0 := by omega
              rw [if_neg hz] at htk
              have hmod := tmodN i len
              simp only [b34_1, plX, runes, ints, go_sem, ↓reduceIte, Nat.reduceEqDiff, Nat.reduceAdd, Nat.reduceMul, Nat.reduceLeDiff, Nat.reduceLT, Int.reduceToNat, Int.reduceLT, Int.reduceLE, reduceCtorEq, Nat.reduceBEq, subP4, hlt']
              refine goP h20 ?_
              simp only [go_sem, ↓reduceIte, Nat.reduceEqDiff, Nat.reduceAdd, Nat.reduceMul, Nat.reduceLeDiff, Nat.reduceLT, Int.reduceToNat, Int.reduceLT, Int.reduceLE, reduceCtorEq, Nat.reduceBEq, subP4, hz']
              refine goP h20 ?_
              simp only [go_sem, ↓reduceIte, Nat.reduceEqDiff, Nat.reduceAdd, Nat.reduceMul, Nat.reduceLeDiff, Nat.reduceLT, Int.reduceToNat, Int.reduceLT, Int.reduceLE, reduceCtorEq, Nat.reduceBEq, hz', hz2, hmod, hi1, e1, e2, List.flatten_cons, List.flatten_nil, Option.getD_some]
              refine loopQ_go rfl (n - (i + 1)) (by omega) ⟨i + 1, by omega, rfl, ?_⟩
              rw [htk]
              simp only [plX, runes, ints, nums, List.map_append, List.map_cons, List.map_nil]
              rfl
          · have hlt' : ¬ (i : Int) < (n : Int) := by omega
            obtain rfl : i = n := by omega
            rw [hkl] at h53
            simp only [b34_1, k34_0, plX, runes, ints, go_sem, ↓reduceIte, Nat.reduceEqDiff, Nat.reduceAdd, Nat.reduceMul, Nat.reduceLeDiff, Nat.reduceLT, Int.reduceToNat, Int.reduceLT, Int.reduceLE, reduceCtorEq, Nat.reduceBEq, fillAll, fillIn, shiftR, shiftV, List.take_succ_cons, List.take_zero, List.drop_succ_cons, List.drop_zero, List.append_nil, Nat.zero_add, subP4, hlt', Int.lt_irrefl, List.take_of_length_le (Nat.le_of_eq hkl)]
            refine goF h53 ?_
            simp only [go_sem, ↓reduceIte, Nat.reduceEqDiff, Nat.reduceAdd, Nat.reduceMul, Nat.reduceLeDiff, Nat.reduceLT, Int.reduceToNat, Int.reduceLT, Int.reduceLE, reduceCtorEq, Nat.reduceBEq, fillAll, fillIn, shiftR, shiftV, List.take_succ_cons, List.take_zero, List.drop_succ_cons, List.drop_zero, List.append_nil, Nat.zero_add, subP4]
            simp only [i34, Out, resAll, geto, ints, List.getElem?_cons_zero, List.getElem?_cons_succ, resOf, outOf, snap, snapL, ev, getE, List.mapM_cons, List.mapM_nil, Option.bind_some, Option.pure_def, Option.bind_eq_bind, Option.map_some, reduceIte, Nat.reduceEqDiff, true_and, and_true, subP4, outP, plX, runes, ints, if_true]
  · have q0 : (e0 != 0) = true := by rw [bne_iff_ne]; exact he
    have hr : resE e0 w = e0 := if_pos he
    simp only [c34, plX, runes, ints, go_sem, ↓reduceIte, Nat.reduceEqDiff, Nat.reduceAdd, Nat.reduceMul, Nat.reduceLeDiff, Nat.reduceLT, Int.reduceToNat, Int.reduceLT, Int.reduceLE, reduceCtorEq, Nat.reduceBEq, fillAll, fillIn, shiftR, shiftV, List.take_succ_cons, List.take_zero, List.drop_succ_cons, List.drop_zero, List.append_nil, Nat.zero_add, subP4]
    refine goP h92 ?_
    simp only [go_sem, ↓reduceIte, Nat.reduceEqDiff, Nat.reduceAdd, Nat.reduceMul, Nat.reduceLeDiff, Nat.reduceLT, Int.reduceToNat, Int.reduceLT, Int.reduceLE, reduceCtorEq, Nat.reduceBEq, fillAll, fillIn, shiftR, shiftV, List.take_succ_cons, List.take_zero, List.drop_succ_cons, List.drop_zero, List.append_nil, Nat.zero_add, subP4, q0]
    simp only [i34, Out, resAll, geto, ints, List.getElem?_cons_zero, List.getElem?_cons_succ, resOf, outOf, snap, snapL, ev, getE, List.mapM_cons, List.mapM_nil, Option.bind_some, Option.pure_def, Option.bind_eq_bind, Option.map_some, reduceIte, Nat.reduceEqDiff, true_and, and_true, subP4, hr, outP, he, if_false, noP, plX]
    rfl
/-- What the program and the document make by picks is shown. -/
theorem shows_out {e : Int} {s' ks t : List Int} {ch : Bool} {l : List Nm} (hR : ∀ x ∈ l, RightN x.1 x.2.1 x.2.2) (hs : e = 0 → (s'.length : Int) ≤ 1000000000 ∧ (ks.length : Int) ≤ 1000000000) :
    Go.V.Call tab E 35 [.agg (outA e s' ks ch t (l.map toRt)), .int .i64 e, .agg (outP e s' ks ch t l), .int .i64 e] [] (.bool true) [] := by
  by_cases he : e = 0
  · subst he
    obtain ⟨hs, hk⟩ := hs rfl
    have h := c35_yes (s := s') (t := picksT ch t ks) (ch := ch) (L := picksR ch (l.map toRt) ks) hs (by have := (picks_len (ch := ch) (t := t) (ks := ks) (l := l)).1; omega)
      (by have := picksR_len (ch := ch) (ks := ks) (l := l.map toRt); omega) (pick_ok hR)
    rw [picks_nm hR] at h
    simp only [outA, outP, if_true]
    exact h
  · simp only [outA, outP, he, if_false]
    exact c35_err he
theorem c26_ok : Go.V.Call tab E 26 [] [] (.bool true) [] := Go.V.Call.run (ext := ext) (fun h => h) (fuel := 400) (n := 40) (by kernel_rfl)
end Go.Proofs.YtlejgleocnemoaaGreat.I

/- SEAT YtlejgleocnemoaaGreat. Layer 8: MoldShapes. -/
set_option linter.unusedVariables false
set_option linter.unusedSimpArgs false
namespace Go.Proofs.YtlejgleocnemoaaGreat.I
open Go Go.V
attribute [local go_sem] mNil nat0 beq_self_eq_true mSkip mRet mExit mReg mSeq mCond mTrue mFalse mBlock mLv mCodeE mCodeR mEndN mEndR mEndE mOps mSome mGuard mGtt mGff mGtf mGft mGu mCallP mCallR mCallF mCallO mCallZ mCallG mCallM mCallV loopQ_exit loopQ_ret mO_mov mO_newnil mO_pick mO_alloc mO_box mO_build mO_bsl mO_bslF mO_ldf mO_ld mO_st mO_sta mO_nilchk mO_bin mO_binb mO_binp mO_bins mO_neg mO_com mO_not mO_conv mO_mk mO_mk0 mO_s2b mO_b2s mO_cpy mO_cut mO_faddr mO_fld mO_iaddr mO_iaddrf mO_sidx mO_len mO_lenf mO_slen mO_scut mO_app mO_ext mO_mx mO_mn mO_mkfn evalOp cutOp argsE ev getE putE cellsOf adopt rowOf binV boolV nilV ar_add ar_sub ar_mul ar_quo ar_rem ar_eq ar_ne ar_lt ar_le ar_gt ar_ge ar_and ar_or ar_xor geto bound finRet finNrm ints List.length_cons List.length_nil List.length_append List.getElem?_cons_zero List.getElem?_cons_succ List.nil_append List.cons_append List.map_cons List.map_nil List.mapM_cons List.mapM_nil Option.map_some Option.map_none Option.bind_some Option.pure_def Option.bind_eq_bind List.drop_zero or_self or_false false_or or_true true_or true_and and_true and_self decide_true decide_false Bool.false_eq_true Bool.true_eq_false Bool.not_true Bool.not_false Nat.le_refl eq_self gt_iff_lt ge_iff_le ne_eq not_true_eq_false not_false_eq_true storeOp apartOf freeze_nil refsL refs List.flatMap_cons List.flatMap_nil List.append_nil List.contains_nil List.set_cons_zero List.set_cons_succ snap snapL fill_nums flat_nums nums_length Go.V.freeze List.mapIdx_cons List.mapIdx_nil List.contains_cons Bool.or_false Bool.false_or Bool.or_true Bool.true_or
theorem numC_zR {z : Int} : numC z = nmC (toNm (zR z)) := by
  have h1 : toNm (zR z) = (decide (z < 0), decL z.natAbs, decL (dn 1)) := rfl
  rw [h1]
  simp only [numC, nmC, dec_eq]
  rw [show dn 1 = 1 from rfl, decL_digit (d := 1) (by omega)]
  rfl
theorem numsC_zR {l : List Int} : numsC l = nmsC ((l.map zR).map toNm) := by
  induction l with
  | nil => rfl
  | cons z l ih =>
    have e1 : numsC (z :: l) = numC z ++ numsC l := by simp [numsC]
    rw [e1, ih, numC_zR]
    simp [nmsC]
theorem plG_X {s t l : List Int} {ch : Bool} : plG s ch t l = plX s ch t ((l.map zR).map toNm) := by
  rw [plG, plX, numsC_zR]
  simp
theorem res_cyc {e0 : Int} {w : List Int} {len : Nat} (h : resE e0 w = 0) : (w.length : Int) ≤ 1000000000 ∧ ((cyc w len).length : Int) ≤ 1000000000 := by
  unfold resE at h
  split at h
  · rename_i h1; exact absurd h h1
  · split at h
    · cases h
    · split at h
      · split at h <;> cases h
      · rename_i m hm
        obtain ⟨n, rfl, h1, h2, h3⟩ := count_nat hm
        rw [cyc_len, h3]
        simp
        omega
theorem Right_ch {s t : List Int} {ch : Bool} {l : List Nm} (h : RightP s ch t l) : (ch = true → l = []) ∧ (ch = false → t = []) := by
  have h1 := h.1
  unfold Shapes at h1
  refine ⟨fun h => ?_, fun h => ?_⟩
  · subst h; exact List.length_eq_zero_iff.1 h1.2
  · subst h; exact h1.2
theorem map_ch {ch : Bool} {t : List Int} {l : List Nm} (h : (ch = true → l = []) ∧ (ch = false → t = [])) : (ch = true → l.map toRt = []) ∧ (ch = false → t = []) := ⟨fun hc => by rw [h.1 hc]; rfl, h.2⟩
theorem map_ok {l : List Nm} (h : ∀ x ∈ l, RightN x.1 x.2.1 x.2.2) : ∀ x ∈ l.map toRt, RtOk x := fun z hz => by
  obtain ⟨x, hx, rfl⟩ := List.mem_map.1 hz
  exact right_ok (h x hx)
set_option maxHeartbeats 4000000 in
theorem c6_ok {sb tb s t : List Int} {lb l : List Nm} {cb ch : Bool} {a : Int} (hsb : ∀ d ∈ sb, In64 d) (hub : ∀ x ∈ lb, U8 x.2.1 ∧ U8 x.2.2) (hs : ∀ d ∈ s, In64 d) (hu : ∀ x ∈ l, U8 x.2.1 ∧ U8 x.2.2) :
    Go.V.Call tab E 6 [.agg (plX sb cb tb lb), .agg (plX s ch t l), .int .i64 a] [] (.bool true) [] := by
  refine Go.V.Call.mach i6 c6 rfl rfl rfl rfl ?_
  have h25b := fun ok h => c25_ok (s := sb) (t := tb) (l := lb) (ch := cb) (ok := ok) hsb hub h
  have h25 := fun ok h => c25_ok (s := s) (t := t) (l := l) (ch := ch) (ok := ok) hs hu h
  by_cases hLb : LightP sb cb tb lb 250
  · have h25bt := h25b true ⟨fun _ => hLb, fun _ => rfl⟩
    by_cases hL : LightP s ch t l 250
    · have h25t := h25 true ⟨fun _ => hL, fun _ => rfl⟩
      obtain ⟨m1, m2, m3, m4, hRb⟩ := hLb
      obtain ⟨l1, l2, l3, l4, hR⟩ := hL
      have hUb : ∀ x ∈ lb, NmU x := fun x hx => ⟨(hub x hx).1, (hub x hx).2, by have := (m4 x hx).1; omega, by have := (m4 x hx).2; omega⟩
      have hU : ∀ x ∈ l, NmU x := fun x hx => ⟨(hu x hx).1, (hu x hx).2, by have := (l4 x hx).1; omega, by have := (l4 x hx).2; omega⟩
      have h13b := c13_ok hsb (by omega) (by omega) (by omega) hUb hRb
      have h13 := c13_ok hs (by omega) (by omega) (by omega) hU hR
      have h27 := c27_ok (s := s) (t := t) (ch := ch) (L := l.map toRt) (a := a) (by omega)
      have h28 := c28_ok (s := s) (t := t) (ch := ch) (l := l) (a := a) (by omega)
      have h30 := c30_ok (s := s) (t := t) (ch := ch) (L := l.map toRt) hs (by omega)
      have h31 := c31_X (s := [(s.length : Int)]) (t := []) (l := s.map zR) (ch := false) (by simp) (by simp) (by simp; omega) (fun z hz => by
        obtain ⟨x, hx, rfl⟩ := List.mem_map.1 hz
        exact zR_ok (hs x hx))
      have h32 := c32_ok (E := E) (l := s) (by omega) hs
      rw [plG_X] at h32
      have hus : ∀ x ∈ (s.map zR).map toNm, NmU x := fun z hz => by
        obtain ⟨x, hx, rfl⟩ := List.mem_map.1 hz
        obtain ⟨y, hy, rfl⟩ := List.mem_map.1 hx
        have := (zR_ok (hs y hy)).len
        exact ⟨(decL_dig (zR y).2.1).u8, (decL_dig (dn (zR y).2.2)).u8, this.1, this.2⟩
      have h29 := c29_gen (s := [(s.length : Int)]) (s' := [(s.length : Int)]) (t := []) (t' := []) (l := (s.map zR).map toNm) (l' := (s.map zR).map toNm) (ch := false) (ch' := false) (by simp) (by simp) (by simp; omega) (by simp) (by simp) (by simp; omega) hus hus
      rw [decide_eq_true ⟨rfl, rfl, rfl, rfl⟩] at h29
      have h33 := c33_ok (sb := sb) (tb := tb) (cb := cb) (Lb := lb.map toRt) (s := s) (t := t) (ch := ch) (L := l.map toRt) (by omega) (by omega) (by simp; omega) (by omega) (by omega) (by simp; omega)
      have h34 := c34_ok (sb := sb) (tb := tb) (cb := cb) (Lb := lb.map toRt) (s := s) (t := t) (ch := ch) (l := l) (by omega) (by omega) (by simp; omega) (map_ok hRb.2) (map_ch (Right_ch hRb)) (by omega) (by omega) (by omega) (Right_ch hR)
      rw [back_nms hRb.2] at h34
      rw [List.length_map] at h33
      have hsz := fun h => res_cyc (len := t.length + l.length) (w := lisV sb cb tb (lb.map toRt)) (e0 := lisE sb cb tb (lb.map toRt)) h
      generalize hee : resE (lisE sb cb tb (lb.map toRt)) (lisV sb cb tb (lb.map toRt)) = e at *
      generalize cyc (lisV sb cb tb (lb.map toRt)) (t.length + l.length) = ks at *
      generalize lisV sb cb tb (lb.map toRt) = w at *
      have hsh := shows_out (e := e) (s' := w) (ks := ks) (t := t) (ch := ch) hR.2 hsz
      clear hee hsz
      have hbn : (axB s a == axB s a) = true := by cases axB s a <;> rfl
      generalize axA s a = ax at *
      generalize axB s a = bx at *
      simp only [plX, arrX, runes, ints] at h25bt h25t h13b h13 h27 h28 h30 h31 h32 h29
      by_cases he : e = 0
      · subst he
        simp only [outA, outP, if_true, plX, arrX, runes, ints] at h33 h34 hsh
        simp only [c6, plX, runes, ints, go_sem, ↓reduceIte, Nat.reduceEqDiff, Nat.reduceAdd, Nat.reduceMul, Nat.reduceLeDiff, Nat.reduceLT, Int.reduceToNat, Int.reduceLT, Int.reduceLE, reduceCtorEq, Nat.reduceBEq, fillAll, fillIn, shiftR, shiftV, List.take_succ_cons, List.take_zero, List.drop_succ_cons, List.drop_zero, List.append_nil, Nat.zero_add, subP4]
        refine goP h25bt ?_
        simp only [go_sem, ↓reduceIte, Nat.reduceEqDiff, Nat.reduceAdd, Nat.reduceMul, Nat.reduceLeDiff, Nat.reduceLT, Int.reduceToNat, Int.reduceLT, Int.reduceLE, reduceCtorEq, Nat.reduceBEq, fillAll, fillIn, shiftR, shiftV, List.take_succ_cons, List.take_zero, List.drop_succ_cons, List.drop_zero, List.append_nil, Nat.zero_add, subP4]
        refine goP h25t ?_
        simp only [go_sem, ↓reduceIte, Nat.reduceEqDiff, Nat.reduceAdd, Nat.reduceMul, Nat.reduceLeDiff, Nat.reduceLT, Int.reduceToNat, Int.reduceLT, Int.reduceLE, reduceCtorEq, Nat.reduceBEq, fillAll, fillIn, shiftR, shiftV, List.take_succ_cons, List.take_zero, List.drop_succ_cons, List.drop_zero, List.append_nil, Nat.zero_add, subP4]
        refine goP h13 ?_
        simp only [go_sem, ↓reduceIte, Nat.reduceEqDiff, Nat.reduceAdd, Nat.reduceMul, Nat.reduceLeDiff, Nat.reduceLT, Int.reduceToNat, Int.reduceLT, Int.reduceLE, reduceCtorEq, Nat.reduceBEq, fillAll, fillIn, shiftR, shiftV, List.take_succ_cons, List.take_zero, List.drop_succ_cons, List.drop_zero, List.append_nil, Nat.zero_add, subP4]
        refine goP h27 ?_
        simp only [go_sem, ↓reduceIte, Nat.reduceEqDiff, Nat.reduceAdd, Nat.reduceMul, Nat.reduceLeDiff, Nat.reduceLT, Int.reduceToNat, Int.reduceLT, Int.reduceLE, reduceCtorEq, Nat.reduceBEq, fillAll, fillIn, shiftR, shiftV, List.take_succ_cons, List.take_zero, List.drop_succ_cons, List.drop_zero, List.append_nil, Nat.zero_add, subP4]
        refine goP h28 ?_
        simp only [go_sem, ↓reduceIte, Nat.reduceEqDiff, Nat.reduceAdd, Nat.reduceMul, Nat.reduceLeDiff, Nat.reduceLT, Int.reduceToNat, Int.reduceLT, Int.reduceLE, reduceCtorEq, Nat.reduceBEq, fillAll, fillIn, shiftR, shiftV, List.take_succ_cons, List.take_zero, List.drop_succ_cons, List.drop_zero, List.append_nil, Nat.zero_add, subP4, subP4a, bne_self_eq_false, hbn]
        refine goP h13 ?_
        simp only [go_sem, ↓reduceIte, Nat.reduceEqDiff, Nat.reduceAdd, Nat.reduceMul, Nat.reduceLeDiff, Nat.reduceLT, Int.reduceToNat, Int.reduceLT, Int.reduceLE, reduceCtorEq, Nat.reduceBEq, fillAll, fillIn, shiftR, shiftV, List.take_succ_cons, List.take_zero, List.drop_succ_cons, List.drop_zero, List.append_nil, Nat.zero_add, subP4]
        refine goP h30 ?_
        simp only [go_sem, ↓reduceIte, Nat.reduceEqDiff, Nat.reduceAdd, Nat.reduceMul, Nat.reduceLeDiff, Nat.reduceLT, Int.reduceToNat, Int.reduceLT, Int.reduceLE, reduceCtorEq, Nat.reduceBEq, fillAll, fillIn, shiftR, shiftV, List.take_succ_cons, List.take_zero, List.drop_succ_cons, List.drop_zero, List.append_nil, Nat.zero_add, subP4]
        refine goP h31 ?_
        simp only [go_sem, ↓reduceIte, Nat.reduceEqDiff, Nat.reduceAdd, Nat.reduceMul, Nat.reduceLeDiff, Nat.reduceLT, Int.reduceToNat, Int.reduceLT, Int.reduceLE, reduceCtorEq, Nat.reduceBEq, fillAll, fillIn, shiftR, shiftV, List.take_succ_cons, List.take_zero, List.drop_succ_cons, List.drop_zero, List.append_nil, Nat.zero_add, subP4, subP4a]
        refine goP h32 ?_
        simp only [go_sem, ↓reduceIte, Nat.reduceEqDiff, Nat.reduceAdd, Nat.reduceMul, Nat.reduceLeDiff, Nat.reduceLT, Int.reduceToNat, Int.reduceLT, Int.reduceLE, reduceCtorEq, Nat.reduceBEq, fillAll, fillIn, shiftR, shiftV, List.take_succ_cons, List.take_zero, List.drop_succ_cons, List.drop_zero, List.append_nil, Nat.zero_add, subP4]
        refine goP h29 ?_
        simp only [go_sem, ↓reduceIte, Nat.reduceEqDiff, Nat.reduceAdd, Nat.reduceMul, Nat.reduceLeDiff, Nat.reduceLT, Int.reduceToNat, Int.reduceLT, Int.reduceLE, reduceCtorEq, Nat.reduceBEq, fillAll, fillIn, shiftR, shiftV, List.take_succ_cons, List.take_zero, List.drop_succ_cons, List.drop_zero, List.append_nil, Nat.zero_add, subP4]
        refine goP h13b ?_
        simp only [go_sem, ↓reduceIte, Nat.reduceEqDiff, Nat.reduceAdd, Nat.reduceMul, Nat.reduceLeDiff, Nat.reduceLT, Int.reduceToNat, Int.reduceLT, Int.reduceLE, reduceCtorEq, Nat.reduceBEq, fillAll, fillIn, shiftR, shiftV, List.take_succ_cons, List.take_zero, List.drop_succ_cons, List.drop_zero, List.append_nil, Nat.zero_add, subP4]
        refine goP h13 ?_
        simp only [go_sem, ↓reduceIte, Nat.reduceEqDiff, Nat.reduceAdd, Nat.reduceMul, Nat.reduceLeDiff, Nat.reduceLT, Int.reduceToNat, Int.reduceLT, Int.reduceLE, reduceCtorEq, Nat.reduceBEq, fillAll, fillIn, shiftR, shiftV, List.take_succ_cons, List.take_zero, List.drop_succ_cons, List.drop_zero, List.append_nil, Nat.zero_add, subP4]
        refine goP h33 ?_
        simp only [go_sem, ↓reduceIte, Nat.reduceEqDiff, Nat.reduceAdd, Nat.reduceMul, Nat.reduceLeDiff, Nat.reduceLT, Int.reduceToNat, Int.reduceLT, Int.reduceLE, reduceCtorEq, Nat.reduceBEq, fillAll, fillIn, shiftR, shiftV, List.take_succ_cons, List.take_zero, List.drop_succ_cons, List.drop_zero, List.append_nil, Nat.zero_add, subP4, subA5]
        refine goP h34 ?_
        simp only [go_sem, ↓reduceIte, Nat.reduceEqDiff, Nat.reduceAdd, Nat.reduceMul, Nat.reduceLeDiff, Nat.reduceLT, Int.reduceToNat, Int.reduceLT, Int.reduceLE, reduceCtorEq, Nat.reduceBEq, fillAll, fillIn, shiftR, shiftV, List.take_succ_cons, List.take_zero, List.drop_succ_cons, List.drop_zero, List.append_nil, Nat.zero_add, subP4, subA5]
        refine goR hsh rfl ?_
        simp only [go_sem, ↓reduceIte, Nat.reduceEqDiff, Nat.reduceAdd, Nat.reduceMul, Nat.reduceLeDiff, Nat.reduceLT, Int.reduceToNat, Int.reduceLT, Int.reduceLE, reduceCtorEq, Nat.reduceBEq, fillAll, fillIn, shiftR, shiftV, List.take_succ_cons, List.take_zero, List.drop_succ_cons, List.drop_zero, List.append_nil, Nat.zero_add, subP4]
        refine goP c26_ok ?_
        simp only [go_sem, ↓reduceIte, Nat.reduceEqDiff, Nat.reduceAdd, Nat.reduceMul, Nat.reduceLeDiff, Nat.reduceLT, Int.reduceToNat, Int.reduceLT, Int.reduceLE, reduceCtorEq, Nat.reduceBEq]
        simp only [i6, Out, resAll, geto, ints, List.getElem?_cons_zero, List.getElem?_cons_succ, resOf, outOf, snap, snapL, ev, getE, List.mapM_cons, List.mapM_nil, Option.bind_some, Option.pure_def, Option.bind_eq_bind, Option.map_some, reduceIte, Nat.reduceEqDiff, true_and, and_true]
      · simp only [outA, outP, he, if_false, noA, noP, plX, runes, ints] at h33 h34 hsh
        simp only [c6, plX, runes, ints, go_sem, ↓reduceIte, Nat.reduceEqDiff, Nat.reduceAdd, Nat.reduceMul, Nat.reduceLeDiff, Nat.reduceLT, Int.reduceToNat, Int.reduceLT, Int.reduceLE, reduceCtorEq, Nat.reduceBEq, fillAll, fillIn, shiftR, shiftV, List.take_succ_cons, List.take_zero, List.drop_succ_cons, List.drop_zero, List.append_nil, Nat.zero_add, subP4]
        refine goP h25bt ?_
        simp only [go_sem, ↓reduceIte, Nat.reduceEqDiff, Nat.reduceAdd, Nat.reduceMul, Nat.reduceLeDiff, Nat.reduceLT, Int.reduceToNat, Int.reduceLT, Int.reduceLE, reduceCtorEq, Nat.reduceBEq, fillAll, fillIn, shiftR, shiftV, List.take_succ_cons, List.take_zero, List.drop_succ_cons, List.drop_zero, List.append_nil, Nat.zero_add, subP4]
        refine goP h25t ?_
        simp only [go_sem, ↓reduceIte, Nat.reduceEqDiff, Nat.reduceAdd, Nat.reduceMul, Nat.reduceLeDiff, Nat.reduceLT, Int.reduceToNat, Int.reduceLT, Int.reduceLE, reduceCtorEq, Nat.reduceBEq, fillAll, fillIn, shiftR, shiftV, List.take_succ_cons, List.take_zero, List.drop_succ_cons, List.drop_zero, List.append_nil, Nat.zero_add, subP4]
        refine goP h13 ?_
        simp only [go_sem, ↓reduceIte, Nat.reduceEqDiff, Nat.reduceAdd, Nat.reduceMul, Nat.reduceLeDiff, Nat.reduceLT, Int.reduceToNat, Int.reduceLT, Int.reduceLE, reduceCtorEq, Nat.reduceBEq, fillAll, fillIn, shiftR, shiftV, List.take_succ_cons, List.take_zero, List.drop_succ_cons, List.drop_zero, List.append_nil, Nat.zero_add, subP4]
        refine goP h27 ?_
        simp only [go_sem, ↓reduceIte, Nat.reduceEqDiff, Nat.reduceAdd, Nat.reduceMul, Nat.reduceLeDiff, Nat.reduceLT, Int.reduceToNat, Int.reduceLT, Int.reduceLE, reduceCtorEq, Nat.reduceBEq, fillAll, fillIn, shiftR, shiftV, List.take_succ_cons, List.take_zero, List.drop_succ_cons, List.drop_zero, List.append_nil, Nat.zero_add, subP4]
        refine goP h28 ?_
        simp only [go_sem, ↓reduceIte, Nat.reduceEqDiff, Nat.reduceAdd, Nat.reduceMul, Nat.reduceLeDiff, Nat.reduceLT, Int.reduceToNat, Int.reduceLT, Int.reduceLE, reduceCtorEq, Nat.reduceBEq, fillAll, fillIn, shiftR, shiftV, List.take_succ_cons, List.take_zero, List.drop_succ_cons, List.drop_zero, List.append_nil, Nat.zero_add, subP4, subP4a, bne_self_eq_false, hbn]
        refine goP h13 ?_
        simp only [go_sem, ↓reduceIte, Nat.reduceEqDiff, Nat.reduceAdd, Nat.reduceMul, Nat.reduceLeDiff, Nat.reduceLT, Int.reduceToNat, Int.reduceLT, Int.reduceLE, reduceCtorEq, Nat.reduceBEq, fillAll, fillIn, shiftR, shiftV, List.take_succ_cons, List.take_zero, List.drop_succ_cons, List.drop_zero, List.append_nil, Nat.zero_add, subP4]
        refine goP h30 ?_
        simp only [go_sem, ↓reduceIte, Nat.reduceEqDiff, Nat.reduceAdd, Nat.reduceMul, Nat.reduceLeDiff, Nat.reduceLT, Int.reduceToNat, Int.reduceLT, Int.reduceLE, reduceCtorEq, Nat.reduceBEq, fillAll, fillIn, shiftR, shiftV, List.take_succ_cons, List.take_zero, List.drop_succ_cons, List.drop_zero, List.append_nil, Nat.zero_add, subP4]
        refine goP h31 ?_
        simp only [go_sem, ↓reduceIte, Nat.reduceEqDiff, Nat.reduceAdd, Nat.reduceMul, Nat.reduceLeDiff, Nat.reduceLT, Int.reduceToNat, Int.reduceLT, Int.reduceLE, reduceCtorEq, Nat.reduceBEq, fillAll, fillIn, shiftR, shiftV, List.take_succ_cons, List.take_zero, List.drop_succ_cons, List.drop_zero, List.append_nil, Nat.zero_add, subP4, subP4a]
        refine goP h32 ?_
        simp only [go_sem, ↓reduceIte, Nat.reduceEqDiff, Nat.reduceAdd, Nat.reduceMul, Nat.reduceLeDiff, Nat.reduceLT, Int.reduceToNat, Int.reduceLT, Int.reduceLE, reduceCtorEq, Nat.reduceBEq, fillAll, fillIn, shiftR, shiftV, List.take_succ_cons, List.take_zero, List.drop_succ_cons, List.drop_zero, List.append_nil, Nat.zero_add, subP4]
        refine goP h29 ?_
        simp only [go_sem, ↓reduceIte, Nat.reduceEqDiff, Nat.reduceAdd, Nat.reduceMul, Nat.reduceLeDiff, Nat.reduceLT, Int.reduceToNat, Int.reduceLT, Int.reduceLE, reduceCtorEq, Nat.reduceBEq, fillAll, fillIn, shiftR, shiftV, List.take_succ_cons, List.take_zero, List.drop_succ_cons, List.drop_zero, List.append_nil, Nat.zero_add, subP4]
        refine goP h13b ?_
        simp only [go_sem, ↓reduceIte, Nat.reduceEqDiff, Nat.reduceAdd, Nat.reduceMul, Nat.reduceLeDiff, Nat.reduceLT, Int.reduceToNat, Int.reduceLT, Int.reduceLE, reduceCtorEq, Nat.reduceBEq, fillAll, fillIn, shiftR, shiftV, List.take_succ_cons, List.take_zero, List.drop_succ_cons, List.drop_zero, List.append_nil, Nat.zero_add, subP4]
        refine goP h13 ?_
        simp only [go_sem, ↓reduceIte, Nat.reduceEqDiff, Nat.reduceAdd, Nat.reduceMul, Nat.reduceLeDiff, Nat.reduceLT, Int.reduceToNat, Int.reduceLT, Int.reduceLE, reduceCtorEq, Nat.reduceBEq, fillAll, fillIn, shiftR, shiftV, List.take_succ_cons, List.take_zero, List.drop_succ_cons, List.drop_zero, List.append_nil, Nat.zero_add, subP4]
        refine goP h33 ?_
        simp only [go_sem, ↓reduceIte, Nat.reduceEqDiff, Nat.reduceAdd, Nat.reduceMul, Nat.reduceLeDiff, Nat.reduceLT, Int.reduceToNat, Int.reduceLT, Int.reduceLE, reduceCtorEq, Nat.reduceBEq, fillAll, fillIn, shiftR, shiftV, List.take_succ_cons, List.take_zero, List.drop_succ_cons, List.drop_zero, List.append_nil, Nat.zero_add, subP4, subA5]
        refine goP h34 ?_
        simp only [go_sem, ↓reduceIte, Nat.reduceEqDiff, Nat.reduceAdd, Nat.reduceMul, Nat.reduceLeDiff, Nat.reduceLT, Int.reduceToNat, Int.reduceLT, Int.reduceLE, reduceCtorEq, Nat.reduceBEq, fillAll, fillIn, shiftR, shiftV, List.take_succ_cons, List.take_zero, List.drop_succ_cons, List.drop_zero, List.append_nil, Nat.zero_add, subP4, subA5]
        refine goR hsh rfl ?_
        simp only [go_sem, ↓reduceIte, Nat.reduceEqDiff, Nat.reduceAdd, Nat.reduceMul, Nat.reduceLeDiff, Nat.reduceLT, Int.reduceToNat, Int.reduceLT, Int.reduceLE, reduceCtorEq, Nat.reduceBEq, fillAll, fillIn, shiftR, shiftV, List.take_succ_cons, List.take_zero, List.drop_succ_cons, List.drop_zero, List.append_nil, Nat.zero_add, subP4]
        refine goP c26_ok ?_
        simp only [go_sem, ↓reduceIte, Nat.reduceEqDiff, Nat.reduceAdd, Nat.reduceMul, Nat.reduceLeDiff, Nat.reduceLT, Int.reduceToNat, Int.reduceLT, Int.reduceLE, reduceCtorEq, Nat.reduceBEq]
        simp only [i6, Out, resAll, geto, ints, List.getElem?_cons_zero, List.getElem?_cons_succ, resOf, outOf, snap, snapL, ev, getE, List.mapM_cons, List.mapM_nil, Option.bind_some, Option.pure_def, Option.bind_eq_bind, Option.map_some, reduceIte, Nat.reduceEqDiff, true_and, and_true]
    · have h25f := h25 false ⟨fun h => (by cases h), fun h => absurd h hL⟩
      simp only [plX, runes, ints] at h25bt h25f
      simp only [c6, plX, runes, ints, go_sem, ↓reduceIte, Nat.reduceEqDiff, Nat.reduceAdd, Nat.reduceMul, Nat.reduceLeDiff, Nat.reduceLT, Int.reduceToNat, Int.reduceLT, Int.reduceLE, reduceCtorEq, Nat.reduceBEq, fillAll, fillIn, shiftR, shiftV, List.take_succ_cons, List.take_zero, List.drop_succ_cons, List.drop_zero, List.append_nil, Nat.zero_add, subP4]
      refine goP h25bt ?_
      simp only [go_sem, ↓reduceIte, Nat.reduceEqDiff, Nat.reduceAdd, Nat.reduceMul, Nat.reduceLeDiff, Nat.reduceLT, Int.reduceToNat, Int.reduceLT, Int.reduceLE, reduceCtorEq, Nat.reduceBEq, fillAll, fillIn, shiftR, shiftV, List.take_succ_cons, List.take_zero, List.drop_succ_cons, List.drop_zero, List.append_nil, Nat.zero_add, subP4]
      refine goP h25f ?_
      simp only [go_sem, ↓reduceIte, Nat.reduceEqDiff, Nat.reduceAdd, Nat.reduceMul, Nat.reduceLeDiff, Nat.reduceLT, Int.reduceToNat, Int.reduceLT, Int.reduceLE, reduceCtorEq, Nat.reduceBEq]
      refine goP c26_ok ?_
      simp only [go_sem, ↓reduceIte, Nat.reduceEqDiff, Nat.reduceAdd, Nat.reduceMul, Nat.reduceLeDiff, Nat.reduceLT, Int.reduceToNat, Int.reduceLT, Int.reduceLE, reduceCtorEq, Nat.reduceBEq]
      simp only [i6, Out, resAll, geto, ints, List.getElem?_cons_zero, List.getElem?_cons_succ, resOf, outOf, snap, snapL, ev, getE, List.mapM_cons, List.mapM_nil, Option.bind_some, Option.pure_def, Option.bind_eq_bind, Option.map_some, reduceIte, Nat.reduceEqDiff, true_and, and_true]
  · have h25bf := h25b false ⟨fun h => (by cases h), fun h => absurd h hLb⟩
    simp only [plX, runes, ints] at h25bf
    simp only [c6, plX, runes, ints, go_sem, ↓reduceIte, Nat.reduceEqDiff, Nat.reduceAdd, Nat.reduceMul, Nat.reduceLeDiff, Nat.reduceLT, Int.reduceToNat, Int.reduceLT, Int.reduceLE, reduceCtorEq, Nat.reduceBEq, fillAll, fillIn, shiftR, shiftV, List.take_succ_cons, List.take_zero, List.drop_succ_cons, List.drop_zero, List.append_nil, Nat.zero_add, subP4]
    refine goP h25bf ?_
    simp only [go_sem, ↓reduceIte, Nat.reduceEqDiff, Nat.reduceAdd, Nat.reduceMul, Nat.reduceLeDiff, Nat.reduceLT, Int.reduceToNat, Int.reduceLT, Int.reduceLE, reduceCtorEq, Nat.reduceBEq]
    refine goP c26_ok ?_
    simp only [go_sem, ↓reduceIte, Nat.reduceEqDiff, Nat.reduceAdd, Nat.reduceMul, Nat.reduceLeDiff, Nat.reduceLT, Int.reduceToNat, Int.reduceLT, Int.reduceLE, reduceCtorEq, Nat.reduceBEq]
    simp only [i6, Out, resAll, geto, ints, List.getElem?_cons_zero, List.getElem?_cons_succ, resOf, outOf, snap, snapL, ev, getE, List.mapM_cons, List.mapM_nil, Option.bind_some, Option.pure_def, Option.bind_eq_bind, Option.map_some, reduceIte, Nat.reduceEqDiff, true_and, and_true]
end Go.Proofs.YtlejgleocnemoaaGreat.I

-- PRINTED BY print.sh 35421559b90ae4d0a3588c463048766b98c2df88dd9212a6774a882060cdf62d: not written by this session
-- PRINTED WORDS (module Derived/Print/Sized.lean): go-gate-2's, for the rows of laws over slices: an AI agent of Go's test side, Tue Nov 17 2026; no person has read it. Lean checks it.
namespace Go.Proofs.YtlejgleocnemoaaGreatW.PrintWords
open Go.ChangeShapes Go.WideShapes
end Go.Proofs.YtlejgleocnemoaaGreatW.PrintWords

/- An argument that is a list of numbers on the page, or an array on the page, opened. Conditions: the types are what the names say. -/
set_option linter.unusedVariables false
set_option linter.unusedSimpArgs false
namespace Go.Proofs.YtlejgleocnemoaaGreat.I
open Go Go.V Go.ChangeShapes Go.WideShapes Go.Deep
section
variable {H : Type} {enc : TypeId × Value → H} {P : Program} {w : World} {spare : Nat → Bool} {held : Bool}
/-- One number: its three cells. -/
theorem open_num1 {e : TypeId} {f0 f1 f2 : Field} {fuel : Nat} {a : Addr} {cs : List Value} {y : DataW H × List MemPlace} (he : P.underlying e = some (.struct #[f0, f1, f2])) (hone : oneCellFields P #[f0, f1, f2] = true)
    (h0 : P.underlying f0.type = some .bool) (h1 : P.underlying f1.type = some .string) (h2 : P.underlying f2.type = some .string) (hc : w.cells? 0 a 3 = some cs) (h : DataW.trod enc P w 0 spare held fuel e cs = some y) :
    ∃ q : Nm, (w.cell? (a.add 0) = some (.bool q.1) ∧ w.cell? (a.add 1) = some (.string (bs q.2.1)) ∧ w.cell? (a.add 2) = some (.string (bs q.2.2))) ∧ U8 q.2.1 ∧ U8 q.2.2 ∧ q.2.1.length ≤ maxLen ∧ q.2.2.length ≤ maxLen := by
  obtain ⟨_, hlen, hcell⟩ := World.cells?_some hc
  obtain ⟨xs, k, _, _, _, hxl, hf⟩ := DataW.trod_struct he h
  obtain ⟨o0, k0⟩ := hone_of hone 0 f0 rfl
  obtain ⟨o1, k1⟩ := hone_of hone 1 f1 rfl
  obtain ⟨o2, k2⟩ := hone_of hone 2 f2 rfl
  match xs, hxl, cs, hlen with
  | [y0, y1, y2], _, [v0, v1, v2], _ =>
    have g0 := hf 0 f0 rfl
    have g1 := hf 1 f1 rfl
    have g2 := hf 2 f2 rfl
    simp [o0, k0] at g0
    simp [o1, k1] at g1
    simp [o2, k2] at g2
    obtain ⟨b, hb, _⟩ := DataW.trod_bool h0 g0
    obtain ⟨s1, hs1, _, hm1⟩ := DataW.trod_string h1 g1
    obtain ⟨s2, hs2, _, hm2⟩ := DataW.trod_string h2 g2
    obtain ⟨l1, hu1, rfl⟩ := bs_all s1
    obtain ⟨l2, hu2, rfl⟩ := bs_all s2
    simp only [List.cons.injEq, and_true] at hb hs1 hs2
    subst hb; subst hs1; subst hs2
    have c0 := hcell 0 (by omega)
    have c1 := hcell 1 (by omega)
    have c2 := hcell 2 (by omega)
    rw [bs_size] at hm1 hm2
    exact ⟨(b, l1, l2), ⟨by simpa using c0, by simpa using c1, by simpa using c2⟩, hu1, hu2, hm1, hm2⟩
/-- A list of them. -/
theorem open_nums {t e : TypeId} {f0 f1 f2 : Field} {fuel : Nat} {cs : List Value} {x : DataW H × List MemPlace} (ht : P.underlying t = some (.slice e)) (he : P.underlying e = some (.struct #[f0, f1, f2])) (hone : oneCellFields P #[f0, f1, f2] = true)
    (hC : P.cellsOf e = 3) (h0 : P.underlying f0.type = some .bool) (h1 : P.underlying f1.type = some .string) (h2 : P.underlying f2.type = some .string) (h : DataW.trod enc P w 0 spare held fuel t cs = some x) :
    ∃ (a : Option Addr) (len cap : Nat) (l : List Nm), cs = [.slice a len cap] ∧ l.length = len ∧ len ≤ maxLen ∧ (∀ q ∈ l, U8 q.2.1 ∧ U8 q.2.2 ∧ q.2.1.length ≤ maxLen ∧ q.2.2.length ≤ maxLen) ∧ RG w (fun b => b < w.heap.size) (.sl l.length 3 (nmsC l)) (.slice a len cap) := by
  rcases open_slice ht h with ⟨rfl, _⟩ | ⟨a, len, cap, m, n, D, Pl, rfl, _, hl, hm, hmm, _, hx⟩
  · exact ⟨none, 0, 0, [], rfl, rfl, Nat.zero_le _, fun q hq => by simp at hq, .sl0⟩
  have hlm : len ≤ m := by rw [hmm]; split <;> omega
  rw [hC] at hx
  have each : ∀ i, i < len → ∃ q : Nm, (w.cell? (a.add (i * 3)) = some (.bool q.1) ∧ w.cell? (a.add (i * 3 + 1)) = some (.string (bs q.2.1)) ∧ w.cell? (a.add (i * 3 + 2)) = some (.string (bs q.2.2))) ∧ U8 q.2.1 ∧ U8 q.2.2 ∧ q.2.1.length ≤ maxLen ∧ q.2.2.length ≤ maxLen := fun i hi => by
    obtain ⟨cs', hc, hy⟩ := hx i (by omega)
    obtain ⟨q, ⟨g0, g1, g2⟩, hq⟩ := open_num1 he hone h0 h1 h2 hc hy
    rw [add_add] at g0 g1 g2
    exact ⟨q, ⟨g0, g1, g2⟩, hq⟩
  obtain ⟨f, hf⟩ := choose_lt (α := Nm) each
  refine ⟨some a, len, cap, (List.range len).map f, rfl, by simp, Nat.le_trans hl hm, fun q hq => ?_, ?_⟩
  · obtain ⟨i, hi, rfl⟩ := List.mem_map.1 hq
    exact (hf i (List.mem_range.1 hi)).2
  · have hll : ((List.range len).map f).length = len := by simp
    rw [hll]
    by_cases hz : len = 0
    · subst hz; exact .sl0
    obtain ⟨b, o, sp⟩ := a
    have hc0 := (hf 0 (by omega)).1.1
    have hsp : sp = none := by
      simp only [Addr.add, Nat.zero_mul, if_true, World.cell?] at hc0
      split at hc0
      · split at hc0
        · cases hc0
        · rename_i hh; simpa using hh
      · cases hc0
    subst hsp
    have addE : ∀ i, (⟨b, o, none⟩ : Addr).add i = ⟨b, o + i, none⟩ := fun i => by
      unfold Addr.add
      split
      · rename_i h; rw [h]; rfl
      · rfl
    have hb : b < w.heap.size := by
      rw [addE] at hc0
      unfold World.cell? at hc0
      split at hc0
      · rename_i hh; exact (Array.getElem?_eq_some_iff.1 hh).1
      · cases hc0
    have hat : ∀ i, i < len → ((List.range len).map f).getD i (false, [], []) = f i := fun i hi => by simp [List.getD, hi]
    have vlen : ∀ l : List Nm, (l.flatMap fun q => [Value.bool q.1, .string (bs q.2.1), .string (bs q.2.2)]).length = l.length * 3 := fun l => by
      induction l with
      | nil => rfl
      | cons q l ih => rw [List.flatMap_cons, List.length_append, ih, List.length_cons]; simp; omega
    have vget : ∀ (l : List Nm) (i k : Nat), i < l.length → k < 3 → (l.flatMap fun q => [Value.bool q.1, .string (bs q.2.1), .string (bs q.2.2)])[i * 3 + k]? = ([Value.bool (l.getD i (false, [], [])).1, .string (bs (l.getD i (false, [], [])).2.1), .string (bs (l.getD i (false, [], [])).2.2)])[k]? := fun l => by
      induction l with
      | nil => intro i k h; simp at h
      | cons q l ih =>
        intro i k hi hk
        cases i with
        | zero => rw [List.flatMap_cons, Nat.zero_mul, Nat.zero_add, List.getElem?_append_left (by simp; omega)]; rfl
        | succ i =>
          rw [List.flatMap_cons, List.getElem?_append_right (by simp; omega)]
          have e : (i + 1) * 3 + k - [Value.bool q.1, .string (bs q.2.1), .string (bs q.2.2)].length = i * 3 + k := by simp; omega
          rw [e, ih i k (by simpa using hi) hk]
          rfl
    have cget : ∀ (l : List Nm) (i k : Nat), i < l.length → k < 3 → (nmsC l)[i * 3 + k]? = (nmC (l.getD i (false, [], [])))[k]? := fun l i k hi hk => by
      rw [← flat_get (f := nmC) (fun _ => rfl) hi, List.getElem?_take, if_pos hk, List.getElem?_drop]
      rfl
    have split3 : ∀ j, j < len * 3 → ∃ i k, i < len ∧ k < 3 ∧ j = i * 3 + k := fun j hj => ⟨j / 3, j % 3, by omega, by omega, by omega⟩
    refine .sl (vs := ((List.range len).map f).flatMap fun q => [Value.bool q.1, .string (bs q.2.1), .string (bs q.2.2)]) (by omega) hl (by rw [nmsC, flat_len (fun _ => rfl), hll]) (by rw [vlen, nmsC, flat_len (fun _ => rfl)]) hb (fun u hu => ?_) (fun j u hu => ?_) (fun j c u hc hu => ?_)
    · obtain ⟨q, _, hq⟩ := List.mem_flatMap.1 hu
      simp only [List.mem_cons, List.not_mem_nil, or_false] at hq
      rcases hq with rfl | rfl | rfl <;> rfl
    · have hj := (List.getElem?_eq_some_iff.1 hu).1
      rw [vlen, hll] at hj
      obtain ⟨i, k, hi, hk, rfl⟩ := split3 j hj
      rw [vget _ i k (by rw [hll]; exact hi) hk, hat i hi] at hu
      obtain ⟨⟨g0, g1, g2⟩, _⟩ := hf i hi
      rw [addE] at g0 g1 g2
      match k, hk with
      | 0, _ => simp at hu; subst hu; exact g0
      | 1, _ => simp at hu; subst hu; exact g1
      | 2, _ => simp at hu; subst hu; exact g2
    · have hj := (List.getElem?_eq_some_iff.1 hu).1
      rw [vlen, hll] at hj
      obtain ⟨i, k, hi, hk, rfl⟩ := split3 j hj
      rw [vget _ i k (by rw [hll]; exact hi) hk] at hu
      rw [cget _ i k (by rw [hll]; exact hi) hk] at hc
      match k, hk with
      | 0, _ => simp [nmC] at hu hc; subst hu; subst hc; exact .bool
      | 1, _ => simp [nmC] at hu hc; subst hu; subst hc; exact .str
      | 2, _ => simp [nmC] at hu hc; subst hu; subst hc; exact .str
end
end Go.Proofs.YtlejgleocnemoaaGreat.I
