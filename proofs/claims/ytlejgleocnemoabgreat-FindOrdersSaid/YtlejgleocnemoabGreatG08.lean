/- The texts L08c L15j WSized LNum, one behind the other. Conditions: each text's own. -/
import Derived.Test.YtlejgleocnemoabGreatG07
import Derived.SizedLaws
import Derived.ChangeSlices
import Derived.Test.YtlejgleocnemoabGreatG02
import Derived.Test.YtlejgleocnemoabGreatG06
import Derived.Deep.Slices
import Derived.Deep.Fields
import Derived.ChangeArms
set_option linter.unusedSimpArgs false
set_option linter.unusedVariables false
namespace Go.Proofs.YtlejgleocnemoabGreat.I
open Go Go.V
attribute [local go_sem] mNil nat0 beq_self_eq_true mSkip mRet mExit mReg mSeq mCond mTrue mFalse mBlock mLv mCodeE mCodeR mEndN mEndR mEndE mOps mSome mGuard mGtt mGff mGtf mGft mGu mCallP mCallR mCallF mCallO mCallZ mCallG mCallM mCallV loopQ_exit loopQ_ret mO_mov mO_newnil mO_pick mO_alloc mO_box mO_build mO_bsl mO_bslF mO_ldf mO_ld mO_st mO_sta mO_nilchk mO_bin mO_binb mO_binp mO_bins mO_neg mO_com mO_not mO_conv mO_mk mO_mk0 mO_s2b mO_b2s mO_cpy mO_cut mO_faddr mO_fld mO_iaddr mO_iaddrf mO_sidx mO_len mO_lenf mO_slen mO_scut mO_app mO_ext mO_mx mO_mn mO_mkfn evalOp cutOp argsE ev getE putE cellsOf adopt rowOf binV boolV nilV ar_add ar_sub ar_mul ar_quo ar_rem ar_eq ar_ne ar_lt ar_le ar_gt ar_ge ar_and ar_or ar_xor geto bound finRet finNrm ints List.length_cons List.length_nil List.length_append List.getElem?_cons_zero List.getElem?_cons_succ List.nil_append List.cons_append List.map_cons List.map_nil List.mapM_cons List.mapM_nil Option.map_some Option.map_none Option.bind_some Option.pure_def Option.bind_eq_bind List.drop_zero or_self or_false false_or or_true true_or true_and and_true and_self decide_true decide_false Bool.false_eq_true Bool.true_eq_false Bool.not_true Bool.not_false Nat.le_refl eq_self gt_iff_lt ge_iff_le ne_eq not_true_eq_false not_false_eq_true storeOp apartOf freeze_nil refsL refs List.flatMap_cons List.flatMap_nil List.append_nil List.contains_nil List.set_cons_zero List.set_cons_succ snap snapL fill_nums flat_nums nums_length Go.V.freeze List.mapIdx_cons List.mapIdx_nil List.contains_cons Bool.or_false Bool.false_or Bool.or_true Bool.true_or
theorem numC_zR {z : Int} : numC z = nmC (toNm (zR z)) := by
  have h1 : toNm (zR z) = (decide (z < 0), decL z.natAbs, decL (dn 1)) := rfl
  rw [h1]
  simp only [numC, nmC, dec_eq]
  rw [show dn 1 = 1 from rfl, decL_digit (d := 1) (by omega)]
  rfl
theorem numsC_zR {l : List Int} : numsC l = nmsC ((l.map zR).map toNm) := by
  induction l with
  | nil => rfl
  | cons z l ih =>
    have e1 : numsC (z :: l) = numC z ++ numsC l := by simp [numsC]
    rw [e1, ih, numC_zR]
    simp [nmsC]
theorem plG_X {s t l : List Int} {ch : Bool} : plG s ch t l = plX s ch t ((l.map zR).map toNm) := by
  rw [plG, plX, numsC_zR]
  simp
end Go.Proofs.YtlejgleocnemoabGreat.I

namespace Go.Proofs.YtlejgleocnemoabGreat.I
open Go Go.V
attribute [local go_sem_proc ↓] reduceIte
attribute [local go_sem_proc] Nat.reduceEqDiff Nat.reduceAdd Nat.reduceMul Nat.reduceLeDiff Nat.reduceLT Int.reduceToNat Int.reduceLT Int.reduceLE reduceCtorEq Nat.reduceBEq
attribute [local go_sem] mNil nat0 beq_self_eq_true mSkip mRet mExit mReg mSeq mCond mTrue mFalse mBlock mLv mCodeE mCodeR mEndN mEndR mEndE mOps mSome mGuard mGtt mGff mGtf mGft mGu mCallP mCallR mCallF mCallO mCallZ mCallG mCallM mCallV loopQ_exit loopQ_ret mO_mov mO_newnil mO_pick mO_alloc mO_box mO_build mO_bsl mO_bslF mO_ldf mO_ld mO_st mO_sta mO_nilchk mO_bin mO_binb mO_binp mO_bins mO_neg mO_com mO_not mO_conv mO_mk mO_mk0 mO_s2b mO_b2s mO_cpy mO_cut mO_faddr mO_fld mO_iaddr mO_iaddrf mO_sidx mO_len mO_lenf mO_slen mO_scut mO_app mO_ext mO_mx mO_mn mO_mkfn evalOp cutOp argsE ev getE putE cellsOf adopt rowOf binV boolV nilV ar_add ar_sub ar_mul ar_quo ar_rem ar_eq ar_ne ar_lt ar_le ar_gt ar_ge ar_and ar_or ar_xor geto bound finRet finNrm ints List.length_cons List.length_nil List.length_append List.getElem?_cons_zero List.getElem?_cons_succ List.nil_append List.cons_append List.map_cons List.map_nil List.mapM_cons List.mapM_nil Option.map_some Option.map_none Option.bind_some Option.pure_def Option.bind_eq_bind List.drop_zero or_self or_false false_or or_true true_or true_and and_true and_self decide_true decide_false Bool.false_eq_true Bool.true_eq_false Bool.not_true Bool.not_false Nat.le_refl eq_self gt_iff_lt ge_iff_le ne_eq not_true_eq_false not_false_eq_true storeOp apartOf freeze_nil refsL refs List.flatMap_cons List.flatMap_nil List.append_nil List.contains_nil List.set_cons_zero List.set_cons_succ snap snapL fill_nums flat_nums nums_length Go.V.freeze List.mapIdx_cons List.mapIdx_nil List.contains_cons Bool.or_false Bool.false_or Bool.or_true Bool.true_or
section
variable {s t : List Int} {ch : Bool} {L : List Rt} {N : Nat} {o : Int}
theorem c21_yes (hs : (s.length : Int) ≤ 1000000000) (ht : (t.length : Int) ≤ 1000000000) (hl : (L.length : Int) ≤ 1000000000) (hlk : ∀ x ∈ L, RtOk x) :
    Go.V.Call tab E 21 [.agg (arrX s ch t L), .int .i64 0, .agg (plX s ch t (L.map toNm)), .int .i64 0] [] (.bool true) [] := by
  refine Go.V.Call.mach i21 c21 rfl rfl rfl rfl ?_
  have hlm : (L.map toNm).length = L.length := by simp
  have hu : ∀ x ∈ L.map toNm, NmU x := fun z hz => by
    obtain ⟨x, hx, rfl⟩ := List.mem_map.1 hz
    exact ⟨(decL_dig _).u8, (decL_dig _).u8, (hlk x hx).len.1, (hlk x hx).len.2⟩
  have h31 := c30_X (s := s) (t := t) (l := L) (ch := ch) (by omega) (by omega) (by omega) hlk
  have h29 := c28_gen (s := s) (s' := s) (t := t) (t' := t) (l := L.map toNm) (l' := L.map toNm) (ch := ch) (ch' := ch) (by omega) (by omega) (by omega) (by omega) (by omega) (by omega) hu hu
  rw [decide_eq_true ⟨rfl, rfl, rfl, rfl⟩] at h29
  simp only [plX, arrX, runes, ints] at h31 h29
  simp only [c21, plX, arrX, runes, ints, go_sem, fillAll, fillIn, shiftR, shiftV, List.take_succ_cons, List.take_zero, List.drop_succ_cons, List.drop_zero, List.append_nil, Nat.zero_add, subA5, subP4, bne_self_eq_false]
  refine goP h31 ?_
  simp only [go_sem, fillAll, fillIn, shiftR, shiftV, List.take_succ_cons, List.take_zero, List.drop_succ_cons, List.drop_zero, List.append_nil, Nat.zero_add, subA5, subP4]
  refine goP h29 ?_
  simp only [go_sem]
  simp only [i21, Out, resAll, geto, ints, List.getElem?_cons_zero, List.getElem?_cons_succ, resOf, outOf, snap, snapL, ev, getE, List.mapM_cons, List.mapM_nil, Option.bind_some, Option.pure_def, Option.bind_eq_bind, Option.map_some, reduceIte, Nat.reduceEqDiff, true_and, and_true]
theorem c21_err {e : Int} (he : e ≠ 0) : Go.V.Call tab E 21 [.agg noA, .int .i64 e, .agg noP, .int .i64 e] [] (.bool true) [] := by
  refine Go.V.Call.mach i21 c21 rfl rfl rfl rfl ?_
  have h55 := noA_len
  have hne : (e != 0) = true := by rw [bne_iff_ne]; exact he
  simp only [noA] at h55
  simp only [c21, noP, plX, noA, runes, ints, nums, nmsC, List.flatMap_nil, go_sem, fillAll, fillIn, shiftR, shiftV, List.take_succ_cons, List.take_zero, List.drop_succ_cons, List.drop_zero, List.append_nil, Nat.zero_add, subA5, subP4, bne_self_eq_false, hne]
  refine goP h55 ?_
  simp only [go_sem, beq_self_eq_true]
  simp only [i21, Out, resAll, geto, ints, List.getElem?_cons_zero, List.getElem?_cons_succ, resOf, outOf, snap, snapL, ev, getE, List.mapM_cons, List.mapM_nil, Option.bind_some, Option.pure_def, Option.bind_eq_bind, Option.map_some, reduceIte, Nat.reduceEqDiff, true_and, and_true]
theorem c19_ok {one : Bool} : Go.V.Call tab E 19 [.bool one] [] (.int .i64 (if one then 1 else 0)) [] := by
  refine Go.V.Call.mach i19 c19 rfl rfl rfl rfl ?_
  cases one
  · simp only [c19, go_sem]
    simp only [i19, Out, resAll, geto, ints, List.getElem?_cons_zero, List.getElem?_cons_succ, resOf, outOf, snap, snapL, ev, getE, List.mapM_cons, List.mapM_nil, Option.bind_some, Option.pure_def, Option.bind_eq_bind, Option.map_some, reduceIte, Nat.reduceEqDiff, true_and, and_true, Bool.false_eq_true, if_false]
  · simp only [c19, go_sem]
    simp only [i19, Out, resAll, geto, ints, List.getElem?_cons_zero, List.getElem?_cons_succ, resOf, outOf, snap, snapL, ev, getE, List.mapM_cons, List.mapM_nil, Option.bind_some, Option.pure_def, Option.bind_eq_bind, Option.map_some, reduceIte, Nat.reduceEqDiff, true_and, and_true, if_true]
theorem c20_err {down : Bool} {l : List Nm} (hsl : (s.length : Int) ≤ 1000000000) (h : s.length ≠ 1) : Go.V.Call tab E 20 [.agg (plX s ch t l), .bool down, .int .i64 o] [] (.tup [.agg noP, .int .i64 23]) [] := by
  refine Go.V.Call.mach i20 c20 rfl rfl rfl rfl ?_
  have hne : ((s.length : Int) != 1) = true := by rw [bne_iff_ne]; omega
  simp only [c20, plX, runes, ints, go_sem, fillAll, fillIn, shiftR, shiftV, List.take_succ_cons, List.take_zero, List.drop_succ_cons, List.drop_zero, List.append_nil, Nat.zero_add, subP4, subP4a, hne]
  simp only [i20, Out, resAll, geto, ints, List.getElem?_cons_zero, List.getElem?_cons_succ, resOf, outOf, snap, snapL, ev, getE, List.mapM_cons, List.mapM_nil, Option.bind_some, Option.pure_def, Option.bind_eq_bind, Option.map_some, reduceIte, Nat.reduceEqDiff, true_and, and_true, subP4, noP, plX]
  rfl
def docG (s t : List Int) (ch : Bool) (l : List Nm) (N : Nat) (r : List Int) : List AObj :=
  [⟨true, 26, 4, 0, 1, plX s ch t l, false⟩, ⟨false, 3, 1, 0, 0, [], false⟩, ⟨false, 21, 1, 0, 0, [], false⟩, ⟨false, 66, 3, 0, 0, [], false⟩, ⟨true, 26, 4, 0, 1, [.arr 1 0, .bool false, .arr 2 0, .arr 3 0], false⟩, ⟨false, 3, 1, 0, N, nums .i64 r, false⟩]
def laidG (g : List Int) (o : Int) (i : Nat) : List Int := g.map fun z : Int => if z < (i : Int) then z + o else 0
theorem laidG_len {g : List Int} {i : Nat} : (laidG g o i).length = g.length := by simp [laidG]
theorem laidG_zero {g : List Int} (h : ∀ z ∈ g, 0 ≤ z) : laidG g o 0 = List.replicate g.length 0 := by
  rw [laidG, List.map_congr_left (g := fun _ => (0 : Int)) fun z hz => if_neg (by have := h z hz; omega), List.map_const']
theorem laidG_all {g : List Int} (h : ∀ z ∈ g, z < N) : laidG g o N = plus g o := List.map_congr_left fun z hz => if_pos (h z hz)
theorem laidG_step {g : List Int} {i p : Nat} (hnd : g.Pairwise fun x y => x ≠ y) (hp : p < g.length) (hgp : g.getD p 0 = i) : (laidG g o i).take p ++ ((i : Int) + o) :: (laidG g o i).drop (p + 1) = laidG g o (i + 1) := by
  have e : (laidG g o i).set p ((i : Int) + o) = (laidG g o i).take p ++ ((i : Int) + o) :: (laidG g o i).drop (p + 1) := by
    rw [List.set_eq_take_append_cons_drop, if_pos (by rw [laidG_len]; exact hp)]
  rw [← e]
  refine List.ext_getElem (by simp [laidG]) fun j h1 h2 => ?_
  have hj : j < g.length := by simpa [laidG] using h2
  have hgp' : g[p] = (i : Int) := by simpa [List.getD, hp] using hgp
  rw [List.getElem_set]
  simp only [laidG, List.getElem_map]
  split
  · rename_i hq
    subst hq
    rw [hgp', if_pos (by omega)]
  · rename_i hq
    have hne : g[j] ≠ (i : Int) := by
      rw [← hgp']
      rcases Nat.lt_or_gt_of_ne hq with h | h
      · exact (List.pairwise_iff_getElem.1 hnd p j hp hj h).symm
      · exact List.pairwise_iff_getElem.1 hnd j p hj hp h
    have hiff : g[j] < ((i + 1 : Nat) : Int) ↔ g[j] < (i : Int) := by omega
    by_cases h : g[j] < (i : Int)
    · rw [if_pos h, if_pos (hiff.2 h)]
    · rw [if_neg h, if_neg fun h3 => h (hiff.1 h3)]
def cntA (down ch : Bool) (t : List Int) (L : List Rt) (N i k : Nat) : Nat := ((rng N).take k).countP fun j => grdB down ch t L j i
theorem cntA_step {down : Bool} {i k : Nat} (hk : k < N) : cntA down ch t L N i (k + 1) = cntA down ch t L N i k + if grdB down ch t L k i then 1 else 0 := by
  rw [cntA, cntA, tk_getD (by rw [rng_len]; exact hk), List.countP_append]
  have e : (rng N).getD k 0 = (k : Int) := by simp [rng, List.getD, hk]
  rw [e, List.countP_singleton]
theorem cntA_le {down : Bool} {i k : Nat} : cntA down ch t L N i k ≤ k := by
  refine Nat.le_trans List.countP_le_length ?_
  rw [List.length_take]; omega
set_option maxHeartbeats 4000000 in
theorem c20_ok {down : Bool} {g : List Int} (hs1 : s.length = 1) (hN : t.length + L.length = N) (hN2 : N ≤ 100000) (hch : (ch = true → L = []) ∧ (ch = false → t = [])) (hred : ∀ x ∈ L, RtRed x) (ho : 0 ≤ o ∧ o ≤ 1) (g1 : g.Perm (rng N)) (g2 : g.Pairwise (grdO down ch t L)) (hO : Ord (grdO down ch t L)) :
    Go.V.Call tab E 20 [.agg (plX s ch t (L.map toNm)), .bool down, .int .i64 o] [] (.tup [.agg (plX [(N : Int)] false [] (((plus g o).map zR).map toNm)), .int .i64 0]) [] := by
  refine Go.V.Call.mach i20 c20 rfl rfl rfl rfl ?_
  have hgl : g.length = N := by rw [g1.length_eq, rng_len]
  have hgm : ∀ z ∈ g, 0 ≤ z ∧ z < (N : Int) := fun z hz => rng_mem.1 (g1.mem_iff.1 hz)
  have hnd : g.Pairwise fun x y => x ≠ y := (g1.symm.pairwise (rng_pw.imp fun h => (by omega))) (fun h => h.symm)
  have h63 := c63_ok (s := s) (t := t) (l := L.map toNm) (ch := ch) (by omega) (by simp; omega)
  rw [List.length_map, hN] at h63
  have h64 := fun (i k : Nat) (hi : i < N) (hk : k < N) => c64_ok (s := s) (t := t) (ch := ch) (L := L) (i := i) (k := k) (by omega) (by omega) hch hred (by omega) (by omega)
  have hp64 : ∀ z ∈ plus g o, In64 z := fun z hz => by
    obtain ⟨x, hx, rfl⟩ := List.mem_map.1 hz
    have := hgm x hx
    exact ⟨by omega, by omega⟩
  have h56 := c56_ok (E := E) (l := plus g o) (by rw [plus_len]; omega) hp64
  rw [plG_X, plus_len, hgl] at h56
  have hsne : ((s.length : Int) != 1) = false := by rw [hs1]; rfl
  have hanti : ∀ i k : Nat, (ordV ch t L i t L k < 0 → ¬ ordV ch t L k t L i < 0) := fun i k h h2 => by
    have := (ordV_cf (ch := ch) (t := t) (L := L)).anti.1 h
    omega
  have hzero : ∀ i k : Nat, ¬ ordV ch t L i t L k < 0 → ¬ ordV ch t L k t L i < 0 → ordV ch t L k t L i = 0 ∧ ordV ch t L i t L k = 0 := fun i k h h2 =>
    ⟨(ordV_cf (ch := ch) (t := t) (L := L)).zero.2 ⟨h2, h⟩, (ordV_cf (ch := ch) (t := t) (L := L)).zero.2 ⟨h, h2⟩⟩
  generalize L.map toNm = l at *
  have z0 : (0 : Int) ≤ (N : Int) := by omega
  have z1 : 8 * N ≤ 140737488355328 := by omega
  have z2 : (N : Int) ≤ 140737488355328 := by omega
  simp only [plX, runes, ints, plus_len, hgl] at h63 h64 h56
  simp only [c20, plX, runes, ints, go_sem, fillAll, fillIn, shiftR, shiftV, List.take_succ_cons, List.take_zero, List.drop_succ_cons, List.drop_zero, List.append_nil, Nat.zero_add, subP4, subP4a, hsne]
  refine goP h63 ?_
  simp only [go_sem, fillAll, fillIn, shiftR, shiftV, List.take_succ_cons, List.take_zero, List.drop_succ_cons, List.drop_zero, List.append_nil, Nat.zero_add, subP4, Int.toNat_natCast, z0, z1, z2, flat_nums]
  refine mLoop (fun M st => ∃ i : Nat, i ≤ N ∧ M = N - i ∧ st = ⟨[(1, .bool down), (2, .int .i64 o), (3, .loc 0 0 0), (6, .loc 4 0 0), (8, .arr 5 0), (9, .int .i64 i)], docG s t ch l N (laidG g o i)⟩) N ⟨_, rfl, 0, by omega, by omega, by rw [laidG_zero fun z hz => (hgm z hz).1, hgl]; simp [getE, docG, plX, ints, runes]⟩ ?_
  rintro M s0 ⟨i, hi, rfl, rfl⟩
  by_cases hlt : i < N
  · have hlt' : (i : Int) < (N : Int) := by omega
    have hi0 : (0 : Int) ≤ (i : Int) := by omega
    have hi1 : IntKind.i64.wrap ((i : Int) + 1) = ((i + 1 : Nat) : Int) := by rw [wrap_i64 (by omega) (by omega)]; omega
    obtain ⟨p, hp, hgp⟩ : ∃ p, p < g.length ∧ g.getD p 0 = (i : Int) := by
      obtain ⟨p, hp, h⟩ := List.getElem_of_mem (g1.mem_iff.2 (rng_mem.2 ⟨hi0, hlt'⟩))
      exact ⟨p, hp, by simpa [List.getD, hp] using h⟩
    have hcp : cntA down ch t L N i N = p := by
      rw [cntA, List.take_of_length_le (by rw [rng_len]; omega), ← hgp]
      exact cnt_ahead g1 g2 hO hp
    have hstep := laidG_step (o := o) hnd hp hgp
    have hll : (laidG g o i).length = N := by rw [laidG_len, hgl]
    simp only [b20_0, docG, plX, runes, ints, go_sem, fillAll, fillIn, shiftR, shiftV, List.take_succ_cons, List.take_zero, List.drop_succ_cons, List.drop_zero, List.append_nil, Nat.zero_add, subP4, subP4a, hlt']
    refine mLoop (fun M st => ∃ k : Nat, k ≤ N ∧ M = N - k ∧ st = ⟨[(1, .bool down), (2, .int .i64 o), (3, .loc 0 0 0), (6, .loc 4 0 0), (8, .arr 5 0), (9, .int .i64 i), (10, .int .i64 (cntA down ch t L N i k : Nat)), (11, .int .i64 k)], docG s t ch l N (laidG g o i)⟩) N ⟨_, rfl, 0, by omega, by omega, by simp [getE, docG, plX, ints, runes, cntA]⟩ ?_
    rintro M s1 ⟨k, hk, rfl, rfl⟩
    by_cases hltk : k < N
    · have hltk' : (k : Int) < (N : Int) := by omega
      have hk1 : IntKind.i64.wrap ((k : Int) + 1) = ((k + 1 : Nat) : Int) := by rw [wrap_i64 (by omega) (by omega)]; omega
      have hcl := cntA_le (down := down) (ch := ch) (t := t) (L := L) (N := N) (i := i) (k := k)
      have hc1 : IntKind.i64.wrap (((cntA down ch t L N i k : Nat) : Int) + 1) = ((cntA down ch t L N i k + 1 : Nat) : Int) := by rw [wrap_i64 (by omega) (by omega)]; omega
      have hst := cntA_step (down := down) (ch := ch) (t := t) (L := L) (i := i) hltk
      have hki := h64 k i hltk hlt
      have hik := h64 i k hlt hltk
      have an1 := hanti k i
      have an2 := hanti i k
      have hze := hzero i k
      have hnz1 : ordV ch t L i t L k = 0 → ¬ ordV ch t L k t L i < 0 := fun h => ((ordV_cf (ch := ch) (t := t) (L := L)).zero.1 h).2
      have hnz2 : ordV ch t L k t L i = 0 → ¬ ordV ch t L i t L k < 0 := fun h => ((ordV_cf (ch := ch) (t := t) (L := L)).zero.1 h).2
      cases down with
      | false =>
        by_cases c1 : ordV ch t L k t L i < 0
        · skip
          rw [decide_eq_true c1] at hki
          have hb : grdB false ch t L k i = true := by simp [grdB, c1]
          simp only [b20_1, docG, plX, runes, ints, go_sem, fillAll, fillIn, shiftR, shiftV, List.take_succ_cons, List.take_zero, List.drop_succ_cons, List.drop_zero, List.append_nil, Nat.zero_add, subP4, subP4a, hltk']
          refine goP hki ?_
          simp only [go_sem, fillAll, fillIn, shiftR, shiftV, List.take_succ_cons, List.take_zero, List.drop_succ_cons, List.drop_zero, List.append_nil, Nat.zero_add, subP4, subP4a]
          refine goP hki ?_
          simp only [go_sem, fillAll, fillIn, shiftR, shiftV, List.take_succ_cons, List.take_zero, List.drop_succ_cons, List.drop_zero, List.append_nil, Nat.zero_add, subP4, subP4a, hc1, hk1]
          exact loopQ_go rfl (N - (k + 1)) (by omega) ⟨k + 1, by omega, rfl, by rw [hst, hb]; rfl⟩
        · by_cases c2 : ordV ch t L i t L k < 0
          · skip
            have c0 : ordV ch t L k t L i ≠ 0 := fun h => hnz2 h c2
            rw [decide_eq_false c1] at hki
            rw [decide_eq_true c2] at hik
            have hb : grdB false ch t L k i = false := by simp [grdB, c1, c0]
            simp only [b20_1, docG, plX, runes, ints, go_sem, fillAll, fillIn, shiftR, shiftV, List.take_succ_cons, List.take_zero, List.drop_succ_cons, List.drop_zero, List.append_nil, Nat.zero_add, subP4, subP4a, hltk']
            refine goP hki ?_
            simp only [go_sem, fillAll, fillIn, shiftR, shiftV, List.take_succ_cons, List.take_zero, List.drop_succ_cons, List.drop_zero, List.append_nil, Nat.zero_add, subP4, subP4a]
            refine goP hki ?_
            simp only [go_sem, fillAll, fillIn, shiftR, shiftV, List.take_succ_cons, List.take_zero, List.drop_succ_cons, List.drop_zero, List.append_nil, Nat.zero_add, subP4, subP4a]
            refine goP hik ?_
            simp only [go_sem, fillAll, fillIn, shiftR, shiftV, List.take_succ_cons, List.take_zero, List.drop_succ_cons, List.drop_zero, List.append_nil, Nat.zero_add, subP4, subP4a, hc1, hk1]
            exact loopQ_go rfl (N - (k + 1)) (by omega) ⟨k + 1, by omega, rfl, by rw [hst, hb]; rfl⟩
          · have c0 := (hze c2 c1).1
            by_cases c3 : (k : Int) < (i : Int)
            · skip
              rw [decide_eq_false c1] at hki
              rw [decide_eq_false c2] at hik
              have hb : grdB false ch t L k i = true := by simp [grdB, c0, c3]
              simp only [b20_1, docG, plX, runes, ints, go_sem, fillAll, fillIn, shiftR, shiftV, List.take_succ_cons, List.take_zero, List.drop_succ_cons, List.drop_zero, List.append_nil, Nat.zero_add, subP4, subP4a, hltk']
              refine goP hki ?_
              simp only [go_sem, fillAll, fillIn, shiftR, shiftV, List.take_succ_cons, List.take_zero, List.drop_succ_cons, List.drop_zero, List.append_nil, Nat.zero_add, subP4, subP4a]
              refine goP hki ?_
              simp only [go_sem, fillAll, fillIn, shiftR, shiftV, List.take_succ_cons, List.take_zero, List.drop_succ_cons, List.drop_zero, List.append_nil, Nat.zero_add, subP4, subP4a]
              refine goP hik ?_
              simp only [go_sem, fillAll, fillIn, shiftR, shiftV, List.take_succ_cons, List.take_zero, List.drop_succ_cons, List.drop_zero, List.append_nil, Nat.zero_add, subP4, subP4a, hc1, hk1, c3]
              exact loopQ_go rfl (N - (k + 1)) (by omega) ⟨k + 1, by omega, rfl, by rw [hst, hb]; rfl⟩
            · skip
              rw [decide_eq_false c1] at hki
              rw [decide_eq_false c2] at hik
              have hb : grdB false ch t L k i = false := by simp [grdB, c0, c3]
              simp only [b20_1, docG, plX, runes, ints, go_sem, fillAll, fillIn, shiftR, shiftV, List.take_succ_cons, List.take_zero, List.drop_succ_cons, List.drop_zero, List.append_nil, Nat.zero_add, subP4, subP4a, hltk']
              refine goP hki ?_
              simp only [go_sem, fillAll, fillIn, shiftR, shiftV, List.take_succ_cons, List.take_zero, List.drop_succ_cons, List.drop_zero, List.append_nil, Nat.zero_add, subP4, subP4a]
              refine goP hki ?_
              simp only [go_sem, fillAll, fillIn, shiftR, shiftV, List.take_succ_cons, List.take_zero, List.drop_succ_cons, List.drop_zero, List.append_nil, Nat.zero_add, subP4, subP4a]
              refine goP hik ?_
              simp only [go_sem, fillAll, fillIn, shiftR, shiftV, List.take_succ_cons, List.take_zero, List.drop_succ_cons, List.drop_zero, List.append_nil, Nat.zero_add, subP4, subP4a, hc1, hk1, c3]
              exact loopQ_go rfl (N - (k + 1)) (by omega) ⟨k + 1, by omega, rfl, by rw [hst, hb]; rfl⟩
      | true =>
        by_cases c2 : ordV ch t L i t L k < 0
        · skip
          have c1 := an2 c2
          rw [decide_eq_false c1] at hki
          rw [decide_eq_true c2] at hik
          have hb : grdB true ch t L k i = true := by simp [grdB, c2]
          simp only [b20_1, docG, plX, runes, ints, go_sem, fillAll, fillIn, shiftR, shiftV, List.take_succ_cons, List.take_zero, List.drop_succ_cons, List.drop_zero, List.append_nil, Nat.zero_add, subP4, subP4a, hltk']
          refine goP hik ?_
          simp only [go_sem, fillAll, fillIn, shiftR, shiftV, List.take_succ_cons, List.take_zero, List.drop_succ_cons, List.drop_zero, List.append_nil, Nat.zero_add, subP4, subP4a]
          refine goP hki ?_
          simp only [go_sem, fillAll, fillIn, shiftR, shiftV, List.take_succ_cons, List.take_zero, List.drop_succ_cons, List.drop_zero, List.append_nil, Nat.zero_add, subP4, subP4a]
          refine goP hik ?_
          simp only [go_sem, fillAll, fillIn, shiftR, shiftV, List.take_succ_cons, List.take_zero, List.drop_succ_cons, List.drop_zero, List.append_nil, Nat.zero_add, subP4, subP4a, hc1, hk1]
          exact loopQ_go rfl (N - (k + 1)) (by omega) ⟨k + 1, by omega, rfl, by rw [hst, hb]; rfl⟩
        · by_cases c1 : ordV ch t L k t L i < 0
          · skip
            have c0 : ordV ch t L i t L k ≠ 0 := fun h => hnz1 h c1
            rw [decide_eq_true c1] at hki
            rw [decide_eq_false c2] at hik
            have hb : grdB true ch t L k i = false := by simp [grdB, c2, c0]
            simp only [b20_1, docG, plX, runes, ints, go_sem, fillAll, fillIn, shiftR, shiftV, List.take_succ_cons, List.take_zero, List.drop_succ_cons, List.drop_zero, List.append_nil, Nat.zero_add, subP4, subP4a, hltk']
            refine goP hik ?_
            simp only [go_sem, fillAll, fillIn, shiftR, shiftV, List.take_succ_cons, List.take_zero, List.drop_succ_cons, List.drop_zero, List.append_nil, Nat.zero_add, subP4, subP4a]
            refine goP hki ?_
            simp only [go_sem, fillAll, fillIn, shiftR, shiftV, List.take_succ_cons, List.take_zero, List.drop_succ_cons, List.drop_zero, List.append_nil, Nat.zero_add, subP4, subP4a, hc1, hk1]
            exact loopQ_go rfl (N - (k + 1)) (by omega) ⟨k + 1, by omega, rfl, by rw [hst, hb]; rfl⟩
          · have c0 := (hze c2 c1).2
            by_cases c3 : (k : Int) < (i : Int)
            · skip
              rw [decide_eq_false c1] at hki
              rw [decide_eq_false c2] at hik
              have hb : grdB true ch t L k i = true := by simp [grdB, c0, c3]
              simp only [b20_1, docG, plX, runes, ints, go_sem, fillAll, fillIn, shiftR, shiftV, List.take_succ_cons, List.take_zero, List.drop_succ_cons, List.drop_zero, List.append_nil, Nat.zero_add, subP4, subP4a, hltk']
              refine goP hik ?_
              simp only [go_sem, fillAll, fillIn, shiftR, shiftV, List.take_succ_cons, List.take_zero, List.drop_succ_cons, List.drop_zero, List.append_nil, Nat.zero_add, subP4, subP4a]
              refine goP hki ?_
              simp only [go_sem, fillAll, fillIn, shiftR, shiftV, List.take_succ_cons, List.take_zero, List.drop_succ_cons, List.drop_zero, List.append_nil, Nat.zero_add, subP4, subP4a]
              refine goP hik ?_
              simp only [go_sem, fillAll, fillIn, shiftR, shiftV, List.take_succ_cons, List.take_zero, List.drop_succ_cons, List.drop_zero, List.append_nil, Nat.zero_add, subP4, subP4a, hc1, hk1, c3]
              exact loopQ_go rfl (N - (k + 1)) (by omega) ⟨k + 1, by omega, rfl, by rw [hst, hb]; rfl⟩
            · skip
              rw [decide_eq_false c1] at hki
              rw [decide_eq_false c2] at hik
              have hb : grdB true ch t L k i = false := by simp [grdB, c0, c3]
              simp only [b20_1, docG, plX, runes, ints, go_sem, fillAll, fillIn, shiftR, shiftV, List.take_succ_cons, List.take_zero, List.drop_succ_cons, List.drop_zero, List.append_nil, Nat.zero_add, subP4, subP4a, hltk']
              refine goP hik ?_
              simp only [go_sem, fillAll, fillIn, shiftR, shiftV, List.take_succ_cons, List.take_zero, List.drop_succ_cons, List.drop_zero, List.append_nil, Nat.zero_add, subP4, subP4a]
              refine goP hki ?_
              simp only [go_sem, fillAll, fillIn, shiftR, shiftV, List.take_succ_cons, List.take_zero, List.drop_succ_cons, List.drop_zero, List.append_nil, Nat.zero_add, subP4, subP4a]
              refine goP hik ?_
              simp only [go_sem, fillAll, fillIn, shiftR, shiftV, List.take_succ_cons, List.take_zero, List.drop_succ_cons, List.drop_zero, List.append_nil, Nat.zero_add, subP4, subP4a, hc1, hk1, c3]
              exact loopQ_go rfl (N - (k + 1)) (by omega) ⟨k + 1, by omega, rfl, by rw [hst, hb]; rfl⟩
    · have hltk' : ¬ (k : Int) < (N : Int) := by omega
      obtain rfl : k = N := by omega
      rw [hcp]
      have p1 : (0 : Int) ≤ (p : Int) := by omega
      have p2 : (p : Int) < (k : Int) := by omega
      have w1 : IntKind.i64.wrap (o + (i : Int)) = (i : Int) + o := by rw [wrap_i64 (by omega) (by omega)]; omega
      have hst : p * 1 + 1 ≤ (laidG g o i).length := by omega
      generalize laidG g o i = y at *
      simp only [b20_1, k20_0, k20_1, docG, plX, runes, ints, go_sem, fillAll, fillIn, shiftR, shiftV, List.take_succ_cons, List.take_zero, List.drop_succ_cons, List.drop_zero, List.append_nil, Nat.zero_add, subP4, subP4a, hltk', w1, p1, p2, Int.toNat_natCast, hst, put_nums, hstep, hi1]
      exact loopQ_go rfl (k - (i + 1)) (by omega) ⟨i + 1, by omega, rfl, rfl⟩
  · have hlt' : ¬ (i : Int) < (N : Int) := by omega
    obtain rfl : i = N := by omega
    rw [laidG_all fun z hz => (hgm z hz).2]
    simp only [b20_0, k20_2, docG, plX, runes, ints, go_sem, fillAll, fillIn, shiftR, shiftV, List.take_succ_cons, List.take_zero, List.drop_succ_cons, List.drop_zero, List.append_nil, Nat.zero_add, subP4, subP4a, hlt']
    refine goF h56 ?_
    simp only [go_sem, fillAll, fillIn, shiftR, shiftV, List.take_succ_cons, List.take_zero, List.drop_succ_cons, List.drop_zero, List.append_nil, Nat.zero_add, subP4]
    simp only [i20, Out, resAll, geto, ints, List.getElem?_cons_zero, List.getElem?_cons_succ, resOf, outOf, snap, snapL, ev, getE, List.mapM_cons, List.mapM_nil, Option.bind_some, Option.pure_def, Option.bind_eq_bind, Option.map_some, reduceIte, Nat.reduceEqDiff, true_and, and_true, subP4, plX, runes, ints]
set_option maxHeartbeats 2000000 in
theorem c5_orders {l : List Nm} {down one : Bool} (hs : ∀ d ∈ s, In64 d) (hu : ∀ x ∈ l, U8 x.2.1 ∧ U8 x.2.2) : Go.V.Call tab E 5 [.agg (plX s ch t l), .bool down, .bool one] [] (.bool true) [] := by
  refine Go.V.Call.mach i5 c5 rfl rfl rfl rfl ?_
  have h16 := fun ok h => c16_ok (s := s) (t := t) (l := l) (ch := ch) (ok := ok) hs hu h
  by_cases hL : LightP s ch t l 120
  · have h16t := h16 true ⟨fun _ => hL, fun _ => rfl⟩
    obtain ⟨l1, l2, l3, l4, hR⟩ := hL
    have hU : ∀ x ∈ l, NmU x := fun x hx => ⟨(hu x hx).1, (hu x hx).2, by have := (l4 x hx).1; omega, by have := (l4 x hx).2; omega⟩
    have h11 := c11_ok hs (by omega) (by omega) (by omega) hU hR
    have hlm : (l.map toRt).length = l.length := by simp
    have hred : ∀ z ∈ l.map toRt, RtRed z := fun z hz => by
      obtain ⟨x, hx, rfl⟩ := List.mem_map.1 hz
      exact right_red (hR.2 x hx)
    have hch : (ch = true → l.map toRt = []) ∧ (ch = false → t = []) := by
      have h1 := hR.1
      unfold Shapes at h1
      refine ⟨fun h => ?_, fun h => ?_⟩
      · subst h; rw [List.length_eq_zero_iff.1 h1.2]; rfl
      · subst h; exact h1.2
    have h19 := c19_ok (one := one)
    have ho : (0 : Int) ≤ (if one then 1 else 0) ∧ (if one then (1 : Int) else 0) ≤ 1 := by cases one <;> simp
    generalize (if one then (1 : Int) else 0) = o at *
    by_cases hs1 : s.length = 1
    · obtain ⟨g, g1, g2, g3⟩ := c18_ok (s := s) (t := t) (ch := ch) (L := l.map toRt) (down := down) (o := o) hs1 (by omega) (fun x hx => (hred x hx).1) ho
      have hO : Ord (grdO down ch t (l.map toRt)) := by
        cases down
        · exact stb_ord ordV_cf
        · exact stb_ord ordV_cf.flip
      have h20 := c20_ok (down := down) (g := g) hs1 rfl (by omega) hch hred ho g1 g2 hO
      rw [back_nms hR.2] at h20
      have hgm : ∀ z ∈ g, 0 ≤ z ∧ z < ((t.length + (l.map toRt).length : Nat) : Int) := fun z hz => rng_mem.1 (g1.mem_iff.1 hz)
      have hgl : g.length = t.length + (l.map toRt).length := by rw [g1.length_eq, rng_len]
      have h21 := c21_yes (s := [((t.length + (l.map toRt).length : Nat) : Int)]) (t := []) (ch := false) (L := (plus g o).map zR) (by simp) (by simp) (by rw [List.length_map, plus_len]; omega) fun z hz => by
        obtain ⟨x, hx, rfl⟩ := List.mem_map.1 hz
        obtain ⟨y, hy, rfl⟩ := List.mem_map.1 hx
        have := hgm y hy
        exact zR_ok ⟨by omega, by omega⟩
      generalize l.map toRt = L at *
      generalize (plus g o).map zR = R at *
      simp only [plX, arrX, runes, ints] at h16t h11 h19 g3 h20 h21
      simp only [c5, plX, runes, ints, go_sem, fillAll, fillIn, shiftR, shiftV, List.take_succ_cons, List.take_zero, List.drop_succ_cons, List.drop_zero, List.append_nil, Nat.zero_add, subP4]
      refine goP h16t ?_
      simp only [go_sem, fillAll, fillIn, shiftR, shiftV, List.take_succ_cons, List.take_zero, List.drop_succ_cons, List.drop_zero, List.append_nil, Nat.zero_add, subP4, subA5]
      refine goP h11 ?_
      simp only [go_sem, fillAll, fillIn, shiftR, shiftV, List.take_succ_cons, List.take_zero, List.drop_succ_cons, List.drop_zero, List.append_nil, Nat.zero_add, subP4, subA5]
      refine goP h19 ?_
      simp only [go_sem, fillAll, fillIn, shiftR, shiftV, List.take_succ_cons, List.take_zero, List.drop_succ_cons, List.drop_zero, List.append_nil, Nat.zero_add, subP4, subA5]
      refine goP g3 ?_
      simp only [go_sem, fillAll, fillIn, shiftR, shiftV, List.take_succ_cons, List.take_zero, List.drop_succ_cons, List.drop_zero, List.append_nil, Nat.zero_add, subP4, subA5]
      refine goP h19 ?_
      simp only [go_sem, fillAll, fillIn, shiftR, shiftV, List.take_succ_cons, List.take_zero, List.drop_succ_cons, List.drop_zero, List.append_nil, Nat.zero_add, subP4, subA5]
      refine goP h20 ?_
      simp only [go_sem, fillAll, fillIn, shiftR, shiftV, List.take_succ_cons, List.take_zero, List.drop_succ_cons, List.drop_zero, List.append_nil, Nat.zero_add, subP4, subA5]
      refine goR h21 rfl ?_
      simp only [go_sem, fillAll, fillIn, shiftR, shiftV, List.take_succ_cons, List.take_zero, List.drop_succ_cons, List.drop_zero, List.append_nil, Nat.zero_add, subP4, subA5]
      refine goP c17_awake ?_
      simp only [go_sem]
      simp only [i5, Out, resAll, geto, ints, List.getElem?_cons_zero, List.getElem?_cons_succ, resOf, outOf, snap, snapL, ev, getE, List.mapM_cons, List.mapM_nil, Option.bind_some, Option.pure_def, Option.bind_eq_bind, Option.map_some, reduceIte, Nat.reduceEqDiff, true_and, and_true]
    · have h18 := c18_err (s := s) (t := t) (ch := ch) (L := l.map toRt) (down := down) (o := o) (by omega) hs1
      have h20 := c20_err (s := s) (t := t) (ch := ch) (l := l) (down := down) (o := o) (by omega) hs1
      have h21 := c21_err (e := 23) (by omega)
      generalize l.map toRt = L at *
      simp only [plX, arrX, noA, noP, runes, ints] at h16t h11 h19 h18 h20 h21
      simp only [c5, plX, runes, ints, go_sem, fillAll, fillIn, shiftR, shiftV, List.take_succ_cons, List.take_zero, List.drop_succ_cons, List.drop_zero, List.append_nil, Nat.zero_add, subP4]
      refine goP h16t ?_
      simp only [go_sem, fillAll, fillIn, shiftR, shiftV, List.take_succ_cons, List.take_zero, List.drop_succ_cons, List.drop_zero, List.append_nil, Nat.zero_add, subP4, subA5]
      refine goP h11 ?_
      simp only [go_sem, fillAll, fillIn, shiftR, shiftV, List.take_succ_cons, List.take_zero, List.drop_succ_cons, List.drop_zero, List.append_nil, Nat.zero_add, subP4, subA5]
      refine goP h19 ?_
      simp only [go_sem, fillAll, fillIn, shiftR, shiftV, List.take_succ_cons, List.take_zero, List.drop_succ_cons, List.drop_zero, List.append_nil, Nat.zero_add, subP4, subA5]
      refine goP h18 ?_
      simp only [go_sem, fillAll, fillIn, shiftR, shiftV, List.take_succ_cons, List.take_zero, List.drop_succ_cons, List.drop_zero, List.append_nil, Nat.zero_add, subP4, subA5]
      refine goP h19 ?_
      simp only [go_sem, fillAll, fillIn, shiftR, shiftV, List.take_succ_cons, List.take_zero, List.drop_succ_cons, List.drop_zero, List.append_nil, Nat.zero_add, subP4, subA5]
      refine goP h20 ?_
      simp only [go_sem, fillAll, fillIn, shiftR, shiftV, List.take_succ_cons, List.take_zero, List.drop_succ_cons, List.drop_zero, List.append_nil, Nat.zero_add, subP4, subA5]
      refine goR h21 rfl ?_
      simp only [go_sem, fillAll, fillIn, shiftR, shiftV, List.take_succ_cons, List.take_zero, List.drop_succ_cons, List.drop_zero, List.append_nil, Nat.zero_add, subP4, subA5]
      refine goP c17_awake ?_
      simp only [go_sem]
      simp only [i5, Out, resAll, geto, ints, List.getElem?_cons_zero, List.getElem?_cons_succ, resOf, outOf, snap, snapL, ev, getE, List.mapM_cons, List.mapM_nil, Option.bind_some, Option.pure_def, Option.bind_eq_bind, Option.map_some, reduceIte, Nat.reduceEqDiff, true_and, and_true]
  · have h16f := h16 false ⟨fun h => (by cases h), fun h => absurd h hL⟩
    simp only [plX, runes, ints] at h16f
    simp only [c5, plX, runes, ints, go_sem, fillAll, fillIn, shiftR, shiftV, List.take_succ_cons, List.take_zero, List.drop_succ_cons, List.drop_zero, List.append_nil, Nat.zero_add, subP4]
    refine goP h16f ?_
    simp only [go_sem]
    refine goP c17_awake ?_
    simp only [go_sem]
    simp only [i5, Out, resAll, geto, ints, List.getElem?_cons_zero, List.getElem?_cons_succ, resOf, outOf, snap, snapL, ev, getE, List.mapM_cons, List.mapM_nil, Option.bind_some, Option.pure_def, Option.bind_eq_bind, Option.map_some, reduceIte, Nat.reduceEqDiff, true_and, and_true]
end
end Go.Proofs.YtlejgleocnemoabGreat.I

-- PRINTED BY print.sh 35421559b90ae4d0a3588c463048766b98c2df88dd9212a6774a882060cdf62d: not written by this session
-- PRINTED WORDS (module Derived/Print/Sized.lean): go-gate-2's, for the rows of laws over slices: an AI agent of Go's test side, Tue Nov 17 2026; no person has read it. Lean checks it.
namespace Go.Proofs.YtlejgleocnemoabGreatW.PrintWords
open Go.ChangeShapes Go.WideShapes
end Go.Proofs.YtlejgleocnemoabGreatW.PrintWords

namespace Go.Proofs.YtlejgleocnemoabGreat.I
open Go Go.V Go.ChangeShapes Go.WideShapes Go.Deep
section
variable {H : Type} {enc : TypeId × Value → H} {P : Program} {w : World} {spare : Nat → Bool} {held : Bool}
theorem open_num1 {e : TypeId} {f0 f1 f2 : Field} {fuel : Nat} {a : Addr} {cs : List Value} {y : DataW H × List MemPlace} (he : P.underlying e = some (.struct #[f0, f1, f2])) (hone : oneCellFields P #[f0, f1, f2] = true)
    (h0 : P.underlying f0.type = some .bool) (h1 : P.underlying f1.type = some .string) (h2 : P.underlying f2.type = some .string) (hc : w.cells? 0 a 3 = some cs) (h : DataW.trod enc P w 0 spare held fuel e cs = some y) :
    ∃ q : Nm, (w.cell? (a.add 0) = some (.bool q.1) ∧ w.cell? (a.add 1) = some (.string (bs q.2.1)) ∧ w.cell? (a.add 2) = some (.string (bs q.2.2))) ∧ U8 q.2.1 ∧ U8 q.2.2 ∧ q.2.1.length ≤ maxLen ∧ q.2.2.length ≤ maxLen := by
  obtain ⟨_, hlen, hcell⟩ := World.cells?_some hc
  obtain ⟨xs, k, _, _, _, hxl, hf⟩ := DataW.trod_struct he h
  obtain ⟨o0, k0⟩ := hone_of hone 0 f0 rfl
  obtain ⟨o1, k1⟩ := hone_of hone 1 f1 rfl
  obtain ⟨o2, k2⟩ := hone_of hone 2 f2 rfl
  match xs, hxl, cs, hlen with
  | [y0, y1, y2], _, [v0, v1, v2], _ =>
    have g0 := hf 0 f0 rfl
    have g1 := hf 1 f1 rfl
    have g2 := hf 2 f2 rfl
    simp [o0, k0] at g0
    simp [o1, k1] at g1
    simp [o2, k2] at g2
    obtain ⟨b, hb, _⟩ := DataW.trod_bool h0 g0
    obtain ⟨s1, hs1, _, hm1⟩ := DataW.trod_string h1 g1
    obtain ⟨s2, hs2, _, hm2⟩ := DataW.trod_string h2 g2
    obtain ⟨l1, hu1, rfl⟩ := bs_all s1
    obtain ⟨l2, hu2, rfl⟩ := bs_all s2
    simp only [List.cons.injEq, and_true] at hb hs1 hs2
    subst hb; subst hs1; subst hs2
    have c0 := hcell 0 (by omega)
    have c1 := hcell 1 (by omega)
    have c2 := hcell 2 (by omega)
    rw [bs_size] at hm1 hm2
    exact ⟨(b, l1, l2), ⟨by simpa using c0, by simpa using c1, by simpa using c2⟩, hu1, hu2, hm1, hm2⟩
theorem open_nums {t e : TypeId} {f0 f1 f2 : Field} {fuel : Nat} {cs : List Value} {x : DataW H × List MemPlace} (ht : P.underlying t = some (.slice e)) (he : P.underlying e = some (.struct #[f0, f1, f2])) (hone : oneCellFields P #[f0, f1, f2] = true)
    (hC : P.cellsOf e = 3) (h0 : P.underlying f0.type = some .bool) (h1 : P.underlying f1.type = some .string) (h2 : P.underlying f2.type = some .string) (h : DataW.trod enc P w 0 spare held fuel t cs = some x) :
    ∃ (a : Option Addr) (len cap : Nat) (l : List Nm), cs = [.slice a len cap] ∧ l.length = len ∧ len ≤ maxLen ∧ (∀ q ∈ l, U8 q.2.1 ∧ U8 q.2.2 ∧ q.2.1.length ≤ maxLen ∧ q.2.2.length ≤ maxLen) ∧ RG w (fun b => b < w.heap.size) (.sl l.length 3 (nmsC l)) (.slice a len cap) := by
  rcases open_slice ht h with ⟨rfl, _⟩ | ⟨a, len, cap, m, n, D, Pl, rfl, _, hl, hm, hmm, _, hx⟩
  · exact ⟨none, 0, 0, [], rfl, rfl, Nat.zero_le _, fun q hq => by simp at hq, .sl0⟩
  have hlm : len ≤ m := by rw [hmm]; split <;> omega
  rw [hC] at hx
  have each : ∀ i, i < len → ∃ q : Nm, (w.cell? (a.add (i * 3)) = some (.bool q.1) ∧ w.cell? (a.add (i * 3 + 1)) = some (.string (bs q.2.1)) ∧ w.cell? (a.add (i * 3 + 2)) = some (.string (bs q.2.2))) ∧ U8 q.2.1 ∧ U8 q.2.2 ∧ q.2.1.length ≤ maxLen ∧ q.2.2.length ≤ maxLen := fun i hi => by
    obtain ⟨cs', hc, hy⟩ := hx i (by omega)
    obtain ⟨q, ⟨g0, g1, g2⟩, hq⟩ := open_num1 he hone h0 h1 h2 hc hy
    rw [add_add] at g0 g1 g2
    exact ⟨q, ⟨g0, g1, g2⟩, hq⟩
  obtain ⟨f, hf⟩ := choose_lt (α := Nm) each
  refine ⟨some a, len, cap, (List.range len).map f, rfl, by simp, Nat.le_trans hl hm, fun q hq => ?_, ?_⟩
  · obtain ⟨i, hi, rfl⟩ := List.mem_map.1 hq
    exact (hf i (List.mem_range.1 hi)).2
  · have hll : ((List.range len).map f).length = len := by simp
    rw [hll]
    by_cases hz : len = 0
    · subst hz; exact .sl0
    obtain ⟨b, o, sp⟩ := a
    have hc0 := (hf 0 (by omega)).1.1
    have hsp : sp = none := by
      simp only [Addr.add, Nat.zero_mul, if_true, World.cell?] at hc0
      split at hc0
      · split at hc0
        · cases hc0
        · rename_i hh; simpa using hh
      · cases hc0
    subst hsp
    have addE : ∀ i, (⟨b, o, none⟩ : Addr).add i = ⟨b, o + i, none⟩ := fun i => by
      unfold Addr.add
      split
      · rename_i h; rw [h]; rfl
      · rfl
    have hb : b < w.heap.size := by
      rw [addE] at hc0
      unfold World.cell? at hc0
      split at hc0
      · rename_i hh; exact (Array.getElem?_eq_some_iff.1 hh).1
      · cases hc0
    have hat : ∀ i, i < len → ((List.range len).map f).getD i (false, [], []) = f i := fun i hi => by simp [List.getD, hi]
    have vlen : ∀ l : List Nm, (l.flatMap fun q => [Value.bool q.1, .string (bs q.2.1), .string (bs q.2.2)]).length = l.length * 3 := fun l => by
      induction l with
      | nil => rfl
      | cons q l ih => rw [List.flatMap_cons, List.length_append, ih, List.length_cons]; simp; omega
    have vget : ∀ (l : List Nm) (i k : Nat), i < l.length → k < 3 → (l.flatMap fun q => [Value.bool q.1, .string (bs q.2.1), .string (bs q.2.2)])[i * 3 + k]? = ([Value.bool (l.getD i (false, [], [])).1, .string (bs (l.getD i (false, [], [])).2.1), .string (bs (l.getD i (false, [], [])).2.2)])[k]? := fun l => by
      induction l with
      | nil => intro i k h; simp at h
      | cons q l ih =>
        intro i k hi hk
        cases i with
        | zero => rw [List.flatMap_cons, Nat.zero_mul, Nat.zero_add, List.getElem?_append_left (by simp; omega)]; rfl
        | succ i =>
          rw [List.flatMap_cons, List.getElem?_append_right (by simp; omega)]
          have e : (i + 1) * 3 + k - [Value.bool q.1, .string (bs q.2.1), .string (bs q.2.2)].length = i * 3 + k := by simp; omega
          rw [e, ih i k (by simpa using hi) hk]
          rfl
    have cget : ∀ (l : List Nm) (i k : Nat), i < l.length → k < 3 → (nmsC l)[i * 3 + k]? = (nmC (l.getD i (false, [], [])))[k]? := fun l i k hi hk => by
      rw [← flat_get (f := nmC) (fun _ => rfl) hi, List.getElem?_take, if_pos hk, List.getElem?_drop]
      rfl
    have split3 : ∀ j, j < len * 3 → ∃ i k, i < len ∧ k < 3 ∧ j = i * 3 + k := fun j hj => ⟨j / 3, j % 3, by omega, by omega, by omega⟩
    refine .sl (vs := ((List.range len).map f).flatMap fun q => [Value.bool q.1, .string (bs q.2.1), .string (bs q.2.2)]) (by omega) hl (by rw [nmsC, flat_len (fun _ => rfl), hll]) (by rw [vlen, nmsC, flat_len (fun _ => rfl)]) hb (fun u hu => ?_) (fun j u hu => ?_) (fun j c u hc hu => ?_)
    · obtain ⟨q, _, hq⟩ := List.mem_flatMap.1 hu
      simp only [List.mem_cons, List.not_mem_nil, or_false] at hq
      rcases hq with rfl | rfl | rfl <;> rfl
    · have hj := (List.getElem?_eq_some_iff.1 hu).1
      rw [vlen, hll] at hj
      obtain ⟨i, k, hi, hk, rfl⟩ := split3 j hj
      rw [vget _ i k (by rw [hll]; exact hi) hk, hat i hi] at hu
      obtain ⟨⟨g0, g1, g2⟩, _⟩ := hf i hi
      rw [addE] at g0 g1 g2
      match k, hk with
      | 0, _ => simp at hu; subst hu; exact g0
      | 1, _ => simp at hu; subst hu; exact g1
      | 2, _ => simp at hu; subst hu; exact g2
    · have hj := (List.getElem?_eq_some_iff.1 hu).1
      rw [vlen, hll] at hj
      obtain ⟨i, k, hi, hk, rfl⟩ := split3 j hj
      rw [vget _ i k (by rw [hll]; exact hi) hk] at hu
      rw [cget _ i k (by rw [hll]; exact hi) hk] at hc
      match k, hk with
      | 0, _ => simp [nmC] at hu hc; subst hu; subst hc; exact .bool
      | 1, _ => simp [nmC] at hu hc; subst hu; subst hc; exact .str
      | 2, _ => simp [nmC] at hu hc; subst hu; subst hc; exact .str
end
end Go.Proofs.YtlejgleocnemoabGreat.I
