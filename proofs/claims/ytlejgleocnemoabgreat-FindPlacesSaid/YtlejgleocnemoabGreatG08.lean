/- The texts L15l L15m L15n WSized LNum, one behind the other. Conditions: each text's own. -/
import Derived.Test.YtlejgleocnemoabGreatG07
import Derived.SizedLaws
import Derived.ChangeSlices
import Derived.Test.YtlejgleocnemoabGreatG02
import Derived.Test.YtlejgleocnemoabGreatG06
import Derived.Deep.Slices
import Derived.Deep.Fields
import Derived.ChangeArms
set_option linter.unusedSimpArgs false
set_option linter.unusedVariables false
namespace Go.Proofs.YtlejgleocnemoabGreat.I
open Go Go.V
attribute [local go_sem_proc ↓] reduceIte
attribute [local go_sem_proc] Nat.reduceEqDiff Nat.reduceAdd Nat.reduceMul Nat.reduceLeDiff Nat.reduceLT Int.reduceToNat Int.reduceLT Int.reduceLE reduceCtorEq Nat.reduceBEq
attribute [local go_sem] mNil nat0 beq_self_eq_true mSkip mRet mExit mReg mSeq mCond mTrue mFalse mBlock mLv mCodeE mCodeR mEndN mEndR mEndE mOps mSome mGuard mGtt mGff mGtf mGft mGu mCallP mCallR mCallF mCallO mCallZ mCallG mCallM mCallV loopQ_exit loopQ_ret mO_mov mO_newnil mO_pick mO_alloc mO_box mO_build mO_bsl mO_bslF mO_ldf mO_ld mO_st mO_sta mO_nilchk mO_bin mO_binb mO_binp mO_bins mO_neg mO_com mO_not mO_conv mO_mk mO_mk0 mO_s2b mO_b2s mO_cpy mO_cut mO_faddr mO_fld mO_iaddr mO_iaddrf mO_sidx mO_len mO_lenf mO_slen mO_scut mO_app mO_ext mO_mx mO_mn mO_mkfn evalOp cutOp argsE ev getE putE cellsOf adopt rowOf binV boolV nilV ar_add ar_sub ar_mul ar_quo ar_rem ar_eq ar_ne ar_lt ar_le ar_gt ar_ge ar_and ar_or ar_xor geto bound finRet finNrm ints List.length_cons List.length_nil List.length_append List.getElem?_cons_zero List.getElem?_cons_succ List.nil_append List.cons_append List.map_cons List.map_nil List.mapM_cons List.mapM_nil Option.map_some Option.map_none Option.bind_some Option.pure_def Option.bind_eq_bind List.drop_zero or_self or_false false_or or_true true_or true_and and_true and_self decide_true decide_false Bool.false_eq_true Bool.true_eq_false Bool.not_true Bool.not_false Nat.le_refl eq_self gt_iff_lt ge_iff_le ne_eq not_true_eq_false not_false_eq_true storeOp apartOf freeze_nil refsL refs List.flatMap_cons List.flatMap_nil List.append_nil List.contains_nil List.set_cons_zero List.set_cons_succ snap snapL fill_nums flat_nums nums_length Go.V.freeze List.mapIdx_cons List.mapIdx_nil List.contains_cons Bool.or_false Bool.false_or Bool.or_true Bool.true_or
section
variable {s t s' t' : List Int} {ch ch' : Bool} {L L' : List Rt} {i k N : Nat} {o : Int}
theorem c114_ok {x y : Int} (ht : (t.length : Int) ≤ 1000000000) (ht' : (t'.length : Int) ≤ 1000000000) (hL : (L.length : Int) ≤ 1000000000) (hL' : (L'.length : Int) ≤ 1000000000) (hk : ∀ x ∈ L, RtOk x) (hk' : ∀ x ∈ L', RtOk x) :
    Go.V.Call tab E 114 [.int .i64 x, .int .i64 y, .ptr (arrX s ch t L) 0, .ptr (arrX s' ch' t' L') 0] [] (.int .i64 (ordV ch t L x t' L' y)) [] := by
  refine Go.V.Call.mach i114 c114 rfl rfl rfl rfl ?_
  have h := c61_ok (s := s) (s' := s') (t := t) (t' := t') (ch := ch) (ch' := ch') (L := L) (L' := L') (i := x) (k := y) ht ht' hL hL' hk hk'
  simp only [arrX, runes, ints] at h
  simp only [c114, arrX, runes, ints, go_sem, fillAll, fillIn, shiftR, shiftV, List.take_succ_cons, List.take_zero, List.drop_succ_cons, List.drop_zero, List.append_nil, Nat.zero_add, subA5]
  refine goP h ?_
  simp only [go_sem]
  simp only [i114, Out, resAll, geto, ints, List.getElem?_cons_zero, List.getElem?_cons_succ, resOf, outOf, snap, snapL, ev, getE, List.mapM_cons, List.mapM_nil, Option.bind_some, Option.pure_def, Option.bind_eq_bind, Option.map_some, reduceIte, Nat.reduceEqDiff, true_and, and_true, ownOut, ownL, ownV, scalar, Nat.zero_add]
def frstL (ch : Bool) (t : List Int) (L : List Rt) (ch' : Bool) (t' : List Int) (L' : List Rt) (n m : Nat) : List Int :=
  (List.range m).map fun i : Nat => ((if ch = ch' then fstW (fun k : Nat => ordV ch t L k t' L' i) n else n : Nat) : Int)
theorem frstL_len {n m : Nat} : (frstL ch t L ch' t' L' n m).length = m := by simp [frstL]
theorem frstL_mem {n m : Nat} : ∀ z ∈ frstL ch t L ch' t' L' n m, 0 ≤ z ∧ z ≤ (n : Int) := fun z hz => by
  obtain ⟨i, _, rfl⟩ := List.mem_map.1 hz
  split
  · have := (fstW_is (v := fun k : Nat => ordV ch t L k t' L' i) (n := n)).1
    omega
  · omega
theorem fill_g {F : List Int} {i m : Nat} {x : Int} (hF : F.length = m) (hi : i < m) (hx : F.getD i 0 = x) : (F.take i ++ List.replicate (m - i) 0).take i ++ x :: (F.take i ++ List.replicate (m - i) 0).drop (i + 1) = F.take (i + 1) ++ List.replicate (m - (i + 1)) 0 := by
  subst hx
  exact fill_row hF hi
theorem set_over {y : List Int} {m : Nat} {a b : Int} (h : m < y.length) : (y.take m ++ a :: y.drop (m + 1)).take m ++ b :: (y.take m ++ a :: y.drop (m + 1)).drop (m + 1) = y.take m ++ b :: y.drop (m + 1) := set_twice h
def frM (s t : List Int) (ch : Bool) (L : List Rt) (s' t' : List Int) (ch' : Bool) (L' : List Rt) (m : Nat) (y : List Int) (r : List AObj) : List AObj :=
  ⟨true, 31, 5, 0, 1, arrX s ch t L, false⟩ :: ⟨true, 31, 5, 0, 1, arrX s' ch' t' L', false⟩ :: ⟨false, 3, 1, 0, 0, [], false⟩ :: ⟨false, 3, 1, 0, m, nums .i64 y, false⟩ :: r
set_option maxHeartbeats 2000000 in
theorem c69_ok {n m : Nat} (hn : t.length + L.length = n) (hm : t'.length + L'.length = m) (hn2 : n ≤ 1000000) (hm2 : m ≤ 1000000) (hsl : (s.length : Int) ≤ 1000000000) (hk : ∀ x ∈ L, RtOk x) (hk' : ∀ x ∈ L', RtOk x) :
    Go.V.Call tab E 69 [.agg (arrX s ch t L), .agg (arrX s' ch' t' L')] [] (.arr 0 0) [rowI (frstL ch t L ch' t' L' n m)] := by
  refine Go.V.Call.mach i69 c69 rfl rfl rfl rfl ?_
  have hFl := frstL_len (ch := ch) (t := t) (L := L) (ch' := ch') (t' := t') (L' := L') (n := n) (m := m)
  have h23a := c23_X (s := s') (t := t') (l := L') (ch := ch') (by omega) (by omega)
  have h23 := c23_X (s := s) (t := t) (l := L) (ch := ch) (by omega) (by omega)
  rw [hm] at h23a
  rw [hn] at h23
  have h39 := c39_ok (s := s) (t := t) (l := L) (ch := ch)
  have h39a := c39_ok (s := s') (t := t') (l := L') (ch := ch')
  have z0 : (0 : Int) ≤ (m : Int) := by omega
  have z1 : 8 * m ≤ 140737488355328 := by omega
  have z2 : (m : Int) ≤ 140737488355328 := by omega
  have hFi : ∀ i : Nat, i < m → (frstL ch t L ch' t' L' n m).getD i 0 = ((if ch = ch' then fstW (fun k : Nat => ordV ch t L k t' L' i) n else n : Nat) : Int) := fun i hi => by simp [frstL, List.getD, hi]
  by_cases hcc : ch = ch'
  · subst hcc
    simp only [if_true] at hFi
    have hb : (ch == ch) = true := by cases ch <;> rfl
    obtain ⟨g, g1, g2, g3⟩ := c57_ok (s := s) (t := t) (ch := ch) (L := L) hsl (by omega) hk
    rw [hn] at g1
    have hgl : g.length = n := by rw [g1.length_eq, rng_len]
    generalize hF : frstL ch t L ch t' L' n m = F at *
    have h113 : ∀ i : Nat, ∃ r, r ≤ n ∧ IsF (fun k : Nat => ordV ch t L k t' L' i) n (if r < n ∧ ordV ch t L (g.getD r 0) t' L' i = 0 then (g.getD r 0).toNat else n) ∧
        Go.V.Call tab E 113 [ints g, .int .i64 i, .fn 114 [.ptr (arrX s ch t L) 0, .ptr (arrX s' ch t' L') 0]] [] (.tup [.int .i64 r, .bool (decide (r < n ∧ ordV ch t L (g.getD r 0) t' L' i = 0))]) [] := fun i => by
      obtain ⟨a, b, c⟩ := ordV_m (ch := ch) (t := t) (t' := t') (L := L) (L' := L') (i := (i : Int))
      obtain ⟨r, r1, r2, r3, r4⟩ := srch (u := fun i k => ordV ch t L i t L k) (v := fun k => ordV ch t L k t' L' i) ordV_cf g1 g2 a b c
      exact ⟨r, r1, r4, c113_ok (v := fun k => ordV ch t L k t' L' i) hgl hn2 (fun _ => rfl) rfl (fun x => c114_ok (by omega) (by omega) (by omega) (by omega) hk hk') r1 r2 r3⟩
    simp only [arrX, runes, ints, rowI, hgl] at h23 h23a h39 h39a g3 h113
    simp only [c69, arrX, runes, ints, go_sem, fillAll, fillIn, shiftR, shiftV, List.take_succ_cons, List.take_zero, List.drop_succ_cons, List.drop_zero, List.append_nil, Nat.zero_add, subA5]
    refine goP h23a ?_
    simp only [go_sem, fillAll, fillIn, shiftR, shiftV, List.take_succ_cons, List.take_zero, List.drop_succ_cons, List.drop_zero, List.append_nil, Nat.zero_add, subA5, Int.toNat_natCast, z0, z1, z2, flat_nums]
    refine goP h39 ?_
    simp only [go_sem, fillAll, fillIn, shiftR, shiftV, List.take_succ_cons, List.take_zero, List.drop_succ_cons, List.drop_zero, List.append_nil, Nat.zero_add, subA5]
    refine goP h39a ?_
    simp only [k69_2, go_sem, fillAll, fillIn, shiftR, shiftV, List.take_succ_cons, List.take_zero, List.drop_succ_cons, List.drop_zero, List.append_nil, Nat.zero_add, subA5, hb]
    refine goO g3 rfl rfl ?_
    simp only [go_sem, fillAll, fillIn, shiftR, shiftV, List.take_succ_cons, List.take_zero, List.drop_succ_cons, List.drop_zero, List.append_nil, Nat.zero_add, subA5]
    refine mLoop (fun M st => ∃ i : Nat, i ≤ m ∧ M = m - i ∧ st = ⟨[(2, .loc 0 0 0), (3, .loc 1 0 0), (5, .arr 3 0), (7, .arr 4 0), (34, .int .i64 m), (35, .int .i64 i)], frM s t ch L s' t' ch L' m (F.take i ++ List.replicate (m - i) 0) [⟨false, 3, 1, 0, n, nums .i64 g, false⟩]⟩) m ⟨_, rfl, 0, by omega, by omega, by simp [getE, frM, arrX, ints, runes]⟩ ?_
    rintro M s0 ⟨i, hi, rfl, rfl⟩
    by_cases hlt : i < m
    · have hlt' : (i : Int) < (m : Int) := by omega
      have hi0 : (0 : Int) ≤ (i : Int) := by omega
      have hi1 : IntKind.i64.wrap ((i : Int) + 1) = ((i + 1 : Nat) : Int) := by rw [wrap_i64 (by omega) (by omega)]; omega
      have hyl : (F.take i ++ List.replicate (m - i) 0).length = m := row_len hFl (by omega)
      have hst : i * 1 + 1 ≤ (F.take i ++ List.replicate (m - i) 0).length := by omega
      obtain ⟨r, r1, r2, r3⟩ := h113 i
      have hFv := hFi i hlt
      rw [← r2.eq] at hFv
      by_cases hr : r < n ∧ ordV ch t L (g.getD r 0) t' L' i = 0
      · rw [if_pos hr] at hFv
        rw [decide_eq_true hr] at r3
        have hm' := rng_mem.1 (g1.mem_iff.1 (getD_memI (A := g) (i := r) (by omega)))
        rw [Int.toNat_of_nonneg hm'.1] at hFv
        have q1 : (0 : Int) ≤ (r : Int) := by omega
        have q2 : (r : Int) < (n : Int) := by omega
        have hsub := sub_nums (k := .i64) (l := g) (i := r) (by omega)
        have hfin := fill_g hFl hlt hFv
        rw [← set_over (a := (n : Int)) (by omega)] at hfin
        have hst2 : i * 1 + 1 ≤ ((F.take i ++ List.replicate (m - i) 0).take i ++ (n : Int) :: (F.take i ++ List.replicate (m - i) 0).drop (i + 1)).length := by
          rw [set_length (by omega)]; omega
        generalize F.take i ++ List.replicate (m - i) 0 = y at *
        generalize hy1 : y.take i ++ (n : Int) :: y.drop (i + 1) = y1 at *
        simp only [b69_1, frM, arrX, runes, ints, go_sem, fillAll, fillIn, shiftR, shiftV, List.take_succ_cons, List.take_zero, List.drop_succ_cons, List.drop_zero, List.append_nil, Nat.zero_add, subA5, hlt']
        refine goR r3 rfl ?_
        simp only [go_sem, fillAll, fillIn, shiftR, shiftV, List.take_succ_cons, List.take_zero, List.drop_succ_cons, List.drop_zero, List.append_nil, Nat.zero_add, subA5]
        refine goP h23 ?_
        simp only [go_sem, fillAll, fillIn, shiftR, shiftV, List.take_succ_cons, List.take_zero, List.drop_succ_cons, List.drop_zero, List.append_nil, Nat.zero_add, subA5, hlt', hi0, Int.toNat_natCast, hst, put_nums, hy1, q1, q2, hsub, hst2, hfin, hi1]
        exact loopQ_go rfl (m - (i + 1)) (by omega) ⟨i + 1, by omega, rfl, rfl⟩
      · rw [if_neg hr] at hFv
        rw [decide_eq_false hr] at r3
        have hfin := fill_g hFl hlt hFv
        generalize F.take i ++ List.replicate (m - i) 0 = y at *
        simp only [b69_1, frM, arrX, runes, ints, go_sem, fillAll, fillIn, shiftR, shiftV, List.take_succ_cons, List.take_zero, List.drop_succ_cons, List.drop_zero, List.append_nil, Nat.zero_add, subA5, hlt']
        refine goR r3 rfl ?_
        simp only [go_sem, fillAll, fillIn, shiftR, shiftV, List.take_succ_cons, List.take_zero, List.drop_succ_cons, List.drop_zero, List.append_nil, Nat.zero_add, subA5]
        refine goP h23 ?_
        simp only [go_sem, fillAll, fillIn, shiftR, shiftV, List.take_succ_cons, List.take_zero, List.drop_succ_cons, List.drop_zero, List.append_nil, Nat.zero_add, subA5, hlt', hi0, Int.toNat_natCast, hst, put_nums, hfin, hi1]
        exact loopQ_go rfl (m - (i + 1)) (by omega) ⟨i + 1, by omega, rfl, rfl⟩
    · have hlt' : ¬ (i : Int) < (m : Int) := by omega
      obtain rfl : i = m := by omega
      rw [List.take_of_length_le (by omega), Nat.sub_self, List.replicate_zero, List.append_nil]
      simp only [b69_1, k69_1, frM, go_sem, hlt']
      simp only [i69, Out, resAll, geto, ints, List.getElem?_cons_zero, List.getElem?_cons_succ, resOf, outOf, snap, snapL, ev, getE, List.mapM_cons, List.mapM_nil, Option.bind_some, Option.pure_def, Option.bind_eq_bind, Option.map_some, reduceIte, Nat.reduceEqDiff, true_and, and_true, ownOut, ownL, ownV, scalar, List.contains_nil, List.length_nil, List.length_cons, List.nil_append, List.cons_append, storeOp, apartOf, freeze_nil, refsL, refs, List.flatMap_cons, List.flatMap_nil, List.append_nil, List.contains_nil, List.set_cons_zero, List.set_cons_succ, snap, snapL, fill_nums, flat_nums, nums_length, reduceCtorEq, Bool.false_eq_true, and_self, not_false_eq_true, beq_self_eq_true, Nat.zero_add, rowI, hFl]
  · simp only [hcc, if_false] at hFi
    have hb : (ch == ch') = false := by cases ch <;> cases ch' <;> first | rfl | exact absurd rfl hcc
    generalize hF : frstL ch t L ch' t' L' n m = F at *
    simp only [arrX, runes, ints] at h23 h23a h39 h39a
    simp only [c69, arrX, runes, ints, go_sem, fillAll, fillIn, shiftR, shiftV, List.take_succ_cons, List.take_zero, List.drop_succ_cons, List.drop_zero, List.append_nil, Nat.zero_add, subA5]
    refine goP h23a ?_
    simp only [go_sem, fillAll, fillIn, shiftR, shiftV, List.take_succ_cons, List.take_zero, List.drop_succ_cons, List.drop_zero, List.append_nil, Nat.zero_add, subA5, Int.toNat_natCast, z0, z1, z2, flat_nums]
    refine goP h39 ?_
    simp only [go_sem, fillAll, fillIn, shiftR, shiftV, List.take_succ_cons, List.take_zero, List.drop_succ_cons, List.drop_zero, List.append_nil, Nat.zero_add, subA5]
    refine goP h39a ?_
    simp only [go_sem, fillAll, fillIn, shiftR, shiftV, List.take_succ_cons, List.take_zero, List.drop_succ_cons, List.drop_zero, List.append_nil, Nat.zero_add, subA5, hb]
    refine mLoop (fun M st => ∃ i : Nat, i ≤ m ∧ M = m - i ∧ st = ⟨[(2, .loc 0 0 0), (5, .arr 3 0), (20, .int .i64 m), (21, .int .i64 i)], frM s t ch L s' t' ch' L' m (F.take i ++ List.replicate (m - i) 0) []⟩) m ⟨_, rfl, 0, by omega, by omega, by simp [getE, frM, arrX, ints, runes]⟩ ?_
    rintro M s0 ⟨i, hi, rfl, rfl⟩
    by_cases hlt : i < m
    · have hlt' : (i : Int) < (m : Int) := by omega
      have hi0 : (0 : Int) ≤ (i : Int) := by omega
      have hi1 : IntKind.i64.wrap ((i : Int) + 1) = ((i + 1 : Nat) : Int) := by rw [wrap_i64 (by omega) (by omega)]; omega
      have hyl : (F.take i ++ List.replicate (m - i) 0).length = m := row_len hFl (by omega)
      have hst : i * 1 + 1 ≤ (F.take i ++ List.replicate (m - i) 0).length := by omega
      have hfin := fill_g hFl hlt (hFi i hlt)
      generalize F.take i ++ List.replicate (m - i) 0 = y at *
      simp only [b69_0, frM, arrX, runes, ints, go_sem, fillAll, fillIn, shiftR, shiftV, List.take_succ_cons, List.take_zero, List.drop_succ_cons, List.drop_zero, List.append_nil, Nat.zero_add, subA5, hlt']
      refine goP h23 ?_
      simp only [go_sem, fillAll, fillIn, shiftR, shiftV, List.take_succ_cons, List.take_zero, List.drop_succ_cons, List.drop_zero, List.append_nil, Nat.zero_add, subA5, hlt', hi0, Int.toNat_natCast, hst, put_nums, hfin, hi1]
      exact loopQ_go rfl (m - (i + 1)) (by omega) ⟨i + 1, by omega, rfl, rfl⟩
    · have hlt' : ¬ (i : Int) < (m : Int) := by omega
      obtain rfl : i = m := by omega
      rw [List.take_of_length_le (by omega), Nat.sub_self, List.replicate_zero, List.append_nil]
      simp only [b69_0, k69_0, frM, go_sem, hlt']
      simp only [i69, Out, resAll, geto, ints, List.getElem?_cons_zero, List.getElem?_cons_succ, resOf, outOf, snap, snapL, ev, getE, List.mapM_cons, List.mapM_nil, Option.bind_some, Option.pure_def, Option.bind_eq_bind, Option.map_some, reduceIte, Nat.reduceEqDiff, true_and, and_true, ownOut, ownL, ownV, scalar, List.contains_nil, List.length_nil, List.length_cons, List.nil_append, List.cons_append, storeOp, apartOf, freeze_nil, refsL, refs, List.flatMap_cons, List.flatMap_nil, List.append_nil, List.contains_nil, List.set_cons_zero, List.set_cons_succ, snap, snapL, fill_nums, flat_nums, nums_length, reduceCtorEq, Bool.false_eq_true, and_self, not_false_eq_true, beq_self_eq_true, Nat.zero_add, rowI, hFl]
theorem rng_step {n i : Nat} (hi : i < n) : ((rng n).take i ++ List.replicate (n - i) 0).take i ++ (i : Int) :: ((rng n).take i ++ List.replicate (n - i) 0).drop (i + 1) = (rng n).take (i + 1) ++ List.replicate (n - (i + 1)) 0 :=
  fill_g rng_len hi (by simp [rng, List.getD, hi])
def whM (l : List Int) (n : Nat) (y : List Int) : List AObj :=
  [⟨false, 3, 1, 0, 0, [], false⟩, ⟨false, 21, 1, 0, 0, [], false⟩, ⟨false, 57, 3, 0, 0, [], false⟩, ⟨true, 31, 5, 0, 1, [.arr 0 0, .bool false, .arr 1 0, .arr 2 0, .bool false], false⟩, ⟨false, 3, 1, 0, 0, [], false⟩, ⟨false, 21, 1, 0, 0, [], false⟩, ⟨false, 57, 3, 0, 0, [], false⟩, ⟨true, 31, 5, 0, 1, arrX [(n : Int)] false [] (l.map zR), false⟩, ⟨false, 3, 1, 0, n, nums .i64 y, false⟩]
set_option maxHeartbeats 1000000 in
theorem c70_ok {l : List Int} {n : Nat} (hl : l.length = n) (hn2 : n ≤ 1000000) (hs : ∀ d ∈ s, In64 d) (hc : count s = some (n : Int)) (h64 : ∀ z ∈ l, In64 z) :
    Go.V.Call tab E 70 [ints s, ints l] [] (.agg (arrX s false [] (l.map zR))) [] := by
  refine Go.V.Call.mach i70 c70 rfl rfl rfl rfl ?_
  obtain ⟨hl8, _, _⟩ := count_bound hc
  have h34 := c34_X (l := l) (by omega) h64
  have h115 := c115_ok (s := [(n : Int)]) (t := []) (s' := s) (ks := rng n) (l := l.map zR) (ch := false) hs (by omega) (by simp) (by rw [List.length_map]; omega) (by rw [rng_len]; omega)
  have hfit : fits s (rng n).length = true := by rw [rng_len]; exact fits_of hc
  rw [hfit] at h115
  have e : picksR false (l.map zR) (rng n) = l.map zR := self_R (by rw [List.length_map]; exact hl.symm)
  have e2 : picksT false [] (rng n) = [] := rfl
  rw [e, e2] at h115
  have z0 : (0 : Int) ≤ (n : Int) := by omega
  have z1 : 8 * n ≤ 140737488355328 := by omega
  have z2 : (n : Int) ≤ 140737488355328 := by omega
  simp only [if_true, arrX, runes, ints, hl, rng_len] at h34 h115
  simp only [c70, ints, hl, go_sem, fillAll, fillIn, shiftR, shiftV, List.take_succ_cons, List.take_zero, List.drop_succ_cons, List.drop_zero, List.append_nil, Nat.zero_add]
  refine goP h34 ?_
  simp only [go_sem, fillAll, fillIn, shiftR, shiftV, List.take_succ_cons, List.take_zero, List.drop_succ_cons, List.drop_zero, List.append_nil, Nat.zero_add, Int.toNat_natCast, z0, z1, z2, flat_nums]
  refine mLoop (fun M st => ∃ i : Nat, i ≤ n ∧ M = n - i ∧ st = ⟨[(0, ints s), (4, .loc 3 0 0), (5, .loc 7 0 0), (6, .arr 8 0), (16, .int .i64 n), (17, .int .i64 i)], whM l n ((rng n).take i ++ List.replicate (n - i) 0)⟩) n ⟨_, rfl, 0, by omega, by omega, by simp [getE, whM, arrX, ints, runes]⟩ ?_
  rintro M s0 ⟨i, hi, rfl, rfl⟩
  by_cases hlt : i < n
  · have hlt' : (i : Int) < (n : Int) := by omega
    have hi0 : (0 : Int) ≤ (i : Int) := by omega
    have hi1 : IntKind.i64.wrap ((i : Int) + 1) = ((i + 1 : Nat) : Int) := by rw [wrap_i64 (by omega) (by omega)]; omega
    have hyl : ((rng n).take i ++ List.replicate (n - i) 0).length = n := row_len rng_len (by omega)
    have hst : i * 1 + 1 ≤ ((rng n).take i ++ List.replicate (n - i) 0).length := by omega
    have hfin := rng_step hlt
    generalize (rng n).take i ++ List.replicate (n - i) 0 = y at *
    simp only [b70_0, whM, ints, go_sem, fillAll, fillIn, shiftR, shiftV, List.take_succ_cons, List.take_zero, List.drop_succ_cons, List.drop_zero, List.append_nil, Nat.zero_add, hlt', hi0, Int.toNat_natCast, hst, put_nums, hfin, hi1]
    exact loopQ_go rfl (n - (i + 1)) (by omega) ⟨i + 1, by omega, rfl, rfl⟩
  · have hlt' : ¬ (i : Int) < (n : Int) := by omega
    obtain rfl : i = n := by omega
    rw [List.take_of_length_le (by rw [rng_len]; omega), Nat.sub_self, List.replicate_zero, List.append_nil]
    simp only [b70_0, k70_0, whM, arrX, runes, ints, go_sem, fillAll, fillIn, shiftR, shiftV, List.take_succ_cons, List.take_zero, List.drop_succ_cons, List.drop_zero, List.append_nil, Nat.zero_add, subA5, hlt']
    refine goF h115 ?_
    simp only [go_sem, fillAll, fillIn, shiftR, shiftV, List.take_succ_cons, List.take_zero, List.drop_succ_cons, List.drop_zero, List.append_nil, Nat.zero_add, subA5]
    simp only [i70, Out, resAll, geto, ints, List.getElem?_cons_zero, List.getElem?_cons_succ, resOf, outOf, snap, snapL, ev, getE, List.mapM_cons, List.mapM_nil, Option.bind_some, Option.pure_def, Option.bind_eq_bind, Option.map_some, reduceIte, Nat.reduceEqDiff, true_and, and_true, subA5]
end
section
variable {s t s' t' : List Int} {ch ch' : Bool} {L L' : List Rt} {o : Int} {n m : Nat}
def idxM (s t : List Int) (ch : Bool) (L : List Rt) (s' t' : List Int) (ch' : Bool) (L' : List Rt) (m : Nat) (y : List Int) : List AObj :=
  [⟨true, 31, 5, 0, 1, arrX s ch t L, false⟩, ⟨true, 31, 5, 0, 1, arrX s' ch' t' L', false⟩, ⟨false, 3, 1, 0, 0, [], false⟩, ⟨false, 21, 1, 0, 0, [], false⟩, ⟨false, 57, 3, 0, 0, [], false⟩, ⟨true, 31, 5, 0, 1, [.arr 2 0, .bool false, .arr 3 0, .arr 4 0, .bool false], false⟩, ⟨false, 3, 1, 0, m, nums .i64 y, false⟩]
theorem c26_err (hsl : (s.length : Int) ≤ 1000000000) (h : ¬ s.length ≤ 1) : Go.V.Call tab E 26 [.agg (arrX s ch t L), .agg (arrX s' ch' t' L'), .int .i64 o] [] (.tup [.agg noA, .int .i64 23]) [] := by
  refine Go.V.Call.mach i26 c26 rfl rfl rfl rfl ?_
  have h38 := c38_X (s := s) (t := t) (l := L) (ch := ch) (by omega)
  have hgt : (1 : Int) < (s.length : Int) := by omega
  simp only [arrX, runes, ints] at h38
  simp only [c26, arrX, runes, ints, go_sem, fillAll, fillIn, shiftR, shiftV, List.take_succ_cons, List.take_zero, List.drop_succ_cons, List.drop_zero, List.append_nil, Nat.zero_add, subA5]
  refine goP h38 ?_
  simp only [go_sem, fillAll, fillIn, shiftR, shiftV, List.take_succ_cons, List.take_zero, List.drop_succ_cons, List.drop_zero, List.append_nil, Nat.zero_add, subA5, hgt]
  simp only [i26, Out, resAll, geto, ints, List.getElem?_cons_zero, List.getElem?_cons_succ, resOf, outOf, snap, snapL, ev, getE, List.mapM_cons, List.mapM_nil, Option.bind_some, Option.pure_def, Option.bind_eq_bind, Option.map_some, reduceIte, Nat.reduceEqDiff, true_and, and_true, subA5, noA]
theorem chg {F G : List Int} {i : Nat} {x : Int} (h : F.length = G.length) (hi : i < F.length) (hx : G.getD i 0 = x) : (G.take i ++ F.drop i).getD i 0 = F.getD i 0 ∧ (G.take i ++ F.drop i).length = F.length ∧ (G.take i ++ F.drop i).take i ++ x :: (G.take i ++ F.drop i).drop (i + 1) = G.take (i + 1) ++ F.drop (i + 1) := by
  have e : (G.take i).length = i := by rw [List.length_take]; omega
  have e1 : G.take i ++ F.drop i = G.take i ++ F.getD i 0 :: F.drop (i + 1) := by rw [getD_drop hi]
  refine ⟨by rw [e1]; exact at_get e, by rw [List.length_append, e, List.length_drop]; omega, ?_⟩
  rw [e1, at_put e, tk_getD (l := G) (by omega), hx]
  simp
set_option maxHeartbeats 1000000 in
theorem c26_ok (hn : t.length + L.length = n) (hm : t'.length + L'.length = m) (hn2 : n ≤ 100000) (hm2 : m ≤ 100000) (hs1 : s.length ≤ 1) (hs' : ∀ d ∈ s', In64 d) (hc : count s' = some (m : Int)) (hk : ∀ x ∈ L, RtOk x) (hk' : ∀ x ∈ L', RtOk x) (ho : 0 ≤ o ∧ o ≤ 1) :
    Go.V.Call tab E 26 [.agg (arrX s ch t L), .agg (arrX s' ch' t' L'), .int .i64 o] [] (.tup [.agg (arrX s' false [] ((plus (frstL ch t L ch' t' L' n m) o).map zR)), .int .i64 0]) [] := by
  refine Go.V.Call.mach i26 c26 rfl rfl rfl rfl ?_
  have h69 := c69_ok (s := s) (s' := s') (ch := ch) (ch' := ch') hn hm (by omega) (by omega) (by omega) hk hk'
  have h38 := c38_X (s := s) (t := t) (l := L) (ch := ch) (by omega)
  obtain ⟨hl8, _, _⟩ := count_bound hc
  have h53 := c53_X (s := s') (t := t') (l := L') (ch := ch') (by omega)
  have hFl := frstL_len (ch := ch) (t := t) (L := L) (ch' := ch') (t' := t') (L' := L') (n := n) (m := m)
  have hFm := frstL_mem (ch := ch) (t := t) (L := L) (ch' := ch') (t' := t') (L' := L') (n := n) (m := m)
  generalize frstL ch t L ch' t' L' n m = F at *
  have h70 := c70_ok (s := s') (l := plus F o) (n := m) (by rw [plus_len, hFl]) (by omega) hs' hc fun z hz => by
    obtain ⟨x, hx, rfl⟩ := List.mem_map.1 hz
    have := hFm x hx
    exact ⟨by omega, by omega⟩
  have hle : ¬ (1 : Int) < (s.length : Int) := by omega
  simp only [arrX, runes, ints, rowI, hFl, plus_len] at h38 h53 h69 h70
  simp only [c26, arrX, runes, ints, go_sem, fillAll, fillIn, shiftR, shiftV, List.take_succ_cons, List.take_zero, List.drop_succ_cons, List.drop_zero, List.append_nil, Nat.zero_add, subA5]
  refine goP h38 ?_
  simp only [go_sem, fillAll, fillIn, shiftR, shiftV, List.take_succ_cons, List.take_zero, List.drop_succ_cons, List.drop_zero, List.append_nil, Nat.zero_add, subA5, hle]
  refine goO h69 rfl rfl ?_
  simp only [go_sem, fillAll, fillIn, shiftR, shiftV, List.take_succ_cons, List.take_zero, List.drop_succ_cons, List.drop_zero, List.append_nil, Nat.zero_add, subA5]
  refine mLoop (fun M st => ∃ i : Nat, i ≤ m ∧ M = m - i ∧ st = ⟨[(2, .int .i64 o), (4, .loc 1 0 0), (6, .loc 5 0 0), (8, .arr 6 0), (18, .int .i64 m), (19, .int .i64 i)], idxM s t ch L s' t' ch' L' m ((plus F o).take i ++ F.drop i)⟩) m ⟨_, rfl, 0, by omega, by omega, by simp [getE, idxM, arrX, ints, runes]⟩ ?_
  rintro M s0 ⟨i, hi, rfl, rfl⟩
  by_cases hlt : i < m
  · have hlt' : (i : Int) < (m : Int) := by omega
    have hi0 : (0 : Int) ≤ (i : Int) := by omega
    have hi1 : IntKind.i64.wrap ((i : Int) + 1) = ((i + 1 : Nat) : Int) := by rw [wrap_i64 (by omega) (by omega)]; omega
    have hfm := hFm (F.getD i 0) (getD_memI (by omega))
    obtain ⟨g1, g2, g3⟩ := chg (F := F) (G := plus F o) (i := i) (x := F.getD i 0 + o) (by rw [plus_len]) (by omega) (by simp [plus, List.getD, show i < F.length by omega])
    have w1 : IntKind.i64.wrap (F.getD i 0 + o) = F.getD i 0 + o := wrap_i64 (by omega) (by omega)
    generalize (plus F o).take i ++ F.drop i = y at *
    have hsub := sub_nums (k := .i64) (l := y) (i := i) (by omega)
    rw [g1] at hsub
    have hst : i * 1 + 1 ≤ y.length := by omega
    simp only [b26_0, idxM, go_sem, fillAll, fillIn, shiftR, shiftV, List.take_succ_cons, List.take_zero, List.drop_succ_cons, List.drop_zero, List.append_nil, Nat.zero_add, hlt', hi0, Int.toNat_natCast, hsub, w1, hst, put_nums, g3, hi1]
    exact loopQ_go rfl (m - (i + 1)) (by omega) ⟨i + 1, by omega, rfl, rfl⟩
  · have hlt' : ¬ (i : Int) < (m : Int) := by omega
    obtain rfl : i = m := by omega
    rw [List.take_of_length_le (by rw [plus_len]; omega), List.drop_eq_nil_of_le (by omega), List.append_nil]
    simp only [b26_0, k26_0, idxM, arrX, runes, ints, go_sem, fillAll, fillIn, shiftR, shiftV, List.take_succ_cons, List.take_zero, List.drop_succ_cons, List.drop_zero, List.append_nil, Nat.zero_add, subA5, hlt']
    refine goP h53 ?_
    simp only [go_sem, fillAll, fillIn, shiftR, shiftV, List.take_succ_cons, List.take_zero, List.drop_succ_cons, List.drop_zero, List.append_nil, Nat.zero_add, subA5]
    refine goF h70 ?_
    simp only [go_sem, fillAll, fillIn, shiftR, shiftV, List.take_succ_cons, List.take_zero, List.drop_succ_cons, List.drop_zero, List.append_nil, Nat.zero_add, subA5]
    simp only [i26, Out, resAll, geto, ints, List.getElem?_cons_zero, List.getElem?_cons_succ, resOf, outOf, snap, snapL, ev, getE, List.mapM_cons, List.mapM_nil, Option.bind_some, Option.pure_def, Option.bind_eq_bind, Option.map_some, reduceIte, Nat.reduceEqDiff, true_and, and_true, subA5]
def memL (F : List Int) (n : Nat) : List Int := F.map fun z : Int => if z < (n : Int) then 1 else 0
theorem memL_len {F : List Int} : (memL F n).length = F.length := by simp [memL]
set_option maxHeartbeats 1000000 in
theorem c29_ok (hn : t.length + L.length = n) (hm : t'.length + L'.length = m) (hn2 : n ≤ 100000) (hm2 : m ≤ 100000) (hsl : (s.length : Int) ≤ 1000000000) (hs' : ∀ d ∈ s', In64 d) (hc : count s' = some (m : Int)) (hk : ∀ x ∈ L, RtOk x) (hk' : ∀ x ∈ L', RtOk x) :
    Go.V.Call tab E 29 [.agg (arrX s' ch' t' L'), .agg (arrX s ch t L)] [] (.agg (arrX s' false [] ((memL (frstL ch t L ch' t' L' n m) n).map zR))) [] := by
  refine Go.V.Call.mach i29 c29 rfl rfl rfl rfl ?_
  have h69 := c69_ok (s := s) (s' := s') (ch := ch) (ch' := ch') hn hm (by omega) (by omega) hsl hk hk'
  obtain ⟨hl8, _, _⟩ := count_bound hc
  have h53 := c53_X (s := s') (t := t') (l := L') (ch := ch') (by omega)
  have h23 := c23_X (s := s) (t := t) (l := L) (ch := ch) (by omega) (by omega)
  rw [hn] at h23
  have hFl := frstL_len (ch := ch) (t := t) (L := L) (ch' := ch') (t' := t') (L' := L') (n := n) (m := m)
  generalize frstL ch t L ch' t' L' n m = F at *
  have h70 := c70_ok (s := s') (l := memL F n) (n := m) (by rw [memL_len, hFl]) (by omega) hs' hc fun z hz => by
    obtain ⟨x, hx, rfl⟩ := List.mem_map.1 hz
    split <;> exact ⟨by omega, by omega⟩
  simp only [arrX, runes, ints, rowI, hFl, memL_len] at h53 h69 h70 h23
  simp only [c29, arrX, runes, ints, go_sem, fillAll, fillIn, shiftR, shiftV, List.take_succ_cons, List.take_zero, List.drop_succ_cons, List.drop_zero, List.append_nil, Nat.zero_add, subA5]
  refine goO h69 rfl rfl ?_
  simp only [go_sem, fillAll, fillIn, shiftR, shiftV, List.take_succ_cons, List.take_zero, List.drop_succ_cons, List.drop_zero, List.append_nil, Nat.zero_add, subA5]
  refine mLoop (fun M st => ∃ i : Nat, i ≤ m ∧ M = m - i ∧ st = ⟨[(2, .loc 0 0 0), (3, .loc 1 0 0), (4, .loc 5 0 0), (5, .arr 6 0), (11, .arr 6 0), (12, .int .i64 m), (13, .int .i64 i)], idxM s' t' ch' L' s t ch L m ((memL F n).take i ++ F.drop i)⟩) m ⟨_, rfl, 0, by omega, by omega, by simp [getE, idxM, arrX, ints, runes]⟩ ?_
  rintro M s0 ⟨i, hi, rfl, rfl⟩
  by_cases hlt : i < m
  · have hlt' : (i : Int) < (m : Int) := by omega
    have hi0 : (0 : Int) ≤ (i : Int) := by omega
    have hi1 : IntKind.i64.wrap ((i : Int) + 1) = ((i + 1 : Nat) : Int) := by rw [wrap_i64 (by omega) (by omega)]; omega
    have hG : (memL F n).getD i 0 = if F.getD i 0 < (n : Int) then 1 else 0 := by simp [memL, List.getD, show i < F.length by omega]
    by_cases hv : F.getD i 0 < (n : Int)
    · rw [if_pos hv] at hG
      obtain ⟨g1, g2, g3⟩ := chg (F := F) (G := memL F n) (i := i) (by rw [memL_len]) (by omega) hG
      rw [← set_over (a := 0) (by omega)] at g3
      have hst2 : i * 1 + 1 ≤ (((memL F n).take i ++ F.drop i).take i ++ (0 : Int) :: ((memL F n).take i ++ F.drop i).drop (i + 1)).length := by rw [set_length (by omega)]; omega
      generalize (memL F n).take i ++ F.drop i = y at *
      generalize hy1 : y.take i ++ (0 : Int) :: y.drop (i + 1) = y1 at *
      have hsub := sub_nums (k := .i64) (l := y) (i := i) (by omega)
      rw [g1] at hsub
      have hst : i * 1 + 1 ≤ y.length := by omega
      simp only [b29_0, idxM, arrX, runes, ints, go_sem, fillAll, fillIn, shiftR, shiftV, List.take_succ_cons, List.take_zero, List.drop_succ_cons, List.drop_zero, List.append_nil, Nat.zero_add, subA5, hlt', hi0, Int.toNat_natCast, hsub, hst, put_nums, hy1]
      refine goP h23 ?_
      simp only [go_sem, fillAll, fillIn, shiftR, shiftV, List.take_succ_cons, List.take_zero, List.drop_succ_cons, List.drop_zero, List.append_nil, Nat.zero_add, subA5, hv, hlt', hi0, Int.toNat_natCast, hst2, put_nums, g3, hi1]
      exact loopQ_go rfl (m - (i + 1)) (by omega) ⟨i + 1, by omega, rfl, rfl⟩
    · rw [if_neg hv] at hG
      obtain ⟨g1, g2, g3⟩ := chg (F := F) (G := memL F n) (i := i) (by rw [memL_len]) (by omega) hG
      generalize (memL F n).take i ++ F.drop i = y at *
      have hsub := sub_nums (k := .i64) (l := y) (i := i) (by omega)
      rw [g1] at hsub
      have hst : i * 1 + 1 ≤ y.length := by omega
      simp only [b29_0, idxM, arrX, runes, ints, go_sem, fillAll, fillIn, shiftR, shiftV, List.take_succ_cons, List.take_zero, List.drop_succ_cons, List.drop_zero, List.append_nil, Nat.zero_add, subA5, hlt', hi0, Int.toNat_natCast, hsub, hst, put_nums, g3]
      refine goP h23 ?_
      simp only [go_sem, fillAll, fillIn, shiftR, shiftV, List.take_succ_cons, List.take_zero, List.drop_succ_cons, List.drop_zero, List.append_nil, Nat.zero_add, subA5, hv, hi1]
      exact loopQ_go rfl (m - (i + 1)) (by omega) ⟨i + 1, by omega, rfl, rfl⟩
  · have hlt' : ¬ (i : Int) < (m : Int) := by omega
    obtain rfl : i = m := by omega
    rw [List.take_of_length_le (by rw [memL_len]; omega), List.drop_eq_nil_of_le (by omega), List.append_nil]
    simp only [b29_0, k29_0, idxM, arrX, runes, ints, go_sem, fillAll, fillIn, shiftR, shiftV, List.take_succ_cons, List.take_zero, List.drop_succ_cons, List.drop_zero, List.append_nil, Nat.zero_add, subA5, hlt']
    refine goP h53 ?_
    simp only [go_sem, fillAll, fillIn, shiftR, shiftV, List.take_succ_cons, List.take_zero, List.drop_succ_cons, List.drop_zero, List.append_nil, Nat.zero_add, subA5]
    refine goF h70 ?_
    simp only [go_sem, fillAll, fillIn, shiftR, shiftV, List.take_succ_cons, List.take_zero, List.drop_succ_cons, List.drop_zero, List.append_nil, Nat.zero_add, subA5]
    simp only [i29, Out, resAll, geto, ints, List.getElem?_cons_zero, List.getElem?_cons_succ, resOf, outOf, snap, snapL, ev, getE, List.mapM_cons, List.mapM_nil, Option.bind_some, Option.pure_def, Option.bind_eq_bind, Option.map_some, reduceIte, Nat.reduceEqDiff, true_and, and_true, subA5]
end
theorem btf : (true == false) = false := rfl
theorem bft : (false == true) = false := rfl
theorem cmpI_zero {x y : Int} : cmpI x y = 0 ↔ x = y := by unfold cmpI; split <;> (try split) <;> omega
theorem num_eq {x y : Nm} (hx : NmU x) (hy : NmU y) : structV .eq [0, 2, 2] (.agg (nmC x)) (.agg (nmC y)) = some (.bool (decide (x = y))) := by
  have h := num_ne hx hy
  have h1 : (nmC x).map kindOf = [0, 2, 2] := rfl
  have h2 : (nmC y).map kindOf = [0, 2, 2] := rfl
  simp only [structV, h1, h2, and_self, if_true] at h ⊢
  cases hs : scalarsEq (nmC x) (nmC y) with
  | none => rw [hs] at h; cases h
  | some r =>
    rw [hs] at h
    simp only [Option.bind_some] at h ⊢
    cases r <;> cases hd : decide (x = y) <;> simp_all
section
variable {s t s' t' : List Int} {ch ch' : Bool} {L L' : List Rt} {o : Int} {n m i k : Nat}
def sameB (ch : Bool) (t : List Int) (L : List Rt) (k : Nat) (ch' : Bool) (t' : List Int) (L' : List Rt) (i : Nat) : Bool := decide (ch = ch' ∧ ordV ch t L k t' L' i = 0)
theorem c116_ok (hch : (ch = true → L = []) ∧ (ch = false → t = [])) (hch' : (ch' = true → L' = []) ∧ (ch' = false → t' = [])) (hred : ∀ x ∈ L, RtRed x) (hred' : ∀ x ∈ L', RtRed x) (hk : k < t.length + L.length) (hi : i < t'.length + L'.length) :
    Go.V.Call tab E 116 [.agg (plX s ch t (L.map toNm)), .int .i64 k, .agg (plX s' ch' t' (L'.map toNm)), .int .i64 i] [] (.bool (sameB ch t L k ch' t' L' i)) [] := by
  refine Go.V.Call.mach i116 c116 rfl rfl rfl rfl ?_
  have i0 : (0 : Int) ≤ (i : Int) := by omega
  have k0 : (0 : Int) ≤ (k : Int) := by omega
  cases ch with
  | true =>
    obtain rfl := hch.1 rfl
    cases ch' with
    | true =>
      obtain rfl := hch'.1 rfl
      simp only [List.length_nil, Nat.add_zero] at hi hk
      have i1 : (i : Int) < (t'.length : Int) := by omega
      have k1 : (k : Int) < (t.length : Int) := by omega
      have s1 := sub_nums (k := .i32) (l := t') (i := i) hi
      have s2 := sub_nums (k := .i32) (l := t) (i := k) hk
      have e : sameB true t [] k true t' [] i = (t.getD k 0 == t'.getD i 0) := by
        rw [show (t.getD k 0 == t'.getD i 0) = decide (t.getD k 0 = t'.getD i 0) from rfl, sameB]
        refine decide_eq_decide.2 ?_
        rw [ordV, if_pos rfl, runeAt, runeAt, if_pos (by omega), if_pos (by omega), Int.toNat_natCast, Int.toNat_natCast, cmpI_zero]
        exact ⟨fun h => h.2, fun h => ⟨rfl, h⟩⟩
      rw [e]
      simp only [c116, plX, runes, ints, go_sem, fillAll, fillIn, shiftR, shiftV, List.take_succ_cons, List.take_zero, List.drop_succ_cons, List.drop_zero, List.append_nil, Nat.zero_add, subP4, subR1, subR2, i0, k0, i1, k1, Int.toNat_natCast, s1, s2, bne_self_eq_false]
      simp only [i116, Out, resAll, geto, ints, List.getElem?_cons_zero, List.getElem?_cons_succ, resOf, outOf, snap, snapL, ev, getE, List.mapM_cons, List.mapM_nil, Option.bind_some, Option.pure_def, Option.bind_eq_bind, Option.map_some, reduceIte, Nat.reduceEqDiff, true_and, and_true]
    | false =>
      have e : sameB true t [] k false t' L' i = false := decide_eq_false fun h => by cases h.1
      rw [e]
      simp only [c116, plX, runes, ints, go_sem, fillAll, fillIn, shiftR, shiftV, List.take_succ_cons, List.take_zero, List.drop_succ_cons, List.drop_zero, List.append_nil, Nat.zero_add, subP4, subR1, subR2, btf, bft]
      simp only [i116, Out, resAll, geto, ints, List.getElem?_cons_zero, List.getElem?_cons_succ, resOf, outOf, snap, snapL, ev, getE, List.mapM_cons, List.mapM_nil, Option.bind_some, Option.pure_def, Option.bind_eq_bind, Option.map_some, reduceIte, Nat.reduceEqDiff, true_and, and_true]
  | false =>
    obtain rfl := hch.2 rfl
    cases ch' with
    | true =>
      have e : sameB false [] L k true t' L' i = false := decide_eq_false fun h => by cases h.1
      rw [e]
      simp only [c116, plX, runes, ints, go_sem, fillAll, fillIn, shiftR, shiftV, List.take_succ_cons, List.take_zero, List.drop_succ_cons, List.drop_zero, List.append_nil, Nat.zero_add, subP4, subR1, subR2, btf, bft]
      simp only [i116, Out, resAll, geto, ints, List.getElem?_cons_zero, List.getElem?_cons_succ, resOf, outOf, snap, snapL, ev, getE, List.mapM_cons, List.mapM_nil, Option.bind_some, Option.pure_def, Option.bind_eq_bind, Option.map_some, reduceIte, Nat.reduceEqDiff, true_and, and_true]
    | false =>
      obtain rfl := hch'.2 rfl
      simp only [List.length_nil, Nat.zero_add] at hi hk
      have i1 : (i : Int) < ((L'.map toNm).length : Int) := by rw [List.length_map]; omega
      have k1 : (k : Int) < ((L.map toNm).length : Int) := by rw [List.length_map]; omega
      have s1 := sub_nms (l := L'.map toNm) (i := i) (by simpa using hi)
      have s2 := sub_nms (l := L.map toNm) (i := k) (by simpa using hk)
      rw [nmAt_map hi] at s1
      rw [nmAt_map hk] at s2
      have r1 := hred' _ (rtAt_mem hi)
      have r2 := hred _ (rtAt_mem hk)
      have nu : ∀ x : Rt, RtOk x → NmU (toNm x) := fun x hx => ⟨(decL_dig _).u8, (decL_dig _).u8, hx.len.1, hx.len.2⟩
      have hq := num_eq (nu _ r2.1) (nu _ r1.1)
      have e : sameB false [] L k false [] L' i = decide (toNm (rtAt L k) = toNm (rtAt L' i)) := by
        rw [sameB]
        refine decide_eq_decide.2 ?_
        rw [ordV, if_neg (by simp), pickR, pickR, if_pos (by omega), if_pos (by omega), Int.toNat_natCast, Int.toNat_natCast, rcmp_zero r2 r1]
        refine ⟨fun h => by rw [h.2], fun h => ⟨rfl, ?_⟩⟩
        have f1 := ofN_rR r1.2.1 r1.2.2.1 r1.2.2.2
        have f2 := ofN_rR r2.2.1 r2.2.2.1 r2.2.2.2
        simp only [toNm, Prod.mk.injEq] at h
        obtain ⟨a, b, c⟩ := h
        have dj : ∀ p q : Nat, decL p = decL q → p = q := fun p q h => by rw [← sval_decL p, h, sval_decL]
        have b' := dj _ _ b
        have c' := dj _ _ c
        rw [dn_pos r1.2.1, dn_pos r2.2.1] at c'
        exact Prod.ext a (Prod.ext b' c')
      rw [e]
      generalize toNm (rtAt L k) = x at *
      generalize toNm (rtAt L' i) = y at *
      simp only [nmC] at s1 s2 hq
      simp only [c116, plX, runes, ints, go_sem, fillAll, fillIn, shiftR, shiftV, List.take_succ_cons, List.take_zero, List.drop_succ_cons, List.drop_zero, List.append_nil, Nat.zero_add, subP4, subR1, subR2, subR3, i0, k0, i1, k1, Int.toNat_natCast, s1, s2, hq]
      simp only [i116, Out, resAll, geto, ints, List.getElem?_cons_zero, List.getElem?_cons_succ, resOf, outOf, snap, snapL, ev, getE, List.mapM_cons, List.mapM_nil, Option.bind_some, Option.pure_def, Option.bind_eq_bind, Option.map_some, reduceIte, Nat.reduceEqDiff, true_and, and_true]
def whrN (ch : Bool) (t : List Int) (L : List Rt) (ch' : Bool) (t' : List Int) (L' : List Rt) (n i : Nat) : Nat := if ch = ch' then fstW (fun k : Nat => ordV ch t L k t' L' i) n else n
theorem whr_le : whrN ch t L ch' t' L' n i ≤ n := by
  rw [whrN]
  split
  · exact fstW_is.1
  · exact Nat.le_refl _
theorem whr_of {r : Nat} (h1 : r ≤ n) (h2 : ∀ j, j < r → sameB ch t L j ch' t' L' i = false) (h3 : r < n → sameB ch t L r ch' t' L' i = true) : whrN ch t L ch' t' L' n i = r := by
  rw [whrN]
  split
  · rename_i hc
    refine (IsF.eq ⟨h1, fun j hj hv => ?_, fun hr => ?_⟩).symm
    · have := h2 j hj
      rw [sameB, decide_eq_false_iff_not] at this
      exact this ⟨hc, hv⟩
    · exact (of_decide_eq_true (h3 hr)).2
  · rename_i hc
    rcases Nat.lt_or_ge r n with h | h
    · exact absurd (of_decide_eq_true (h3 h)).1 hc
    · omega
theorem c71_ok (hn : t.length + L.length = n) (hm : t'.length + L'.length = m) (hn2 : n ≤ 100000) (hm2 : m ≤ 100000) (hch : (ch = true → L = []) ∧ (ch = false → t = [])) (hch' : (ch' = true → L' = []) ∧ (ch' = false → t' = [])) (hred : ∀ x ∈ L, RtRed x) (hred' : ∀ x ∈ L', RtRed x) (hi : i < m) :
    Go.V.Call tab E 71 [.agg (plX s ch t (L.map toNm)), .agg (plX s' ch' t' (L'.map toNm)), .int .i64 i] [] (.int .i64 (whrN ch t L ch' t' L' n i : Nat)) [] := by
  refine Go.V.Call.mach i71 c71 rfl rfl rfl rfl ?_
  have h63 := c63_ok (s := s) (t := t) (l := L.map toNm) (ch := ch) (by omega) (by simp; omega)
  rw [List.length_map, hn] at h63
  have h116 := fun (k : Nat) (hk : k < n) => c116_ok (s := s) (s' := s') (t := t) (t' := t') (ch := ch) (ch' := ch') (L := L) (L' := L') (k := k) (i := i) hch hch' hred hred' (by omega) (by omega)
  generalize hl : L.map toNm = l at *
  generalize hl' : L'.map toNm = l' at *
  simp only [plX, runes, ints] at h63 h116
  simp only [c71, plX, runes, ints, go_sem, fillAll, fillIn, shiftR, shiftV, List.take_succ_cons, List.take_zero, List.drop_succ_cons, List.drop_zero, List.append_nil, Nat.zero_add, subP4]
  refine mLoop (fun M st => ∃ k : Nat, k ≤ n ∧ M = n - k ∧ (∀ j, j < k → sameB ch t L j ch' t' L' i = false) ∧ st = ⟨[(2, .int .i64 i), (3, .loc 0 0 0), (4, .loc 1 0 0), (7, .int .i64 k)], [⟨true, 26, 4, 0, 1, plX s ch t l, false⟩, ⟨true, 26, 4, 0, 1, plX s' ch' t' l', false⟩]⟩) n ⟨_, rfl, 0, by omega, by omega, by omega, by simp [getE, plX, ints, runes]⟩ ?_
  rintro M s0 ⟨k, hkn, rfl, hj, rfl⟩
  by_cases hlt : k < n
  · have hlt' : (k : Int) < (n : Int) := by omega
    have hk1 : IntKind.i64.wrap ((k : Int) + 1) = ((k + 1 : Nat) : Int) := by rw [wrap_i64 (by omega) (by omega)]; omega
    have hc := h116 k hlt
    cases hb : sameB ch t L k ch' t' L' i with
    | true =>
      rw [hb] at hc
      rw [whr_of (r := k) (by omega) hj fun _ => hb]
      simp only [b71_0, plX, runes, ints, go_sem, fillAll, fillIn, shiftR, shiftV, List.take_succ_cons, List.take_zero, List.drop_succ_cons, List.drop_zero, List.append_nil, Nat.zero_add, subP4]
      refine goP h63 ?_
      simp only [go_sem, fillAll, fillIn, shiftR, shiftV, List.take_succ_cons, List.take_zero, List.drop_succ_cons, List.drop_zero, List.append_nil, Nat.zero_add, subP4, hlt']
      refine goP hc ?_
      simp only [go_sem]
      simp only [i71, Out, resAll, geto, ints, List.getElem?_cons_zero, List.getElem?_cons_succ, resOf, outOf, snap, snapL, ev, getE, List.mapM_cons, List.mapM_nil, Option.bind_some, Option.pure_def, Option.bind_eq_bind, Option.map_some, reduceIte, Nat.reduceEqDiff, true_and, and_true]
    | false =>
      rw [hb] at hc
      simp only [b71_0, plX, runes, ints, go_sem, fillAll, fillIn, shiftR, shiftV, List.take_succ_cons, List.take_zero, List.drop_succ_cons, List.drop_zero, List.append_nil, Nat.zero_add, subP4]
      refine goP h63 ?_
      simp only [go_sem, fillAll, fillIn, shiftR, shiftV, List.take_succ_cons, List.take_zero, List.drop_succ_cons, List.drop_zero, List.append_nil, Nat.zero_add, subP4, hlt']
      refine goP hc ?_
      simp only [go_sem, hk1]
      refine loopQ_go rfl (n - (k + 1)) (by omega) ⟨k + 1, by omega, rfl, fun j hjk => ?_, rfl⟩
      by_cases he : j = k
      · rw [he]; exact hb
      · exact hj j (by omega)
  · have hlt' : ¬ (k : Int) < (n : Int) := by omega
    obtain rfl : k = n := by omega
    rw [whr_of (r := k) (by omega) hj fun h => absurd h (Nat.lt_irrefl _)]
    simp only [b71_0, k71_0, plX, runes, ints, go_sem, fillAll, fillIn, shiftR, shiftV, List.take_succ_cons, List.take_zero, List.drop_succ_cons, List.drop_zero, List.append_nil, Nat.zero_add, subP4]
    refine goP h63 ?_
    simp only [go_sem, fillAll, fillIn, shiftR, shiftV, List.take_succ_cons, List.take_zero, List.drop_succ_cons, List.drop_zero, List.append_nil, Nat.zero_add, subP4, hlt']
    refine goP h63 ?_
    simp only [go_sem]
    simp only [i71, Out, resAll, geto, ints, List.getElem?_cons_zero, List.getElem?_cons_succ, resOf, outOf, snap, snapL, ev, getE, List.mapM_cons, List.mapM_nil, Option.bind_some, Option.pure_def, Option.bind_eq_bind, Option.map_some, reduceIte, Nat.reduceEqDiff, true_and, and_true]
end
section
variable {s t s' t' : List Int} {ch ch' : Bool} {L L' : List Rt} {o : Int} {n m : Nat}
def dixM (s t : List Int) (ch : Bool) (l : List Nm) (s' t' : List Int) (ch' : Bool) (l' : List Nm) (i : Nat) (y : List Int) : List AObj :=
  [⟨true, 26, 4, 0, 1, plX s ch t l, false⟩, ⟨true, 26, 4, 0, 1, plX s' ch' t' l', false⟩, ⟨false, 3, 1, 0, 0, [], false⟩, ⟨false, 21, 1, 0, 0, [], false⟩, ⟨false, 66, 3, 0, 0, [], false⟩, ⟨true, 26, 4, 0, 1, [.arr 2 0, .bool false, .arr 3 0, .arr 4 0], false⟩, ⟨false, 3, 1, i, i, nums .i64 y, false⟩]
theorem c27_err {l l' : List Nm} (hsl : (s.length : Int) ≤ 1000000000) (h : ¬ s.length ≤ 1) : Go.V.Call tab E 27 [.agg (plX s ch t l), .agg (plX s' ch' t' l'), .int .i64 o] [] (.tup [.agg noP, .int .i64 23]) [] := by
  refine Go.V.Call.mach i27 c27 rfl rfl rfl rfl ?_
  have hgt : (1 : Int) < (s.length : Int) := by omega
  simp only [c27, plX, runes, ints, go_sem, fillAll, fillIn, shiftR, shiftV, List.take_succ_cons, List.take_zero, List.drop_succ_cons, List.drop_zero, List.append_nil, Nat.zero_add, subP4, subP4a, hgt]
  simp only [i27, Out, resAll, geto, ints, List.getElem?_cons_zero, List.getElem?_cons_succ, resOf, outOf, snap, snapL, ev, getE, List.mapM_cons, List.mapM_nil, Option.bind_some, Option.pure_def, Option.bind_eq_bind, Option.map_some, reduceIte, Nat.reduceEqDiff, true_and, and_true, subP4, noP, plX]
  rfl
theorem frst_get {i : Nat} (hi : i < m) : (frstL ch t L ch' t' L' n m).getD i 0 = (whrN ch t L ch' t' L' n i : Nat) := by simp [frstL, whrN, List.getD, hi]
set_option maxHeartbeats 1000000 in
theorem c27_ok (hn : t.length + L.length = n) (hm : t'.length + L'.length = m) (hn2 : n ≤ 100000) (hm2 : m ≤ 100000) (hs1 : s.length ≤ 1) (hch : (ch = true → L = []) ∧ (ch = false → t = [])) (hch' : (ch' = true → L' = []) ∧ (ch' = false → t' = [])) (hred : ∀ x ∈ L, RtRed x) (hred' : ∀ x ∈ L', RtRed x) (ho : 0 ≤ o ∧ o ≤ 1) :
    Go.V.Call tab E 27 [.agg (plX s ch t (L.map toNm)), .agg (plX s' ch' t' (L'.map toNm)), .int .i64 o] [] (.tup [.agg (plX s' false [] (((plus (frstL ch t L ch' t' L' n m) o).map zR).map toNm)), .int .i64 0]) [] := by
  refine Go.V.Call.mach i27 c27 rfl rfl rfl rfl ?_
  have h63 := c63_ok (s := s') (t := t') (l := L'.map toNm) (ch := ch') (by omega) (by simp; omega)
  rw [List.length_map, hm] at h63
  have h71 := fun (i : Nat) (hi : i < m) => c71_ok (s := s) (s' := s') hn hm hn2 hm2 hch hch' hred hred' hi
  have hwl := fun i => whr_le (ch := ch) (t := t) (L := L) (ch' := ch') (t' := t') (L' := L') (n := n) (i := i)
  have hFl := frstL_len (ch := ch) (t := t) (L := L) (ch' := ch') (t' := t') (L' := L') (n := n) (m := m)
  have hFm := frstL_mem (ch := ch) (t := t) (L := L) (ch' := ch') (t' := t') (L' := L') (n := n) (m := m)
  have hFg := fun (i : Nat) (hi : i < m) => frst_get (ch := ch) (t := t) (L := L) (ch' := ch') (t' := t') (L' := L') (n := n) hi
  generalize frstL ch t L ch' t' L' n m = F at *
  have h56 := c56_ok (E := E) (l := plus F o) (by rw [plus_len]; omega) fun z hz => by
    obtain ⟨x, hx, rfl⟩ := List.mem_map.1 hz
    have := hFm x hx
    exact ⟨by omega, by omega⟩
  rw [plG_X, plus_len, hFl] at h56
  have hle : ¬ (1 : Int) < (s.length : Int) := by omega
  generalize L.map toNm = l at *
  generalize L'.map toNm = l' at *
  simp only [plX, runes, ints, plus_len, hFl] at h63 h71 h56
  simp only [c27, plX, runes, ints, go_sem, fillAll, fillIn, shiftR, shiftV, List.take_succ_cons, List.take_zero, List.drop_succ_cons, List.drop_zero, List.append_nil, Nat.zero_add, subP4, subP4a, hle]
  refine mLoop (fun M st => ∃ i : Nat, i ≤ m ∧ M = m - i ∧ st = ⟨[(2, .int .i64 o), (3, .loc 0 0 0), (4, .loc 1 0 0), (6, .loc 5 0 0), (8, .arr 6 i), (9, .int .i64 i)], dixM s t ch l s' t' ch' l' i ((plus F o).take i)⟩) m ⟨_, rfl, 0, by omega, by omega, by simp [getE, dixM, plX, ints, runes, nums]⟩ ?_
  rintro M s0 ⟨i, hi, rfl, rfl⟩
  by_cases hlt : i < m
  · have hlt' : (i : Int) < (m : Int) := by omega
    have hi1 : IntKind.i64.wrap ((i : Int) + 1) = ((i + 1 : Nat) : Int) := by rw [wrap_i64 (by omega) (by omega)]; omega
    have hc := h71 i hlt
    have hw := hwl i
    have e1 : (plus F o).take (i + 1) = (plus F o).take i ++ [(whrN ch t L ch' t' L' n i : Int) + o] := by
      rw [tk_getD (by rw [plus_len]; omega), ← hFg i hlt]
      simp [plus, List.getD, show i < F.length by omega]
    generalize whrN ch t L ch' t' L' n i = W at *
    have w1 : IntKind.i64.wrap (o + (W : Int)) = (W : Int) + o := by rw [wrap_i64 (by omega) (by omega)]; omega
    have q1 : (i + 1) * 8 ≤ 140737488355328 := by omega
    have q2 : i + 1 ≤ 140737488355328 := by omega
    generalize (plus F o).take i = y at *
    simp only [b27_0, dixM, plX, runes, ints, go_sem, fillAll, fillIn, shiftR, shiftV, List.take_succ_cons, List.take_zero, List.drop_succ_cons, List.drop_zero, List.append_nil, Nat.zero_add, subP4, subP4a]
    refine goP h63 ?_
    simp only [go_sem, fillAll, fillIn, shiftR, shiftV, List.take_succ_cons, List.take_zero, List.drop_succ_cons, List.drop_zero, List.append_nil, Nat.zero_add, subP4, subP4a, hlt']
    refine goP hc ?_
    simp only [go_sem, fillAll, fillIn, shiftR, shiftV, List.take_succ_cons, List.take_zero, List.drop_succ_cons, List.drop_zero, List.append_nil, Nat.zero_add, w1, hi1, q1, q2, List.flatten_cons, List.flatten_nil, Option.getD_some]
    refine loopQ_go rfl (m - (i + 1)) (by omega) ⟨i + 1, by omega, rfl, ?_⟩
    rw [e1, nums_app]
    rfl
  · have hlt' : ¬ (i : Int) < (m : Int) := by omega
    obtain rfl : i = m := by omega
    rw [List.take_of_length_le (by rw [plus_len]; omega)]
    simp only [b27_0, k27_0, dixM, plX, runes, ints, go_sem, fillAll, fillIn, shiftR, shiftV, List.take_succ_cons, List.take_zero, List.drop_succ_cons, List.drop_zero, List.append_nil, Nat.zero_add, subP4, subP4a]
    refine goP h63 ?_
    simp only [go_sem, fillAll, fillIn, shiftR, shiftV, List.take_succ_cons, List.take_zero, List.drop_succ_cons, List.drop_zero, List.append_nil, Nat.zero_add, subP4, subP4a, hlt']
    refine goF h56 ?_
    simp only [go_sem, fillAll, fillIn, shiftR, shiftV, List.take_succ_cons, List.take_zero, List.drop_succ_cons, List.drop_zero, List.append_nil, Nat.zero_add, subP4, subP4a]
    simp only [i27, Out, resAll, geto, ints, List.getElem?_cons_zero, List.getElem?_cons_succ, resOf, outOf, snap, snapL, ev, getE, List.mapM_cons, List.mapM_nil, Option.bind_some, Option.pure_def, Option.bind_eq_bind, Option.map_some, reduceIte, Nat.reduceEqDiff, true_and, and_true, subP4, plX, runes, ints]
set_option maxHeartbeats 1000000 in
theorem c31_ok (hn : t.length + L.length = n) (hm : t'.length + L'.length = m) (hn2 : n ≤ 100000) (hm2 : m ≤ 100000) (hch : (ch = true → L = []) ∧ (ch = false → t = [])) (hch' : (ch' = true → L' = []) ∧ (ch' = false → t' = [])) (hred : ∀ x ∈ L, RtRed x) (hred' : ∀ x ∈ L', RtRed x) :
    Go.V.Call tab E 31 [.agg (plX s' ch' t' (L'.map toNm)), .agg (plX s ch t (L.map toNm))] [] (.agg (plX s' false [] (((memL (frstL ch t L ch' t' L' n m) n).map zR).map toNm))) [] := by
  refine Go.V.Call.mach i31 c31 rfl rfl rfl rfl ?_
  have h63 := c63_ok (s := s') (t := t') (l := L'.map toNm) (ch := ch') (by omega) (by simp; omega)
  rw [List.length_map, hm] at h63
  have h63b := c63_ok (s := s) (t := t) (l := L.map toNm) (ch := ch) (by omega) (by simp; omega)
  rw [List.length_map, hn] at h63b
  have h71 := fun (i : Nat) (hi : i < m) => c71_ok (s := s) (s' := s') hn hm hn2 hm2 hch hch' hred hred' hi
  have hFl := frstL_len (ch := ch) (t := t) (L := L) (ch' := ch') (t' := t') (L' := L') (n := n) (m := m)
  have hFg := fun (i : Nat) (hi : i < m) => frst_get (ch := ch) (t := t) (L := L) (ch' := ch') (t' := t') (L' := L') (n := n) hi
  generalize frstL ch t L ch' t' L' n m = F at *
  have h56 := c56_ok (E := E) (l := memL F n) (by rw [memL_len]; omega) fun z hz => by
    obtain ⟨x, hx, rfl⟩ := List.mem_map.1 hz
    split <;> exact ⟨by omega, by omega⟩
  rw [plG_X, memL_len, hFl] at h56
  generalize L.map toNm = l at *
  generalize L'.map toNm = l' at *
  simp only [plX, runes, ints, memL_len, hFl] at h63 h63b h71 h56
  simp only [c31, plX, runes, ints, go_sem, fillAll, fillIn, shiftR, shiftV, List.take_succ_cons, List.take_zero, List.drop_succ_cons, List.drop_zero, List.append_nil, Nat.zero_add, subP4, subP4a]
  refine mLoop (fun M st => ∃ i : Nat, i ≤ m ∧ M = m - i ∧ st = ⟨[(2, .loc 0 0 0), (3, .loc 1 0 0), (4, .loc 5 0 0), (5, .arr 6 i), (6, .int .i64 i)], dixM s' t' ch' l' s t ch l i ((memL F n).take i)⟩) m ⟨_, rfl, 0, by omega, by omega, by simp [getE, dixM, plX, ints, runes, nums]⟩ ?_
  rintro M s0 ⟨i, hi, rfl, rfl⟩
  by_cases hlt : i < m
  · have hlt' : (i : Int) < (m : Int) := by omega
    have hi1 : IntKind.i64.wrap ((i : Int) + 1) = ((i + 1 : Nat) : Int) := by rw [wrap_i64 (by omega) (by omega)]; omega
    have hc := h71 i hlt
    have hg := hFg i hlt
    have e1 : (memL F n).take (i + 1) = (memL F n).take i ++ [if F.getD i 0 < (n : Int) then 1 else 0] := by
      rw [tk_getD (by rw [memL_len]; omega)]
      simp [memL, List.getD, show i < F.length by omega]
    rw [hg] at e1
    generalize whrN ch t L ch' t' L' n i = W at *
    have q1 : (i + 1) * 8 ≤ 140737488355328 := by omega
    have q2 : i + 1 ≤ 140737488355328 := by omega
    generalize (memL F n).take i = y at *
    by_cases hv : (W : Int) < (n : Int)
    · rw [if_pos hv] at e1
      simp only [b31_0, dixM, plX, runes, ints, go_sem, fillAll, fillIn, shiftR, shiftV, List.take_succ_cons, List.take_zero, List.drop_succ_cons, List.drop_zero, List.append_nil, Nat.zero_add, subP4, subP4a]
      refine goP h63 ?_
      simp only [go_sem, fillAll, fillIn, shiftR, shiftV, List.take_succ_cons, List.take_zero, List.drop_succ_cons, List.drop_zero, List.append_nil, Nat.zero_add, subP4, subP4a, hlt']
      refine goP hc ?_
      simp only [go_sem, fillAll, fillIn, shiftR, shiftV, List.take_succ_cons, List.take_zero, List.drop_succ_cons, List.drop_zero, List.append_nil, Nat.zero_add, subP4, subP4a]
      refine goP h63b ?_
      simp only [go_sem, fillAll, fillIn, shiftR, shiftV, List.take_succ_cons, List.take_zero, List.drop_succ_cons, List.drop_zero, List.append_nil, Nat.zero_add, hv, hi1, q1, q2, List.flatten_cons, List.flatten_nil, Option.getD_some]
      refine loopQ_go rfl (m - (i + 1)) (by omega) ⟨i + 1, by omega, rfl, ?_⟩
      rw [e1, nums_app]
      rfl
    · rw [if_neg hv] at e1
      simp only [b31_0, dixM, plX, runes, ints, go_sem, fillAll, fillIn, shiftR, shiftV, List.take_succ_cons, List.take_zero, List.drop_succ_cons, List.drop_zero, List.append_nil, Nat.zero_add, subP4, subP4a]
      refine goP h63 ?_
      simp only [go_sem, fillAll, fillIn, shiftR, shiftV, List.take_succ_cons, List.take_zero, List.drop_succ_cons, List.drop_zero, List.append_nil, Nat.zero_add, subP4, subP4a, hlt']
      refine goP hc ?_
      simp only [go_sem, fillAll, fillIn, shiftR, shiftV, List.take_succ_cons, List.take_zero, List.drop_succ_cons, List.drop_zero, List.append_nil, Nat.zero_add, subP4, subP4a]
      refine goP h63b ?_
      simp only [go_sem, fillAll, fillIn, shiftR, shiftV, List.take_succ_cons, List.take_zero, List.drop_succ_cons, List.drop_zero, List.append_nil, Nat.zero_add, hv, hi1, q1, q2, List.flatten_cons, List.flatten_nil, Option.getD_some]
      refine loopQ_go rfl (m - (i + 1)) (by omega) ⟨i + 1, by omega, rfl, ?_⟩
      rw [e1, nums_app]
      rfl
  · have hlt' : ¬ (i : Int) < (m : Int) := by omega
    obtain rfl : i = m := by omega
    rw [List.take_of_length_le (by rw [memL_len]; omega)]
    simp only [b31_0, k31_0, dixM, plX, runes, ints, go_sem, fillAll, fillIn, shiftR, shiftV, List.take_succ_cons, List.take_zero, List.drop_succ_cons, List.drop_zero, List.append_nil, Nat.zero_add, subP4, subP4a]
    refine goP h63 ?_
    simp only [go_sem, fillAll, fillIn, shiftR, shiftV, List.take_succ_cons, List.take_zero, List.drop_succ_cons, List.drop_zero, List.append_nil, Nat.zero_add, subP4, subP4a, hlt']
    refine goF h56 ?_
    simp only [go_sem, fillAll, fillIn, shiftR, shiftV, List.take_succ_cons, List.take_zero, List.drop_succ_cons, List.drop_zero, List.append_nil, Nat.zero_add, subP4, subP4a]
    simp only [i31, Out, resAll, geto, ints, List.getElem?_cons_zero, List.getElem?_cons_succ, resOf, outOf, snap, snapL, ev, getE, List.mapM_cons, List.mapM_nil, Option.bind_some, Option.pure_def, Option.bind_eq_bind, Option.map_some, reduceIte, Nat.reduceEqDiff, true_and, and_true, subP4, plX, runes, ints]
end
theorem right_facts {s t : List Int} {ch : Bool} {l : List Nm} (hR : RightP s ch t l) : ((ch = true → l.map toRt = []) ∧ (ch = false → t = [])) ∧ (∀ z ∈ l.map toRt, RtRed z) ∧ count s = some ((t.length + (l.map toRt).length : Nat) : Int) := by
  have h1 := hR.1
  unfold Shapes at h1
  refine ⟨⟨fun h => ?_, fun h => ?_⟩, fun z hz => ?_, ?_⟩
  · subst h; rw [List.length_eq_zero_iff.1 h1.2]; rfl
  · subst h; exact h1.2
  · obtain ⟨x, hx, rfl⟩ := List.mem_map.1 hz
    exact right_red (hR.2 x hx)
  · rw [List.length_map]
    cases ch with
    | true => simp only [if_true] at h1; rw [h1.1, h1.2, Nat.add_zero]
    | false => simp only [Bool.false_eq_true, if_false] at h1; rw [h1.1, h1.2]; simp
theorem zR_list {F : List Int} (h : ∀ z ∈ F, In64 z) : (∀ x ∈ F.map zR, RtOk x) ∧ ∀ x ∈ (F.map zR).map toNm, NmU x := by
  have h1 : ∀ x ∈ F.map zR, RtOk x := fun x hx => by
    obtain ⟨z, hz, rfl⟩ := List.mem_map.1 hx
    exact zR_ok (h z hz)
  refine ⟨h1, fun x hx => ?_⟩
  obtain ⟨z, hz, rfl⟩ := List.mem_map.1 hx
  exact ⟨(decL_dig _).u8, (decL_dig _).u8, (h1 z hz).len.1, (h1 z hz).len.2⟩
set_option maxHeartbeats 4000000 in
theorem c7_places {s t s' t' : List Int} {ch ch' one : Bool} {l l' : List Nm} (hs : ∀ d ∈ s, In64 d) (hu : ∀ x ∈ l, U8 x.2.1 ∧ U8 x.2.2) (hs' : ∀ d ∈ s', In64 d) (hu' : ∀ x ∈ l', U8 x.2.1 ∧ U8 x.2.2) :
    Go.V.Call tab E 7 [.agg (plX s' ch' t' l'), .agg (plX s ch t l), .bool one] [] (.bool true) [] := by
  refine Go.V.Call.mach i7 c7 rfl rfl rfl rfl ?_
  have h16 := fun ok h => c16_ok (s := s) (t := t) (l := l) (ch := ch) (ok := ok) hs hu h
  have h16p := fun ok h => c16_ok (s := s') (t := t') (l := l') (ch := ch') (ok := ok) hs' hu' h
  by_cases hLp : LightP s' ch' t' l' 120
  · have h16pt := h16p true ⟨fun _ => hLp, fun _ => rfl⟩
    by_cases hL : LightP s ch t l 120
    · have h16t := h16 true ⟨fun _ => hL, fun _ => rfl⟩
      obtain ⟨l1, l2, l3, l4, hR⟩ := hL
      obtain ⟨m1, m2, m3, m4, hRp⟩ := hLp
      have hU : ∀ x ∈ l, NmU x := fun x hx => ⟨(hu x hx).1, (hu x hx).2, by have := (l4 x hx).1; omega, by have := (l4 x hx).2; omega⟩
      have hUp : ∀ x ∈ l', NmU x := fun x hx => ⟨(hu' x hx).1, (hu' x hx).2, by have := (m4 x hx).1; omega, by have := (m4 x hx).2; omega⟩
      have h11 := c11_ok hs (by omega) (by omega) (by omega) hU hR
      have h11p := c11_ok hs' (by omega) (by omega) (by omega) hUp hRp
      obtain ⟨hch, hred, hc⟩ := right_facts hR
      obtain ⟨hchp, hredp, hcp⟩ := right_facts hRp
      have hlm : (l.map toRt).length = l.length := by simp
      have hlmp : (l'.map toRt).length = l'.length := by simp
      have h19 := c19_ok (one := one)
      have ho : (0 : Int) ≤ (if one then 1 else 0) ∧ (if one then (1 : Int) else 0) ≤ 1 := by cases one <;> simp
      generalize (if one then (1 : Int) else 0) = o at *
      have hk : ∀ x ∈ l.map toRt, RtOk x := fun x hx => (hred x hx).1
      have hkp : ∀ x ∈ l'.map toRt, RtOk x := fun x hx => (hredp x hx).1
      have h29 := c29_ok (s := s) (s' := s') (t := t) (t' := t') (ch := ch) (ch' := ch') rfl rfl (by omega) (by omega) (by omega) hs' hcp hk hkp
      have h31 := c31_ok (s := s) (s' := s') (t := t) (t' := t') (ch := ch) (ch' := ch') (L := l.map toRt) (L' := l'.map toRt) rfl rfl (by omega) (by omega) hch hchp hred hredp
      rw [back_nms hR.2, back_nms hRp.2] at h31
      have hFl := frstL_len (ch := ch) (t := t) (L := l.map toRt) (ch' := ch') (t' := t') (L' := l'.map toRt) (n := t.length + (l.map toRt).length) (m := t'.length + (l'.map toRt).length)
      have hFm := frstL_mem (ch := ch) (t := t) (L := l.map toRt) (ch' := ch') (t' := t') (L' := l'.map toRt) (n := t.length + (l.map toRt).length) (m := t'.length + (l'.map toRt).length)
      have hM64 : ∀ z ∈ memL (frstL ch t (l.map toRt) ch' t' (l'.map toRt) (t.length + (l.map toRt).length) (t'.length + (l'.map toRt).length)) (t.length + (l.map toRt).length), In64 z := fun z hz => by
        obtain ⟨x, hx, rfl⟩ := List.mem_map.1 hz
        split <;> exact ⟨by omega, by omega⟩
      obtain ⟨k1, k2⟩ := zR_list hM64
      have h30 := c30_X (s := s') (t := []) (ch := false) (l := (memL (frstL ch t (l.map toRt) ch' t' (l'.map toRt) (t.length + (l.map toRt).length) (t'.length + (l'.map toRt).length)) (t.length + (l.map toRt).length)).map zR) (by omega) (by simp) (by rw [List.length_map, memL_len, hFl]; omega) k1
      have h28 := c28_gen (s := s') (s' := s') (t := []) (t' := []) (ch := false) (ch' := false) (l := ((memL (frstL ch t (l.map toRt) ch' t' (l'.map toRt) (t.length + (l.map toRt).length) (t'.length + (l'.map toRt).length)) (t.length + (l.map toRt).length)).map zR).map toNm) (l' := ((memL (frstL ch t (l.map toRt) ch' t' (l'.map toRt) (t.length + (l.map toRt).length) (t'.length + (l'.map toRt).length)) (t.length + (l.map toRt).length)).map zR).map toNm) (by omega) (by simp) (by rw [List.length_map, List.length_map, memL_len, hFl]; omega) (by omega) (by simp) (by rw [List.length_map, List.length_map, memL_len, hFl]; omega) k2 k2
      rw [decide_eq_true ⟨rfl, rfl, rfl, rfl⟩] at h28
      by_cases hs1 : s.length ≤ 1
      · have h26 := c26_ok (s := s) (s' := s') (t := t) (t' := t') (ch := ch) (ch' := ch') (o := o) rfl rfl (by omega) (by omega) hs1 hs' hcp hk hkp ho
        have h27 := c27_ok (s := s) (s' := s') (t := t) (t' := t') (ch := ch) (ch' := ch') (L := l.map toRt) (L' := l'.map toRt) (o := o) rfl rfl (by omega) (by omega) hs1 hch hchp hred hredp ho
        rw [back_nms hR.2, back_nms hRp.2] at h27
        generalize frstL ch t (l.map toRt) ch' t' (l'.map toRt) (t.length + (l.map toRt).length) (t'.length + (l'.map toRt).length) = F at *
        have hP64 : ∀ z ∈ plus F o, In64 z := fun z hz => by
          obtain ⟨x, hx, rfl⟩ := List.mem_map.1 hz
          have := hFm x hx
          exact ⟨by omega, by omega⟩
        have h21 := c21_yes (s := s') (t := []) (ch := false) (L := (plus F o).map zR) (by omega) (by simp) (by rw [List.length_map, plus_len, hFl]; omega) (zR_list hP64).1
        generalize (plus F o).map zR = R at *
        generalize (memL F (t.length + (l.map toRt).length)).map zR = R2 at *
        generalize l.map toRt = L at *
        generalize l'.map toRt = L' at *
        simp only [plX, arrX, runes, ints] at h16t h16pt h11 h11p h19 h26 h27 h21 h29 h31 h30 h28
        simp only [c7, plX, runes, ints, go_sem, fillAll, fillIn, shiftR, shiftV, List.take_succ_cons, List.take_zero, List.drop_succ_cons, List.drop_zero, List.append_nil, Nat.zero_add, subP4]
        refine goP h16pt ?_
        simp only [go_sem, fillAll, fillIn, shiftR, shiftV, List.take_succ_cons, List.take_zero, List.drop_succ_cons, List.drop_zero, List.append_nil, Nat.zero_add, subP4, subA5]
        refine goP h16t ?_
        simp only [go_sem, fillAll, fillIn, shiftR, shiftV, List.take_succ_cons, List.take_zero, List.drop_succ_cons, List.drop_zero, List.append_nil, Nat.zero_add, subP4, subA5]
        refine goP h11 ?_
        simp only [go_sem, fillAll, fillIn, shiftR, shiftV, List.take_succ_cons, List.take_zero, List.drop_succ_cons, List.drop_zero, List.append_nil, Nat.zero_add, subP4, subA5]
        refine goP h11p ?_
        simp only [go_sem, fillAll, fillIn, shiftR, shiftV, List.take_succ_cons, List.take_zero, List.drop_succ_cons, List.drop_zero, List.append_nil, Nat.zero_add, subP4, subA5]
        refine goP h19 ?_
        simp only [go_sem, fillAll, fillIn, shiftR, shiftV, List.take_succ_cons, List.take_zero, List.drop_succ_cons, List.drop_zero, List.append_nil, Nat.zero_add, subP4, subA5]
        refine goP h26 ?_
        simp only [go_sem, fillAll, fillIn, shiftR, shiftV, List.take_succ_cons, List.take_zero, List.drop_succ_cons, List.drop_zero, List.append_nil, Nat.zero_add, subP4, subA5]
        refine goP h19 ?_
        simp only [go_sem, fillAll, fillIn, shiftR, shiftV, List.take_succ_cons, List.take_zero, List.drop_succ_cons, List.drop_zero, List.append_nil, Nat.zero_add, subP4, subA5]
        refine goP h27 ?_
        simp only [go_sem, fillAll, fillIn, shiftR, shiftV, List.take_succ_cons, List.take_zero, List.drop_succ_cons, List.drop_zero, List.append_nil, Nat.zero_add, subP4, subA5]
        refine goR h21 rfl ?_
        simp only [go_sem, fillAll, fillIn, shiftR, shiftV, List.take_succ_cons, List.take_zero, List.drop_succ_cons, List.drop_zero, List.append_nil, Nat.zero_add, subP4, subA5]
        refine goP h11p ?_
        simp only [go_sem, fillAll, fillIn, shiftR, shiftV, List.take_succ_cons, List.take_zero, List.drop_succ_cons, List.drop_zero, List.append_nil, Nat.zero_add, subP4, subA5]
        refine goP h11 ?_
        simp only [go_sem, fillAll, fillIn, shiftR, shiftV, List.take_succ_cons, List.take_zero, List.drop_succ_cons, List.drop_zero, List.append_nil, Nat.zero_add, subP4, subA5]
        refine goP h29 ?_
        simp only [go_sem, fillAll, fillIn, shiftR, shiftV, List.take_succ_cons, List.take_zero, List.drop_succ_cons, List.drop_zero, List.append_nil, Nat.zero_add, subP4, subA5]
        refine goP h30 ?_
        simp only [go_sem, fillAll, fillIn, shiftR, shiftV, List.take_succ_cons, List.take_zero, List.drop_succ_cons, List.drop_zero, List.append_nil, Nat.zero_add, subP4, subA5]
        refine goP h31 ?_
        simp only [go_sem, fillAll, fillIn, shiftR, shiftV, List.take_succ_cons, List.take_zero, List.drop_succ_cons, List.drop_zero, List.append_nil, Nat.zero_add, subP4, subA5]
        refine goP h28 ?_
        simp only [go_sem, fillAll, fillIn, shiftR, shiftV, List.take_succ_cons, List.take_zero, List.drop_succ_cons, List.drop_zero, List.append_nil, Nat.zero_add, subP4, subA5]
        refine goP c17_awake ?_
        simp only [go_sem]
        simp only [i7, Out, resAll, geto, ints, List.getElem?_cons_zero, List.getElem?_cons_succ, resOf, outOf, snap, snapL, ev, getE, List.mapM_cons, List.mapM_nil, Option.bind_some, Option.pure_def, Option.bind_eq_bind, Option.map_some, reduceIte, Nat.reduceEqDiff, true_and, and_true]
      · have h26 := c26_err (s := s) (s' := s') (t := t) (t' := t') (ch := ch) (ch' := ch') (L := l.map toRt) (L' := l'.map toRt) (o := o) (by omega) hs1
        have h27 := c27_err (s := s) (s' := s') (t := t) (t' := t') (ch := ch) (ch' := ch') (l := l) (l' := l') (o := o) (by omega) hs1
        have h21 := c21_err (e := 23) (by omega)
        generalize (memL (frstL ch t (l.map toRt) ch' t' (l'.map toRt) (t.length + (l.map toRt).length) (t'.length + (l'.map toRt).length)) (t.length + (l.map toRt).length)).map zR = R2 at *
        generalize l.map toRt = L at *
        generalize l'.map toRt = L' at *
        simp only [plX, arrX, noA, noP, runes, ints] at h16t h16pt h11 h11p h19 h26 h27 h21 h29 h31 h30 h28
        simp only [c7, plX, runes, ints, go_sem, fillAll, fillIn, shiftR, shiftV, List.take_succ_cons, List.take_zero, List.drop_succ_cons, List.drop_zero, List.append_nil, Nat.zero_add, subP4]
        refine goP h16pt ?_
        simp only [go_sem, fillAll, fillIn, shiftR, shiftV, List.take_succ_cons, List.take_zero, List.drop_succ_cons, List.drop_zero, List.append_nil, Nat.zero_add, subP4, subA5]
        refine goP h16t ?_
        simp only [go_sem, fillAll, fillIn, shiftR, shiftV, List.take_succ_cons, List.take_zero, List.drop_succ_cons, List.drop_zero, List.append_nil, Nat.zero_add, subP4, subA5]
        refine goP h11 ?_
        simp only [go_sem, fillAll, fillIn, shiftR, shiftV, List.take_succ_cons, List.take_zero, List.drop_succ_cons, List.drop_zero, List.append_nil, Nat.zero_add, subP4, subA5]
        refine goP h11p ?_
        simp only [go_sem, fillAll, fillIn, shiftR, shiftV, List.take_succ_cons, List.take_zero, List.drop_succ_cons, List.drop_zero, List.append_nil, Nat.zero_add, subP4, subA5]
        refine goP h19 ?_
        simp only [go_sem, fillAll, fillIn, shiftR, shiftV, List.take_succ_cons, List.take_zero, List.drop_succ_cons, List.drop_zero, List.append_nil, Nat.zero_add, subP4, subA5]
        refine goP h26 ?_
        simp only [go_sem, fillAll, fillIn, shiftR, shiftV, List.take_succ_cons, List.take_zero, List.drop_succ_cons, List.drop_zero, List.append_nil, Nat.zero_add, subP4, subA5]
        refine goP h19 ?_
        simp only [go_sem, fillAll, fillIn, shiftR, shiftV, List.take_succ_cons, List.take_zero, List.drop_succ_cons, List.drop_zero, List.append_nil, Nat.zero_add, subP4, subA5]
        refine goP h27 ?_
        simp only [go_sem, fillAll, fillIn, shiftR, shiftV, List.take_succ_cons, List.take_zero, List.drop_succ_cons, List.drop_zero, List.append_nil, Nat.zero_add, subP4, subA5]
        refine goR h21 rfl ?_
        simp only [go_sem, fillAll, fillIn, shiftR, shiftV, List.take_succ_cons, List.take_zero, List.drop_succ_cons, List.drop_zero, List.append_nil, Nat.zero_add, subP4, subA5]
        refine goP h11p ?_
        simp only [go_sem, fillAll, fillIn, shiftR, shiftV, List.take_succ_cons, List.take_zero, List.drop_succ_cons, List.drop_zero, List.append_nil, Nat.zero_add, subP4, subA5]
        refine goP h11 ?_
        simp only [go_sem, fillAll, fillIn, shiftR, shiftV, List.take_succ_cons, List.take_zero, List.drop_succ_cons, List.drop_zero, List.append_nil, Nat.zero_add, subP4, subA5]
        refine goP h29 ?_
        simp only [go_sem, fillAll, fillIn, shiftR, shiftV, List.take_succ_cons, List.take_zero, List.drop_succ_cons, List.drop_zero, List.append_nil, Nat.zero_add, subP4, subA5]
        refine goP h30 ?_
        simp only [go_sem, fillAll, fillIn, shiftR, shiftV, List.take_succ_cons, List.take_zero, List.drop_succ_cons, List.drop_zero, List.append_nil, Nat.zero_add, subP4, subA5]
        refine goP h31 ?_
        simp only [go_sem, fillAll, fillIn, shiftR, shiftV, List.take_succ_cons, List.take_zero, List.drop_succ_cons, List.drop_zero, List.append_nil, Nat.zero_add, subP4, subA5]
        refine goP h28 ?_
        simp only [go_sem, fillAll, fillIn, shiftR, shiftV, List.take_succ_cons, List.take_zero, List.drop_succ_cons, List.drop_zero, List.append_nil, Nat.zero_add, subP4, subA5]
        refine goP c17_awake ?_
        simp only [go_sem]
        simp only [i7, Out, resAll, geto, ints, List.getElem?_cons_zero, List.getElem?_cons_succ, resOf, outOf, snap, snapL, ev, getE, List.mapM_cons, List.mapM_nil, Option.bind_some, Option.pure_def, Option.bind_eq_bind, Option.map_some, reduceIte, Nat.reduceEqDiff, true_and, and_true]
    · have h16f := h16 false ⟨fun h => (by cases h), fun h => absurd h hL⟩
      simp only [plX, runes, ints] at h16pt h16f
      simp only [c7, plX, runes, ints, go_sem, fillAll, fillIn, shiftR, shiftV, List.take_succ_cons, List.take_zero, List.drop_succ_cons, List.drop_zero, List.append_nil, Nat.zero_add, subP4]
      refine goP h16pt ?_
      simp only [go_sem, fillAll, fillIn, shiftR, shiftV, List.take_succ_cons, List.take_zero, List.drop_succ_cons, List.drop_zero, List.append_nil, Nat.zero_add, subP4]
      refine goP h16f ?_
      simp only [go_sem]
      refine goP c17_awake ?_
      simp only [go_sem]
      simp only [i7, Out, resAll, geto, ints, List.getElem?_cons_zero, List.getElem?_cons_succ, resOf, outOf, snap, snapL, ev, getE, List.mapM_cons, List.mapM_nil, Option.bind_some, Option.pure_def, Option.bind_eq_bind, Option.map_some, reduceIte, Nat.reduceEqDiff, true_and, and_true]
  · have h16f := h16p false ⟨fun h => (by cases h), fun h => absurd h hLp⟩
    simp only [plX, runes, ints] at h16f
    simp only [c7, plX, runes, ints, go_sem, fillAll, fillIn, shiftR, shiftV, List.take_succ_cons, List.take_zero, List.drop_succ_cons, List.drop_zero, List.append_nil, Nat.zero_add, subP4]
    refine goP h16f ?_
    simp only [go_sem]
    refine goP c17_awake ?_
    simp only [go_sem]
    simp only [i7, Out, resAll, geto, ints, List.getElem?_cons_zero, List.getElem?_cons_succ, resOf, outOf, snap, snapL, ev, getE, List.mapM_cons, List.mapM_nil, Option.bind_some, Option.pure_def, Option.bind_eq_bind, Option.map_some, reduceIte, Nat.reduceEqDiff, true_and, and_true]
end Go.Proofs.YtlejgleocnemoabGreat.I

-- PRINTED BY print.sh 35421559b90ae4d0a3588c463048766b98c2df88dd9212a6774a882060cdf62d: not written by this session
-- PRINTED WORDS (module Derived/Print/Sized.lean): go-gate-2's, for the rows of laws over slices: an AI agent of Go's test side, Tue Nov 17 2026; no person has read it. Lean checks it.
namespace Go.Proofs.YtlejgleocnemoabGreatW.PrintWords
open Go.ChangeShapes Go.WideShapes
end Go.Proofs.YtlejgleocnemoabGreatW.PrintWords

namespace Go.Proofs.YtlejgleocnemoabGreat.I
open Go Go.V Go.ChangeShapes Go.WideShapes Go.Deep
section
variable {H : Type} {enc : TypeId × Value → H} {P : Program} {w : World} {spare : Nat → Bool} {held : Bool}
theorem open_num1 {e : TypeId} {f0 f1 f2 : Field} {fuel : Nat} {a : Addr} {cs : List Value} {y : DataW H × List MemPlace} (he : P.underlying e = some (.struct #[f0, f1, f2])) (hone : oneCellFields P #[f0, f1, f2] = true)
    (h0 : P.underlying f0.type = some .bool) (h1 : P.underlying f1.type = some .string) (h2 : P.underlying f2.type = some .string) (hc : w.cells? 0 a 3 = some cs) (h : DataW.trod enc P w 0 spare held fuel e cs = some y) :
    ∃ q : Nm, (w.cell? (a.add 0) = some (.bool q.1) ∧ w.cell? (a.add 1) = some (.string (bs q.2.1)) ∧ w.cell? (a.add 2) = some (.string (bs q.2.2))) ∧ U8 q.2.1 ∧ U8 q.2.2 ∧ q.2.1.length ≤ maxLen ∧ q.2.2.length ≤ maxLen := by
  obtain ⟨_, hlen, hcell⟩ := World.cells?_some hc
  obtain ⟨xs, k, _, _, _, hxl, hf⟩ := DataW.trod_struct he h
  obtain ⟨o0, k0⟩ := hone_of hone 0 f0 rfl
  obtain ⟨o1, k1⟩ := hone_of hone 1 f1 rfl
  obtain ⟨o2, k2⟩ := hone_of hone 2 f2 rfl
  match xs, hxl, cs, hlen with
  | [y0, y1, y2], _, [v0, v1, v2], _ =>
    have g0 := hf 0 f0 rfl
    have g1 := hf 1 f1 rfl
    have g2 := hf 2 f2 rfl
    simp [o0, k0] at g0
    simp [o1, k1] at g1
    simp [o2, k2] at g2
    obtain ⟨b, hb, _⟩ := DataW.trod_bool h0 g0
    obtain ⟨s1, hs1, _, hm1⟩ := DataW.trod_string h1 g1
    obtain ⟨s2, hs2, _, hm2⟩ := DataW.trod_string h2 g2
    obtain ⟨l1, hu1, rfl⟩ := bs_all s1
    obtain ⟨l2, hu2, rfl⟩ := bs_all s2
    simp only [List.cons.injEq, and_true] at hb hs1 hs2
    subst hb; subst hs1; subst hs2
    have c0 := hcell 0 (by omega)
    have c1 := hcell 1 (by omega)
    have c2 := hcell 2 (by omega)
    rw [bs_size] at hm1 hm2
    exact ⟨(b, l1, l2), ⟨by simpa using c0, by simpa using c1, by simpa using c2⟩, hu1, hu2, hm1, hm2⟩
theorem open_nums {t e : TypeId} {f0 f1 f2 : Field} {fuel : Nat} {cs : List Value} {x : DataW H × List MemPlace} (ht : P.underlying t = some (.slice e)) (he : P.underlying e = some (.struct #[f0, f1, f2])) (hone : oneCellFields P #[f0, f1, f2] = true)
    (hC : P.cellsOf e = 3) (h0 : P.underlying f0.type = some .bool) (h1 : P.underlying f1.type = some .string) (h2 : P.underlying f2.type = some .string) (h : DataW.trod enc P w 0 spare held fuel t cs = some x) :
    ∃ (a : Option Addr) (len cap : Nat) (l : List Nm), cs = [.slice a len cap] ∧ l.length = len ∧ len ≤ maxLen ∧ (∀ q ∈ l, U8 q.2.1 ∧ U8 q.2.2 ∧ q.2.1.length ≤ maxLen ∧ q.2.2.length ≤ maxLen) ∧ RG w (fun b => b < w.heap.size) (.sl l.length 3 (nmsC l)) (.slice a len cap) := by
  rcases open_slice ht h with ⟨rfl, _⟩ | ⟨a, len, cap, m, n, D, Pl, rfl, _, hl, hm, hmm, _, hx⟩
  · exact ⟨none, 0, 0, [], rfl, rfl, Nat.zero_le _, fun q hq => by simp at hq, .sl0⟩
  have hlm : len ≤ m := by rw [hmm]; split <;> omega
  rw [hC] at hx
  have each : ∀ i, i < len → ∃ q : Nm, (w.cell? (a.add (i * 3)) = some (.bool q.1) ∧ w.cell? (a.add (i * 3 + 1)) = some (.string (bs q.2.1)) ∧ w.cell? (a.add (i * 3 + 2)) = some (.string (bs q.2.2))) ∧ U8 q.2.1 ∧ U8 q.2.2 ∧ q.2.1.length ≤ maxLen ∧ q.2.2.length ≤ maxLen := fun i hi => by
    obtain ⟨cs', hc, hy⟩ := hx i (by omega)
    obtain ⟨q, ⟨g0, g1, g2⟩, hq⟩ := open_num1 he hone h0 h1 h2 hc hy
    rw [add_add] at g0 g1 g2
    exact ⟨q, ⟨g0, g1, g2⟩, hq⟩
  obtain ⟨f, hf⟩ := choose_lt (α := Nm) each
  refine ⟨some a, len, cap, (List.range len).map f, rfl, by simp, Nat.le_trans hl hm, fun q hq => ?_, ?_⟩
  · obtain ⟨i, hi, rfl⟩ := List.mem_map.1 hq
    exact (hf i (List.mem_range.1 hi)).2
  · have hll : ((List.range len).map f).length = len := by simp
    rw [hll]
    by_cases hz : len = 0
    · subst hz; exact .sl0
    obtain ⟨b, o, sp⟩ := a
    have hc0 := (hf 0 (by omega)).1.1
    have hsp : sp = none := by
      simp only [Addr.add, Nat.zero_mul, if_true, World.cell?] at hc0
      split at hc0
      · split at hc0
        · cases hc0
        · rename_i hh; simpa using hh
      · cases hc0
    subst hsp
    have addE : ∀ i, (⟨b, o, none⟩ : Addr).add i = ⟨b, o + i, none⟩ := fun i => by
      unfold Addr.add
      split
      · rename_i h; rw [h]; rfl
      · rfl
    have hb : b < w.heap.size := by
      rw [addE] at hc0
      unfold World.cell? at hc0
      split at hc0
      · rename_i hh; exact (Array.getElem?_eq_some_iff.1 hh).1
      · cases hc0
    have hat : ∀ i, i < len → ((List.range len).map f).getD i (false, [], []) = f i := fun i hi => by simp [List.getD, hi]
    have vlen : ∀ l : List Nm, (l.flatMap fun q => [Value.bool q.1, .string (bs q.2.1), .string (bs q.2.2)]).length = l.length * 3 := fun l => by
      induction l with
      | nil => rfl
      | cons q l ih => rw [List.flatMap_cons, List.length_append, ih, List.length_cons]; simp; omega
    have vget : ∀ (l : List Nm) (i k : Nat), i < l.length → k < 3 → (l.flatMap fun q => [Value.bool q.1, .string (bs q.2.1), .string (bs q.2.2)])[i * 3 + k]? = ([Value.bool (l.getD i (false, [], [])).1, .string (bs (l.getD i (false, [], [])).2.1), .string (bs (l.getD i (false, [], [])).2.2)])[k]? := fun l => by
      induction l with
      | nil => intro i k h; simp at h
      | cons q l ih =>
        intro i k hi hk
        cases i with
        | zero => rw [List.flatMap_cons, Nat.zero_mul, Nat.zero_add, List.getElem?_append_left (by simp; omega)]; rfl
        | succ i =>
          rw [List.flatMap_cons, List.getElem?_append_right (by simp; omega)]
          have e : (i + 1) * 3 + k - [Value.bool q.1, .string (bs q.2.1), .string (bs q.2.2)].length = i * 3 + k := by simp; omega
          rw [e, ih i k (by simpa using hi) hk]
          rfl
    have cget : ∀ (l : List Nm) (i k : Nat), i < l.length → k < 3 → (nmsC l)[i * 3 + k]? = (nmC (l.getD i (false, [], [])))[k]? := fun l i k hi hk => by
      rw [← flat_get (f := nmC) (fun _ => rfl) hi, List.getElem?_take, if_pos hk, List.getElem?_drop]
      rfl
    have split3 : ∀ j, j < len * 3 → ∃ i k, i < len ∧ k < 3 ∧ j = i * 3 + k := fun j hj => ⟨j / 3, j % 3, by omega, by omega, by omega⟩
    refine .sl (vs := ((List.range len).map f).flatMap fun q => [Value.bool q.1, .string (bs q.2.1), .string (bs q.2.2)]) (by omega) hl (by rw [nmsC, flat_len (fun _ => rfl), hll]) (by rw [vlen, nmsC, flat_len (fun _ => rfl)]) hb (fun u hu => ?_) (fun j u hu => ?_) (fun j c u hc hu => ?_)
    · obtain ⟨q, _, hq⟩ := List.mem_flatMap.1 hu
      simp only [List.mem_cons, List.not_mem_nil, or_false] at hq
      rcases hq with rfl | rfl | rfl <;> rfl
    · have hj := (List.getElem?_eq_some_iff.1 hu).1
      rw [vlen, hll] at hj
      obtain ⟨i, k, hi, hk, rfl⟩ := split3 j hj
      rw [vget _ i k (by rw [hll]; exact hi) hk, hat i hi] at hu
      obtain ⟨⟨g0, g1, g2⟩, _⟩ := hf i hi
      rw [addE] at g0 g1 g2
      match k, hk with
      | 0, _ => simp at hu; subst hu; exact g0
      | 1, _ => simp at hu; subst hu; exact g1
      | 2, _ => simp at hu; subst hu; exact g2
    · have hj := (List.getElem?_eq_some_iff.1 hu).1
      rw [vlen, hll] at hj
      obtain ⟨i, k, hi, hk, rfl⟩ := split3 j hj
      rw [vget _ i k (by rw [hll]; exact hi) hk] at hu
      rw [cget _ i k (by rw [hll]; exact hi) hk] at hc
      match k, hk with
      | 0, _ => simp [nmC] at hu hc; subst hu; subst hc; exact .bool
      | 1, _ => simp [nmC] at hu hc; subst hu; subst hc; exact .str
      | 2, _ => simp [nmC] at hu hc; subst hu; subst hc; exact .str
end
end Go.Proofs.YtlejgleocnemoabGreat.I
