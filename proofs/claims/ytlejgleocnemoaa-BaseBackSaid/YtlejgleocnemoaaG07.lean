/- The texts L16e L16f L16g L08c L16w L16i L16h WSized, one behind the other. Conditions: each text's own. -/
import Derived.Test.YtlejgleocnemoaaG06
import Derived.SizedLaws
import Derived.ChangeSlices
set_option linter.unusedSimpArgs false
set_option linter.unusedVariables false
namespace Go.Proofs.Ytlejgleocnemoaa.I
open Go Go.V
attribute [local go_sem_proc ↓] reduceIte
attribute [local go_sem_proc] Nat.reduceEqDiff Nat.reduceAdd Nat.reduceMul Nat.reduceLeDiff Nat.reduceLT Int.reduceToNat Int.reduceLT Int.reduceLE reduceCtorEq Nat.reduceBEq
attribute [local go_sem] mNil nat0 beq_self_eq_true mSkip mRet mExit mReg mSeq mCond mTrue mFalse mBlock mLv mCodeE mCodeR mEndN mEndR mEndE mOps mSome mGuard mGtt mGff mGtf mGft mGu mCallP mCallR mCallF mCallO mCallZ mCallG mCallM mCallV loopQ_exit loopQ_ret mO_mov mO_newnil mO_pick mO_alloc mO_box mO_build mO_bsl mO_bslF mO_newnilB mO_bslB mO_lenB mO_appB mO_allocA mO_bslA mO_appA mO_ldb mO_faddrb mRsv mO_ldf mO_ld mO_st mO_sta mO_nilchk mO_bin mO_binb mO_binp mO_bins mO_neg mO_com mO_not mO_conv mO_mk mO_mk0 mO_s2b mO_b2s mO_cpy mO_cut mO_faddr mO_fld mO_iaddr mO_iaddrf mO_sidx mO_len mO_lenf mO_slen mO_scut mO_app mO_ext mO_mx mO_mn mO_mkfn evalOp cutOp argsE ev getE putE cellsOf adopt rowOf binV boolV nilV ar_add ar_sub ar_mul ar_quo ar_rem ar_eq ar_ne ar_lt ar_le ar_gt ar_ge ar_and ar_or ar_xor geto bound finRet finNrm ints List.length_cons List.length_nil List.length_append List.getElem?_cons_zero List.getElem?_cons_succ List.nil_append List.cons_append List.map_cons List.map_nil List.mapM_cons List.mapM_nil Option.map_some Option.map_none Option.bind_some Option.pure_def Option.bind_eq_bind List.drop_zero or_self or_false false_or or_true true_or true_and and_true and_self decide_true decide_false Bool.false_eq_true Bool.true_eq_false Bool.not_true Bool.not_false Nat.le_refl eq_self gt_iff_lt ge_iff_le ne_eq not_true_eq_false not_false_eq_true storeOp apartOf freeze_nil refsL refs List.flatMap_cons List.flatMap_nil List.append_nil List.contains_nil List.set_cons_zero List.set_cons_succ snap snapL fill_nums flat_nums nums_length Go.V.freeze List.mapIdx_cons List.mapIdx_nil List.contains_cons Bool.or_false Bool.false_or Bool.or_true Bool.true_or
theorem nums_nil {k : IntKind} : nums k [] = [] := rfl
theorem c10_core {s s' : List Int} {A B : List Rat} {ch ch' : Bool} {lim : Int} {n w : Nat} (hs : ∀ d ∈ s, In64 d) (hs' : ∀ d ∈ s', In64 d) (hc : count s = some (A.length : Int)) (hc' : count s' = some (B.length : Int))
    (hl : A.length ≤ 60) (hl' : B.length ≤ 60) (hA : ∀ a ∈ A, Sz 134 a) (hB : ∀ a ∈ B, Sz 134 a) (hb : badA ch [] (A.map rR) = false) (hb' : badA ch' [] (B.map rR) = false)
    (hn : s.getD 0 1 = (n : Int)) (hw : prd (s.drop 1) = (w : Int)) (hnw : A.length = n * w) (hroom : roomE (s ++ s') = 0) (hlim : In64 lim) :
    Go.V.Call tab E 10 [.agg (arrX s ch [] (A.map rR)), .agg (arrX s' ch' [] (B.map rR)), .int .i64 lim] [] (.tup [.agg (if encB A B n w lim then arrX (s ++ s') false [] (encL A B n w) else noA), .int .i64 (if encB A B n w lim then 0 else 26)]) [] := by
  refine Go.V.Call.mach i10 c10 rfl rfl rfl rfl ?_
  have hl8 := (count_iff.2 (by rw [hc]; simp : count s ≠ none)).1
  have hl8' := (count_iff.2 (by rw [hc']; simp : count s' ≠ none)).1
  have h68 := c42_two (s := s) (t := []) (l := A.map rR) (ch := ch) (s' := s') (t' := []) (l' := B.map rR) (ch' := ch') (by simp) (by simp; omega) (by simp) (by simp; omega)
  rw [hb, hb'] at h68
  have h48 := c44_X (s := s) (t := []) (l := A.map rR) (ch := ch) (by omega)
  have h48' := c44_X (s := s') (t := []) (l := B.map rR) (ch := ch') (by omega)
  have h69 := c43_ok (L := [s, s']) (by simp) (by simp [lensum]; omega)
  have hin : ∀ d ∈ s ++ s', In64 d := fun d hd => (List.mem_append.1 hd).elim (hs d) (hs' d)
  have h70 := c45_ok (s := s ++ s') hin (by simp; omega)
  have h71 := c46_X (s := s) (t := []) (l := A.map rR) (ch := ch) hs (by rw [hc]; simp)
  have h55 := c23_X (s := s') (t := []) (l := B.map rR) (ch := ch') (by simp) (by simp; omega)
  rw [hn, hw] at h71
  rw [hroom] at h70
  have hcnt : count (s ++ s') = some ((n * w * B.length : Nat) : Int) := by
    rw [roomE] at hroom
    split at hroom
    · cases hroom
    · split at hroom
      · cases hroom
      · rename_i h
        cases hq : count (s ++ s') with
        | none => exact absurd hq h
        | some m =>
          rw [count_prd hq, prd_cat, ← count_prd hc, ← count_prd hc', hnw, ← Int.natCast_mul]
  have hrn : roomN (s ++ s') = ((n * w * B.length : Nat) : Int) := by
    rw [roomN, hcnt]
    have : ¬ 8 < (s ++ s').length := fun h => by rw [count, if_pos h] at hcnt; cases hcnt
    rw [if_neg this]; rfl
  rw [hrn] at h70
  have hall : n * w * B.length ≤ 3600 := by rw [← hnw]; exact Nat.le_trans (Nat.mul_le_mul hl hl') (by omega)
  simp only [rows, List.map_cons, List.map_nil, List.flatten_cons, List.flatten_nil, List.append_nil] at h69
  have hSl : (s ++ s').length = s.length + s'.length := by simp
  generalize s ++ s' = S at *
  have hLen : (encL A B n w).length = n * w * B.length := by simp [encL]
  have hEnc : ∀ Lc : List Rt, Lc.length = n * w * B.length → (∀ q, q < n * w * B.length → rtAt Lc q = xT (dAt A B n w q)) → Lc = encL A B n w := fun Lc h1 h2 => by
    apply List.ext_getElem? ; intro q
    by_cases hq : q < n * w * B.length
    · have := h2 q hq
      simp only [rtAt, List.getD] at this
      rw [List.getElem?_eq_getElem (by omega)] at this ⊢
      simp only [Option.getD_some] at this
      rw [this]
      simp [encL, hq]
    · rw [List.getElem?_eq_none (by omega), List.getElem?_eq_none (by omega)]
  have hsz : ∀ j k, Sz 134 (A.getD (k * w + j) 0) := fun j k => by
    by_cases h : k * w + j < A.length
    · simp only [List.getD, List.getElem?_eq_getElem h, Option.getD_some]; exact hA _ (List.getElem_mem h)
    · simp only [List.getD, List.getElem?_eq_none (show A.length ≤ k * w + j by omega), Option.getD_none]; exact Sz.zero (by omega)
  have hszB : ∀ i, Sz 134 (B.getD i 0) := fun i => by
    by_cases h : i < B.length
    · simp only [List.getD, List.getElem?_eq_getElem h, Option.getD_some]; exact hB _ (List.getElem_mem h)
    · simp only [List.getD, List.getElem?_eq_none (show B.length ≤ i by omega), Option.getD_none]; exact Sz.zero (by omega)
  have hpickA : ∀ q : Nat, q < A.length → pickR (A.map rR) (q : Int) = rR (A.getD q 0) := fun q h => pick_map h
  have hpickB : ∀ q : Nat, q < B.length → pickR (B.map rR) (q : Int) = rR (B.getD q 0) := fun q h => pick_map h
  have hrat := fun k : Int => c25_ok (s := s) (t := []) (l := A.map rR) (ch := ch) (k := k) (by simp; omega)
  have hratB := fun k : Int => c25_ok (s := s') (t := []) (l := B.map rR) (ch := ch') (k := k) (by simp; omega)
  have h64 := fun (Lc : List Rt) (h : Lc.length = n * w * B.length) => c52_X (s := S) (l := Lc) hin (by omega) (by omega)
  have hfits : fits S (n * w * B.length) = true := by rw [fits, hcnt]; simp
  have hw63 : (w : Int) ≤ 4096 := by
    rw [← hw]; exact (count_parts (s := s) (by rw [hc]; simp) 1).2.2.2.2.2
  clear hb hb' hA hB hc hc' hs hs' hrn hroom hin
  simp only [arrX, runes, List.cons_append, List.nil_append, List.length_map, List.length_nil, nums_nil, Nat.zero_add] at h68 h48 h48' h71 h55 hrat hratB h64
  simp only [c10, arrX, runes, List.length_map, List.length_nil, nums_nil, go_sem, fillAll, fillIn, shiftR, shiftV, List.take_succ_cons, List.take_zero, List.drop_succ_cons, List.drop_zero, List.append_nil, Nat.zero_add, subA5, List.flatten_cons, List.flatten_nil, Option.getD_some, List.append_nil]
  refine goR h68 rfl ?_
  simp only [go_sem, fillAll, fillIn, shiftR, shiftV, List.take_succ_cons, List.take_zero, List.drop_succ_cons, List.drop_zero, List.append_nil, Nat.zero_add, subA5, Bool.or_self, Bool.not_false]
  refine goP h48 ?_
  simp only [go_sem, fillAll, fillIn, shiftR, shiftV, List.take_succ_cons, List.take_zero, List.drop_succ_cons, List.drop_zero, List.append_nil, Nat.zero_add, subA5]
  refine goP h48' ?_
  simp only [go_sem, fillAll, fillIn, shiftR, shiftV, List.take_succ_cons, List.take_zero, List.drop_succ_cons, List.drop_zero, List.append_nil, Nat.zero_add, subA5, List.flatten_cons, List.flatten_nil, Option.getD_some, List.append_nil]
  refine goF h69 ?_
  simp only [go_sem, fillAll, fillIn, shiftR, shiftV, List.take_succ_cons, List.take_zero, List.drop_succ_cons, List.drop_zero, List.append_nil, Nat.zero_add, subA5]
  refine goP h70 ?_
  simp only [go_sem, fillAll, fillIn, shiftR, shiftV, List.take_succ_cons, List.take_zero, List.drop_succ_cons, List.drop_zero, List.append_nil, Nat.zero_add, subA5, bne_self_eq_false]
  refine goP h71 ?_
  have z0 : (0 : Int) ≤ ((n * w * B.length : Nat) : Int) := by omega
  have z1 : 56 * (n * w * B.length) ≤ 140737488355328 := by omega
  have z2 : ((n * w * B.length : Nat) : Int) ≤ 140737488355328 := by omega
  simp only [go_sem, fillAll, fillIn, shiftR, shiftV, List.take_succ_cons, List.take_zero, List.drop_succ_cons, List.drop_zero, List.append_nil, Nat.zero_add, subA5, z0, z1, z2, Int.toNat_natCast, rts_zero]
  have hok := encB_iff (A := A) (B := B) (n := n) (w := w) (lim := lim)
  refine mLoop (fun N st => ∃ (j : Nat) (Lc : List Rt), j ≤ w ∧ N = w - j ∧ Lc.length = n * w * B.length ∧ (∀ q, q < n * w * B.length → q / B.length % w < j → rtAt Lc q = xT (dAt A B n w q) ∧ (rlimbs (xT (dAt A B n w q)) : Int) ≤ lim) ∧
    st = ⟨[(2, .int .i64 lim), (3, .loc 0 0 0), (4, .loc 1 0 0), (6, .loc 5 0 0), (8, ints S), (11, .int .i64 w), (12, .int .i64 n), (14, .arr 8 0), (54, .int .i64 w), (55, .int .i64 j)],
      [⟨true, 28, 5, 0, 1, [ints s, .bool ch, .sl 0 1 [], .sl A.length 3 (rtsC (A.map rR)), .bool true], false⟩, ⟨true, 28, 5, 0, 1, [ints s', .bool ch', .sl 0 1 [], .sl B.length 3 (rtsC (B.map rR)), .bool true], false⟩,
       ⟨false, 3, 1, 0, 0, [], false⟩, ⟨false, 21, 1, 0, 0, [], false⟩, ⟨false, 59, 3, 0, 0, [], false⟩, ⟨true, 28, 5, 0, 1, [.arr 2 0, .bool false, .arr 3 0, .arr 4 0, .bool false], false⟩,
       ⟨false, 28, 5, 0, 2, [ints s, .bool ch, .sl 0 1 [], .sl A.length 3 (rtsC (A.map rR)), .bool true, ints s', .bool ch', .sl 0 1 [], .sl B.length 3 (rtsC (B.map rR)), .bool true], false⟩,
       ⟨false, 24, 1, 0, 2, [ints s, ints s'], true⟩, ⟨false, 59, 3, 0, n * w * B.length, rtsC Lc, false⟩]⟩) w ⟨_, rfl, 0, List.replicate (n * w * B.length) (false, 0, 0), by omega, by omega, by simp, fun q _ h => absurd h (by omega), rfl⟩ ?_
  rintro N s0 ⟨j, Lc, hj, rfl, hLc, hdone, rfl⟩
  by_cases hjw : j < w
  · have hjw' : (j : Int) < (w : Int) := by omega
    have hn60 : n ≤ 60 := Nat.le_trans (Nat.le_mul_of_pos_right n (show 0 < w by omega)) (by omega)
    have hj1 : IntKind.i64.wrap ((j : Int) + 1) = ((j + 1 : Nat) : Int) := by rw [wrap_i64 (by omega) (by omega)]; omega
    simp only [b10_0, go_sem, fillAll, fillIn, shiftR, shiftV, List.take_succ_cons, List.take_zero, List.drop_succ_cons, List.drop_zero, List.append_nil, Nat.zero_add, subA5, hjw']
    refine goP h55 ?_
    simp only [go_sem, fillAll, fillIn, shiftR, shiftV, List.take_succ_cons, List.take_zero, List.drop_succ_cons, List.drop_zero, List.append_nil, Nat.zero_add, subA5]
    refine mLoop (fun N st => ∃ (i : Nat) (Lc : List Rt), i ≤ B.length ∧ N = B.length - i ∧ Lc.length = n * w * B.length ∧
      (∀ q, q < n * w * B.length → (q / B.length % w < j ∨ q / B.length % w = j ∧ q % B.length < i) → rtAt Lc q = xT (dAt A B n w q) ∧ (rlimbs (xT (dAt A B n w q)) : Int) ≤ lim) ∧
      st = ⟨[(2, .int .i64 lim), (3, .loc 0 0 0), (4, .loc 1 0 0), (6, .loc 5 0 0), (8, ints S), (11, .int .i64 w), (12, .int .i64 n), (14, .arr 8 0), (15, .int .i64 j), (54, .int .i64 w), (55, .int .i64 j), (59, .int .i64 B.length), (60, .int .i64 i)],
        [⟨true, 28, 5, 0, 1, [ints s, .bool ch, .sl 0 1 [], .sl A.length 3 (rtsC (A.map rR)), .bool true], false⟩, ⟨true, 28, 5, 0, 1, [ints s', .bool ch', .sl 0 1 [], .sl B.length 3 (rtsC (B.map rR)), .bool true], false⟩,
         ⟨false, 3, 1, 0, 0, [], false⟩, ⟨false, 21, 1, 0, 0, [], false⟩, ⟨false, 59, 3, 0, 0, [], false⟩, ⟨true, 28, 5, 0, 1, [.arr 2 0, .bool false, .arr 3 0, .arr 4 0, .bool false], false⟩,
         ⟨false, 28, 5, 0, 2, [ints s, .bool ch, .sl 0 1 [], .sl A.length 3 (rtsC (A.map rR)), .bool true, ints s', .bool ch', .sl 0 1 [], .sl B.length 3 (rtsC (B.map rR)), .bool true], false⟩,
         ⟨false, 24, 1, 0, 2, [ints s, ints s'], true⟩, ⟨false, 59, 3, 0, n * w * B.length, rtsC Lc, false⟩]⟩) B.length ⟨_, rfl, 0, Lc, by omega, by omega, hLc, fun q hq h => hdone q hq (by omega), rfl⟩ ?_
    clear hdone hLc Lc
    rintro N s0 ⟨i, Lc, hi, rfl, hLc, hdone, rfl⟩
    by_cases hiB : i < B.length
    · have hiB' : (i : Int) < (B.length : Int) := by omega
      have hi1 : IntKind.i64.wrap ((i : Int) + 1) = ((i + 1 : Nat) : Int) := by rw [wrap_i64 (by omega) (by omega)]; omega
      have hn1 : IntKind.i64.wrap ((n : Int) - 1) = (n : Int) - 1 - ((0 : Nat) : Int) := by
        have : n ≤ 4096 ∨ w = 0 := by
          rcases Nat.eq_zero_or_pos w with h | h
          · exact .inr h
          · have := Nat.le_mul_of_pos_right n h
            exact .inl (by omega)
        rw [wrap_i64 (by omega) (by omega)]; omega
      have hx := hratB (i : Int)
      rw [hpickB i hiB] at hx
      simp only [rtC, ratG, us32] at hx
      simp only [b10_1, go_sem, fillAll, fillIn, shiftR, shiftV, List.take_succ_cons, List.take_zero, List.drop_succ_cons, List.drop_zero, List.append_nil, Nat.zero_add, subA5, hiB']
      refine goP hx ?_
      simp only [go_sem, fillAll, fillIn, shiftR, shiftV, List.take_succ_cons, List.take_zero, List.drop_succ_cons, List.drop_zero, List.append_nil, Nat.zero_add, subA5, rtC, ratG, us32, subT3, hn1]
      refine mLoop (fun N st => ∃ (m : Nat) (Lc : List Rt), m ≤ n ∧ N = n - m ∧ Lc.length = n * w * B.length ∧
        (∀ q, q < n * w * B.length → (q / B.length % w < j ∨ q / B.length % w = j ∧ (q % B.length < i ∨ q % B.length = i ∧ n - m ≤ q / B.length / w)) → rtAt Lc q = xT (dAt A B n w q) ∧ (rlimbs (xT (dAt A B n w q)) : Int) ≤ lim) ∧
        st = ⟨[(2, .int .i64 lim), (3, .loc 0 0 0), (4, .loc 1 0 0), (6, .loc 5 0 0), (8, ints S), (11, .int .i64 w), (12, .int .i64 n), (14, .arr 8 0), (15, .int .i64 j), (16, .int .i64 i), (17, .loc 11 0 0), (18, .int .i64 ((n : Int) - 1 - (m : Int))), (54, .int .i64 w), (55, .int .i64 j), (59, .int .i64 B.length), (60, .int .i64 i)],
          [⟨true, 28, 5, 0, 1, [ints s, .bool ch, .sl 0 1 [], .sl A.length 3 (rtsC (A.map rR)), .bool true], false⟩, ⟨true, 28, 5, 0, 1, [ints s', .bool ch', .sl 0 1 [], .sl B.length 3 (rtsC (B.map rR)), .bool true], false⟩,
           ⟨false, 3, 1, 0, 0, [], false⟩, ⟨false, 21, 1, 0, 0, [], false⟩, ⟨false, 59, 3, 0, 0, [], false⟩, ⟨true, 28, 5, 0, 1, [.arr 2 0, .bool false, .arr 3 0, .arr 4 0, .bool false], false⟩,
           ⟨false, 28, 5, 0, 2, [ints s, .bool ch, .sl 0 1 [], .sl A.length 3 (rtsC (A.map rR)), .bool true, ints s', .bool ch', .sl 0 1 [], .sl B.length 3 (rtsC (B.map rR)), .bool true], false⟩,
           ⟨false, 24, 1, 0, 2, [ints s, ints s'], true⟩, ⟨false, 59, 3, 0, n * w * B.length, rtsC Lc, false⟩, ⟨false, 154, 1, 0, 0, [], false⟩, ⟨false, 154, 1, 0, 0, [], false⟩,
           ⟨true, 59, 3, 0, 1, rtC (xT (stp (fun k => A.getD (k * w + j) 0) n (some (B.getD i 0)) m)), false⟩]⟩) n
        ⟨_, rfl, 0, Lc, by omega, by omega, hLc, fun q hq h => hdone q hq (by
          rcases h with h | ⟨h1, h | ⟨h2, h3⟩⟩
          · exact .inl h
          · exact .inr ⟨h1, h⟩
          · exfalso
            have : q / B.length / w < n := by
              rw [Nat.div_div_eq_div_mul]
              exact Nat.div_lt_of_lt_mul (by rw [Nat.mul_comm, Nat.mul_comm B.length, ← Nat.mul_assoc]; exact hq)
            omega), rfl⟩ ?_
      clear hdone hLc Lc hx
      rintro N s0 ⟨m, Lc, hm, rfl, hLc, hdone, rfl⟩
      by_cases hmn : m < n
      · obtain ⟨k, hk⟩ : ∃ k, k = n - 1 - m := ⟨_, rfl⟩
        have hk' : (n : Int) - 1 - (m : Int) = (k : Int) := by omega
        have hk0 : (0 : Int) ≤ (k : Int) := by omega
        have hkn : k < n := by omega
        have hkw : k * w + j < n * w := by
          have : (k + 1) * w ≤ n * w := Nat.mul_le_mul_right _ hkn
          rw [Nat.add_mul, Nat.one_mul] at this
          omega
        have hq : (k * w + j) * B.length + i < n * w * B.length := by
          have : (k * w + j + 1) * B.length ≤ n * w * B.length := Nat.mul_le_mul_right _ hkw
          rw [Nat.add_mul, Nat.one_mul] at this
          omega
        have g1 : IntKind.i64.wrap ((k : Int) * (w : Int)) = ((k * w : Nat) : Int) := by rw [← Int.natCast_mul, wrap_i64 (by omega) (by omega)]
        have g2 : IntKind.i64.wrap (((k * w : Nat) : Int) + (j : Int)) = ((k * w + j : Nat) : Int) := by rw [← Int.natCast_add, wrap_i64 (by omega) (by omega)]
        have g3 : IntKind.i64.wrap (((k * w + j : Nat) : Int) * (B.length : Int)) = (((k * w + j) * B.length : Nat) : Int) := by rw [← Int.natCast_mul, wrap_i64 (by omega) (by omega)]
        have g4 : IntKind.i64.wrap ((((k * w + j) * B.length : Nat) : Int) + (i : Int)) = (((k * w + j) * B.length + i : Nat) : Int) := by rw [← Int.natCast_add, wrap_i64 (by omega) (by omega)]
        have g5 : (0 : Int) ≤ (((k * w + j) * B.length + i : Nat) : Int) := by omega
        have g6 : (((k * w + j) * B.length + i : Nat) : Int) < ((n * w * B.length : Nat) : Int) := by omega
        have g7 : IntKind.i64.wrap ((k : Int) - 1) = (n : Int) - 1 - ((m + 1 : Nat) : Int) := by rw [wrap_i64 (by omega) (by omega)]; omega
        obtain ⟨d1, d2, d3⟩ := dec3 (w := w) (len := B.length) (k := k) hjw hiB
        have hq3 : (k * w + j) * B.length + i < Lc.length := by omega
        have hdA : dAt A B n w ((k * w + j) * B.length + i) = dg (A.getD (k * w + j) 0) (stp (fun k => A.getD (k * w + j) 0) n (some (B.getD i 0)) m) := by
          rw [dAt, d1, d2, d3, dgt, show n - 1 - k = m by omega]
        have hlt3 : ((k * w + j) * B.length + i) * 3 + 3 ≤ (rtsC Lc).length := by rw [show (rtsC Lc).length = Lc.length * 3 from flat_len (fun _ => rfl)]; omega
        have hfill := fill_rts (z := xT (dg (A.getD (k * w + j) 0) (stp (fun k => A.getD (k * w + j) 0) n (some (B.getD i 0)) m))) hq3
        have hby := hrat ((k * w + j : Nat) : Int)
        rw [hpickA _ (by omega)] at hby
        have sx := Sz.stp (x := some (B.getD i 0)) (n := n) (hszB i) (hsz j) m
        have sb := hsz j k
        have hnxt : stp (fun k => A.getD (k * w + j) 0) n (some (B.getD i 0)) (m + 1) = nx (A.getD (k * w + j) 0) (stp (fun k => A.getD (k * w + j) 0) n (some (B.getD i 0)) m) := by rw [stp, ← hk]
        have hm60 : m ≤ 60 := by
          have : n ≤ n * w := Nat.le_mul_of_pos_right n (by omega)
          omega
        generalize hxx : stp (fun k => A.getD (k * w + j) 0) n (some (B.getD i 0)) m = x at *
        have sd : Sz (2 * (134 + (134 + 1) * m) + 2 * 134 + 2) (xV (dg (A.getD (k * w + j) 0) x)) := by rw [xV_dg]; exact (sx.rest sb).mono (by omega)
        have k72 := c47_ok (E := I.E) (x := xT x) (y := rR (A.getD (k * w + j) 0)) xRV RV.self sx sb (by omega)
        rw [← xT_dg] at k72
        have k73 := c48_ok (E := I.E) (x := xT (dg (A.getD (k * w + j) 0) x))
        have k75 := c50_ok (E := I.E) (x := xT (dg (A.getD (k * w + j) 0) x)) xRV
        have k74 := c49_ok (E := I.E) (x := xT x) (y := rR (-(xV (dg (A.getD (k * w + j) 0) x)))) xRV RV.self sx sd.neg (by omega)
        have k76 := fun h0 => c51_ok (E := I.E) (x := rR (xV x + -(xV (dg (A.getD (k * w + j) 0) x)))) (y := rR (A.getD (k * w + j) 0)) RV.self RV.self (sx.add sd.neg) sb h0 (by omega)
        have k76z := fun h0 : A.getD (k * w + j) 0 = 0 => c51_zero (E := I.E) (x := rR (xV x + -(xV (dg (A.getD (k * w + j) 0) x)))) (y := rR (A.getD (k * w + j) 0)) RV.self (by rw [h0]; exact RV.self) (sx.add sd.neg) (by omega)
        have hnxv := fun h0 => nx_eq (b := A.getD (k * w + j) 0) (x := x) h0
        have hnx0 : A.getD (k * w + j) 0 = 0 → nx (A.getD (k * w + j) 0) x = none := fun h0 => by rw [nx, if_pos h0]
        clear hxx sx sb sd hpickA hpickB hsz hszB hrat hratB
        generalize A.getD (k * w + j) 0 = b at *
        simp only [rtC, ratG, us32] at hby k72 k73 k75 k74 k76 k76z hfill
        simp only [b10_2, hk', rtC, ratG, us32, subT3, go_sem, fillAll, fillIn, shiftR, shiftV, List.take_succ_cons, List.take_zero, List.drop_succ_cons, List.drop_zero, List.append_nil, Nat.zero_add, subA5, hk0, g1, g2, g3, g4]
        refine goP hby ?_
        simp only [go_sem, fillAll, fillIn, shiftR, shiftV, List.take_succ_cons, List.take_zero, List.drop_succ_cons, List.drop_zero, List.append_nil, Nat.zero_add, subA5, rtC, ratG, us32, subT3]
        refine goF k72 ?_
        simp only [go_sem, fillAll, fillIn, shiftR, shiftV, List.take_succ_cons, List.take_zero, List.drop_succ_cons, List.drop_zero, List.append_nil, Nat.zero_add, subA5, rtC, ratG, us32, subT3]
        refine goR k73 rfl ?_
        by_cases hlimb : (rlimbs (xT (dg b x)) : Int) ≤ lim
        · have hl' : ¬ lim < ((rlimbs (xT (dg b x)) : Nat) : Int) := by omega
          simp only [go_sem, fillAll, fillIn, shiftR, shiftV, List.take_succ_cons, List.take_zero, List.drop_succ_cons, List.drop_zero, List.append_nil, Nat.zero_add, subA5, rtC, ratG, us32, subT3, hl', g1, g2]
          refine goP h55 ?_
          simp only [go_sem, subA5, rtC, ratG, us32, subT3, g3, g4, g5, g6, Int.toNat_natCast, hlt3, hfill]
          refine goF k75 ?_
          simp only [go_sem, fillAll, fillIn, shiftR, shiftV, List.take_succ_cons, List.take_zero, List.drop_succ_cons, List.drop_zero, List.append_nil, Nat.zero_add, subA5, rtC, ratG, us32, subT3, List.flatten_cons, List.flatten_nil, Option.getD_some, List.append_nil]
          refine goP k74 ?_
          simp only [go_sem, fillAll, fillIn, shiftR, shiftV, List.take_succ_cons, List.take_zero, List.drop_succ_cons, List.drop_zero, List.append_nil, Nat.zero_add, subA5, rtC, ratG, us32, subT3]
          have hnew : (Lc.set ((k * w + j) * B.length + i) (xT (dg b x))).length = n * w * B.length ∧ (∀ q, q < n * w * B.length → (q / B.length % w < j ∨ q / B.length % w = j ∧ (q % B.length < i ∨ q % B.length = i ∧ n - (m + 1) ≤ q / B.length / w)) → rtAt (Lc.set ((k * w + j) * B.length + i) (xT (dg b x))) q = xT (dAt A B n w q) ∧ (rlimbs (xT (dAt A B n w q)) : Int) ≤ lim) := by
            refine ⟨by rw [List.length_set]; exact hLc, fun q hq' h => ?_⟩
            rw [rtAt_set hq3]
            by_cases he : q = (k * w + j) * B.length + i
            · rw [if_pos he, he, hdA]; exact ⟨rfl, hlimb⟩
            · rw [if_neg he]
              refine hdone q hq' ?_
              rcases h with h | ⟨h1, h | ⟨h2, h3⟩⟩
              · exact .inl h
              · exact .inr ⟨h1, .inl h⟩
              · refine .inr ⟨h1, .inr ⟨h2, ?_⟩⟩
                by_cases hc : q / B.length / w = k
                · exfalso; apply he
                  rw [← enc3 (w := w) (len := B.length) (q := q), h1, h2, hc]
                · omega
          obtain ⟨hn1', hn2'⟩ := hnew
          generalize Lc.set ((k * w + j) * B.length + i) (xT (dg b x)) = Lc2 at *
          by_cases h0 : b = 0
          · refine goF (k76z h0) ?_
            simp only [go_sem, fillAll, fillIn, shiftR, shiftV, List.take_succ_cons, List.take_zero, List.drop_succ_cons, List.drop_zero, List.append_nil, Nat.zero_add, subA5, rtC, ratG, us32, subT3, g7]
            refine loopQ_go rfl (n - (m + 1)) (by omega) ⟨m + 1, Lc2, by omega, rfl, hn1', hn2', ?_⟩
            rw [hnxt, hnx0 h0]; simp only [xT, limG_zero]; rfl
          · refine goF (k76 h0) ?_
            simp only [go_sem, fillAll, fillIn, shiftR, shiftV, List.take_succ_cons, List.take_zero, List.drop_succ_cons, List.drop_zero, List.append_nil, Nat.zero_add, subA5, rtC, ratG, us32, subT3, g7]
            refine loopQ_go rfl (n - (m + 1)) (by omega) ⟨m + 1, Lc2, by omega, rfl, hn1', hn2', ?_⟩
            rw [hnxt, hnxv h0]; rfl
        · have hl' : lim < ((rlimbs (xT (dg b x)) : Nat) : Int) := by omega
          have hbad : encB A B n w lim = false := by
            rw [← Bool.not_eq_true, hok]
            intro h
            exact hlimb (by rw [← hdA]; exact h _ hq)
          simp only [go_sem, fillAll, fillIn, shiftR, shiftV, List.take_succ_cons, List.take_zero, List.drop_succ_cons, List.drop_zero, List.append_nil, Nat.zero_add, subA5, rtC, ratG, us32, subT3, hl', hbad]
          simp only [i10, Out, resAll, geto, ints, List.getElem?_cons_zero, List.getElem?_cons_succ, resOf, outOf, snap, snapL, ev, getE, List.mapM_cons, List.mapM_nil, Option.bind_some, Option.pure_def, Option.bind_eq_bind, Option.map_some, reduceIte, Nat.reduceEqDiff, true_and, and_true, subA5, noA]
      · have hmn' : (n : Int) - 1 - (m : Int) = -1 := by omega
        simp only [b10_2, k10_0, hmn', go_sem, fillAll, fillIn, shiftR, shiftV, List.take_succ_cons, List.take_zero, List.drop_succ_cons, List.drop_zero, List.append_nil, Nat.zero_add, subA5, show ¬ (0 : Int) ≤ -1 by omega, hi1]
        refine loopQ_go rfl (B.length - (i + 1)) (by omega) ⟨i + 1, Lc, by omega, rfl, hLc, fun q hq h => hdone q hq ?_, rfl⟩
        rcases h with h | ⟨h1, h⟩
        · exact .inl h
        · refine .inr ⟨h1, ?_⟩
          by_cases hc : q % B.length < i
          · exact .inl hc
          · exact .inr ⟨by omega, by rw [show n - m = 0 by omega]; exact Nat.zero_le _⟩
    · have hiB' : ¬ (i : Int) < (B.length : Int) := by omega
      obtain rfl : i = B.length := by omega
      simp only [b10_1, k10_1, go_sem, fillAll, fillIn, shiftR, shiftV, List.take_succ_cons, List.take_zero, List.drop_succ_cons, List.drop_zero, List.append_nil, Nat.zero_add, subA5, Int.lt_irrefl, hj1]
      refine loopQ_go rfl (w - (j + 1)) (by omega) ⟨j + 1, Lc, by omega, rfl, hLc, fun q hq h => hdone q hq ?_, rfl⟩
      by_cases hc : q / B.length % w < j
      · exact .inl hc
      · refine .inr ⟨by omega, Nat.mod_lt _ ?_⟩
        rcases Nat.eq_zero_or_pos B.length with h0 | h0
        · rw [h0, Nat.mul_zero] at hq; omega
        · exact h0
  · obtain rfl : j = w := by omega
    have hall' : ∀ q, q < n * j * B.length → q / B.length % j < j := fun q hq => Nat.mod_lt _ (by
      rcases Nat.eq_zero_or_pos j with h0 | h0
      · subst h0; simp at hq
      · exact h0)
    have hgood : encB A B n j lim = true := hok.2 fun q hq => (hdone q hq (hall' q hq)).2
    obtain rfl : Lc = encL A B n j := hEnc Lc hLc fun q hq => (hdone q hq (hall' q hq)).1
    have hk64 := h64 _ hLc
    rw [hLc, hfits, if_pos rfl] at hk64
    simp only [b10_0, k10_2, go_sem, fillAll, fillIn, shiftR, shiftV, List.take_succ_cons, List.take_zero, List.drop_succ_cons, List.drop_zero, List.append_nil, Nat.zero_add, subA5, Int.lt_irrefl]
    refine goF hk64 ?_
    simp only [go_sem, fillAll, fillIn, shiftR, shiftV, List.take_succ_cons, List.take_zero, List.drop_succ_cons, List.drop_zero, List.append_nil, Nat.zero_add, subA5]
    simp only [i10, Out, resAll, geto, ints, List.getElem?_cons_zero, List.getElem?_cons_succ, resOf, outOf, snap, snapL, ev, getE, List.mapM_cons, List.mapM_nil, Option.bind_some, Option.pure_def, Option.bind_eq_bind, Option.map_some, reduceIte, Nat.reduceEqDiff, true_and, and_true, subA5, hgood, hLc]
theorem c13_back {A : List Rat} {D : List Rt} {m : Nat} {lim : Int} {V W : Nat → Rat} (h1 : 1 ≤ m) (hm : m ≤ 60) (hA : A.length = m) (hD : D.length = m) (hV0 : V 0 = 0) (hV : ∀ k, k < m → V (k + 1) = V k * A.getD k 0 + W k)
    (hW : ∀ k, k < m → RV (rtAt D k) (W k)) (hWs : ∀ k, k < m → Sz 300 (W k)) (hAs : ∀ k, k < m → Sz 300 (A.getD k 0)) (hVs : ∀ k, k ≤ m → Sz 300 (V k)) (hl : ∀ k, k < m → (rlimbs (rR (V (k + 1))) : Int) ≤ lim) :
    Go.V.Call tab E 13 [.agg (arrX [(m : Int)] false [] (A.map rR)), .agg (arrX [(m : Int)] false [] D), .int .i64 lim] [] (.tup [.agg (arrX [] false [] [rR (V m)]), .int .i64 0]) [] := by
  refine Go.V.Call.mach i13 c13 rfl rfl rfl rfl ?_
  have hin : ∀ d ∈ [(m : Int)], In64 d := fun d hd => by obtain rfl := List.mem_singleton.1 hd; exact ⟨by omega, by omega⟩
  have hc : count [(m : Int)] ≠ none := by
    have : count [(m : Int)] = some (m : Int) := by
      rw [count, if_neg (by simp)]
      simp only [cnt]
      rw [if_neg (by rw [Int.max_def]; split <;> omega)]
      simp
    rw [this]; simp
  have h68 := c42_two (s := [(m : Int)]) (t := []) (l := A.map rR) (ch := false) (s' := [(m : Int)]) (t' := []) (l' := D) (ch' := false) (by simp) (by simp; omega) (by simp) (by omega)
  have h118 := c55_X (s := [(m : Int)]) (t := []) (l := A.map rR) (ch := false) hin hc
  have h71 := c46_X (s := [(m : Int)]) (t := []) (l := D) (ch := false) hin hc
  have h69 := c43_ok (L := [[], []]) (by simp) (by simp [lensum])
  have h70 := c45_ok (s := []) (fun d hd => by cases hd) (by simp)
  have hra := fun k : Int => c25_ok (s := [(m : Int)]) (t := []) (l := A.map rR) (ch := false) (k := k) (by simp; omega)
  have hrd := fun k : Int => c25_ok (s := [(m : Int)]) (t := []) (l := D) (ch := false) (k := k) (by omega)
  have h64 := c52_X (s := []) (l := [rR (V m)]) (fun d hd => by cases hd) (by simp) (by simp)
  rw [show fits [] [rR (V m)].length = true from rfl, if_pos rfl] at h64
  have hAl : (A.map rR).length = m := by simp [hA]
  simp only [rows, ints, nums, List.map_cons, List.map_nil, List.flatten_cons, List.flatten_nil, List.append_nil, List.length_cons, List.length_nil] at h69 h70
  simp only [badA, Bool.false_and, Bool.or_self, Bool.not_false] at h68
  simp only [List.length_cons, List.length_nil, Nat.zero_add, Nat.sub_self, List.take_zero, List.drop_one, List.tail_cons, prd, List.getD_cons_zero] at h118 h71
  simp only [roomN, roomE, List.length_nil, show ¬ 8 < 0 by omega, if_false, show count [] = some 1 from rfl, reduceCtorEq, Option.getD_some] at h70
  simp only [arrX, runes, ints, nums, hAl, hD, List.length_cons, List.length_nil, List.map_nil, List.map_cons, Nat.zero_add, List.cons_append, List.nil_append] at h68 h118 h71 hra hrd h64
  have hmx : (if (m : Int) > (m : Int) then (m : Int) else (m : Int)) = (m : Int) := by split <;> rfl
  have hm0 : ((m : Int) == 0) = false := by rw [beq_eq_false_iff_ne]; omega
  have w1 : IntKind.i64.wrap ((m : Int) - 1) = ((m - 1 : Nat) : Int) := by rw [wrap_i64 (by omega) (by omega)]; omega
  simp only [c13, arrX, runes, ints, nums, hAl, hD, List.length_cons, List.length_nil, List.map_nil, List.map_cons, go_sem, fillAll, fillIn, shiftR, shiftV, List.take_succ_cons, List.take_zero, List.drop_succ_cons, List.drop_zero, List.append_nil, Nat.zero_add, subA5, List.flatten_cons, List.flatten_nil, Option.getD_some, List.append_nil]
  refine goR h68 rfl ?_
  simp only [go_sem, fillAll, fillIn, shiftR, shiftV, List.take_succ_cons, List.take_zero, List.drop_succ_cons, List.drop_zero, List.append_nil, Nat.zero_add, subA5]
  refine goP h118 ?_
  simp only [go_sem, fillAll, fillIn, shiftR, shiftV, List.take_succ_cons, List.take_zero, List.drop_succ_cons, List.drop_zero, List.append_nil, Nat.zero_add, subA5]
  refine goP h71 ?_
  simp only [go_sem, fillAll, fillIn, shiftR, shiftV, List.take_succ_cons, List.take_zero, List.drop_succ_cons, List.drop_zero, List.append_nil, Nat.zero_add, subA5, bne_self_eq_false, List.flatten_cons, List.flatten_nil, Option.getD_some, List.append_nil]
  refine goF h69 ?_
  simp only [go_sem, fillAll, fillIn, shiftR, shiftV, List.take_succ_cons, List.take_zero, List.drop_succ_cons, List.drop_zero, List.append_nil, Nat.zero_add, subA5]
  refine goP h70 ?_
  simp only [go_sem, fillAll, fillIn, shiftR, shiftV, List.take_succ_cons, List.take_zero, List.drop_succ_cons, List.drop_zero, List.append_nil, Nat.zero_add, subA5, bne_self_eq_false, hm0, Int.lt_irrefl]
  have hpa : ∀ q : Nat, q < m → pickR (A.map rR) (q : Int) = rR (A.getD q 0) := fun q h => pick_map (by omega)
  have hpd : ∀ q : Nat, q < m → pickR D (q : Int) = rtAt D q := fun q h => by rw [pickR, if_pos ⟨by omega, by omega⟩, Int.toNat_natCast]
  have z1 : IntKind.i64.wrap (0 + 1) = 1 := by decide
  have z01 : (0 : Int) < 1 := by omega
  obtain ⟨fin, hfin⟩ : ∃ z, z = rR (V m) := ⟨_, rfl⟩
  rw [← hfin] at h64 ⊢
  have hsn : rtsC [fin] = rtC fin := by simp [rtsC]
  rw [hsn] at h64 ⊢
  refine mLoop (fun N st => ∃ (i g : Nat) (cs : List AV), (i = 0 ∧ g = 0 ∧ cs = [] ∨ i = 1 ∧ g = 1 ∧ cs = rtC fin) ∧ N = 1 - i ∧
    st = ⟨[(2, .int .i64 lim), (3, .loc 0 0 0), (4, .loc 1 0 0), (6, .loc 5 0 0), (9, .int .i64 m), (11, .int .i64 1), (12, .int .i64 m), (14, .sl 0 1 []), (17, .int .i64 m), (18, .arr 8 g), (77, .int .i64 1), (78, .int .i64 i)], [⟨true, 28, 5, 0, 1, [.sl 1 1 [.int .i64 (m : Int)], .bool false, .sl 0 1 [], .sl m 3 (rtsC (A.map rR)), .bool true], false⟩, ⟨true, 28, 5, 0, 1, [.sl 1 1 [.int .i64 (m : Int)], .bool false, .sl 0 1 [], .sl m 3 (rtsC D), .bool true], false⟩,
       ⟨false, 3, 1, 0, 0, [], false⟩, ⟨false, 21, 1, 0, 0, [], false⟩, ⟨false, 59, 3, 0, 0, [], false⟩, ⟨true, 28, 5, 0, 1, [.arr 2 0, .bool false, .arr 3 0, .arr 4 0, .bool false], false⟩,
       ⟨false, 28, 5, 0, 2, [.sl 1 1 [.int .i64 (m : Int)], .bool false, .sl 0 1 [], .sl m 3 (rtsC (A.map rR)), .bool true, .sl 1 1 [.int .i64 (m : Int)], .bool false, .sl 0 1 [], .sl m 3 (rtsC D), .bool true], false⟩,
       ⟨false, 24, 1, 0, 2, [.sl 0 1 [], .sl 0 1 []], true⟩, ⟨false, 59, 3, g, g, cs, false⟩]⟩) 1 ⟨_, rfl, 0, 0, [], .inl ⟨rfl, rfl, rfl⟩, rfl, rfl⟩ ?_
  rintro N s0 ⟨i, g, cs, hi, rfl, rfl⟩
  rcases hi with ⟨rfl, rfl, rfl⟩ | ⟨rfl, rfl, rfl⟩
  · simp only [b13_0, go_sem, fillAll, fillIn, shiftR, shiftV, List.take_succ_cons, List.take_zero, List.drop_succ_cons, List.drop_zero, List.append_nil, Nat.zero_add, subA5, z01]
    refine mLoop (fun N st => ∃ (i g : Nat) (cs : List AV), (i = 0 ∧ g = 0 ∧ cs = [] ∨ i = 1 ∧ g = 1 ∧ cs = rtC fin) ∧ N = 1 - i ∧
      st = ⟨[(2, .int .i64 lim), (3, .loc 0 0 0), (4, .loc 1 0 0), (6, .loc 5 0 0), (9, .int .i64 m), (11, .int .i64 1), (12, .int .i64 m), (14, .sl 0 1 []), (17, .int .i64 m), (18, .arr 8 g), (19, .int .i64 0), (77, .int .i64 1), (78, .int .i64 0), (81, .int .i64 1), (82, .int .i64 i)], [⟨true, 28, 5, 0, 1, [.sl 1 1 [.int .i64 (m : Int)], .bool false, .sl 0 1 [], .sl m 3 (rtsC (A.map rR)), .bool true], false⟩, ⟨true, 28, 5, 0, 1, [.sl 1 1 [.int .i64 (m : Int)], .bool false, .sl 0 1 [], .sl m 3 (rtsC D), .bool true], false⟩,
       ⟨false, 3, 1, 0, 0, [], false⟩, ⟨false, 21, 1, 0, 0, [], false⟩, ⟨false, 59, 3, 0, 0, [], false⟩, ⟨true, 28, 5, 0, 1, [.arr 2 0, .bool false, .arr 3 0, .arr 4 0, .bool false], false⟩,
       ⟨false, 28, 5, 0, 2, [.sl 1 1 [.int .i64 (m : Int)], .bool false, .sl 0 1 [], .sl m 3 (rtsC (A.map rR)), .bool true, .sl 1 1 [.int .i64 (m : Int)], .bool false, .sl 0 1 [], .sl m 3 (rtsC D), .bool true], false⟩,
       ⟨false, 24, 1, 0, 2, [.sl 0 1 [], .sl 0 1 []], true⟩, ⟨false, 59, 3, g, g, cs, false⟩]⟩) 1 ⟨_, rfl, 0, 0, [], .inl ⟨rfl, rfl, rfl⟩, rfl, rfl⟩ ?_
    rintro N s0 ⟨i, g, cs, hi, rfl, rfl⟩
    rcases hi with ⟨rfl, rfl, rfl⟩ | ⟨rfl, rfl, rfl⟩
    · simp only [b13_1, go_sem, fillAll, fillIn, shiftR, shiftV, List.take_succ_cons, List.take_zero, List.drop_succ_cons, List.drop_zero, List.append_nil, Nat.zero_add, subA5, z01]
      refine mLoop (fun N st => ∃ (k g : Nat) (cs : List AV) (z : Rt), g = 0 ∧ cs = [] ∧ k ≤ m ∧ N = m - k ∧ RV z (V k) ∧ (1 ≤ k → z = rR (V k)) ∧
        st = ⟨[(2, .int .i64 lim), (3, .loc 0 0 0), (4, .loc 1 0 0), (6, .loc 5 0 0), (9, .int .i64 m), (11, .int .i64 1), (12, .int .i64 m), (14, .sl 0 1 []), (17, .int .i64 m), (18, .arr 8 g), (19, .int .i64 0), (20, .int .i64 0), (21, .loc 11 0 0), (77, .int .i64 1), (78, .int .i64 0), (81, .int .i64 1), (82, .int .i64 0), (86, .int .i64 m), (87, .int .i64 k)],
          [⟨true, 28, 5, 0, 1, [.sl 1 1 [.int .i64 (m : Int)], .bool false, .sl 0 1 [], .sl m 3 (rtsC (A.map rR)), .bool true], false⟩, ⟨true, 28, 5, 0, 1, [.sl 1 1 [.int .i64 (m : Int)], .bool false, .sl 0 1 [], .sl m 3 (rtsC D), .bool true], false⟩,
       ⟨false, 3, 1, 0, 0, [], false⟩, ⟨false, 21, 1, 0, 0, [], false⟩, ⟨false, 59, 3, 0, 0, [], false⟩, ⟨true, 28, 5, 0, 1, [.arr 2 0, .bool false, .arr 3 0, .arr 4 0, .bool false], false⟩,
       ⟨false, 28, 5, 0, 2, [.sl 1 1 [.int .i64 (m : Int)], .bool false, .sl 0 1 [], .sl m 3 (rtsC (A.map rR)), .bool true, .sl 1 1 [.int .i64 (m : Int)], .bool false, .sl 0 1 [], .sl m 3 (rtsC D), .bool true], false⟩,
       ⟨false, 24, 1, 0, 2, [.sl 0 1 [], .sl 0 1 []], true⟩, ⟨false, 59, 3, g, g, cs, false⟩, ⟨false, 154, 1, 0, 0, [], false⟩, ⟨false, 154, 1, 0, 0, [], false⟩, ⟨true, 59, 3, 0, 1, rtC z, false⟩]⟩) m ⟨_, rfl, 0, 0, [], (false, 0, 0), rfl, rfl, by omega, by omega, by rw [hV0]; exact RV.zero, fun h => absurd h (by omega), by simp only [rtC, ratG, us32, limG_zero]; rfl⟩ ?_
      rintro N s0 ⟨k, g, cs, z, rfl, rfl, hk, rfl, hz, hz1, rfl⟩
      by_cases hkm : k < m
      · have hkm' : (k : Int) < (m : Int) := by omega
        have hk1 : IntKind.i64.wrap ((k : Int) + 1) = ((k + 1 : Nat) : Int) := by rw [wrap_i64 (by omega) (by omega)]; omega
        have g1 : IntKind.i64.wrap (0 * (m : Int)) = 0 := by rw [Int.zero_mul]; decide
        have g2 : (if (k : Int) > ((m - 1 : Nat) : Int) then ((m - 1 : Nat) : Int) else (k : Int)) = (k : Int) := by rw [if_neg (by omega)]
        have g2' : (if ((m - 1 : Nat) : Int) < (k : Int) then ((m - 1 : Nat) : Int) else (k : Int)) = (k : Int) := by rw [if_neg (by omega)]
        have g3 : IntKind.i64.wrap (0 + (k : Int)) = (k : Int) := by rw [wrap_i64 (by omega) (by omega)]; omega
        have g4 : IntKind.i64.wrap ((k : Int) * 1) = (k : Int) := by rw [wrap_i64 (by omega) (by omega)]; omega
        have g5 : IntKind.i64.wrap ((k : Int) + 0) = (k : Int) := by rw [wrap_i64 (by omega) (by omega)]; omega
        have ra := hra (k : Int)
        rw [hpa k hkm] at ra
        have rd := hrd (k : Int)
        rw [hpd k hkm] at rd
        have kt := c56_ok (E := I.E) (x := z) (y := rR (A.getD k 0)) hz RV.self (hVs k hk) (hAs k hkm) (by omega)
        have kp := c49_ok (E := I.E) (x := rR (V k * A.getD k 0)) (y := rtAt D k) RV.self (hW k hkm) ((hVs k hk).mul (hAs k hkm)) (hWs k hkm) (by omega)
        rw [← hV k hkm] at kp
        have kl := c48_ok (E := I.E) (x := rR (V (k + 1)))
        have hll := hl k hkm
        have hll' : ¬ lim < ((rlimbs (rR (V (k + 1))) : Nat) : Int) := by omega
        generalize hx2 : rR (V (k + 1)) = x2 at *
        generalize rR (V k * A.getD k 0) = x1 at *
        generalize rR (A.getD k 0) = xa at *
        generalize rtAt D k = xd at *
        simp only [rtC, ratG, us32] at ra rd kt kp kl
        simp only [b13_2, go_sem, fillAll, fillIn, shiftR, shiftV, List.take_succ_cons, List.take_zero, List.drop_succ_cons, List.drop_zero, List.append_nil, Nat.zero_add, subA5, subT3, rtC, ratG, us32, hkm', w1, g1, g2, g2', g3, g4, g5]
        refine goP ra ?_
        simp only [go_sem, fillAll, fillIn, shiftR, shiftV, List.take_succ_cons, List.take_zero, List.drop_succ_cons, List.drop_zero, List.append_nil, Nat.zero_add, subA5, subT3, rtC, ratG, us32, w1, g1, g2, g2', g3, g4, g5, List.flatten_cons, List.flatten_nil, Option.getD_some, List.append_nil]
        refine goF kt ?_
        simp only [go_sem, fillAll, fillIn, shiftR, shiftV, List.take_succ_cons, List.take_zero, List.drop_succ_cons, List.drop_zero, List.append_nil, Nat.zero_add, subA5, subT3, rtC, ratG, us32, w1, g1, g2, g2', g3, g4, g5, List.flatten_cons, List.flatten_nil, Option.getD_some, List.append_nil]
        refine goP rd ?_
        simp only [go_sem, fillAll, fillIn, shiftR, shiftV, List.take_succ_cons, List.take_zero, List.drop_succ_cons, List.drop_zero, List.append_nil, Nat.zero_add, subA5, subT3, rtC, ratG, us32, w1, g1, g2, g2', g3, g4, g5, List.flatten_cons, List.flatten_nil, Option.getD_some, List.append_nil]
        refine goF kp ?_
        simp only [go_sem, fillAll, fillIn, shiftR, shiftV, List.take_succ_cons, List.take_zero, List.drop_succ_cons, List.drop_zero, List.append_nil, Nat.zero_add, subA5, subT3, rtC, ratG, us32]
        refine goR kl rfl ?_
        simp only [go_sem, fillAll, fillIn, shiftR, shiftV, List.take_succ_cons, List.take_zero, List.drop_succ_cons, List.drop_zero, List.append_nil, Nat.zero_add, subA5, subT3, rtC, ratG, us32, hll', hk1]
        exact loopQ_go rfl (m - (k + 1)) (by omega) ⟨k + 1, 0, [], x2, rfl, rfl, by omega, rfl, by rw [← hx2]; exact RV.self, fun _ => hx2.symm, rfl⟩
      · obtain rfl : k = m := by omega
        obtain rfl : z = fin := by rw [hfin]; exact hz1 (by omega)
        simp only [b13_2, k13_0, k13_1, go_sem, fillAll, fillIn, shiftR, shiftV, List.take_succ_cons, List.take_zero, List.drop_succ_cons, List.drop_zero, List.append_nil, Nat.zero_add, subA5, subT3, rtC, ratG, us32, Int.lt_irrefl, z1, List.flatten_cons, List.flatten_nil, Option.getD_some, List.append_nil]
        exact loopQ_go rfl 0 (by omega) ⟨1, 1, rtC z, .inr ⟨rfl, rfl, rfl⟩, rfl, rfl⟩
    · simp only [b13_1, k13_2, go_sem, fillAll, fillIn, shiftR, shiftV, List.take_succ_cons, List.take_zero, List.drop_succ_cons, List.drop_zero, List.append_nil, Nat.zero_add, subA5, Int.lt_irrefl, show ¬ ((1 : Nat) : Int) < 1 by omega, z1]
      exact loopQ_go rfl 0 (by omega) ⟨1, 1, rtC fin, .inr ⟨rfl, rfl, rfl⟩, rfl, rfl⟩
  · simp only [rtC, ratG, us32] at h64
    simp only [b13_0, k13_3, go_sem, fillAll, fillIn, shiftR, shiftV, List.take_succ_cons, List.take_zero, List.drop_succ_cons, List.drop_zero, List.append_nil, Nat.zero_add, subA5, Int.lt_irrefl, show ¬ ((1 : Nat) : Int) < 1 by omega, rtC, ratG, us32]
    refine goF h64 ?_
    simp only [go_sem, fillAll, fillIn, shiftR, shiftV, List.take_succ_cons, List.take_zero, List.drop_succ_cons, List.drop_zero, List.append_nil, Nat.zero_add, subA5]
    simp only [i13, Out, resAll, geto, ints, List.getElem?_cons_zero, List.getElem?_cons_succ, resOf, outOf, snap, snapL, ev, getE, List.mapM_cons, List.mapM_nil, Option.bind_some, Option.pure_def, Option.bind_eq_bind, Option.map_some, reduceIte, Nat.reduceEqDiff, true_and, and_true, subA5]
end Go.Proofs.Ytlejgleocnemoaa.I

namespace Go.Proofs.Ytlejgleocnemoaa.I
open Go Go.V
attribute [local go_sem] mNil nat0 beq_self_eq_true mSkip mRet mExit mReg mSeq mCond mTrue mFalse mBlock mLv mCodeE mCodeR mEndN mEndR mEndE mOps mSome mGuard mGtt mGff mGtf mGft mGu mCallP mCallR mCallF mCallO mCallZ mCallG mCallM mCallV loopQ_exit loopQ_ret mO_mov mO_newnil mO_pick mO_alloc mO_box mO_build mO_bsl mO_bslF mO_newnilB mO_bslB mO_lenB mO_appB mO_allocA mO_bslA mO_appA mO_ldb mO_faddrb mRsv mO_ldf mO_ld mO_st mO_sta mO_nilchk mO_bin mO_binb mO_binp mO_bins mO_neg mO_com mO_not mO_conv mO_mk mO_mk0 mO_s2b mO_b2s mO_cpy mO_cut mO_faddr mO_fld mO_iaddr mO_iaddrf mO_sidx mO_len mO_lenf mO_slen mO_scut mO_app mO_ext mO_mx mO_mn mO_mkfn evalOp cutOp argsE ev getE putE cellsOf adopt rowOf binV boolV nilV ar_add ar_sub ar_mul ar_quo ar_rem ar_eq ar_ne ar_lt ar_le ar_gt ar_ge ar_and ar_or ar_xor geto bound finRet finNrm ints List.length_cons List.length_nil List.length_append List.getElem?_cons_zero List.getElem?_cons_succ List.nil_append List.cons_append List.map_cons List.map_nil List.mapM_cons List.mapM_nil Option.map_some Option.map_none Option.bind_some Option.pure_def Option.bind_eq_bind List.drop_zero or_self or_false false_or or_true true_or true_and and_true and_self decide_true decide_false Bool.false_eq_true Bool.true_eq_false Bool.not_true Bool.not_false Nat.le_refl eq_self gt_iff_lt ge_iff_le ne_eq not_true_eq_false not_false_eq_true storeOp apartOf freeze_nil refsL refs List.flatMap_cons List.flatMap_nil List.append_nil List.contains_nil List.set_cons_zero List.set_cons_succ snap snapL fill_nums flat_nums nums_length Go.V.freeze List.mapIdx_cons List.mapIdx_nil List.contains_cons Bool.or_false Bool.false_or Bool.or_true Bool.true_or
theorem zR_rR {z : Int} : zR z = rR (z : Rat) := by simp only [zR, rR, Rat.num_intCast, Rat.den_intCast]; rfl
theorem int_div {z b : Int} : (z : Rat) / (b : Rat) = Rat.divInt z b := by
  have h := div_divInt (z : Rat) (b : Rat)
  rw [← h, Rat.num_intCast, Rat.den_intCast, Rat.den_intCast, Rat.num_intCast]
  simp
theorem flr_int {z b : Int} (hb : 0 < b) : flr ((z : Rat) / (b : Rat)) = z / b := by
  rw [int_div, flr]
  have h1 : Rat.divInt (Rat.divInt z b).num ((Rat.divInt z b).den : Int) = Rat.divInt z b := by
    rw [Rat.divInt_ofNat]; exact Rat.mkRat_self _
  have hd := (Rat.divInt z b).den_nz
  have h2 := (Rat.divInt_eq_divInt_iff (show ((Rat.divInt z b).den : Int) ≠ 0 by omega) (show b ≠ 0 by omega)).1 h1
  generalize (Rat.divInt z b).num = n at *
  generalize (Rat.divInt z b).den = d at *
  have hd' : (0 : Int) < (d : Int) := by omega
  rw [← Int.mul_ediv_mul_of_pos_left n (d : Int) hb, h2, Int.mul_comm (d : Int) b, Int.mul_ediv_mul_of_pos_left z b hd']
theorem rest_int {z b : Int} (hb : 0 < b) : restR (b : Rat) (z : Rat) = ((z % b : Int) : Rat) := by
  have hne : (b : Rat) ≠ 0 := fun h => by
    have := congrArg Rat.num h
    rw [Rat.num_intCast, Rat.num_ofNat] at this
    omega
  rw [restR, if_neg hne, flr_int hb, ← Rat.intCast_mul, ← Rat.intCast_neg, ← Rat.intCast_add]
  congr 1
  have := Int.emod_add_mul_ediv z b
  omega
def yv (b : List Int) (N : Int) : Nat → Int
  | 0 => N
  | m + 1 => yv b N m / b.getD (b.length - 1 - m) 0
theorem div_small {z b : Int} (hb : 1 ≤ b) (hz : -2147483648 ≤ z ∧ z ≤ 2147483647) : -2147483648 ≤ z / b ∧ z / b ≤ 2147483647 := by
  have h1 := Int.emod_add_mul_ediv z b
  have h2 := Int.emod_nonneg z (show b ≠ 0 by omega)
  have h3 := Int.emod_lt_of_pos z (show 0 < b by omega)
  generalize z / b = q at *
  generalize z % b = r at *
  refine ⟨?_, ?_⟩
  · by_cases hq : q < 0
    · have : b * (q + 1) ≤ 1 * (q + 1) := Int.mul_le_mul_of_nonpos_right hb (by omega)
      rw [Int.mul_add] at this
      omega
    · omega
  · by_cases hq : 0 ≤ q
    · have : 1 * q ≤ b * q := Int.mul_le_mul_of_nonneg_right hb hq
      omega
    · omega
theorem getD_cast {b : List Int} {k : Nat} (h : k < b.length) : (b.map fun z : Int => (z : Rat)).getD k 0 = ((b.getD k 0 : Int) : Rat) := by
  simp [List.getD, h]
theorem limbs_int {z : Int} (h : z.natAbs < 2 ^ 32) : rlimbs (rR (z : Rat)) ≤ 8 := by
  rw [rlimbs]
  have h1 : (limG (rR (z : Rat)).2.1).length ≤ 8 := by
    show (limG (z : Rat).num.natAbs).length ≤ 8
    rw [Rat.num_intCast]
    exact limG_szB 8 h (by omega)
  have h2 : (limG (dn (rR (z : Rat)).2.2)).length ≤ 8 := by
    show (limG (dn (z : Rat).den)).length ≤ 8
    rw [Rat.den_intCast]
    exact limG_szB (k := 1) 8 (by decide) (by omega)
  omega
theorem back_ok {b : List Int} {N : Int} (h0 : b.getD 0 0 = 0) (hb : ∀ k, 1 ≤ k → k < b.length → 1 ≤ b.getD k 0 ∧ b.getD k 0 ≤ 256) (hm : 1 ≤ b.length ∧ b.length ≤ 60) (hN : -2147483648 ≤ N ∧ N ≤ 2147483647) :
    encB (b.map fun z : Int => (z : Rat)) [(N : Rat)] b.length 1 8 = true ∧ ∃ V W : Nat → Rat, V 0 = 0 ∧ (∀ k, k < b.length → V (k + 1) = V k * (b.map fun z : Int => (z : Rat)).getD k 0 + W k) ∧
      (∀ k, k < b.length → RV (rtAt (encL (b.map fun z : Int => (z : Rat)) [(N : Rat)] b.length 1) k) (W k)) ∧ (∀ k, k < b.length → Sz 300 (W k)) ∧ (∀ k, k < b.length → Sz 300 ((b.map fun z : Int => (z : Rat)).getD k 0)) ∧
      (∀ k, k ≤ b.length → Sz 300 (V k)) ∧ (∀ k, k < b.length → (rlimbs (rR (V (k + 1))) : Int) ≤ 8) ∧ V b.length = (N : Rat) := by
  have hy : ∀ m, m < b.length → -2147483648 ≤ yv b N m ∧ yv b N m ≤ 2147483647 := fun m => by
    induction m with
    | zero => intro _; exact hN
    | succ m ih => intro h; exact div_small (hb _ (by omega) (by omega)).1 (ih (by omega))
  have hst : ∀ m, m < b.length → stp (fun k => (b.map fun z : Int => (z : Rat)).getD (k * 1 + 0) 0) b.length (some (N : Rat)) m = some ((yv b N m : Int) : Rat) := fun m => by
    induction m with
    | zero => intro _; rfl
    | succ m ih =>
      intro h
      rw [stp, ih (by omega), Nat.mul_one, Nat.add_zero, getD_cast (by omega), nx]
      have hp := (hb (b.length - 1 - m) (by omega) (by omega)).1
      have hne : ((b.getD (b.length - 1 - m) 0 : Int) : Rat) ≠ 0 := fun h => by
        have := congrArg Rat.num h
        rw [Rat.num_intCast, Rat.num_ofNat] at this
        omega
      rw [if_neg hne, xV, flr_int (by omega)]
      rfl
  have hW : ∀ k, k < b.length → dAt (b.map fun z : Int => (z : Rat)) [(N : Rat)] b.length 1 k = some (((if k = 0 then yv b N (b.length - 1) else yv b N (b.length - 1 - k) % b.getD k 0 : Int)) : Rat) := fun k hk => by
    rw [dAt]
    simp only [List.length_cons, List.length_nil, Nat.zero_add, Nat.div_one, Nat.mod_one, List.getD_cons_zero]
    rw [dgt, hst _ (by omega), Nat.mul_one, Nat.add_zero, getD_cast hk, dg]
    by_cases hk0 : k = 0
    · subst hk0
      rw [h0, if_pos rfl, if_pos (by rfl), Nat.sub_zero]
    · have hp := (hb k (by omega) hk).1
      have hne : ((b.getD k 0 : Int) : Rat) ≠ 0 := fun h => by
        have := congrArg Rat.num h
        rw [Rat.num_intCast, Rat.num_ofNat] at this
        omega
      rw [if_neg hne, if_neg hk0, xV, rest_int (by omega)]
  have hsm : ∀ k, k < b.length → (if k = 0 then yv b N (b.length - 1) else yv b N (b.length - 1 - k) % b.getD k 0 : Int).natAbs < 2 ^ 32 := fun k hk => by
    have h2 : (2 : Nat) ^ 32 = 4294967296 := by decide
    rw [h2]
    split
    · have := hy (b.length - 1) (by omega); omega
    · obtain ⟨p1, p2⟩ := hb k (by omega) hk
      have := Int.emod_nonneg (yv b N (b.length - 1 - k)) (show b.getD k 0 ≠ 0 by omega)
      have := Int.emod_lt_of_pos (yv b N (b.length - 1 - k)) (show 0 < b.getD k 0 by omega)
      omega
  have hy32 : ∀ m, m < b.length → (yv b N m).natAbs < 2 ^ 32 := fun m h => by
    have h2 : (2 : Nat) ^ 32 = 4294967296 := by decide
    have := hy m h
    omega
  refine ⟨encB_iff.2 fun q hq => ?_, fun k => if k = 0 then 0 else ((yv b N (b.length - k) : Int) : Rat), fun k => (((if k = 0 then yv b N (b.length - 1) else yv b N (b.length - 1 - k) % b.getD k 0 : Int)) : Rat), rfl, fun k hk => ?_, fun k hk => ?_, fun k hk => ?_, fun k hk => ?_, fun k hk => ?_, fun k hk => ?_, ?_⟩
  · have hq' : q < b.length := by simpa using hq
    rw [hW q hq']
    have := limbs_int (hsm q hq')
    show (rlimbs (rR _) : Int) ≤ 8
    omega
  · rw [getD_cast hk]
    simp only []
    rw [if_neg (by omega), show b.length - (k + 1) = b.length - 1 - k by omega]
    by_cases hk0 : k = 0
    · subst hk0
      rw [if_pos rfl, if_pos rfl, Rat.zero_mul, Rat.zero_add, Nat.sub_zero]
    · rw [if_neg hk0, if_neg hk0, ← Rat.intCast_mul, ← Rat.intCast_add]
      congr 1
      have e1 : yv b N (b.length - k) = yv b N (b.length - 1 - k) / b.getD k 0 := by
        rw [show b.length - k = b.length - 1 - k + 1 by omega, yv, show b.length - 1 - (b.length - 1 - k) = k by omega]
      have := Int.emod_add_mul_ediv (yv b N (b.length - 1 - k)) (b.getD k 0)
      rw [e1, Int.mul_comm]
      omega
  · have : rtAt (encL (b.map fun z : Int => (z : Rat)) [(N : Rat)] b.length 1) k = xT (dAt (b.map fun z : Int => (z : Rat)) [(N : Rat)] b.length 1 k) := by
      simp [rtAt, encL, List.getD, hk]
    rw [this, hW k hk]
    exact RV.self
  · exact (Sz.int (hsm k hk) (by omega)).mono (by omega)
  · rw [getD_cast hk]
    refine (Sz.int (k := 32) ?_ (by omega)).mono (by omega)
    have h2 : (2 : Nat) ^ 32 = 4294967296 := by decide
    rw [h2]
    by_cases hk0 : k = 0
    · subst hk0; rw [h0]; decide
    · have := hb k (by omega) hk; omega
  · simp only []
    split
    · exact Sz.zero (by omega)
    · exact (Sz.int (hy32 _ (by omega)) (by omega)).mono (by omega)
  · simp only []
    rw [if_neg (by omega)]
    have := limbs_int (hy32 (b.length - (k + 1)) (by omega))
    omega
  · simp only []
    rw [if_neg (by omega), Nat.sub_self]
    rfl
theorem numC_zR {z : Int} : numC z = nmC (toNm (zR z)) := by
  have h1 : toNm (zR z) = (decide (z < 0), decL z.natAbs, decL (dn 1)) := rfl
  rw [h1]
  simp only [numC, nmC, dec_eq]
  rw [show dn 1 = 1 from rfl, decL_digit (d := 1) (by omega)]
  rfl
theorem numsC_zR {l : List Int} : numsC l = nmsC ((l.map zR).map toNm) := by
  induction l with
  | nil => rfl
  | cons z l ih =>
    have e1 : numsC (z :: l) = numC z ++ numsC l := by simp [numsC]
    rw [e1, ih, numC_zR]
    simp [nmsC]
theorem plG_X {s t l : List Int} {ch : Bool} : plG s ch t l = plX s ch t ((l.map zR).map toNm) := by
  rw [plG, plX, numsC_zR]
  simp
end Go.Proofs.Ytlejgleocnemoaa.I

namespace Go.Proofs.Ytlejgleocnemoaa.I
open Go Go.V
def numA (n : Int) : List AV := if n = 0 then [.sl 0 1 [], .bool false, .sl 1 1 [.int .u32 1]] else [.sl 1 1 [.int .u32 n], .bool false, .sl 1 1 [.int .u32 1]]
def arA (s : List Int) (l : List Int) : AV := .agg [.sl s.length 1 (s.map (.int .i64)), .bool false, .sl 0 1 [], .sl l.length 3 (l.flatMap numA), .bool true]
set_option maxRecDepth 100000 in
theorem aw1 : Go.V.Call tab E 13 [arA [] [10], arA [3] [1, 2, 3], .int .i64 4] [] (.tup [arA [] [123], .int .i64 0]) [] := Go.V.Call.run (ext := ext) (fun h => h) (fuel := 400) (n := 40) (by kernel_rfl)
set_option maxRecDepth 100000 in
theorem aw2 : Go.V.Call tab E 10 [arA [3] [24, 60, 60], arA [] [3661], .int .i64 4] [] (.tup [arA [3] [1, 1, 1], .int .i64 0]) [] := Go.V.Call.run (ext := ext) (fun h => h) (fuel := 400) (n := 40) (by kernel_rfl)
set_option maxRecDepth 100000 in
theorem aw3 : Go.V.Call tab E 10 [arA [2] [0, 10], arA [] [123], .int .i64 4] [] (.tup [arA [2] [12, 3], .int .i64 0]) [] := Go.V.Call.run (ext := ext) (fun h => h) (fuel := 400) (n := 40) (by kernel_rfl)
end Go.Proofs.Ytlejgleocnemoaa.I

namespace Go.Proofs.Ytlejgleocnemoaa.I
open Go Go.V
attribute [local go_sem_proc ↓] reduceIte
attribute [local go_sem_proc] Nat.reduceEqDiff Nat.reduceAdd Nat.reduceMul Nat.reduceLeDiff Nat.reduceLT Int.reduceToNat Int.reduceLT Int.reduceLE reduceCtorEq Nat.reduceBEq
attribute [local go_sem] mNil nat0 beq_self_eq_true mSkip mRet mExit mReg mSeq mCond mTrue mFalse mBlock mLv mCodeE mCodeR mEndN mEndR mEndE mOps mSome mGuard mGtt mGff mGtf mGft mGu mCallP mCallR mCallF mCallO mCallZ mCallG mCallM mCallV loopQ_exit loopQ_ret mO_mov mO_newnil mO_pick mO_alloc mO_box mO_build mO_bsl mO_bslF mO_newnilB mO_bslB mO_lenB mO_appB mO_allocA mO_bslA mO_appA mO_ldb mO_faddrb mRsv mO_ldf mO_ld mO_st mO_sta mO_nilchk mO_bin mO_binb mO_binp mO_bins mO_neg mO_com mO_not mO_conv mO_mk mO_mk0 mO_s2b mO_b2s mO_cpy mO_cut mO_faddr mO_fld mO_iaddr mO_iaddrf mO_sidx mO_len mO_lenf mO_slen mO_scut mO_app mO_ext mO_mx mO_mn mO_mkfn evalOp cutOp argsE ev getE putE cellsOf adopt rowOf binV boolV nilV ar_add ar_sub ar_mul ar_quo ar_rem ar_eq ar_ne ar_lt ar_le ar_gt ar_ge ar_and ar_or ar_xor geto bound finRet finNrm ints List.length_cons List.length_nil List.length_append List.getElem?_cons_zero List.getElem?_cons_succ List.nil_append List.cons_append List.map_cons List.map_nil List.mapM_cons List.mapM_nil Option.map_some Option.map_none Option.bind_some Option.pure_def Option.bind_eq_bind List.drop_zero or_self or_false false_or or_true true_or true_and and_true and_self decide_true decide_false Bool.false_eq_true Bool.true_eq_false Bool.not_true Bool.not_false Nat.le_refl eq_self gt_iff_lt ge_iff_le ne_eq not_true_eq_false not_false_eq_true storeOp apartOf freeze_nil refsL refs List.flatMap_cons List.flatMap_nil List.append_nil List.contains_nil List.set_cons_zero List.set_cons_succ snap snapL fill_nums flat_nums nums_length Go.V.freeze List.mapIdx_cons List.mapIdx_nil List.contains_cons Bool.or_false Bool.false_or Bool.or_true Bool.true_or
theorem int16_X {z : Int} (hz : In64 z) : Go.V.Call tab E 12 [.int .i64 z] [] (.agg (arrX [] false [] [zR z])) [] := by
  have h := c12_ok (E := E) (z := z) hz
  rw [arrV_X fun d hd => by obtain rfl := List.mem_singleton.1 hd; exact hz] at h
  exact h
theorem c14_yes {s t : List Int} {ch : Bool} {L : List Rt} (hs : (s.length : Int) ≤ 1000000000) (ht : (t.length : Int) ≤ 1000000000) (hl : (L.length : Int) ≤ 1000000000) (hlk : ∀ x ∈ L, RtOk x) :
    Go.V.Call tab E 14 [.agg (arrX s ch t L), .int .i64 0, .agg (plX s ch t (L.map toNm)), .int .i64 0] [] (.bool true) [] := by
  refine Go.V.Call.mach i14 c14 rfl rfl rfl rfl ?_
  have hlm : (L.map toNm).length = L.length := by simp
  have hu : ∀ x ∈ L.map toNm, NmU x := fun z hz => by
    obtain ⟨x, hx, rfl⟩ := List.mem_map.1 hz
    exact ⟨(decL_dig _).u8, (decL_dig _).u8, (hlk x hx).len.1, (hlk x hx).len.2⟩
  have h31 := c35_X (s := s) (t := t) (l := L) (ch := ch) (by omega) (by omega) (by omega) hlk
  have h29 := c33_gen (s := s) (s' := s) (t := t) (t' := t) (l := L.map toNm) (l' := L.map toNm) (ch := ch) (ch' := ch) (by omega) (by omega) (by omega) (by omega) (by omega) (by omega) hu hu
  rw [decide_eq_true ⟨rfl, rfl, rfl, rfl⟩] at h29
  simp only [plX, arrX, runes, ints] at h31 h29
  simp only [c14, plX, arrX, runes, ints, go_sem, fillAll, fillIn, shiftR, shiftV, List.take_succ_cons, List.take_zero, List.drop_succ_cons, List.drop_zero, List.append_nil, Nat.zero_add, subA5, subP4, bne_self_eq_false]
  refine goP h31 ?_
  simp only [go_sem, fillAll, fillIn, shiftR, shiftV, List.take_succ_cons, List.take_zero, List.drop_succ_cons, List.drop_zero, List.append_nil, Nat.zero_add, subA5, subP4]
  refine goP h29 ?_
  simp only [go_sem]
  simp only [i14, Out, resAll, geto, ints, List.getElem?_cons_zero, List.getElem?_cons_succ, resOf, outOf, snap, snapL, ev, getE, List.mapM_cons, List.mapM_nil, Option.bind_some, Option.pure_def, Option.bind_eq_bind, Option.map_some, reduceIte, Nat.reduceEqDiff, true_and, and_true]
theorem numA_zR {z : Nat} (h : z < 4294967296) : rtC (zR (z : Int)) = numA (z : Int) := by
  have h1 : limG 1 = [1] := limG_one (d := 1) (by omega) (by omega)
  have hn : decide (((z : Nat) : Int) < 0) = false := decide_eq_false (by omega)
  simp only [rtC, zR, ratG, us32, h1, hn, Int.natAbs_natCast, numA]
  by_cases h0 : z = 0
  · subst h0; rw [limG_zero, if_pos (show ((0 : Nat) : Int) = 0 from rfl)]; rfl
  · rw [limG_one h0 h, if_neg (by omega)]; rfl
theorem arA_X {s : List Int} {l : List Int} (h : ∀ z ∈ l, 0 ≤ z ∧ z < 4294967296) : .agg (arrX s false [] (l.map zR)) = arA s l := by
  have : rtsC (l.map zR) = l.flatMap numA := by
    induction l with
    | nil => rfl
    | cons z l ih =>
      obtain ⟨n, rfl⟩ := Int.eq_ofNat_of_zero_le (h z (by simp)).1
      have e : rtsC (((n : Int) :: l).map zR) = rtC (zR (n : Int)) ++ rtsC (l.map zR) := by simp [rtsC]
      rw [e, ih (fun y hy => h y (by simp [hy])), numA_zR (by have := (h _ (List.mem_cons_self)).2; omega), List.flatMap_cons]
  rw [arrX, arA, this, List.length_map]
  rfl
theorem showsA {s l : List Int} (hs : (s.length : Int) ≤ 1000) (hl : (l.length : Int) ≤ 1000) (h : ∀ z ∈ l, 0 ≤ z ∧ z < 4294967296) : Go.V.Call tab E 14 [arA s l, .int .i64 0, .agg (plG s false [] l), .int .i64 0] [] (.bool true) [] := by
  have := c14_yes (s := s) (t := []) (ch := false) (L := l.map zR) (by omega) (by simp) (by simp; omega) (fun x hx => by
    obtain ⟨z, hz, rfl⟩ := List.mem_map.1 hx
    have := h z hz
    exact zR_ok ⟨by omega, by omega⟩)
  rw [arA_X h] at this
  rw [plG_X]
  exact this
theorem intsA {l : List Int} (hl : (l.length : Int) ≤ 1000) (h : ∀ z ∈ l, 0 ≤ z ∧ z < 4294967296) : Go.V.Call tab E 11 [ints l] [] (arA [(l.length : Int)] l) [] := by
  rw [← arA_X h]
  exact c11_X (by omega) (fun z hz => by have := h z hz; exact ⟨by omega, by omega⟩)
theorem intA {z : Int} (h : 0 ≤ z ∧ z < 4294967296) : Go.V.Call tab E 12 [.int .i64 z] [] (arA [] [z]) [] := by
  rw [← arA_X (fun y hy => by obtain rfl := List.mem_singleton.1 hy; exact h)]
  exact int16_X ⟨by omega, by omega⟩
theorem c9_base : Go.V.Call tab E 9 [] [] (.bool true) [] := by
  refine Go.V.Call.mach i9 c9 rfl rfl rfl rfl ?_
  have p1 : ∀ z ∈ ([1, 2, 3] : List Int), 0 ≤ z ∧ z < 4294967296 := by decide
  have p2 : ∀ z ∈ ([24, 60, 60] : List Int), 0 ≤ z ∧ z < 4294967296 := by decide
  have p3 : ∀ z ∈ ([0, 10] : List Int), 0 ≤ z ∧ z < 4294967296 := by decide
  have p4 : ∀ z ∈ ([1, 1, 1] : List Int), 0 ≤ z ∧ z < 4294967296 := by decide
  have p5 : ∀ z ∈ ([12, 3] : List Int), 0 ≤ z ∧ z < 4294967296 := by decide
  have p6 : ∀ z ∈ ([123] : List Int), 0 ≤ z ∧ z < 4294967296 := by decide
  have a1 := aw1
  have a2 := aw2
  have a3 := aw3
  have i1 := intsA (l := [1, 2, 3]) (by decide) p1
  have i2 := intsA (l := [24, 60, 60]) (by decide) p2
  have i3 := intsA (l := [0, 10]) (by decide) p3
  have n1 := intA (z := 10) (by decide)
  have n2 := intA (z := 3661) (by decide)
  have n3 := intA (z := 123) (by decide)
  have s1 := showsA (s := []) (l := [123]) (by decide) (by decide) p6
  have s2 := showsA (s := [3]) (l := [1, 1, 1]) (by decide) (by decide) p4
  have s3 := showsA (s := [2]) (l := [12, 3]) (by decide) (by decide) p5
  have r1 := c15_ok (E := E) (z := 123) ⟨by omega, by omega⟩
  have r2 := c41_ok (E := E) (l := [1, 1, 1]) (by decide) (fun z hz => by have := p4 z hz; exact ⟨by omega, by omega⟩)
  have r3 := c41_ok (E := E) (l := [12, 3]) (by decide) (fun z hz => by have := p5 z hz; exact ⟨by omega, by omega⟩)
  simp only [List.length_cons, List.length_nil, Nat.zero_add] at i1 i2 i3 r2 r3
  have q1 : ((0 + 1 + 1 + 1 : Nat) : Int) = 3 := by decide
  have q2 : ((0 + 1 + 1 : Nat) : Int) = 2 := by decide
  have q1' : ((1 + 1 + 1 : Nat) : Int) = 3 := by decide
  have q2' : ((1 + 1 : Nat) : Int) = 2 := by decide
  simp only [q1', q2'] at i1 i2 i3 r2 r3
  generalize h1 : plG [] false [] [123] = g1 at *
  generalize h2 : plG [3] false [] [1, 1, 1] = g2 at *
  generalize h3 : plG [2] false [] [12, 3] = g3 at *
  simp only [plG, runes] at h1 h2 h3
  subst h1; subst h2; subst h3
  simp only [arA, ints, nums, List.map_cons, List.map_nil, List.length_cons, List.length_nil, Nat.zero_add] at a1 a2 a3 i1 i2 i3 n1 n2 n3 s1 s2 s3 r1 r2 r3
  simp only [c9, go_sem, fillAll, fillIn, shiftR, shiftV, List.take_succ_cons, List.take_zero, List.drop_succ_cons, List.drop_zero, List.append_nil, Nat.zero_add, subA5]
  refine goP n1 ?_
  simp only [go_sem, fillAll, fillIn, shiftR, shiftV, List.take_succ_cons, List.take_zero, List.drop_succ_cons, List.drop_zero, List.append_nil, Nat.zero_add, subA5, List.flatten_cons, List.flatten_nil, Option.getD_some, List.append_nil]
  refine goF i1 ?_
  simp only [go_sem, fillAll, fillIn, shiftR, shiftV, List.take_succ_cons, List.take_zero, List.drop_succ_cons, List.drop_zero, List.append_nil, Nat.zero_add, subA5]
  refine goP a1 ?_
  simp only [go_sem, fillAll, fillIn, shiftR, shiftV, List.take_succ_cons, List.take_zero, List.drop_succ_cons, List.drop_zero, List.append_nil, Nat.zero_add, subA5, List.flatten_cons, List.flatten_nil, Option.getD_some, List.append_nil]
  refine goF i2 ?_
  simp only [go_sem, fillAll, fillIn, shiftR, shiftV, List.take_succ_cons, List.take_zero, List.drop_succ_cons, List.drop_zero, List.append_nil, Nat.zero_add, subA5]
  refine goP n2 ?_
  simp only [go_sem, fillAll, fillIn, shiftR, shiftV, List.take_succ_cons, List.take_zero, List.drop_succ_cons, List.drop_zero, List.append_nil, Nat.zero_add, subA5]
  refine goP a2 ?_
  simp only [go_sem, fillAll, fillIn, shiftR, shiftV, List.take_succ_cons, List.take_zero, List.drop_succ_cons, List.drop_zero, List.append_nil, Nat.zero_add, subA5, List.flatten_cons, List.flatten_nil, Option.getD_some, List.append_nil]
  refine goF i3 ?_
  simp only [go_sem, fillAll, fillIn, shiftR, shiftV, List.take_succ_cons, List.take_zero, List.drop_succ_cons, List.drop_zero, List.append_nil, Nat.zero_add, subA5]
  refine goP n3 ?_
  simp only [go_sem, fillAll, fillIn, shiftR, shiftV, List.take_succ_cons, List.take_zero, List.drop_succ_cons, List.drop_zero, List.append_nil, Nat.zero_add, subA5]
  refine goP a3 ?_
  simp only [go_sem, fillAll, fillIn, shiftR, shiftV, List.take_succ_cons, List.take_zero, List.drop_succ_cons, List.drop_zero, List.append_nil, Nat.zero_add, subA5]
  refine goP r1 ?_
  simp only [go_sem, fillAll, fillIn, shiftR, shiftV, List.take_succ_cons, List.take_zero, List.drop_succ_cons, List.drop_zero, List.append_nil, Nat.zero_add, subA5]
  refine goR s1 rfl ?_
  simp only [go_sem, fillAll, fillIn, shiftR, shiftV, List.take_succ_cons, List.take_zero, List.drop_succ_cons, List.drop_zero, List.append_nil, Nat.zero_add, subA5, List.flatten_cons, List.flatten_nil, Option.getD_some, List.append_nil]
  refine goF r2 ?_
  simp only [go_sem, fillAll, fillIn, shiftR, shiftV, List.take_succ_cons, List.take_zero, List.drop_succ_cons, List.drop_zero, List.append_nil, Nat.zero_add, subA5]
  refine goR s2 rfl ?_
  simp only [go_sem, fillAll, fillIn, shiftR, shiftV, List.take_succ_cons, List.take_zero, List.drop_succ_cons, List.drop_zero, List.append_nil, Nat.zero_add, subA5, List.flatten_cons, List.flatten_nil, Option.getD_some, List.append_nil]
  refine goF r3 ?_
  simp only [go_sem, fillAll, fillIn, shiftR, shiftV, List.take_succ_cons, List.take_zero, List.drop_succ_cons, List.drop_zero, List.append_nil, Nat.zero_add, subA5]
  refine goR s3 rfl ?_
  simp only [go_sem, fillAll, fillIn, shiftR, shiftV, List.take_succ_cons, List.take_zero, List.drop_succ_cons, List.drop_zero, List.append_nil, Nat.zero_add, subA5]
  simp only [i9, Out, resAll, geto, ints, List.getElem?_cons_zero, List.getElem?_cons_succ, resOf, outOf, snap, snapL, ev, getE, List.mapM_cons, List.mapM_nil, Option.bind_some, Option.pure_def, Option.bind_eq_bind, Option.map_some, reduceIte, Nat.reduceEqDiff, true_and, and_true]
def basL (l : List Int) : List Int := 0 :: l.map (1 + ·)
theorem c3_base {l : List Int} {n : Int} (hl8 : ∀ d ∈ l, 0 ≤ d ∧ d ≤ 255) (hll : (l.length : Int) ≤ 9223372036854775807) (hn : -2147483648 ≤ n ∧ n ≤ 2147483647) :
    Go.V.Call tab E 3 [.sl l.length 1 (nums .u8 l), .int .i32 n] [] (.bool true) [] := by
  refine Go.V.Call.mach i3 c3 rfl rfl rfl rfl ?_
  by_cases h12 : (12 : Int) < (l.length : Int)
  · simp only [c3, go_sem, fillAll, fillIn, shiftR, shiftV, List.take_succ_cons, List.take_zero, List.drop_succ_cons, List.drop_zero, List.append_nil, Nat.zero_add, h12]
    refine goP c9_base ?_
    simp only [go_sem, fillAll, fillIn, shiftR, shiftV, List.take_succ_cons, List.take_zero, List.drop_succ_cons, List.drop_zero, List.append_nil, Nat.zero_add]
    simp only [i3, Out, resAll, geto, ints, List.getElem?_cons_zero, List.getElem?_cons_succ, resOf, outOf, snap, snapL, ev, getE, List.mapM_cons, List.mapM_nil, Option.bind_some, Option.pure_def, Option.bind_eq_bind, Option.map_some, reduceIte, Nat.reduceEqDiff, true_and, and_true]
  · have hbl : (basL l).length = l.length + 1 := by simp [basL]
    have hin : ∀ z ∈ basL l, In64 z := fun z hz => by
      rcases List.mem_cons.1 hz with rfl | hz
      · exact ⟨by omega, by omega⟩
      · obtain ⟨d, hd, rfl⟩ := List.mem_map.1 hz
        have := hl8 d hd
        exact ⟨by omega, by omega⟩
    have hn64 : In64 n := ⟨by omega, by omega⟩
    obtain ⟨hgood, V, W, b1, b2, b3, b4, b5, b6, b7, b8⟩ := back_ok (b := basL l) (N := n) rfl (fun k h1 h2 => by
      obtain ⟨k, rfl⟩ : ∃ j, k = j + 1 := ⟨k - 1, by omega⟩
      have hk : k < l.length := by omega
      have : (basL l).getD (k + 1) 0 = 1 + l.getD k 0 := by simp [basL, List.getD, hk]
      rw [this]
      have := hl8 (l.getD k 0) (by simp [List.getD, hk])
      omega) (by omega) (by omega)
    have hAR : ((basL l).map fun z : Int => (z : Rat)).map rR = (basL l).map zR := by
      rw [List.map_map]
      exact List.map_congr_left fun z _ => zR_rR.symm
    have hAl : ((basL l).map fun z : Int => (z : Rat)).length = l.length + 1 := by simp [hbl]
    have hc : count [((l.length + 1 : Nat) : Int)] = some ((l.length + 1 : Nat) : Int) := by
      rw [count, if_neg (by simp)]
      simp only [cnt]
      rw [if_neg (by rw [Int.max_def]; split <;> omega)]
      simp
    have e1 := c11_X (l := basL l) (by omega) hin
    have e2 := int16_X hn64
    have e3 := c10_core (s := [((l.length + 1 : Nat) : Int)]) (s' := []) (A := (basL l).map fun z : Int => (z : Rat)) (B := [(n : Rat)]) (ch := false) (ch' := false) (lim := 8) (n := l.length + 1) (w := 1)
      (fun d hd => by obtain rfl := List.mem_singleton.1 hd; exact ⟨by omega, by omega⟩) (fun d hd => by cases hd) (by rw [hc, hAl]) (by rfl) (by omega) (by simp) (fun a ha => ?_) (fun a ha => ?_) rfl rfl rfl rfl (by omega) ?_ ⟨by omega, by omega⟩
    · rw [← hbl, hgood, if_pos rfl, if_pos rfl, hAR, List.map_cons, List.map_nil, ← zR_rR, List.append_nil] at e3
      have hDl : (encL ((basL l).map fun z : Int => (z : Rat)) [(n : Rat)] (basL l).length 1).length = (basL l).length := by simp [encL]
      have e4 := c13_back (A := (basL l).map fun z : Int => (z : Rat)) (D := encL ((basL l).map fun z : Int => (z : Rat)) [(n : Rat)] (basL l).length 1) (m := (basL l).length) (lim := 8) (V := V) (W := W) (by omega) (by omega) (by simp) hDl b1 b2 b3 b4 b5 b6 b7
      rw [b8, hAR, ← zR_rR] at e4
      have e5 := c15_ok (E := E) (z := n) hn64
      rw [plG_X] at e5
      have e6 := c14_yes (s := []) (t := []) (ch := false) (L := [zR n]) (by simp) (by simp) (by simp) (fun x hx => by obtain rfl := List.mem_singleton.1 hx; exact zR_ok hn64)
      have e7 := c9_base
      clear b1 b2 b3 b4 b5 b6 b7 b8 hgood hc hAl
      generalize encL ((basL l).map fun z : Int => (z : Rat)) [(n : Rat)] (basL l).length 1 = D at *
      simp only [arrX, plX, runes, ints, nums, List.map_nil, List.map_cons, List.length_nil, List.length_cons, List.length_map, hbl, hDl] at e1 e2 e3 e4 e5 e6
      generalize zR n = zn at *
      generalize (basL l).map zR = bR at *
      simp only [c3, go_sem, fillAll, fillIn, shiftR, shiftV, List.take_succ_cons, List.take_zero, List.drop_succ_cons, List.drop_zero, List.append_nil, Nat.zero_add, h12, List.flatten_cons, List.flatten_nil, Option.getD_some, List.append_nil]
      refine mLoop (fun N st => ∃ i : Nat, i ≤ l.length ∧ N = l.length - i ∧
        st = ⟨[(0, .sl l.length 1 (nums .u8 l)), (1, .int .i32 n), (5, .arr 0 i), (6, .int .i64 i)], [⟨false, 3, 1, i, i + 1, nums .i64 (basL (l.take i)), false⟩]⟩) l.length ⟨_, rfl, 0, by omega, by omega, by simp [getE, basL, nums]⟩ ?_
      rintro N s0 ⟨i, hi, rfl, rfl⟩
      by_cases hil : i < l.length
      · have hi' : (i : Int) < (l.length : Int) := by omega
        have hi0 : (0 : Int) ≤ (i : Int) := by omega
        have hi1 : IntKind.i64.wrap ((i : Int) + 1) = ((i + 1 : Nat) : Int) := by rw [wrap_i64 (by omega) (by omega)]; omega
        have hsub := sub_nums (k := .u8) hil
        have hd := hl8 (l.getD i 0) (by simp [List.getD, hil])
        have htk : basL (l.take (i + 1)) = basL (l.take i) ++ [1 + l.getD i 0] := by
          rw [takeAt (d := 0) hil]; simp [basL]
        have w1 : IntKind.i64.wrap (l.getD i 0) = l.getD i 0 := wrap_i64 (by omega) (by omega)
        have w2 : IntKind.i64.wrap (1 + l.getD i 0) = 1 + l.getD i 0 := wrap_i64 (by omega) (by omega)
        have hb1 : (i + 1 + 1) * 8 ≤ 140737488355328 := by omega
        have hb2 : i + 1 + 1 ≤ 140737488355328 := by omega
        simp only [b3_0, go_sem, fillAll, fillIn, shiftR, shiftV, List.take_succ_cons, List.take_zero, List.drop_succ_cons, List.drop_zero, List.append_nil, Nat.zero_add, hi', hi0, hsub, Int.toNat_natCast, w1, w2, hb1, hb2, hi1, List.flatten_cons, List.flatten_nil, Option.getD_some, List.append_nil]
        refine loopQ_go rfl (l.length - (i + 1)) (by omega) ⟨i + 1, by omega, rfl, ?_⟩
        rw [htk]
        simp [getE, nums]
      · obtain rfl : i = l.length := by omega
        have w1 : IntKind.i64.wrap n = n := wrap_i64 (by omega) (by omega)
        rw [List.take_length]
        simp only [b3_0, k3_0, go_sem, fillAll, fillIn, shiftR, shiftV, List.take_succ_cons, List.take_zero, List.drop_succ_cons, List.drop_zero, List.append_nil, Nat.zero_add, Int.lt_irrefl, w1, nums]
        refine goF e1 ?_
        simp only [go_sem, fillAll, fillIn, shiftR, shiftV, List.take_succ_cons, List.take_zero, List.drop_succ_cons, List.drop_zero, List.append_nil, Nat.zero_add, subA5, w1]
        refine goP e2 ?_
        simp only [go_sem, fillAll, fillIn, shiftR, shiftV, List.take_succ_cons, List.take_zero, List.drop_succ_cons, List.drop_zero, List.append_nil, Nat.zero_add, subA5]
        refine goP e3 ?_
        simp only [go_sem, fillAll, fillIn, shiftR, shiftV, List.take_succ_cons, List.take_zero, List.drop_succ_cons, List.drop_zero, List.append_nil, Nat.zero_add, subA5]
        refine goF e1 ?_
        simp only [go_sem, fillAll, fillIn, shiftR, shiftV, List.take_succ_cons, List.take_zero, List.drop_succ_cons, List.drop_zero, List.append_nil, Nat.zero_add, subA5]
        refine goF e4 ?_
        simp only [go_sem, fillAll, fillIn, shiftR, shiftV, List.take_succ_cons, List.take_zero, List.drop_succ_cons, List.drop_zero, List.append_nil, Nat.zero_add, subA5, w1, beq_self_eq_true]
        refine goP e5 ?_
        simp only [go_sem, fillAll, fillIn, shiftR, shiftV, List.take_succ_cons, List.take_zero, List.drop_succ_cons, List.drop_zero, List.append_nil, Nat.zero_add, subA5]
        refine goR e6 rfl ?_
        simp only [go_sem, fillAll, fillIn, shiftR, shiftV, List.take_succ_cons, List.take_zero, List.drop_succ_cons, List.drop_zero, List.append_nil, Nat.zero_add, subA5]
        refine goP e7 ?_
        simp only [go_sem, fillAll, fillIn, shiftR, shiftV, List.take_succ_cons, List.take_zero, List.drop_succ_cons, List.drop_zero, List.append_nil, Nat.zero_add, subA5]
        simp only [i3, Out, resAll, geto, ints, List.getElem?_cons_zero, List.getElem?_cons_succ, resOf, outOf, snap, snapL, ev, getE, List.mapM_cons, List.mapM_nil, Option.bind_some, Option.pure_def, Option.bind_eq_bind, Option.map_some, reduceIte, Nat.reduceEqDiff, true_and, and_true]
    · obtain ⟨z, hz, rfl⟩ := List.mem_map.1 ha
      refine (Sz.int (k := 32) ?_ (by omega)).mono (by omega)
      have h2 : (2 : Nat) ^ 32 = 4294967296 := by decide
      rw [h2]
      rcases List.mem_cons.1 hz with rfl | hz
      · decide
      · obtain ⟨d, hd, rfl⟩ := List.mem_map.1 hz
        have := hl8 d hd
        omega
    · obtain rfl := List.mem_singleton.1 ha
      refine (Sz.int (k := 32) ?_ (by omega)).mono (by omega)
      have h2 : (2 : Nat) ^ 32 = 4294967296 := by decide
      omega
    · rw [List.append_nil, roomE, hc]
      simp
def u8X (l : List Int) : AV := .sl l.length 1 (nums .u8 l)
theorem c3_row {l : List Int} {n : Int} (hl8 : ∀ d ∈ l, 0 ≤ d ∧ d ≤ 255) (hll : (l.length : Int) ≤ 9223372036854775807) (hn : -2147483648 ≤ n ∧ n ≤ 2147483647) :
    Go.V.Call tab E 3 [u8X l, .int .i32 n] [] (.bool true) [] := c3_base hl8 hll hn
end Go.Proofs.Ytlejgleocnemoaa.I

-- PRINTED BY print.sh 35421559b90ae4d0a3588c463048766b98c2df88dd9212a6774a882060cdf62d: not written by this session
-- PRINTED WORDS (module Derived/Print/Sized.lean): go-gate-2's, for the rows of laws over slices: an AI agent of Go's test side, Tue Nov 17 2026; no person has read it. Lean checks it.
namespace Go.Proofs.YtlejgleocnemoaaW.PrintWords
open Go.ChangeShapes Go.WideShapes
theorem sized_ints {H : Type} {enc : TypeId × Value → H} {P : Program} {W : World} {base : Nat} {spare : Nat → Bool} {held : Bool} {t e : TypeId} {k : IntKind} {a : Option Addr} {len cap : Nat} {d : DataW H} {ps : List MemPlace} {ts : List TypeId} {ds : List (DataW H)} {j : Nat}
    (hsz : (DataW.weightsEach P ts ds).all (· ≤ reachBytes) = true) (ht : ts[j]? = some t) (hd : ds[j]? = some d) (hu : P.underlying t = some (.slice e)) (he : P.underlying e = some (.int k)) (hc : P.cellsOf e = 1) {B : Nat} (hB : P.bytesOf e = B)
    (h : DataW.Trod enc P W base spare held t (.slice a len cap) d ps) : len * B ≤ 140737488351232 := by
  obtain ⟨fuel, hf⟩ := h
  rcases open_ints hu he hc hf with ⟨hcs, _⟩ | ⟨x, l, c, zs, hcs, _, hl, _, hz, hx, _, _⟩
  · simp [Value.cells] at hcs
    obtain ⟨rfl, rfl, rfl⟩ := hcs
    simp
  · simp [Value.cells] at hcs
    obtain ⟨rfl, rfl, rfl⟩ := hcs
    obtain ⟨hx, _⟩ := Prod.mk.inj hx
    subst hx
    have z := sized_slice hsz ht hd hu
    rw [hB] at z
    have hl2 : len ≤ zs.length := by
      rw [hz]
      split
      · exact hl
      · exact Nat.le_refl _
    have h1 : (lits (H := H) k (zs.take len)).length + (lits (H := H) k (zs.drop len)).length = zs.length := by
      simp [lits]
      omega
    rw [h1] at z
    exact Nat.le_trans (Nat.mul_le_mul_right _ hl2) z
end Go.Proofs.YtlejgleocnemoaaW.PrintWords
