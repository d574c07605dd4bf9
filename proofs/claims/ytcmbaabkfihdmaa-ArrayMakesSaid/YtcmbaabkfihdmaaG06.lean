/- The texts L01p L01q L01r L03a L07b L07f L06e L03b L06f, one behind the other. Conditions: each text's own. -/
import Derived.Test.YtcmbaabkfihdmaaG05
import Derived.Test.YtcmbaabkfihdmaaG04
/- Layer 1: the document's quotients, rests and greatest common divisors. -/
set_option linter.unusedVariables false
set_option linter.unusedSimpArgs false
namespace Go.Proofs.Ytcmbaabkfihdmaa.I
open Go Go.V
attribute [local go_sem] mNil nat0 beq_self_eq_true mSkip mRet mExit mReg mSeq mCond mTrue mFalse mBlock mLv mCodeE mCodeR mEndN mEndR mEndE mOps mSome mGuard mGtt mGff mGtf mGft mGu mCallP mCallR mCallF mCallO mCallZ mCallG mCallM mCallV loopQ_exit loopQ_ret mO_mov mO_newnil mO_pick mO_alloc mO_box mO_build mO_bsl mO_ldf mO_ld mO_st mO_sta mO_nilchk mO_bin mO_binb mO_binp mO_bins mO_neg mO_com mO_not mO_conv mO_mk mO_mk0 mO_s2b mO_b2s mO_cpy mO_cut mO_faddr mO_fld mO_iaddr mO_iaddrf mO_sidx mO_len mO_lenf mO_slen mO_scut mO_app mO_ext mO_mx mO_mn mO_mkfn evalOp cutOp argsE ev getE putE cellsOf adopt rowOf binV boolV nilV ar_add ar_sub ar_mul ar_quo ar_rem ar_eq ar_ne ar_lt ar_le ar_gt ar_ge ar_and ar_or ar_xor geto bound finRet finNrm ints List.length_cons List.length_nil List.length_append List.getElem?_cons_zero List.getElem?_cons_succ List.nil_append List.cons_append List.map_cons List.map_nil List.mapM_cons List.mapM_nil Option.map_some Option.map_none Option.bind_some Option.pure_def Option.bind_eq_bind List.drop_zero or_self or_false false_or or_true true_or true_and and_true and_self decide_true decide_false Bool.false_eq_true Bool.true_eq_false Bool.not_true Bool.not_false Nat.le_refl eq_self gt_iff_lt ge_iff_le ne_eq not_true_eq_false not_false_eq_true storeOp apartOf freeze_nil refsL refs List.flatMap_cons List.flatMap_nil List.append_nil List.contains_nil List.set_cons_zero List.set_cons_succ snap snapL fill_nums flat_nums nums_length Go.V.freeze List.mapIdx_cons List.mapIdx_nil List.contains_cons Bool.or_false Bool.false_or Bool.or_true Bool.true_or
theorem decL_mono {a b : Nat} (h : a ≤ b) : (decL a).length ≤ (decL b).length := by
  rcases Nat.lt_or_ge (decL b).length (decL a).length with h1 | h1
  · have := decL_short h1; omega
  · exact h1
theorem sval_take {l : List Int} {i : Nat} (h : i < l.length) : sval (l.take (i + 1)) = 10 * sval (l.take i) + (l.getD i 0 - 48).toNat := by
  rw [take_snoc h, sval_snoc]
theorem div_digit {P d b R : Nat} (hb : 0 < b) (hR : R = 10 * (P % b) + d) : (10 * P + d) / b = 10 * (P / b) + R / b ∧ (10 * P + d) % b = R % b := by
  have e : 10 * P + d = R + b * (10 * (P / b)) := by
    have h := Nat.div_add_mod P b
    have h2 : b * (10 * (P / b)) = 10 * (b * (P / b)) := by rw [Nat.mul_left_comm]
    omega
  rw [e, Nat.add_mul_div_left _ _ hb, Nat.add_mul_mod_self_left]
  exact ⟨by omega, rfl⟩
section
variable {E : CallRel}
theorem c138_ok {a b : Nat} (hb0 : b ≠ 0) (ha : (decL a).length ≤ 100000) (hb : (decL b).length ≤ 100000) : Go.V.Call tab E 138 [.str (dec a), .str (dec b)] [] (.tup [.str (dec (a / b)), .str (dec (a % b))]) [] := by
  refine Go.V.Call.mach i138 c138 rfl rfl rfl rfl ?_
  have hbp : 0 < b := Nat.pos_of_ne_zero hb0
  have hda := decL_dig a
  have hne := decL_ne a
  have hav := sval_decL a
  have hae := dec_eq (n := a)
  have hd0 : (⟨#[48]⟩ : ByteArray) = dec 0 := rfl
  generalize decL a = l at *
  generalize dec a = sa at *
  subst hae
  have hl0 : l.length ≠ 0 := fun h => hne (List.length_eq_zero_iff.1 h)
  have b1 : (0 : Int) ≤ (l.length : Int) := by omega
  have b2 : 1 * l.length ≤ 140737488355328 := by omega
  have b3 : (l.length : Int) ≤ 140737488355328 := by omega
  have b4 : l.length ≤ 140737488355328 := by omega
  simp only [c138, go_sem, ↓reduceIte, Nat.reduceEqDiff, Nat.reduceAdd, Nat.reduceMul, Nat.reduceLeDiff, Nat.reduceLT, Int.reduceToNat, Int.reduceLT, Int.reduceLE, reduceCtorEq, Nat.reduceBEq, bs_size, b1, b2, b3, b4, Int.toNat_natCast, hd0]
  refine mLoop (fun N st => ∃ (i : Nat) (q : List Int), i ≤ l.length ∧ N = l.length - i ∧ q.length = i ∧ Dig q ∧ sval q = sval (l.take i) / b ∧
    st = ⟨[(0, .str (bs l)), (1, .str (dec b)), (6, .arr 0 i), (7, .str (dec (sval (l.take i) % b))), (8, .int .i64 i)], [⟨false, 5, 1, i, i, nums .u8 q, false⟩]⟩) l.length
    ⟨_, rfl, 0, [], by omega, by omega, rfl, fun x hx => by simp at hx, by simp [sval], by simp [getE, nums, sval]⟩ ?_
  rintro N s0 ⟨i, q, hi, rfl, hql, hqd, hqv, rfl⟩
  by_cases hil : i < l.length
  · have hi' : (i : Int) < (l.length : Int) := by omega
    have hi0 : (0 : Int) ≤ (i : Int) := by omega
    have hi1 : IntKind.i64.wrap ((i : Int) + 1) = ((i + 1 : Nat) : Int) := by rw [wrap_i64 (by omega) (by omega)]; omega
    have hi2 : (0 : Int) ≤ ((i + 1 : Nat) : Int) := by omega
    have hi3 : ((i + 1 : Nat) : Int) ≤ (l.length : Int) := by omega
    have hi4 : (i : Int) ≤ ((i + 1 : Nat) : Int) := by omega
    have hex : (bs l).extract i (i + 1) = bs [l.getD i 0] := by
      rw [bs_extract, take_snoc hil, List.drop_append_of_le_length (by rw [List.length_take]; omega), List.drop_eq_nil_of_le (by rw [List.length_take]; omega)]; rfl
    have hx := hda (l.getD i 0) (by simp [List.getD, hil])
    have hst := sval_take hil
    generalize l.getD i 0 = x at *
    have hrb := Nat.mod_lt (sval (l.take i)) hbp
    have hrl : (decL (sval (l.take i) % b)).length ≤ 100000 := by
      have := decL_mono (Nat.le_of_lt hrb)
      omega
    have hadd : strOp .add (dec (sval (l.take i) % b)) (bs [x]) = some (.str (bs (decL (sval (l.take i) % b) ++ [x]))) := by
      simp only [strOp]
      rw [if_neg, dec_eq, bs_append]
      rw [dec_eq, bs_size, bs_size]
      simp [IntKind.max, IntKind.bits, IntKind.signed]
      omega
    have h120 := c120_dig (E := E) (l := decL (sval (l.take i) % b) ++ [x]) (by
      rw [Dig_app]
      exact ⟨decL_dig _, fun y hy => by simp at hy; omega⟩) (by simp) (by simp; omega)
    rw [sval_snoc, sval_decL] at h120
    obtain ⟨dq, dm⟩ := div_digit (P := sval (l.take i)) (d := (x - 48).toNat) hbp rfl
    rw [← hst] at dq dm
    rw [← hqv] at dq
    have hR10 : 10 * (sval (l.take i) % b) + (x - 48).toNat < 10 * b := by omega
    have hRl : (decL (10 * (sval (l.take i) % b) + (x - 48).toNat)).length ≤ 1000000 := by
      have h1 : (decL (10 * b)).length ≤ (decL b).length + 1 := by
        have := decL_ten hb0 (d := 0) (by omega)
        rw [Nat.add_zero] at this
        rw [this]; simp
      have h2 := decL_mono (Nat.le_of_lt hR10)
      omega
    generalize 10 * (sval (l.take i) % b) + (x - 48).toNat = R at *
    simp only [b138_0, go_sem, ↓reduceIte, Nat.reduceEqDiff, Nat.reduceAdd, Nat.reduceMul, Nat.reduceLeDiff, Nat.reduceLT, Int.reduceToNat, Int.reduceLT, Int.reduceLE, reduceCtorEq, Nat.reduceBEq, bs_size, hi', hi0, hi1, hi2, hi3, hi4, Int.toNat_natCast, hex, hadd]
    refine goP h120 ?_
    simp only [go_sem, ↓reduceIte, Nat.reduceEqDiff, Nat.reduceAdd, Nat.reduceMul, Nat.reduceLeDiff, Nat.reduceLT, Int.reduceToNat, Int.reduceLT, Int.reduceLE, reduceCtorEq, Nat.reduceBEq]
    refine mLoop (fun N st => ∃ (n : Nat), n * b ≤ R ∧ N = 10 - n ∧
      st = ⟨[(0, .str (bs l)), (1, .str (dec b)), (6, .arr 0 i), (7, .str (dec (R - n * b))), (8, .int .i64 i), (9, .int .i64 n)], [⟨false, 5, 1, i, i, nums .u8 q, false⟩]⟩) 10
      ⟨_, rfl, 0, by omega, rfl, by simp [getE]⟩ ?_
    rintro N s0 ⟨n, hn, rfl, rfl⟩
    have hn9 : n < 10 := by
      rcases Nat.lt_or_ge n 10 with h | h
      · exact h
      · have := Nat.mul_le_mul_right b h
        omega
    have hn' : (n : Int) < 10 := by omega
    have hn1 : IntKind.i64.wrap ((n : Int) + 1) = ((n + 1 : Nat) : Int) := by rw [wrap_i64 (by omega) (by omega)]; omega
    have h146 := c146_ok (E := E) (a := R - n * b) (b := b)
    by_cases hge : b ≤ R - n * b
    · have hc : (0 : Int) ≤ cmpZ (R - n * b) b := by
        rw [cmpZ, if_neg (by omega)]
        split <;> omega
      have h147 := c147_ok (E := E) hge (by have := decL_mono (show R - n * b ≤ R by omega); omega) (by omega)
      have hsub : R - n * b - b = R - (n + 1) * b := by rw [Nat.add_mul, Nat.one_mul]; omega
      rw [hsub] at h147
      simp only [b138_1, go_sem, ↓reduceIte, Nat.reduceEqDiff, Nat.reduceAdd, Nat.reduceMul, Nat.reduceLeDiff, Nat.reduceLT, Int.reduceToNat, Int.reduceLT, Int.reduceLE, reduceCtorEq, Nat.reduceBEq]
      refine goP h146 ?_
      simp only [go_sem, ↓reduceIte, Nat.reduceEqDiff, Nat.reduceAdd, Nat.reduceMul, Nat.reduceLeDiff, Nat.reduceLT, Int.reduceToNat, Int.reduceLT, Int.reduceLE, reduceCtorEq, Nat.reduceBEq, hc, hn']
      refine goP h147 ?_
      simp only [go_sem, ↓reduceIte, Nat.reduceEqDiff, Nat.reduceAdd, Nat.reduceMul, Nat.reduceLeDiff, Nat.reduceLT, Int.reduceToNat, Int.reduceLT, Int.reduceLE, reduceCtorEq, Nat.reduceBEq, hn1]
      exact loopQ_go rfl (10 - (n + 1)) (by omega) ⟨n + 1, by rw [Nat.add_mul, Nat.one_mul]; omega, rfl, rfl⟩
    · have hc : ¬ (0 : Int) ≤ cmpZ (R - n * b) b := by
        rw [cmpZ, if_pos (by omega)]
        omega
      have hdiv : R / b = n := by
        refine (Nat.div_eq_iff hbp).2 ⟨hn, ?_⟩
        omega
      have hmod : R % b = R - n * b := by
        have := Nat.div_add_mod R b
        rw [hdiv, Nat.mul_comm] at this
        omega
      rw [hdiv] at dq
      rw [hmod] at dm
      have w1 : IntKind.i64.wrap (48 + (n : Int)) = 48 + (n : Int) := wrap_i64 (by omega) (by omega)
      have w2 : IntKind.u8.wrap (48 + (n : Int)) = 48 + (n : Int) := by
        simp only [IntKind.wrap, IntKind.bits, IntKind.signed]
        simp
        omega
      have e3 : (i + 1) * 1 ≤ 140737488355328 := by omega
      have e4 : i + 1 ≤ 140737488355328 := by omega
      simp only [b138_1, k138_0, k138_1, go_sem, ↓reduceIte, Nat.reduceEqDiff, Nat.reduceAdd, Nat.reduceMul, Nat.reduceLeDiff, Nat.reduceLT, Int.reduceToNat, Int.reduceLT, Int.reduceLE, reduceCtorEq, Nat.reduceBEq]
      refine goP h146 ?_
      simp only [go_sem, ↓reduceIte, Nat.reduceEqDiff, Nat.reduceAdd, Nat.reduceMul, Nat.reduceLeDiff, Nat.reduceLT, Int.reduceToNat, Int.reduceLT, Int.reduceLE, reduceCtorEq, Nat.reduceBEq, hc, w1, w2, e3, e4, hi1, List.flatten_cons, List.flatten_nil, Option.getD_some]
      refine loopQ_go rfl (l.length - (i + 1)) (by omega) ⟨i + 1, q ++ [48 + (n : Int)], by omega, rfl, by simp [hql], ?_, ?_, ?_⟩
      · rw [Dig_app]
        exact ⟨hqd, fun y hy => by simp at hy; omega⟩
      · rw [sval_snoc, dq]
        omega
      · rw [dm, nums_app]
        rfl
  · have hi' : ¬ (i : Int) < (l.length : Int) := by omega
    obtain rfl : i = l.length := by omega
    rw [List.take_length, hav] at hqv
    have h120 := c120_dig (E := E) (l := q) hqd (by
      rintro rfl
      simp at hql
      omega) (by omega)
    rw [hqv] at h120
    simp only [b138_0, k138_2, go_sem, ↓reduceIte, Nat.reduceEqDiff, Nat.reduceAdd, Nat.reduceMul, Nat.reduceLeDiff, Nat.reduceLT, Int.reduceToNat, Int.reduceLT, Int.reduceLE, reduceCtorEq, Nat.reduceBEq, bs_size, hi', bytesOf_nums, List.take_length, hav]
    refine goP h120 ?_
    simp only [go_sem, ↓reduceIte, Nat.reduceEqDiff, Nat.reduceAdd, Nat.reduceMul, Nat.reduceLeDiff, Nat.reduceLT, Int.reduceToNat, Int.reduceLT, Int.reduceLE, reduceCtorEq, Nat.reduceBEq]
    simp only [i138, Out, resAll, geto, ints, List.getElem?_cons_zero, List.getElem?_cons_succ, resOf, outOf, snap, snapL, ev, getE, List.mapM_cons, List.mapM_nil, Option.bind_some, Option.pure_def, Option.bind_eq_bind, Option.map_some, reduceIte, Nat.reduceEqDiff, true_and, and_true]
def powN (b n : Nat) : Nat := b ^ n
theorem powN_lt {b j n : Nat} (hb : 1 < b) (h : b ^ j < powN b n) : j < n := (Nat.pow_lt_pow_iff_right hb).1 h
/-- A bound of all right rows of digits. -/
def lim2000 : Nat := powN 10 2000
def lim2000sq : Nat := powN 2 13288
theorem lim_sq : lim2000 * lim2000 ≤ lim2000sq := of_decide_eq_true (by kernel_rfl)
theorem pow_lim {j : Nat} (h : 2 ^ j < lim2000sq) : j < 13288 := powN_lt (n := 13288) (by omega) h
theorem pow_lim10 {j x : Nat} (h1 : 10 ^ j ≤ x) (h2 : x < lim2000) : j < 2000 := powN_lt (n := 2000) (by omega) (Nat.lt_of_le_of_lt h1 h2)
theorem lim2000_len {x : Nat} (h : x < lim2000) : (decL x).length ≤ 2000 := by
  by_cases hx0 : x = 0
  · subst hx0
    have : (decL 0).length = 1 := rfl
    omega
  · have h1 := pow_lim10 (decL_len hx0) h
    omega
theorem c121_gen {M S a b : Nat} (hMM : M * M ≤ S) (hpow : ∀ j, 2 ^ j < S → j < 13288) (lenb : ∀ x, x < M → (decL x).length ≤ 100000) (ha : a < M) (hb : b < M) : Go.V.Call tab E 121 [.str (dec a), .str (dec b)] [] (.str (dec (Nat.gcd a b))) [] := by
  refine Go.V.Call.mach i121 c121 rfl rfl rfl rfl ?_
  have hd0 : (⟨#[48]⟩ : ByteArray) = dec 0 := rfl
  simp only [c121, go_sem, ↓reduceIte, Nat.reduceEqDiff, Nat.reduceAdd, Nat.reduceMul, Nat.reduceLeDiff, Nat.reduceLT, Int.reduceToNat, Int.reduceLT, Int.reduceLE, reduceCtorEq, Nat.reduceBEq, hd0]
  refine mLoop (fun N st => ∃ (i x y : Nat), N = y ∧ Nat.gcd x y = Nat.gcd a b ∧ x < M ∧ y < M ∧ (i = 0 ∨ 1 ≤ i ∧ y < x ∧ x * y * 2 ^ (i - 1) < S) ∧
    st = ⟨[(0, .str (dec x)), (1, .str (dec y)), (5, .int .i64 i)], []⟩) b ⟨_, rfl, 0, a, b, rfl, rfl, ha, hb, .inl rfl, by simp [getE]⟩ ?_
  rintro N s0 ⟨i, x, y, rfl, hg, hx, hy, hm, h2⟩
  have hne : strOp .ne (dec N) (dec 0) = some (.bool (decide (N ≠ 0))) := by
    simp only [strOp]
    rw [dec_eq, dec_eq, str_eq (decL_dig N).u8 (decL_dig 0).u8]
    congr 2
    rw [← decide_not]
    congr 1
    refine propext ⟨fun h h2 => h (by rw [h2]), fun h h2 => h ?_⟩
    rw [← sval_decL N, h2, sval_decL]
  by_cases hN : N = 0
  · subst hN
    rw [Nat.gcd_zero_right] at hg
    subst hg
    rw [decide_eq_false (by omega)] at hne
    by_cases hi : i < 20000
    · have hi' : (i : Int) < 20000 := by omega
      simp only [h2, b121_0, k121_0, go_sem, ↓reduceIte, Nat.reduceEqDiff, Nat.reduceAdd, Nat.reduceMul, Nat.reduceLeDiff, Nat.reduceLT, Int.reduceToNat, Int.reduceLT, Int.reduceLE, reduceCtorEq, Nat.reduceBEq, hd0, hi', hne]
      simp only [i121, Out, resAll, geto, ints, List.getElem?_cons_zero, List.getElem?_cons_succ, resOf, outOf, snap, snapL, ev, getE, List.mapM_cons, List.mapM_nil, Option.bind_some, Option.pure_def, Option.bind_eq_bind, Option.map_some, reduceIte, Nat.reduceEqDiff, true_and, and_true]
    · have hi' : ¬ (i : Int) < 20000 := by omega
      simp only [h2, b121_0, k121_0, go_sem, ↓reduceIte, Nat.reduceEqDiff, Nat.reduceAdd, Nat.reduceMul, Nat.reduceLeDiff, Nat.reduceLT, Int.reduceToNat, Int.reduceLT, Int.reduceLE, reduceCtorEq, Nat.reduceBEq, hd0, hi', hne]
      simp only [i121, Out, resAll, geto, ints, List.getElem?_cons_zero, List.getElem?_cons_succ, resOf, outOf, snap, snapL, ev, getE, List.mapM_cons, List.mapM_nil, Option.bind_some, Option.pure_def, Option.bind_eq_bind, Option.map_some, reduceIte, Nat.reduceEqDiff, true_and, and_true]
  · rw [decide_eq_true hN] at hne
    have hNp : 0 < N := Nat.pos_of_ne_zero hN
    have hi : i < 20000 := by
      rcases hm with h | ⟨h1, h5', h3⟩
      · omega
      · have h4 : 1 ≤ x * N := Nat.mul_pos (by omega) hNp
        have h5 := Nat.mul_le_mul_right (2 ^ (i - 1)) h4
        rw [Nat.one_mul] at h5
        have h6 : 2 ^ (i - 1) < S := Nat.lt_of_le_of_lt h5 h3
        have h7 := hpow _ h6
        omega
    have hi' : (i : Int) < 20000 := by omega
    have hi1 : IntKind.i64.wrap ((i : Int) + 1) = ((i + 1 : Nat) : Int) := by rw [wrap_i64 (by omega) (by omega)]; omega
    have h138 := c138_ok (E := E) (a := x) hN (lenb x hx) (lenb N hy)
    have hml := Nat.mod_lt x hNp
    have hg2 : Nat.gcd N (x % N) = Nat.gcd a b := by rw [← hg, Nat.gcd_comm N, ← Nat.gcd_rec, Nat.gcd_comm]
    have hnew : N * (x % N) * 2 ^ i < S := by
      rcases hm with h | ⟨h1, h5', h3⟩
      · subst h
        rw [Nat.pow_zero, Nat.mul_one]
        exact Nat.lt_of_lt_of_le (Nat.mul_lt_mul'' hy (by omega)) hMM
      · have h4 : 2 * (x % N) ≤ x := by
          have e1 := Nat.div_add_mod x N
          have e2 : 1 ≤ x / N := (Nat.one_le_div_iff hNp).2 (by omega)
          have e3 := Nat.mul_le_mul_left N e2
          omega
        obtain ⟨k, rfl⟩ : ∃ k, i = k + 1 := ⟨i - 1, by omega⟩
        rw [Nat.add_sub_cancel] at h3
        refine Nat.lt_of_le_of_lt ?_ h3
        rw [Nat.pow_succ, Nat.mul_comm (2 ^ k) 2, ← Nat.mul_assoc]
        refine Nat.mul_le_mul_right _ ?_
        rw [Nat.mul_assoc, Nat.mul_comm x, Nat.mul_comm (x % N)]
        exact Nat.mul_le_mul_left _ h4
    generalize x % N = r at *
    simp only [h2, b121_0, go_sem, ↓reduceIte, Nat.reduceEqDiff, Nat.reduceAdd, Nat.reduceMul, Nat.reduceLeDiff, Nat.reduceLT, Int.reduceToNat, Int.reduceLT, Int.reduceLE, reduceCtorEq, Nat.reduceBEq, hd0, hi', hne]
    refine goP h138 ?_
    simp only [go_sem, ↓reduceIte, Nat.reduceEqDiff, Nat.reduceAdd, Nat.reduceMul, Nat.reduceLeDiff, Nat.reduceLT, Int.reduceToNat, Int.reduceLT, Int.reduceLE, reduceCtorEq, Nat.reduceBEq, hi1]
    exact loopQ_go rfl r (by omega) ⟨i + 1, N, r, rfl, hg2, hy, by omega, .inr ⟨by omega, hml, by rw [Nat.add_sub_cancel]; exact hnew⟩, rfl⟩
theorem c121_ok {a b : Nat} (ha : a < lim2000) (hb : b < lim2000) : Go.V.Call tab E 121 [.str (dec a), .str (dec b)] [] (.str (dec (Nat.gcd a b))) [] :=
  c121_gen lim_sq (fun _ h => pow_lim h) (fun x hx => Nat.le_trans (lim2000_len hx) (by decide)) ha hb
end
end Go.Proofs.Ytcmbaabkfihdmaa.I

/- Layer 1: digits are read as a number. -/
set_option linter.unusedVariables false
set_option linter.unusedSimpArgs false
namespace Go.Proofs.Ytcmbaabkfihdmaa.I
open Go Go.V
attribute [local go_sem] mNil nat0 beq_self_eq_true mSkip mRet mExit mReg mSeq mCond mTrue mFalse mBlock mLv mCodeE mCodeR mEndN mEndR mEndE mOps mSome mGuard mGtt mGff mGtf mGft mGu mCallP mCallR mCallF mCallO mCallZ mCallG mCallM mCallV loopQ_exit loopQ_ret mO_mov mO_newnil mO_pick mO_alloc mO_box mO_build mO_bsl mO_ldf mO_ld mO_st mO_sta mO_nilchk mO_bin mO_binb mO_binp mO_bins mO_neg mO_com mO_not mO_conv mO_mk mO_mk0 mO_s2b mO_b2s mO_cpy mO_cut mO_faddr mO_fld mO_iaddr mO_iaddrf mO_sidx mO_len mO_lenf mO_slen mO_scut mO_app mO_ext mO_mx mO_mn mO_mkfn evalOp cutOp argsE ev getE putE cellsOf adopt rowOf binV boolV nilV ar_add ar_sub ar_mul ar_quo ar_rem ar_eq ar_ne ar_lt ar_le ar_gt ar_ge ar_and ar_or ar_xor geto bound finRet finNrm ints List.length_cons List.length_nil List.length_append List.getElem?_cons_zero List.getElem?_cons_succ List.nil_append List.cons_append List.map_cons List.map_nil List.mapM_cons List.mapM_nil Option.map_some Option.map_none Option.bind_some Option.pure_def Option.bind_eq_bind List.drop_zero or_self or_false false_or or_true true_or true_and and_true and_self decide_true decide_false Bool.false_eq_true Bool.true_eq_false Bool.not_true Bool.not_false Nat.le_refl eq_self gt_iff_lt ge_iff_le ne_eq not_true_eq_false not_false_eq_true storeOp apartOf freeze_nil refsL refs List.flatMap_cons List.flatMap_nil List.append_nil List.contains_nil List.set_cons_zero List.set_cons_succ snap snapL fill_nums flat_nums nums_length Go.V.freeze List.mapIdx_cons List.mapIdx_nil List.contains_cons Bool.or_false Bool.false_or Bool.or_true Bool.true_or
theorem lim2000_limbs {x : Nat} (h : x < lim2000) : (limG x).length ≤ 208 := by
  refine limG_len (Nat.lt_of_lt_of_le h ?_)
  show lim2000 ≤ 4294967296 ^ 208
  exact of_decide_eq_true (by kernel_rfl)
theorem powN_le {b n m : Nat} (hb : 0 < b) (h : n ≤ m) : b ^ n ≤ powN b m := Nat.pow_le_pow_right hb h
theorem pow10_le {n : Nat} (h : n ≤ 2000) : 10 ^ n ≤ lim2000 := powN_le (by omega) h
theorem Right_lim {l : List Int} (h : RightS l) : sval l < lim2000 := Nat.lt_of_lt_of_le (sval_lt h.1) (pow10_le h.2.2)
theorem sval_drop {l : List Int} {j n : Nat} : sval (l.take (j + n)) = sval (l.take j) * 10 ^ ((l.drop j).take n).length + sval ((l.drop j).take n) := by
  rw [← sval_append, ← List.take_add]
section
variable {E : CallRel}
theorem c116_ok {l : List Int} {b : Bool} (hl : U8 l) (hll : l.length ≤ 1000000000) (hb : b = true ↔ RightS l) : Go.V.Call tab E 116 [.str (bs l)] [] (.tup [natC (if b then sval l else 0), .bool b]) [] := by
  refine Go.V.Call.mach i116 c116 rfl rfl rfl rfl ?_
  have hfalse : ¬ RightS l → b = false := fun h => by rw [← Bool.not_eq_true, hb]; exact h
  have heq : strOp .eq (bs l) (⟨#[]⟩ : ByteArray) = some (.bool (decide (l = []))) := by
    have : (⟨#[]⟩ : ByteArray) = bs [] := rfl
    rw [this]
    simp only [strOp, str_eq hl (show U8 [] from fun x hx => by simp at hx)]
  by_cases h0 : l = []
  · have hbf := hfalse (fun h => by have := h.2.1; rw [h0] at this; simp at this)
    subst hbf
    rw [decide_eq_true h0] at heq
    simp only [c116, natC, us32, go_sem, ↓reduceIte, Nat.reduceEqDiff, Nat.reduceAdd, Nat.reduceMul, Nat.reduceLeDiff, Nat.reduceLT, Int.reduceToNat, Int.reduceLT, Int.reduceLE, reduceCtorEq, Nat.reduceBEq, fillAll, fillIn, shiftR, shiftV, List.take_succ_cons, List.take_zero, List.drop_succ_cons, List.drop_zero, List.append_nil, Nat.zero_add, heq, bs_size]
    simp only [i116, Out, resAll, geto, ints, List.getElem?_cons_zero, List.getElem?_cons_succ, resOf, outOf, snap, snapL, ev, getE, List.mapM_cons, List.mapM_nil, Option.bind_some, Option.pure_def, Option.bind_eq_bind, Option.map_some, reduceIte, Nat.reduceEqDiff, true_and, and_true, sub, fillAll, fillIn, shiftR, shiftV, List.take_succ_cons, List.take_zero, List.drop_succ_cons, List.drop_zero, List.append_nil, Nat.zero_add, List.length_cons, List.length_nil, Nat.le_refl, us32, if_false, Bool.false_eq_true, limG_zero]
    rfl
  rw [decide_eq_false h0] at heq
  by_cases h2 : 2000 < l.length
  · have hbf := hfalse (fun h => by have := h.2.2; omega)
    subst hbf
    have h2' : (2000 : Int) < (l.length : Int) := by omega
    simp only [c116, natC, us32, go_sem, ↓reduceIte, Nat.reduceEqDiff, Nat.reduceAdd, Nat.reduceMul, Nat.reduceLeDiff, Nat.reduceLT, Int.reduceToNat, Int.reduceLT, Int.reduceLE, reduceCtorEq, Nat.reduceBEq, fillAll, fillIn, shiftR, shiftV, List.take_succ_cons, List.take_zero, List.drop_succ_cons, List.drop_zero, List.append_nil, Nat.zero_add, heq, bs_size, h2']
    simp only [i116, Out, resAll, geto, ints, List.getElem?_cons_zero, List.getElem?_cons_succ, resOf, outOf, snap, snapL, ev, getE, List.mapM_cons, List.mapM_nil, Option.bind_some, Option.pure_def, Option.bind_eq_bind, Option.map_some, reduceIte, Nat.reduceEqDiff, true_and, and_true, sub, fillAll, fillIn, shiftR, shiftV, List.take_succ_cons, List.take_zero, List.drop_succ_cons, List.drop_zero, List.append_nil, Nat.zero_add, List.length_cons, List.length_nil, Nat.le_refl, us32, if_false, Bool.false_eq_true, limG_zero]
    rfl
  have h2' : ¬ (2000 : Int) < (l.length : Int) := by omega
  have hlim : ∀ j, Dig (l.take j) → sval (l.take j) < lim2000 := fun j h => by
    refine Nat.lt_of_lt_of_le (sval_lt h) (pow10_le ?_)
    rw [List.length_take]
    omega
  simp only [c116, natC, us32, go_sem, ↓reduceIte, Nat.reduceEqDiff, Nat.reduceAdd, Nat.reduceMul, Nat.reduceLeDiff, Nat.reduceLT, Int.reduceToNat, Int.reduceLT, Int.reduceLE, reduceCtorEq, Nat.reduceBEq, heq, bs_size, h2']
  refine mLoop (fun N st => ∃ (j : Nat) (c : AV) (fr : Bool), j ≤ l.length ∧ N = l.length - j ∧ Dig (l.take j) ∧ ((c = .arr 2 0 ∧ fr = false ∧ sval (l.take j) = 0) ∨ c = us32 (limG (sval (l.take j)))) ∧
    st = ⟨[(0, .str (bs (l.drop j))), (2, .loc 1 0 0), (4, .loc 3 0 0)], [⟨false, 133, 1, 0, 0, [], false⟩, ⟨true, 66, 1, 0, 1, [.arr 0 0], false⟩, ⟨false, 133, 1, 0, 0, [], fr⟩, ⟨true, 66, 1, 0, 1, [c], false⟩]⟩) l.length
    ⟨_, rfl, 0, .arr 2 0, false, by omega, by omega, fun x hx => by simp at hx, .inl ⟨rfl, rfl, rfl⟩, by simp [getE]⟩ ?_
  rintro N s0 ⟨j, c, fr, hj, rfl, hd, hc, rfl⟩
  have hdl : (l.drop j).length = l.length - j := List.length_drop
  by_cases hjl : j < l.length
  · have g1 : (0 : Int) < ((l.length - j : Nat) : Int) := by omega
    obtain ⟨n, hn⟩ : ∃ n, n = min 9 (l.length - j) := ⟨_, rfl⟩
    have hmin : (if ((l.length - j : Nat) : Int) < 9 then ((l.length - j : Nat) : Int) else 9) = (n : Int) := by split <;> omega
    have g2 : (0 : Int) ≤ (n : Int) := by omega
    have g3 : (n : Int) ≤ ((l.length - j : Nat) : Int) := by omega
    obtain ⟨p, hp⟩ : ∃ p, p = (l.drop j).take n := ⟨_, rfl⟩
    have hpl : p.length = n := by rw [hp, List.length_take, hdl]; omega
    have hex : (bs (l.drop j)).extract 0 n = bs p := by rw [bs_extract, hp]; rfl
    have hpU : U8 p := fun x hx => hl x (by rw [hp] at hx; exact List.mem_of_mem_drop (List.mem_of_mem_take hx))
    have hby := bytesAV_bs hpU
    have hex2 : (bs (l.drop j)).extract n (l.length - j) = bs (l.drop (j + n)) := by
      rw [bs_extract, List.take_of_length_le (by omega), List.drop_drop]
    have hsv := sval_drop (l := l) (j := j) (n := n)
    rw [← hp, hpl] at hsv
    have htk : l.take (j + n) = l.take j ++ p := by rw [hp, List.take_add]
    have hx90 := fun i (hi : i ≤ 9) => (Nat.pow_le_pow_right (show 0 < 10 by omega) hi : 10 ^ i ≤ 10 ^ 9)
    rcases hc with ⟨rfl, rfl, hv⟩ | rfl
    · simp only [b116_0, us32, go_sem, ↓reduceIte, Nat.reduceEqDiff, Nat.reduceAdd, Nat.reduceMul, Nat.reduceLeDiff, Nat.reduceLT, Int.reduceToNat, Int.reduceLT, Int.reduceLE, reduceCtorEq, Nat.reduceBEq, bs_size, hdl, g1, hmin, g2, g3, Int.toNat_natCast, hex, hby, hpl]
      refine mLoop (fun N st => ∃ i : Nat, i ≤ n ∧ N = n - i ∧ Dig (p.take i) ∧
        st = ⟨[(0, .str (bs (l.drop j))), (2, .loc 1 0 0), (4, .loc 3 0 0), (5, .int .i64 n), (6, .int .u64 ((sval (p.take i) : Nat) : Int)), (7, .int .u64 ((10 ^ i : Nat) : Int)), (27, .sl n 1 (nums .u8 p)), (28, .int .i64 n), (29, .int .i64 i)],
          [⟨false, 133, 1, 0, 0, [], false⟩, ⟨true, 66, 1, 0, 1, [.arr 0 0], false⟩, ⟨false, 133, 1, 0, 0, [], false⟩, ⟨true, 66, 1, 0, 1, [.arr 2 0], false⟩]⟩) n
        ⟨_, rfl, 0, by omega, by omega, fun x hx => by simp at hx, by simp [getE, sval_nil, us32]⟩ ?_
      rintro N s0 ⟨i, hi, rfl, hdi, rfl⟩
      by_cases hin : i < n
      · have h1 : (i : Int) < (n : Int) := by omega
        have h2 : (0 : Int) ≤ (i : Int) := by omega
        have h3 : IntKind.i64.wrap ((i : Int) + 1) = ((i + 1 : Nat) : Int) := by rw [wrap_i64 (by omega) (by omega)]; omega
        have hsub := sub_nums (k := .u8) (l := p) (i := i) (by omega)
        have hyU := hpU (p.getD i 0) (by simp [List.getD, show i < p.length by omega])
        have htd := Dig_take (l := p) (i := i) (by omega)
        have hts := sval_take (l := p) (i := i) (by omega)
        have hlt := sval_lt hdi
        rw [List.length_take, hpl, Nat.min_eq_left (by omega)] at hlt
        have h99 := hx90 i (by omega)
        have hps : 10 ^ (i + 1) = 10 * 10 ^ i := by rw [Nat.pow_succ, Nat.mul_comm]
        generalize p.getD i 0 = y at *
        have bad : ¬ (48 ≤ y ∧ y ≤ 57) → b = false := fun h => hfalse (fun hr => h (by
          have : Dig (l.take (j + n)) := fun z hz => hr.1 z (List.mem_of_mem_take hz)
          rw [htk, Dig_app] at this
          exact (htd.1 (fun z hz => this.2 z (List.mem_of_mem_take hz))).2))
        by_cases y1 : y < 48
        · have hbf := bad (by omega)
          subst hbf
          simp only [b116_1, us32, go_sem, ↓reduceIte, Nat.reduceEqDiff, Nat.reduceAdd, Nat.reduceMul, Nat.reduceLeDiff, Nat.reduceLT, Int.reduceToNat, Int.reduceLT, Int.reduceLE, reduceCtorEq, Nat.reduceBEq, fillAll, fillIn, shiftR, shiftV, List.take_succ_cons, List.take_zero, List.drop_succ_cons, List.drop_zero, List.append_nil, Nat.zero_add, h1, h2, Int.toNat_natCast, hsub, y1]
          simp only [i116, Out, resAll, geto, ints, List.getElem?_cons_zero, List.getElem?_cons_succ, resOf, outOf, snap, snapL, ev, getE, List.mapM_cons, List.mapM_nil, Option.bind_some, Option.pure_def, Option.bind_eq_bind, Option.map_some, reduceIte, Nat.reduceEqDiff, true_and, and_true, sub, fillAll, fillIn, shiftR, shiftV, List.take_succ_cons, List.take_zero, List.drop_succ_cons, List.drop_zero, List.append_nil, Nat.zero_add, List.length_cons, List.length_nil, Nat.le_refl, us32, if_false, Bool.false_eq_true, limG_zero]
          rfl
        · by_cases y2 : 57 < y
          · have hbf := bad (by omega)
            subst hbf
            simp only [b116_1, us32, go_sem, ↓reduceIte, Nat.reduceEqDiff, Nat.reduceAdd, Nat.reduceMul, Nat.reduceLeDiff, Nat.reduceLT, Int.reduceToNat, Int.reduceLT, Int.reduceLE, reduceCtorEq, Nat.reduceBEq, fillAll, fillIn, shiftR, shiftV, List.take_succ_cons, List.take_zero, List.drop_succ_cons, List.drop_zero, List.append_nil, Nat.zero_add, h1, h2, Int.toNat_natCast, hsub, y1, y2]
            simp only [i116, Out, resAll, geto, ints, List.getElem?_cons_zero, List.getElem?_cons_succ, resOf, outOf, snap, snapL, ev, getE, List.mapM_cons, List.mapM_nil, Option.bind_some, Option.pure_def, Option.bind_eq_bind, Option.map_some, reduceIte, Nat.reduceEqDiff, true_and, and_true, sub, fillAll, fillIn, shiftR, shiftV, List.take_succ_cons, List.take_zero, List.drop_succ_cons, List.drop_zero, List.append_nil, Nat.zero_add, List.length_cons, List.length_nil, Nat.le_refl, us32, if_false, Bool.false_eq_true, limG_zero]
            rfl
          · have w1 : IntKind.u8.wrap (y - 48) = (((y - 48).toNat : Nat) : Int) := by
              simp only [IntKind.wrap, IntKind.bits, IntKind.signed]
              simp
              omega
            have w2 : IntKind.u64.wrap (((y - 48).toNat : Nat) : Int) = (((y - 48).toNat : Nat) : Int) := wrap_u64 (by omega) (by omega)
            have w3 : IntKind.u64.wrap (10 * ((sval (p.take i) : Nat) : Int)) = ((10 * sval (p.take i) : Nat) : Int) := by rw [wrap_u64 (by omega) (by omega)]; omega
            have w4 : IntKind.u64.wrap (((10 * sval (p.take i) : Nat) : Int) + (((y - 48).toNat : Nat) : Int)) = ((sval (p.take (i + 1)) : Nat) : Int) := by rw [hts, wrap_u64 (by omega) (by omega)]; omega
            have w5 : IntKind.u64.wrap (10 * ((10 ^ i : Nat) : Int)) = ((10 ^ (i + 1) : Nat) : Int) := by rw [hps, wrap_u64 (by omega) (by omega)]; omega
            simp only [b116_1, us32, go_sem, ↓reduceIte, Nat.reduceEqDiff, Nat.reduceAdd, Nat.reduceMul, Nat.reduceLeDiff, Nat.reduceLT, Int.reduceToNat, Int.reduceLT, Int.reduceLE, reduceCtorEq, Nat.reduceBEq, h1, h2, h3, Int.toNat_natCast, hsub, y1, y2, w1, w2, w3, w4, w5]
            exact loopQ_go rfl (n - (i + 1)) (by omega) ⟨i + 1, by omega, rfl, htd.2 ⟨hdi, by omega, by omega⟩, rfl⟩
      · have h1 : ¬ (i : Int) < (n : Int) := by omega
        obtain rfl : i = n := by omega
        rw [List.take_of_length_le (by omega)] at hdi
        have hps : p.take p.length = p := List.take_length
        have hlt := sval_lt hdi
        rw [hpl] at hlt
        have h99 := hx90 i (by omega)
        have hdn : Dig (l.take (j + i)) := by rw [htk, Dig_app]; exact ⟨hd, hdi⟩
        have hln := hlim _ hdn
        have h90s := c90_nat (E := E) (n := 10 ^ i) (by omega)
        have h90x := c90_nat (E := E) (n := sval p) (by omega)
        have hv1 : sval (l.take j) * 10 ^ i < lim2000 := by omega
        have hl1 := lim2000_limbs hv1
        have hl2 : (limG (sval p)).length ≤ 2 := limG_len (by omega)
        have hl3 : (limG (10 ^ i)).length ≤ 2 := limG_len (by omega)
        have hl4 := lim2000_limbs (hlim _ hd)
        have h133 := c133_ok (E := E) (a := sval (l.take j)) (b := 10 ^ i) (by omega) (by omega)
        have h134 := c134_ok (E := E) (a := sval (l.take j) * 10 ^ i) (b := sval p) (by omega) (by omega)
        rw [← hsv] at h134
        have ht : p.take i = p := List.take_of_length_le (by omega)
        simp only [natC] at h90s h90x h133 h134
        rw [hv, limG_zero] at h133
        rw [hv] at h134
        simp only [us32] at h90s h90x h133 h134
        simp only [b116_1, k116_0, us32, go_sem, ↓reduceIte, Nat.reduceEqDiff, Nat.reduceAdd, Nat.reduceMul, Nat.reduceLeDiff, Nat.reduceLT, Int.reduceToNat, Int.reduceLT, Int.reduceLE, reduceCtorEq, Nat.reduceBEq, subB1, subT1, h1, ht, Int.toNat_natCast]
        refine goP h90s ?_
        simp only [us32, go_sem, ↓reduceIte, Nat.reduceEqDiff, Nat.reduceAdd, Nat.reduceMul, Nat.reduceLeDiff, Nat.reduceLT, Int.reduceToNat, Int.reduceLT, Int.reduceLE, reduceCtorEq, Nat.reduceBEq, subB1, subT1]
        refine goF h133 ?_
        simp only [us32, go_sem, ↓reduceIte, Nat.reduceEqDiff, Nat.reduceAdd, Nat.reduceMul, Nat.reduceLeDiff, Nat.reduceLT, Int.reduceToNat, Int.reduceLT, Int.reduceLE, reduceCtorEq, Nat.reduceBEq, subB1, subT1]
        refine goP h90x ?_
        simp only [us32, go_sem, ↓reduceIte, Nat.reduceEqDiff, Nat.reduceAdd, Nat.reduceMul, Nat.reduceLeDiff, Nat.reduceLT, Int.reduceToNat, Int.reduceLT, Int.reduceLE, reduceCtorEq, Nat.reduceBEq, subB1, subT1]
        refine goP h134 ?_
        simp only [us32, go_sem, ↓reduceIte, Nat.reduceEqDiff, Nat.reduceAdd, Nat.reduceMul, Nat.reduceLeDiff, Nat.reduceLT, Int.reduceToNat, Int.reduceLT, Int.reduceLE, reduceCtorEq, Nat.reduceBEq, fillAll, fillIn, shiftR, shiftV, List.take_succ_cons, List.take_zero, List.drop_succ_cons, List.drop_zero, List.append_nil, Nat.zero_add, subB1, subT1, bs_size, hdl, g2, g3, Int.toNat_natCast, hex2]
        exact loopQ_go rfl (l.length - (j + i)) (by omega) ⟨j + i, _, _, by omega, rfl, hdn, .inr rfl, rfl⟩
    · simp only [b116_0, us32, go_sem, ↓reduceIte, Nat.reduceEqDiff, Nat.reduceAdd, Nat.reduceMul, Nat.reduceLeDiff, Nat.reduceLT, Int.reduceToNat, Int.reduceLT, Int.reduceLE, reduceCtorEq, Nat.reduceBEq, bs_size, hdl, g1, hmin, g2, g3, Int.toNat_natCast, hex, hby, hpl]
      refine mLoop (fun N st => ∃ i : Nat, i ≤ n ∧ N = n - i ∧ Dig (p.take i) ∧
        st = ⟨[(0, .str (bs (l.drop j))), (2, .loc 1 0 0), (4, .loc 3 0 0), (5, .int .i64 n), (6, .int .u64 ((sval (p.take i) : Nat) : Int)), (7, .int .u64 ((10 ^ i : Nat) : Int)), (27, .sl n 1 (nums .u8 p)), (28, .int .i64 n), (29, .int .i64 i)],
          [⟨false, 133, 1, 0, 0, [], false⟩, ⟨true, 66, 1, 0, 1, [.arr 0 0], false⟩, ⟨false, 133, 1, 0, 0, [], fr⟩, ⟨true, 66, 1, 0, 1, [us32 (limG (sval (l.take j)))], false⟩]⟩) n
        ⟨_, rfl, 0, by omega, by omega, fun x hx => by simp at hx, by simp [getE, sval_nil, us32]⟩ ?_
      rintro N s0 ⟨i, hi, rfl, hdi, rfl⟩
      by_cases hin : i < n
      · have h1 : (i : Int) < (n : Int) := by omega
        have h2 : (0 : Int) ≤ (i : Int) := by omega
        have h3 : IntKind.i64.wrap ((i : Int) + 1) = ((i + 1 : Nat) : Int) := by rw [wrap_i64 (by omega) (by omega)]; omega
        have hsub := sub_nums (k := .u8) (l := p) (i := i) (by omega)
        have hyU := hpU (p.getD i 0) (by simp [List.getD, show i < p.length by omega])
        have htd := Dig_take (l := p) (i := i) (by omega)
        have hts := sval_take (l := p) (i := i) (by omega)
        have hlt := sval_lt hdi
        rw [List.length_take, hpl, Nat.min_eq_left (by omega)] at hlt
        have h99 := hx90 i (by omega)
        have hps : 10 ^ (i + 1) = 10 * 10 ^ i := by rw [Nat.pow_succ, Nat.mul_comm]
        generalize p.getD i 0 = y at *
        have bad : ¬ (48 ≤ y ∧ y ≤ 57) → b = false := fun h => hfalse (fun hr => h (by
          have : Dig (l.take (j + n)) := fun z hz => hr.1 z (List.mem_of_mem_take hz)
          rw [htk, Dig_app] at this
          exact (htd.1 (fun z hz => this.2 z (List.mem_of_mem_take hz))).2))
        by_cases y1 : y < 48
        · have hbf := bad (by omega)
          subst hbf
          simp only [b116_1, us32, go_sem, ↓reduceIte, Nat.reduceEqDiff, Nat.reduceAdd, Nat.reduceMul, Nat.reduceLeDiff, Nat.reduceLT, Int.reduceToNat, Int.reduceLT, Int.reduceLE, reduceCtorEq, Nat.reduceBEq, fillAll, fillIn, shiftR, shiftV, List.take_succ_cons, List.take_zero, List.drop_succ_cons, List.drop_zero, List.append_nil, Nat.zero_add, h1, h2, Int.toNat_natCast, hsub, y1]
          simp only [i116, Out, resAll, geto, ints, List.getElem?_cons_zero, List.getElem?_cons_succ, resOf, outOf, snap, snapL, ev, getE, List.mapM_cons, List.mapM_nil, Option.bind_some, Option.pure_def, Option.bind_eq_bind, Option.map_some, reduceIte, Nat.reduceEqDiff, true_and, and_true, sub, fillAll, fillIn, shiftR, shiftV, List.take_succ_cons, List.take_zero, List.drop_succ_cons, List.drop_zero, List.append_nil, Nat.zero_add, List.length_cons, List.length_nil, Nat.le_refl, us32, if_false, Bool.false_eq_true, limG_zero]
          rfl
        · by_cases y2 : 57 < y
          · have hbf := bad (by omega)
            subst hbf
            simp only [b116_1, us32, go_sem, ↓reduceIte, Nat.reduceEqDiff, Nat.reduceAdd, Nat.reduceMul, Nat.reduceLeDiff, Nat.reduceLT, Int.reduceToNat, Int.reduceLT, Int.reduceLE, reduceCtorEq, Nat.reduceBEq, fillAll, fillIn, shiftR, shiftV, List.take_succ_cons, List.take_zero, List.drop_succ_cons, List.drop_zero, List.append_nil, Nat.zero_add, h1, h2, Int.toNat_natCast, hsub, y1, y2]
            simp only [i116, Out, resAll, geto, ints, List.getElem?_cons_zero, List.getElem?_cons_succ, resOf, outOf, snap, snapL, ev, getE, List.mapM_cons, List.mapM_nil, Option.bind_some, Option.pure_def, Option.bind_eq_bind, Option.map_some, reduceIte, Nat.reduceEqDiff, true_and, and_true, sub, fillAll, fillIn, shiftR, shiftV, List.take_succ_cons, List.take_zero, List.drop_succ_cons, List.drop_zero, List.append_nil, Nat.zero_add, List.length_cons, List.length_nil, Nat.le_refl, us32, if_false, Bool.false_eq_true, limG_zero]
            rfl
          · have w1 : IntKind.u8.wrap (y - 48) = (((y - 48).toNat : Nat) : Int) := by
              simp only [IntKind.wrap, IntKind.bits, IntKind.signed]
              simp
              omega
            have w2 : IntKind.u64.wrap (((y - 48).toNat : Nat) : Int) = (((y - 48).toNat : Nat) : Int) := wrap_u64 (by omega) (by omega)
            have w3 : IntKind.u64.wrap (10 * ((sval (p.take i) : Nat) : Int)) = ((10 * sval (p.take i) : Nat) : Int) := by rw [wrap_u64 (by omega) (by omega)]; omega
            have w4 : IntKind.u64.wrap (((10 * sval (p.take i) : Nat) : Int) + (((y - 48).toNat : Nat) : Int)) = ((sval (p.take (i + 1)) : Nat) : Int) := by rw [hts, wrap_u64 (by omega) (by omega)]; omega
            have w5 : IntKind.u64.wrap (10 * ((10 ^ i : Nat) : Int)) = ((10 ^ (i + 1) : Nat) : Int) := by rw [hps, wrap_u64 (by omega) (by omega)]; omega
            simp only [b116_1, us32, go_sem, ↓reduceIte, Nat.reduceEqDiff, Nat.reduceAdd, Nat.reduceMul, Nat.reduceLeDiff, Nat.reduceLT, Int.reduceToNat, Int.reduceLT, Int.reduceLE, reduceCtorEq, Nat.reduceBEq, h1, h2, h3, Int.toNat_natCast, hsub, y1, y2, w1, w2, w3, w4, w5]
            exact loopQ_go rfl (n - (i + 1)) (by omega) ⟨i + 1, by omega, rfl, htd.2 ⟨hdi, by omega, by omega⟩, rfl⟩
      · have h1 : ¬ (i : Int) < (n : Int) := by omega
        obtain rfl : i = n := by omega
        rw [List.take_of_length_le (by omega)] at hdi
        have hps : p.take p.length = p := List.take_length
        have hlt := sval_lt hdi
        rw [hpl] at hlt
        have h99 := hx90 i (by omega)
        have hdn : Dig (l.take (j + i)) := by rw [htk, Dig_app]; exact ⟨hd, hdi⟩
        have hln := hlim _ hdn
        have h90s := c90_nat (E := E) (n := 10 ^ i) (by omega)
        have h90x := c90_nat (E := E) (n := sval p) (by omega)
        have hv1 : sval (l.take j) * 10 ^ i < lim2000 := by omega
        have hl1 := lim2000_limbs hv1
        have hl2 : (limG (sval p)).length ≤ 2 := limG_len (by omega)
        have hl3 : (limG (10 ^ i)).length ≤ 2 := limG_len (by omega)
        have hl4 := lim2000_limbs (hlim _ hd)
        have h133 := c133_ok (E := E) (a := sval (l.take j)) (b := 10 ^ i) (by omega) (by omega)
        have h134 := c134_ok (E := E) (a := sval (l.take j) * 10 ^ i) (b := sval p) (by omega) (by omega)
        rw [← hsv] at h134
        have ht : p.take i = p := List.take_of_length_le (by omega)
        simp only [natC] at h90s h90x h133 h134
        simp only [us32] at h90s h90x h133 h134
        simp only [b116_1, k116_0, us32, go_sem, ↓reduceIte, Nat.reduceEqDiff, Nat.reduceAdd, Nat.reduceMul, Nat.reduceLeDiff, Nat.reduceLT, Int.reduceToNat, Int.reduceLT, Int.reduceLE, reduceCtorEq, Nat.reduceBEq, subB1, subT1, h1, ht, Int.toNat_natCast]
        refine goP h90s ?_
        simp only [us32, go_sem, ↓reduceIte, Nat.reduceEqDiff, Nat.reduceAdd, Nat.reduceMul, Nat.reduceLeDiff, Nat.reduceLT, Int.reduceToNat, Int.reduceLT, Int.reduceLE, reduceCtorEq, Nat.reduceBEq, subB1, subT1]
        refine goF h133 ?_
        simp only [us32, go_sem, ↓reduceIte, Nat.reduceEqDiff, Nat.reduceAdd, Nat.reduceMul, Nat.reduceLeDiff, Nat.reduceLT, Int.reduceToNat, Int.reduceLT, Int.reduceLE, reduceCtorEq, Nat.reduceBEq, subB1, subT1]
        refine goP h90x ?_
        simp only [us32, go_sem, ↓reduceIte, Nat.reduceEqDiff, Nat.reduceAdd, Nat.reduceMul, Nat.reduceLeDiff, Nat.reduceLT, Int.reduceToNat, Int.reduceLT, Int.reduceLE, reduceCtorEq, Nat.reduceBEq, subB1, subT1]
        refine goP h134 ?_
        simp only [us32, go_sem, ↓reduceIte, Nat.reduceEqDiff, Nat.reduceAdd, Nat.reduceMul, Nat.reduceLeDiff, Nat.reduceLT, Int.reduceToNat, Int.reduceLT, Int.reduceLE, reduceCtorEq, Nat.reduceBEq, fillAll, fillIn, shiftR, shiftV, List.take_succ_cons, List.take_zero, List.drop_succ_cons, List.drop_zero, List.append_nil, Nat.zero_add, subB1, subT1, bs_size, hdl, g2, g3, Int.toNat_natCast, hex2]
        exact loopQ_go rfl (l.length - (j + i)) (by omega) ⟨j + i, _, _, by omega, rfl, hdn, .inr rfl, rfl⟩
  · have g1 : ¬ (0 : Int) < ((l.length - j : Nat) : Int) := by omega
    obtain rfl : j = l.length := by omega
    rw [List.take_length] at hd hc
    have hbt : b = true := hb.2 ⟨hd, by
      rcases Nat.eq_zero_or_pos l.length with h | h
      · exact absurd (List.length_eq_zero_iff.1 h) h0
      · exact h, by omega⟩
    subst hbt
    rcases hc with ⟨rfl, rfl, hv⟩ | rfl
    · simp only [b116_0, k116_1, us32, go_sem, ↓reduceIte, Nat.reduceEqDiff, Nat.reduceAdd, Nat.reduceMul, Nat.reduceLeDiff, Nat.reduceLT, Int.reduceToNat, Int.reduceLT, Int.reduceLE, reduceCtorEq, Nat.reduceBEq, bs_size, hdl, g1, subB1, subT1, fillAll, fillIn, shiftR, shiftV, List.take_succ_cons, List.take_zero, List.drop_succ_cons, List.drop_zero, List.append_nil, Nat.zero_add]
      simp only [i116, Out, resAll, geto, ints, List.getElem?_cons_zero, List.getElem?_cons_succ, resOf, outOf, snap, snapL, ev, getE, List.mapM_cons, List.mapM_nil, Option.bind_some, Option.pure_def, Option.bind_eq_bind, Option.map_some, reduceIte, Nat.reduceEqDiff, true_and, and_true, sub, fillAll, fillIn, shiftR, shiftV, List.take_succ_cons, List.take_zero, List.drop_succ_cons, List.drop_zero, List.append_nil, Nat.zero_add, List.length_cons, List.length_nil, Nat.le_refl, us32, if_true, hv, limG_zero]
      rfl
    · simp only [b116_0, k116_1, us32, go_sem, ↓reduceIte, Nat.reduceEqDiff, Nat.reduceAdd, Nat.reduceMul, Nat.reduceLeDiff, Nat.reduceLT, Int.reduceToNat, Int.reduceLT, Int.reduceLE, reduceCtorEq, Nat.reduceBEq, bs_size, hdl, g1, subB1, subT1, fillAll, fillIn, shiftR, shiftV, List.take_succ_cons, List.take_zero, List.drop_succ_cons, List.drop_zero, List.append_nil, Nat.zero_add]
      simp only [i116, Out, resAll, geto, ints, List.getElem?_cons_zero, List.getElem?_cons_succ, resOf, outOf, snap, snapL, ev, getE, List.mapM_cons, List.mapM_nil, Option.bind_some, Option.pure_def, Option.bind_eq_bind, Option.map_some, reduceIte, Nat.reduceEqDiff, true_and, and_true, sub, fillAll, fillIn, shiftR, shiftV, List.take_succ_cons, List.take_zero, List.drop_succ_cons, List.drop_zero, List.append_nil, Nat.zero_add, List.length_cons, List.length_nil, Nat.le_refl, us32, if_true]
end
end Go.Proofs.Ytcmbaabkfihdmaa.I

/- Layer 1: the document's groups of nine digits, bits, limbs; digits in 64 bits. -/
set_option linter.unusedVariables false
set_option linter.unusedSimpArgs false
namespace Go.Proofs.Ytcmbaabkfihdmaa.I
open Go Go.V
attribute [local go_sem] mNil nat0 beq_self_eq_true mSkip mRet mExit mReg mSeq mCond mTrue mFalse mBlock mLv mCodeE mCodeR mEndN mEndR mEndE mOps mSome mGuard mGtt mGff mGtf mGft mGu mCallP mCallR mCallF mCallO mCallZ mCallG mCallM mCallV loopQ_exit loopQ_ret mO_mov mO_newnil mO_pick mO_alloc mO_box mO_build mO_bsl mO_ldf mO_ld mO_st mO_sta mO_nilchk mO_bin mO_binb mO_binp mO_bins mO_neg mO_com mO_not mO_conv mO_mk mO_mk0 mO_s2b mO_b2s mO_cpy mO_cut mO_faddr mO_fld mO_iaddr mO_iaddrf mO_sidx mO_len mO_lenf mO_slen mO_scut mO_app mO_ext mO_mx mO_mn mO_mkfn evalOp cutOp argsE ev getE putE cellsOf adopt rowOf binV boolV nilV ar_add ar_sub ar_mul ar_quo ar_rem ar_eq ar_ne ar_lt ar_le ar_gt ar_ge ar_and ar_or ar_xor geto bound finRet finNrm ints List.length_cons List.length_nil List.length_append List.getElem?_cons_zero List.getElem?_cons_succ List.nil_append List.cons_append List.map_cons List.map_nil List.mapM_cons List.mapM_nil Option.map_some Option.map_none Option.bind_some Option.pure_def Option.bind_eq_bind List.drop_zero or_self or_false false_or or_true true_or true_and and_true and_self decide_true decide_false Bool.false_eq_true Bool.true_eq_false Bool.not_true Bool.not_false Nat.le_refl eq_self gt_iff_lt ge_iff_le ne_eq not_true_eq_false not_false_eq_true storeOp apartOf freeze_nil refsL refs List.flatMap_cons List.flatMap_nil List.append_nil List.contains_nil List.set_cons_zero List.set_cons_succ snap snapL fill_nums flat_nums nums_length Go.V.freeze List.mapIdx_cons List.mapIdx_nil List.contains_cons Bool.or_false Bool.false_or Bool.or_true Bool.true_or
theorem wrap_u8 {n : Int} (h1 : 0 ≤ n) (h2 : n ≤ 255) : IntKind.u8.wrap n = n := by
  simp only [IntKind.wrap, IntKind.bits, IntKind.signed]
  simp
  omega
theorem tmodN (a b : Nat) : ((a : Nat) : Int).tmod ((b : Nat) : Int) = ((a % b : Nat) : Int) := by rw [Int.tmod_eq_emod_of_nonneg (Int.natCast_nonneg a), ← Int.natCast_emod]
theorem tdivN (a b : Nat) : ((a : Nat) : Int).tdiv ((b : Nat) : Int) = ((a / b : Nat) : Int) := by rw [Int.tdiv_eq_ediv_of_nonneg (Int.natCast_nonneg a), ← Int.natCast_ediv]
theorem tmod16 (a : Nat) : ((a : Nat) : Int).tmod 65536 = ((a % 65536 : Nat) : Int) := by rw [Int.tmod_eq_emod_of_nonneg (Int.natCast_nonneg a)]; omega
theorem tdiv16 (a : Nat) : ((a : Nat) : Int).tdiv 65536 = ((a / 65536 : Nat) : Int) := by rw [Int.tdiv_eq_ediv_of_nonneg (Int.natCast_nonneg a)]; omega
def gval (l : List Int) : Nat := l.foldl (fun a x => a * 1000000000 + x.toNat) 0
theorem gval_snoc {l : List Int} {x : Int} : gval (l ++ [x]) = gval l * 1000000000 + x.toNat := by simp [gval]
def R9 (l : List Int) : Prop := ∀ x ∈ l, 0 ≤ x ∧ x < 1000000000
theorem R9_nil : R9 [] := fun x hx => by simp at hx
theorem R9_snoc {l : List Int} {x : Int} (h : R9 l) (hx : 0 ≤ x ∧ x < 1000000000) : R9 (l ++ [x]) := fun y hy => by
  rcases List.mem_append.1 hy with h1 | h1
  · exact h y h1
  · simp at h1; subst h1; exact hx
/-- What stands in the groups after so many digits. -/
def GrI (l : List Int) (i : Nat) (g : List Int) (n : Nat) : Prop := R9 g ∧ g.length ≤ i ∧ ∃ j, n < 10 ^ j ∧ j ≤ 8 ∧ sval (l.take i) = gval g * 10 ^ j + n ∧
  ((g ≠ [] ∧ (l.length - i + j) % 9 = 0) ∨ (g = [] ∧ j = i ∧ (l.length % 9 = 0 ∨ i < l.length % 9)))
theorem GrI.zero {l : List Int} : GrI l 0 [] 0 := ⟨R9_nil, by simp, 0, by simp, by omega, by simp [sval_nil, gval], .inr ⟨rfl, rfl, by omega⟩⟩
theorem GrI.small {l g : List Int} {i n : Nat} (h : GrI l i g n) : n < 100000000 := by
  obtain ⟨_, _, j, h1, h2, _⟩ := h
  have hp : 10 ^ j ≤ 100000000 := by simpa using Nat.pow_le_pow_right (n := 10) (i := j) (j := 8) (by omega) h2
  omega
theorem GrI.cut {l g : List Int} {i n d : Nat} (h : GrI l i g n) (hi : i < l.length) (hx : l.getD i 0 = 48 + (d : Int)) (hd : d ≤ 9) (hc : (l.length - i - 1) % 9 = 0) : GrI l (i + 1) (g ++ [((n * 10 + d : Nat) : Int)]) 0 := by
  obtain ⟨h0, hgl, j, h1, h2, h3, h4⟩ := h
  have hp : 10 ^ (j + 1) ≤ 1000000000 := by simpa using Nat.pow_le_pow_right (n := 10) (i := j + 1) (j := 9) (by omega) (by omega)
  rw [Nat.pow_succ] at hp
  have hs : sval (l.take (i + 1)) = 10 * sval (l.take i) + d := by rw [take_snoc hi, sval_snoc, hx]; omega
  refine ⟨R9_snoc h0 (by omega), by rw [List.length_append]; simp; omega, 0, by simp, by omega, ?_, .inl ⟨by simp, by omega⟩⟩
  rw [hs, h3, gval_snoc]
  rcases h4 with ⟨h4, h5⟩ | ⟨h4, h5, h6⟩
  · have hj : j = 8 := by omega
    subst hj
    simp only [Int.toNat_natCast, Nat.pow_zero, Nat.reducePow]
    omega
  · subst h4
    simp only [gval, List.foldl_nil, Int.toNat_natCast, Nat.pow_zero]
    omega
theorem GrI.go {l g : List Int} {i n d : Nat} (h : GrI l i g n) (hi : i < l.length) (hx : l.getD i 0 = 48 + (d : Int)) (hd : d ≤ 9) (hc : (l.length - i - 1) % 9 ≠ 0) : GrI l (i + 1) g (n * 10 + d) := by
  obtain ⟨h0, hgl, j, h1, h2, h3, h4⟩ := h
  have hs : sval (l.take (i + 1)) = 10 * sval (l.take i) + d := by rw [take_snoc hi, sval_snoc, hx]; omega
  refine ⟨h0, by omega, j + 1, by rw [Nat.pow_succ]; omega, ?_, ?_, ?_⟩
  · rcases h4 with ⟨h4, h5⟩ | ⟨h4, h5, h6⟩
    · by_cases hj : j = 8
      · subst hj; omega
      · omega
    · by_cases hj : j = 8
      · subst hj; omega
      · omega
  · rw [hs, h3, Nat.pow_succ, Nat.mul_add, ← Nat.mul_assoc, Nat.mul_comm 10, Nat.mul_assoc, Nat.mul_comm 10]
    omega
  · rcases h4 with ⟨h4, h5⟩ | ⟨h4, h5, h6⟩
    · exact .inl ⟨h4, by omega⟩
    · exact .inr ⟨h4, by omega, by omega⟩
theorem GrI.done {l g : List Int} {n : Nat} (h : GrI l l.length g n) : gval g = sval l := by
  obtain ⟨h0, hgl, j, h1, h2, h3, h4⟩ := h
  have hj : j = 0 := by rcases h4 with ⟨h4, h5⟩ | ⟨h4, h5, h6⟩ <;> omega
  subst hj
  rw [List.take_length] at h3
  simp at h1 h3
  omega
section
variable {E : CallRel}
theorem c141_ok {l : List Int} (hd : Dig l) (hll : l.length ≤ 1000000000) : ∃ g, R9 g ∧ gval g = sval l ∧ g.length ≤ l.length ∧ Go.V.Call tab E 141 [.str (bs l)] [] (.sl g.length 1 (nums .i64 g)) [] := by
  suffices h : Mach (Go.V.Call tab E) (fun x st => ∃ g, (R9 g ∧ gval g = sval l ∧ g.length ≤ l.length) ∧ Fin i141 [] (.sl g.length 1 (nums .i64 g)) [] x st) [.code c141] .nrm ⟨argsE 0 [.str (bs l)], []⟩ by
    obtain ⟨x, st, h1, h4⟩ := wp_exec h
    rw [mNil] at h4
    obtain ⟨g, ⟨g1, g2, g3⟩, h2⟩ := h4
    exact ⟨g, g1, g2, g3, Go.V.Call.go i141 c141 rfl rfl rfl rfl (exec_wp h1 h2)⟩
  simp only [c141, go_sem, ↓reduceIte, Nat.reduceEqDiff, Nat.reduceAdd, Nat.reduceMul, Nat.reduceLeDiff, Nat.reduceLT, Int.reduceToNat, Int.reduceLT, Int.reduceLE, reduceCtorEq, Nat.reduceBEq, bs_size]
  refine mLoop (fun N st => ∃ (i : Nat) (g : List Int) (n : Nat), i ≤ l.length ∧ N = l.length - i ∧ GrI l i g n ∧
    st = ⟨[(0, .str (bs l)), (3, .arr 1 g.length), (4, .int .i64 n), (5, .int .i64 ((l.length - i : Nat) : Int)), (6, .int .i64 i)], [⟨false, 3, 1, 0, 0, [], false⟩, ⟨false, 3, 1, g.length, g.length, nums .i64 g, false⟩]⟩) l.length
    ⟨_, rfl, 0, [], 0, by omega, by omega, GrI.zero, by simp [getE, nums]⟩ ?_
  rintro N s0 ⟨i, g, n, hi, rfl, hg, rfl⟩
  by_cases hlt : i < l.length
  · have hlt' : (i : Int) < (l.length : Int) := by omega
    have hi0 : (0 : Int) ≤ (i : Int) := by omega
    have hi1 : IntKind.i64.wrap ((i : Int) + 1) = ((i + 1 : Nat) : Int) := by rw [wrap_i64 (by omega) (by omega)]; omega
    have hgb := bs_getK hlt
    have hmem : l.getD i 0 ∈ l := by simp [List.getD, hlt]
    have hx := hd _ hmem
    obtain ⟨d, hxd, hd9⟩ : ∃ d : Nat, l.getD i 0 = 48 + (d : Int) ∧ d ≤ 9 := ⟨(l.getD i 0 - 48).toNat, by omega, by omega⟩
    have hu8 := u8n (x := 48 + (d : Int)) (by omega)
    rw [hxd] at hgb
    have hs := hg.small
    have w1 : IntKind.i64.wrap ((n : Int) * 10) = (n : Int) * 10 := wrap_i64 (by omega) (by omega)
    have w2 : IntKind.u8.wrap (48 + (d : Int) - 48) = (d : Int) := by rw [wrap_u8 (by omega) (by omega)]; omega
    have w3 : IntKind.i64.wrap (d : Int) = (d : Int) := wrap_i64 (by omega) (by omega)
    have w4 : IntKind.i64.wrap ((n : Int) * 10 + (d : Int)) = ((n * 10 + d : Nat) : Int) := by rw [wrap_i64 (by omega) (by omega)]; omega
    have w5 : IntKind.i64.wrap (((l.length - i : Nat) : Int) - 1) = ((l.length - (i + 1) : Nat) : Int) := by rw [wrap_i64 (by omega) (by omega)]; omega
    have w6 : (((l.length - (i + 1) : Nat) : Int)).tmod 9 = (((l.length - (i + 1)) % 9 : Nat) : Int) := tmodN _ 9
    have q9 : ¬ ((9 : Int) = 0) := by decide
    by_cases hc : (l.length - i - 1) % 9 = 0
    · have hc' : ((((l.length - (i + 1)) % 9 : Nat) : Int) == 0) = true := by rw [beq_iff_eq]; omega
      have hgl := hg.2.1
      have e1 : (g.length + 1) * 8 ≤ 140737488355328 := by omega
      have e2 : g.length + 1 ≤ 140737488355328 := by omega
      have hcut := hg.cut hlt hxd hd9 hc
      simp only [b141_0, go_sem, ↓reduceIte, Nat.reduceEqDiff, Nat.reduceAdd, Nat.reduceMul, Nat.reduceLeDiff, Nat.reduceLT, Int.reduceToNat, Int.reduceLT, Int.reduceLE, reduceCtorEq, Nat.reduceBEq, bs_size, hlt', hi0, Int.toNat_natCast, hgb, hu8, hxd, hi1, w1, w2, w3, w4, w5, w6, q9, hc', e1, e2, List.flatten_cons, List.flatten_nil, Option.getD_some]
      refine loopQ_go rfl (l.length - (i + 1)) (by omega) ⟨i + 1, _, 0, by omega, rfl, hcut, ?_⟩
      simp only [nums, List.map_append, List.map_cons, List.map_nil, List.length_append, List.length_cons, List.length_nil]
      rfl
    · have hc' : ((((l.length - (i + 1)) % 9 : Nat) : Int) == 0) = false := by rw [beq_eq_false_iff_ne]; omega
      have hcut := hg.go hlt hxd hd9 hc
      simp only [b141_0, go_sem, ↓reduceIte, Nat.reduceEqDiff, Nat.reduceAdd, Nat.reduceMul, Nat.reduceLeDiff, Nat.reduceLT, Int.reduceToNat, Int.reduceLT, Int.reduceLE, reduceCtorEq, Nat.reduceBEq, bs_size, hlt', hi0, Int.toNat_natCast, hgb, hu8, hxd, hi1, w1, w2, w3, w4, w5, w6, q9, hc']
      exact loopQ_go rfl (l.length - (i + 1)) (by omega) ⟨i + 1, _, _, by omega, rfl, hcut, rfl⟩
  · have hlt' : ¬ (i : Int) < (l.length : Int) := by omega
    obtain rfl : i = l.length := by omega
    simp only [b141_0, k141_0, go_sem, ↓reduceIte, Nat.reduceEqDiff, Nat.reduceAdd, Nat.reduceMul, Nat.reduceLeDiff, Nat.reduceLT, Int.reduceToNat, Int.reduceLT, Int.reduceLE, reduceCtorEq, Nat.reduceBEq, bs_size, hlt', Int.lt_irrefl]
    refine ⟨g, ⟨hg.1, hg.done, hg.2.1⟩, ?_⟩
    simp only [i141, Out, resAll, geto, ints, List.getElem?_cons_zero, List.getElem?_cons_succ, resOf, outOf, snap, snapL, ev, getE, List.mapM_cons, List.mapM_nil, Option.bind_some, Option.pure_def, Option.bind_eq_bind, Option.map_some, reduceIte, Nat.reduceEqDiff, true_and, and_true]
/-- How many bits. -/
def bl (n : Nat) : Nat := if h : n = 0 then 0 else bl (n / 2) + 1
  termination_by n
  decreasing_by exact Nat.div_lt_self (Nat.pos_of_ne_zero h) (by omega)
theorem bl_zero : bl 0 = 0 := by rw [bl]; rfl
theorem bl_pos {n : Nat} (h : n ≠ 0) : bl n = bl (n / 2) + 1 := by rw [bl, dif_neg h]
theorem bl_shift : ∀ {k n : Nat}, 2 ^ k ≤ n → bl n = k + bl (n / 2 ^ k)
  | 0, n, _ => by simp
  | k + 1, n, h => by
    have hp : 0 < 2 ^ k := Nat.pow_pos (by omega)
    rw [Nat.pow_succ] at h
    have h1 : 2 ^ k ≤ n / 2 := by omega
    rw [bl_pos (by omega), bl_shift h1, Nat.div_div_eq_div_mul, Nat.pow_succ, Nat.mul_comm 2]
    omega
theorem bl_le : ∀ {k n : Nat}, n < 2 ^ k → bl n ≤ k
  | 0, n, h => by
    have : n = 0 := by simpa using h
    subst this; rw [bl_zero]; omega
  | k + 1, n, h => by
    by_cases h0 : n = 0
    · subst h0; rw [bl_zero]; omega
    · rw [bl_pos h0]
      have := bl_le (k := k) (n := n / 2) (by rw [Nat.pow_succ] at h; omega)
      omega
theorem bl_limG : ∀ {m v : Nat}, v ≤ m → (bl v + 31) / 32 = (limG v).length := by
  intro m
  induction m with
  | zero => intro v h; obtain rfl : v = 0 := by omega
            rw [bl_zero, limG_zero]; rfl
  | succ m ih =>
    intro v h
    by_cases h0 : v = 0
    · subst h0; rw [bl_zero, limG_zero]; rfl
    · rw [limG_pos h0, List.length_cons]
      by_cases hb : 4294967296 ≤ v
      · have := bl_shift (k := 32) (n := v) (by simpa using hb)
        rw [show (2 : Nat) ^ 32 = 4294967296 from rfl] at this
        rw [this, ← ih (by omega)]
        omega
      · rw [show v / 4294967296 = 0 by omega, limG_zero]
        have h1 := bl_le (k := 32) (n := v) (by simp; omega)
        have h2 := bl_pos h0
        simp
        omega
/-- One pass of the division by 65536. -/
def PassI (l : List Int) (k : Nat) (q : List Int) (r : Nat) : Prop := R9 q ∧ q.length ≤ k ∧ r < 65536 ∧ gval (l.take k) = 65536 * gval q + r ∧ (q ≠ [] → 0 < gval q)
theorem PassI.zero {l : List Int} : PassI l 0 [] 0 := ⟨R9_nil, by simp, by omega, by simp [gval], fun h => absurd rfl h⟩
theorem gval_take {l : List Int} {k : Nat} (h : k < l.length) : gval (l.take (k + 1)) = gval (l.take k) * 1000000000 + (l.getD k 0).toNat := by rw [take_snoc h, gval_snoc]
theorem PassI.add {l q : List Int} {k r x : Nat} (h : PassI l k q r) (hk : k < l.length) (hx : l.getD k 0 = (x : Int)) (hx9 : x < 1000000000) (hc : q ≠ [] ∨ 0 < (r * 1000000000 + x) / 65536) :
    PassI l (k + 1) (q ++ [(((r * 1000000000 + x) / 65536 : Nat) : Int)]) ((r * 1000000000 + x) % 65536) := by
  obtain ⟨h0, h1, h2, h3, h4⟩ := h
  refine ⟨R9_snoc h0 (by omega), by rw [List.length_append]; simp; omega, by omega, ?_, fun _ => ?_⟩
  · rw [gval_take hk, gval_snoc, h3, hx, Int.toNat_natCast, Int.toNat_natCast]
    omega
  · rw [gval_snoc, Int.toNat_natCast]
    by_cases hq : q = []
    · rcases hc with hc | hc
      · exact absurd hq hc
      · omega
    · have := h4 hq; omega
theorem PassI.skip {l : List Int} {k r x : Nat} (h : PassI l k [] r) (hk : k < l.length) (hx : l.getD k 0 = (x : Int)) (hc : ¬ 0 < (r * 1000000000 + x) / 65536) :
    PassI l (k + 1) [] ((r * 1000000000 + x) % 65536) := by
  obtain ⟨h0, h1, h2, h3, h4⟩ := h
  refine ⟨h0, by simp, by omega, ?_, fun h => absurd rfl h⟩
  have h0 : gval [] = 0 := rfl
  rw [h0] at h3
  rw [gval_take hk, hx, Int.toNat_natCast, h0]
  omega
theorem pass_facts {r x : Nat} (hr : r < 65536) (hx : x < 1000000000) : IntKind.i64.wrap ((r : Int) * 1000000000) = (r : Int) * 1000000000 ∧
    IntKind.i64.wrap ((r : Int) * 1000000000 + (x : Int)) = ((r * 1000000000 + x : Nat) : Int) ∧
    IntKind.i64.wrap (((r * 1000000000 + x) / 65536 : Nat) : Int) = (((r * 1000000000 + x) / 65536 : Nat) : Int) := by
  refine ⟨wrap_i64 (by omega) (by omega), ?_, ?_⟩
  · rw [wrap_i64 (by omega) (by omega)]; omega
  · have hT : (r * 1000000000 + x) / 65536 < 1000000000 := by omega
    generalize (r * 1000000000 + x) / 65536 = T at hT
    exact wrap_i64 (by omega) (by omega)
/-- A bound, closed: omega takes long where powers and quotients meet. -/
def PB (v m : Nat) : Prop := v < 65536 ^ m
theorem PB.step {v m i : Nat} (h : PB v (m - i)) (hi : i < m) (hq : 0 < v / 65536) : PB (v / 65536) (m - (i + 1)) ∧ i + 1 < m := by
  unfold PB at h ⊢
  have h1 : v / 65536 < 65536 ^ (m - (i + 1)) := by
    rw [show m - i = (m - (i + 1)) + 1 by omega, Nat.pow_succ] at h
    rw [Nat.div_lt_iff_lt_mul (by omega)]
    exact h
  refine ⟨h1, ?_⟩
  by_cases hc : i + 1 < m
  · exact hc
  · rw [show m - (i + 1) = 0 by omega, Nat.pow_zero] at h1
    clear h
    omega
theorem c126_ok {l : List Int} (hd : Dig l) (hll : l.length ≤ 1000000000) {m : Nat} (hm0 : 0 < m) (hm : m ≤ 10000) (hV : sval l < 65536 ^ m) : Go.V.Call tab E 126 [.str (bs l)] [] (.int .i64 ((bl (sval l) : Nat) : Int)) [] := by
  obtain ⟨g, g1, g2, g3, h141⟩ := c141_ok (E := E) hd hll
  refine Go.V.Call.mach i126 c126 rfl rfl rfl rfl ?_
  simp only [c126, go_sem, ↓reduceIte, Nat.reduceEqDiff, Nat.reduceAdd, Nat.reduceMul, Nat.reduceLeDiff, Nat.reduceLT, Int.reduceToNat, Int.reduceLT, Int.reduceLE, reduceCtorEq, Nat.reduceBEq]
  refine goP h141 ?_
  simp only [go_sem, ↓reduceIte, Nat.reduceEqDiff, Nat.reduceAdd, Nat.reduceMul, Nat.reduceLeDiff, Nat.reduceLT, Int.reduceToNat, Int.reduceLT, Int.reduceLE, reduceCtorEq, Nat.reduceBEq]
  refine mLoop (fun N st => ∃ (i : Nat) (g : List Int), i < m ∧ N = m - i ∧ R9 g ∧ g.length ≤ 1000000000 ∧ PB (gval g) (m - i) ∧ bl (sval l) = 16 * i + bl (gval g) ∧
    st = ⟨[(3, .sl g.length 1 (nums .i64 g)), (4, .int .i64 ((16 * i : Nat) : Int)), (5, .int .i64 i)], []⟩) m
    ⟨_, rfl, 0, g, by omega, by omega, g1, by omega, by rw [g2]; exact hV, by rw [g2]; omega, by simp [getE]⟩ ?_
  clear hV
  rintro N s0 ⟨i, g, hi, rfl, hR, hgl, hlt, hb, rfl⟩
  have hi' : (i : Int) < 10000 := by omega
  simp only [b126_0, go_sem, ↓reduceIte, Nat.reduceEqDiff, Nat.reduceAdd, Nat.reduceMul, Nat.reduceLeDiff, Nat.reduceLT, Int.reduceToNat, Int.reduceLT, Int.reduceLE, reduceCtorEq, Nat.reduceBEq, hi']
  refine mLoop (fun N st => ∃ (k : Nat) (q : List Int) (r : Nat), k ≤ g.length ∧ N = g.length - k ∧ PassI g k q r ∧
    st = ⟨[(3, .sl g.length 1 (nums .i64 g)), (4, .int .i64 ((16 * i : Nat) : Int)), (5, .int .i64 i), (6, .arr 0 q.length), (7, .int .i64 r), (8, .int .i64 k)], [⟨false, 3, 1, q.length, q.length, nums .i64 q, false⟩]⟩) g.length
    ⟨_, rfl, 0, [], 0, by omega, by omega, PassI.zero, by simp [getE, nums]⟩ ?_
  rintro N s0 ⟨k, q, r, hk, rfl, hp, rfl⟩
  by_cases hkl : k < g.length
  · have hkl' : (k : Int) < (g.length : Int) := by omega
    have hk0 : (0 : Int) ≤ (k : Int) := by omega
    have hk1 : IntKind.i64.wrap ((k : Int) + 1) = ((k + 1 : Nat) : Int) := by rw [wrap_i64 (by omega) (by omega)]; omega
    have hN : g.length - (k + 1) < g.length - k := by omega
    have hsub := sub_nums (k := .i64) hkl
    have hx9 := hR (g.getD k 0) (by simp [List.getD, hkl])
    obtain ⟨x, hx⟩ : ∃ x : Nat, g.getD k 0 = (x : Int) := ⟨(g.getD k 0).toNat, by omega⟩
    have hr := hp.2.2.1
    have hql := hp.2.1
    have e1 : (q.length + 1) * 8 ≤ 140737488355328 := by omega
    have e2 : q.length + 1 ≤ 140737488355328 := by omega
    have hx9' : x < 1000000000 := by omega
    obtain ⟨w1, w2, w5⟩ := pass_facts hr hx9'
    have w3 := tmod16 (r * 1000000000 + x)
    have w4 := tdiv16 (r * 1000000000 + x)
    have qn : ¬ ((65536 : Int) = 0) := by decide
    by_cases hq : q = []
    · subst hq
      have hq1 : ¬ (0 : Int) < (([] : List Int).length : Int) := by simp
      by_cases hc : 0 < (r * 1000000000 + x) / 65536
      · have hc' : (0 : Int) < (((r * 1000000000 + x) / 65536 : Nat) : Int) := Int.natCast_pos.2 hc
        have hadd := hp.add hkl hx hx9' (.inr hc)
        simp only [b126_1, go_sem, ↓reduceIte, Nat.reduceEqDiff, Nat.reduceAdd, Nat.reduceMul, Nat.reduceLeDiff, Nat.reduceLT, Int.reduceToNat, Int.reduceLT, Int.reduceLE, reduceCtorEq, Nat.reduceBEq, hkl', hk0, hsub, hx, Int.toNat_natCast, w1, w2, w3, w4, w5, qn, hk1, hc', e1, e2, List.flatten_cons, List.flatten_nil, Option.getD_some, Int.lt_irrefl, Int.ofNat_zero]
        refine loopQ_go rfl (g.length - (k + 1)) hN ⟨k + 1, _, _, hkl, rfl, hadd, ?_⟩
        simp only [nums, List.map_append, List.map_cons, List.map_nil, List.length_append, List.length_cons, List.length_nil]
        rfl
      · have hc' : ¬ (0 : Int) < (((r * 1000000000 + x) / 65536 : Nat) : Int) := fun h => hc (Int.natCast_pos.1 h)
        have hadd := hp.skip hkl hx hc
        simp only [b126_1, go_sem, ↓reduceIte, Nat.reduceEqDiff, Nat.reduceAdd, Nat.reduceMul, Nat.reduceLeDiff, Nat.reduceLT, Int.reduceToNat, Int.reduceLT, Int.reduceLE, reduceCtorEq, Nat.reduceBEq, hkl', hk0, hsub, hx, Int.toNat_natCast, w1, w2, w3, w4, w5, qn, hk1, hc', e1, e2, List.flatten_cons, List.flatten_nil, Option.getD_some, Int.lt_irrefl, Int.ofNat_zero]
        exact loopQ_go rfl (g.length - (k + 1)) hN ⟨k + 1, _, _, hkl, rfl, hadd, rfl⟩
    · have hq0 : q.length ≠ 0 := fun h => hq (List.length_eq_zero_iff.1 h)
      have hq1 : (0 : Int) < (q.length : Int) := by clear w1 w2 w3 w4 w5; omega
      have hadd := hp.add hkl hx hx9' (.inl hq)
      simp only [b126_1, go_sem, ↓reduceIte, Nat.reduceEqDiff, Nat.reduceAdd, Nat.reduceMul, Nat.reduceLeDiff, Nat.reduceLT, Int.reduceToNat, Int.reduceLT, Int.reduceLE, reduceCtorEq, Nat.reduceBEq, hkl', hk0, hsub, hx, Int.toNat_natCast, w1, w2, w3, w4, w5, qn, hk1, hq1, e1, e2, List.flatten_cons, List.flatten_nil, Option.getD_some]
      refine loopQ_go rfl (g.length - (k + 1)) hN ⟨k + 1, _, _, hkl, rfl, hadd, ?_⟩
      simp only [nums, List.map_append, List.map_cons, List.map_nil, List.length_append, List.length_cons, List.length_nil]
      rfl
  · have hkl' : ¬ (k : Int) < (g.length : Int) := by omega
    obtain rfl : k = g.length := by omega
    obtain ⟨p1, p2, p3, p4, p5⟩ := hp
    rw [List.take_length] at p4
    by_cases hq : q = []
    · subst hq
      have hq1 : (((([] : List Int).length : Nat) : Int) == 0) = true := rfl
      have hgr : gval g = r := by rw [p4]; simp [gval]
      have hbr : bl r ≤ 16 := bl_le (by simpa using p3)
      simp only [b126_1, k126_2, go_sem, ↓reduceIte, Nat.reduceEqDiff, Nat.reduceAdd, Nat.reduceMul, Nat.reduceLeDiff, Nat.reduceLT, Int.reduceToNat, Int.reduceLT, Int.reduceLE, reduceCtorEq, Nat.reduceBEq, hkl', hq1, Int.ofNat_zero, Int.lt_irrefl]
      refine mLoop (fun N st => ∃ (r' n : Nat), N = r' ∧ r' < 65536 ∧ n + bl r' = 16 * i + bl r ∧ st = ⟨[(4, .int .i64 n), (7, .int .i64 r')], [⟨false, 3, 1, 0, 0, [], false⟩]⟩) r
        ⟨_, rfl, r, 16 * i, rfl, p3, rfl, by simp [getE, nums]⟩ ?_
      rintro N s0 ⟨r', n, rfl, hr', hn, rfl⟩
      by_cases h0 : N = 0
      · subst h0
        have h0' : ¬ (0 : Int) < ((0 : Nat) : Int) := by omega
        rw [bl_zero] at hn
        simp only [b126_2, k126_0, go_sem, ↓reduceIte, Nat.reduceEqDiff, Nat.reduceAdd, Nat.reduceMul, Nat.reduceLeDiff, Nat.reduceLT, Int.reduceToNat, Int.reduceLT, Int.reduceLE, reduceCtorEq, Nat.reduceBEq, h0', Int.ofNat_zero, Int.lt_irrefl]
        have hfin : bl (sval l) = n := by rw [hb, hgr]; omega
        simp only [i126, Out, resAll, geto, ints, List.getElem?_cons_zero, List.getElem?_cons_succ, resOf, outOf, snap, snapL, ev, getE, List.mapM_cons, List.mapM_nil, Option.bind_some, Option.pure_def, Option.bind_eq_bind, Option.map_some, reduceIte, Nat.reduceEqDiff, true_and, and_true, hfin]
      · have h0' : (0 : Int) < ((N : Nat) : Int) := by omega
        have w1 : ((N : Nat) : Int).tdiv 2 = ((N / 2 : Nat) : Int) := tdivN _ 2
        have w2 : IntKind.i64.wrap ((N / 2 : Nat) : Int) = ((N / 2 : Nat) : Int) := wrap_i64 (by omega) (by omega)
        have hbn : bl N ≤ 16 := bl_le (by simpa using hr')
        have w3 : IntKind.i64.wrap ((n : Int) + 1) = ((n + 1 : Nat) : Int) := by rw [wrap_i64 (by omega) (by omega)]; omega
        rw [bl_pos h0] at hn
        have q2 : ¬ ((2 : Int) = 0) := by decide
        simp only [b126_2, go_sem, ↓reduceIte, Nat.reduceEqDiff, Nat.reduceAdd, Nat.reduceMul, Nat.reduceLeDiff, Nat.reduceLT, Int.reduceToNat, Int.reduceLT, Int.reduceLE, reduceCtorEq, Nat.reduceBEq, h0', w1, w2, w3, q2]
        exact loopQ_go rfl (N / 2) (by omega) ⟨N / 2, n + 1, rfl, by omega, by omega, rfl⟩
    · have hq0 : q.length ≠ 0 := fun h => hq (List.length_eq_zero_iff.1 h)
      have hq1 : ((q.length : Int) == 0) = false := by rw [beq_eq_false_iff_ne]; omega
      have hqp := p5 hq
      have hdiv : gval q = gval g / 65536 := by omega
      obtain ⟨hpow, him⟩ := hlt.step hi (by rw [← hdiv]; exact hqp)
      rw [← hdiv] at hpow
      have hbl := bl_shift (k := 16) (n := gval g) (by simp; omega)
      rw [show (2 : Nat) ^ 16 = 65536 from rfl, ← hdiv] at hbl
      have w1 : IntKind.i64.wrap (((16 * i : Nat) : Int) + 16) = ((16 * (i + 1) : Nat) : Int) := by rw [wrap_i64 (by omega) (by omega)]; omega
      have w2 : IntKind.i64.wrap ((i : Int) + 1) = ((i + 1 : Nat) : Int) := by rw [wrap_i64 (by omega) (by omega)]; omega
      simp only [b126_1, k126_2, k126_1, k126_3, go_sem, ↓reduceIte, Nat.reduceEqDiff, Nat.reduceAdd, Nat.reduceMul, Nat.reduceLeDiff, Nat.reduceLT, Int.reduceToNat, Int.reduceLT, Int.reduceLE, reduceCtorEq, Nat.reduceBEq, hkl', hq1, w1, w2, Int.lt_irrefl]
      refine loopQ_go (by simp only [headOf, keepOne, go_sem, ↓reduceIte, Nat.reduceEqDiff, Nat.reduceAdd, Nat.reduceMul, Nat.reduceLeDiff, Nat.reduceLT, Int.reduceToNat, Int.reduceLT, Int.reduceLE, reduceCtorEq, Nat.reduceBEq, List.contains_cons, Nat.reduceBEq, Bool.or_false, Bool.false_or]; exact if_pos rfl) (m - (i + 1)) (by omega) ⟨i + 1, q, him, rfl, p1, by omega, hpow, by omega, rfl⟩
theorem c106_ok {l : List Int} (hd : Dig l) (hll : l.length ≤ 1000000000) {m : Nat} (hm0 : 0 < m) (hm : m ≤ 10000) (hV : sval l < 65536 ^ m) : Go.V.Call tab E 106 [.str (bs l)] [] (.int .i64 (((limG (sval l)).length : Nat) : Int)) [] := by
  refine Go.V.Call.mach i106 c106 rfl rfl rfl rfl ?_
  have hb : bl (sval l) ≤ 160000 := by
    have : bl (sval l) ≤ 16 * m := bl_le (by rw [Nat.pow_mul]; exact hV)
    omega
  have hlm := bl_limG (Nat.le_refl (sval l))
  have w1 : IntKind.i64.wrap (((bl (sval l) : Nat) : Int) + 31) = ((bl (sval l) + 31 : Nat) : Int) := by rw [wrap_i64 (by omega) (by omega)]; omega
  have w2 : (((bl (sval l) + 31 : Nat) : Int)).tdiv 32 = (((limG (sval l)).length : Nat) : Int) := by rw [← hlm]; exact tdivN _ 32
  have w3 : IntKind.i64.wrap (((limG (sval l)).length : Nat) : Int) = (((limG (sval l)).length : Nat) : Int) := wrap_i64 (by omega) (by omega)
  simp only [c106, go_sem, ↓reduceIte, Nat.reduceEqDiff, Nat.reduceAdd, Nat.reduceMul, Nat.reduceLeDiff, Nat.reduceLT, Int.reduceToNat, Int.reduceLT, Int.reduceLE, reduceCtorEq, Nat.reduceBEq]
  refine goP (c126_ok hd hll hm0 hm hV) ?_
  have q32 : ¬ ((32 : Int) = 0) := by decide
  simp only [go_sem, ↓reduceIte, Nat.reduceEqDiff, Nat.reduceAdd, Nat.reduceMul, Nat.reduceLeDiff, Nat.reduceLT, Int.reduceToNat, Int.reduceLT, Int.reduceLE, reduceCtorEq, Nat.reduceBEq, w1, w2, w3, q32]
  simp only [i106, Out, resAll, geto, ints, List.getElem?_cons_zero, List.getElem?_cons_succ, resOf, outOf, snap, snapL, ev, getE, List.mapM_cons, List.mapM_nil, Option.bind_some, Option.pure_def, Option.bind_eq_bind, Option.map_some, reduceIte, Nat.reduceEqDiff, true_and, and_true]
end
theorem sval_take_le {l : List Int} {i : Nat} : sval (l.take i) ≤ sval l := by
  have h := sval_append (a := l.take i) (b := l.drop i)
  rw [List.take_append_drop] at h
  have hp : 0 < 10 ^ (l.drop i).length := Nat.pow_pos (by omega)
  rw [h]
  exact Nat.le_trans (Nat.le_mul_of_pos_right _ hp) (Nat.le_add_right _ _)
theorem dec_big : dec 18446744073709551615 = ⟨#[49, 56, 52, 52, 54, 55, 52, 52, 48, 55, 51, 55, 48, 57, 53, 53, 49, 54, 49, 53]⟩ := by
  have h := decL_of (n := 20) (l := [49, 56, 52, 52, 54, 55, 52, 52, 48, 55, 51, 55, 48, 57, 53, 53, 49, 54, 49, 53]) rfl (by intro x hx; simp at hx; omega) ⟨by simp, fun _ => by decide⟩
  rw [dec_eq]
  rw [show sval [49, 56, 52, 52, 54, 55, 52, 52, 48, 55, 51, 55, 48, 57, 53, 53, 49, 54, 49, 53] = 18446744073709551615 from by decide +kernel] at h
  rw [← h]
  rfl
section
variable {E : CallRel}
theorem c139_ok {n : Nat} (hn : (decL n).length ≤ 1000000000) : Go.V.Call tab E 139 [.str (dec n)] [] (if n < 18446744073709551616 then .tup [.int .u64 n, .bool true] else .tup [.int .u64 0, .bool false]) [] := by
  have h146 := c146_ok (E := E) (a := n) (b := 18446744073709551615)
  rw [dec_big] at h146
  refine Go.V.Call.mach i139 c139 rfl rfl rfl rfl ?_
  simp only [c139, go_sem, ↓reduceIte, Nat.reduceEqDiff, Nat.reduceAdd, Nat.reduceMul, Nat.reduceLeDiff, Nat.reduceLT, Int.reduceToNat, Int.reduceLT, Int.reduceLE, reduceCtorEq, Nat.reduceBEq]
  refine goP h146 ?_
  by_cases hb : n < 18446744073709551616
  · have hc : ¬ (0 : Int) < cmpZ n 18446744073709551615 := by
      unfold cmpZ
      split
      · omega
      · split <;> omega
    have hd := decL_dig n
    have hv := sval_decL n
    rw [dec_eq]
    generalize hL : decL n = L at *
    simp only [go_sem, ↓reduceIte, Nat.reduceEqDiff, Nat.reduceAdd, Nat.reduceMul, Nat.reduceLeDiff, Nat.reduceLT, Int.reduceToNat, Int.reduceLT, Int.reduceLE, reduceCtorEq, Nat.reduceBEq, hc, hb]
    refine mLoop (fun N st => ∃ i : Nat, i ≤ L.length ∧ N = L.length - i ∧ st = ⟨[(0, .str (bs L)), (4, .int .u64 ((sval (L.take i) : Nat) : Int)), (5, .int .i64 i)], []⟩) L.length ⟨_, rfl, 0, by omega, by omega, by simp [getE, sval_nil]⟩ ?_
    rintro N s0 ⟨i, hi, rfl, rfl⟩
    by_cases hlt : i < L.length
    · have hlt' : (i : Int) < (L.length : Int) := by omega
      have hi0 : (0 : Int) ≤ (i : Int) := by omega
      have hi1 : IntKind.i64.wrap ((i : Int) + 1) = ((i + 1 : Nat) : Int) := by rw [wrap_i64 (by omega) (by omega)]; omega
      have hgb := bs_getK hlt
      have hx := hd _ (show L.getD i 0 ∈ L by simp [List.getD, hlt])
      obtain ⟨d, hxd, hd9⟩ : ∃ d : Nat, L.getD i 0 = 48 + (d : Int) ∧ d ≤ 9 := ⟨(L.getD i 0 - 48).toNat, by omega, by omega⟩
      have hu8 := u8n (x := 48 + (d : Int)) (by omega)
      rw [hxd] at hgb
      have hs : sval (L.take (i + 1)) = 10 * sval (L.take i) + d := by rw [take_snoc hlt, sval_snoc, hxd]; omega
      have hle := sval_take_le (l := L) (i := i + 1)
      have w1 : IntKind.u64.wrap (((sval (L.take i) : Nat) : Int) * 10) = ((sval (L.take i) : Nat) : Int) * 10 := wrap_u64 (by omega) (by omega)
      have w2 : IntKind.u8.wrap (48 + (d : Int) - 48) = (d : Int) := by rw [wrap_u8 (by omega) (by omega)]; omega
      have w3 : IntKind.u64.wrap (d : Int) = (d : Int) := wrap_u64 (by omega) (by omega)
      have w4 : IntKind.u64.wrap (((sval (L.take i) : Nat) : Int) * 10 + (d : Int)) = ((sval (L.take (i + 1)) : Nat) : Int) := by rw [wrap_u64 (by omega) (by omega)]; omega
      simp only [b139_0, go_sem, ↓reduceIte, Nat.reduceEqDiff, Nat.reduceAdd, Nat.reduceMul, Nat.reduceLeDiff, Nat.reduceLT, Int.reduceToNat, Int.reduceLT, Int.reduceLE, reduceCtorEq, Nat.reduceBEq, bs_size, hlt', hi0, Int.toNat_natCast, hgb, hu8, hxd, hi1, w1, w2, w3, w4]
      exact loopQ_go rfl (L.length - (i + 1)) (by omega) ⟨i + 1, by omega, rfl, rfl⟩
    · have hlt' : ¬ (i : Int) < (L.length : Int) := by omega
      obtain rfl : i = L.length := by omega
      simp only [b139_0, k139_0, go_sem, ↓reduceIte, Nat.reduceEqDiff, Nat.reduceAdd, Nat.reduceMul, Nat.reduceLeDiff, Nat.reduceLT, Int.reduceToNat, Int.reduceLT, Int.reduceLE, reduceCtorEq, Nat.reduceBEq, bs_size, hlt', Int.lt_irrefl, List.take_length, hv]
      simp only [i139, Out, resAll, geto, ints, List.getElem?_cons_zero, List.getElem?_cons_succ, resOf, outOf, snap, snapL, ev, getE, List.mapM_cons, List.mapM_nil, Option.bind_some, Option.pure_def, Option.bind_eq_bind, Option.map_some, reduceIte, Nat.reduceEqDiff, true_and, and_true, if_pos hb]
  · have hc : (0 : Int) < cmpZ n 18446744073709551615 := by
      unfold cmpZ
      split
      · omega
      · split <;> omega
    simp only [go_sem, ↓reduceIte, Nat.reduceEqDiff, Nat.reduceAdd, Nat.reduceMul, Nat.reduceLeDiff, Nat.reduceLT, Int.reduceToNat, Int.reduceLT, Int.reduceLE, reduceCtorEq, Nat.reduceBEq, hc]
    simp only [i139, Out, resAll, geto, ints, List.getElem?_cons_zero, List.getElem?_cons_succ, resOf, outOf, snap, snapL, ev, getE, List.mapM_cons, List.mapM_nil, Option.bind_some, Option.pure_def, Option.bind_eq_bind, Option.map_some, reduceIte, Nat.reduceEqDiff, true_and, and_true, if_neg hb]
end
end Go.Proofs.Ytcmbaabkfihdmaa.I

/- Layer 3: exact numbers, made and told. -/
set_option linter.unusedVariables false
set_option linter.unusedSimpArgs false
namespace Go.Proofs.Ytcmbaabkfihdmaa.I
open Go Go.V
attribute [local go_sem] mNil nat0 beq_self_eq_true mSkip mRet mExit mReg mSeq mCond mTrue mFalse mBlock mLv mCodeE mCodeR mEndN mEndR mEndE mOps mSome mGuard mGtt mGff mGtf mGft mGu mCallP mCallR mCallF mCallO mCallZ mCallG mCallM mCallV loopQ_exit loopQ_ret mO_mov mO_newnil mO_pick mO_alloc mO_box mO_build mO_bsl mO_ldf mO_ld mO_st mO_sta mO_nilchk mO_bin mO_binb mO_binp mO_bins mO_neg mO_com mO_not mO_conv mO_mk mO_mk0 mO_s2b mO_b2s mO_cpy mO_cut mO_faddr mO_fld mO_iaddr mO_iaddrf mO_sidx mO_len mO_lenf mO_slen mO_scut mO_app mO_ext mO_mx mO_mn mO_mkfn evalOp cutOp argsE ev getE putE cellsOf adopt rowOf binV boolV nilV ar_add ar_sub ar_mul ar_quo ar_rem ar_eq ar_ne ar_lt ar_le ar_gt ar_ge ar_and ar_or ar_xor geto bound finRet finNrm ints List.length_cons List.length_nil List.length_append List.getElem?_cons_zero List.getElem?_cons_succ List.nil_append List.cons_append List.map_cons List.map_nil List.mapM_cons List.mapM_nil Option.map_some Option.map_none Option.bind_some Option.pure_def Option.bind_eq_bind List.drop_zero or_self or_false false_or or_true true_or true_and and_true and_self decide_true decide_false Bool.false_eq_true Bool.true_eq_false Bool.not_true Bool.not_false Nat.le_refl eq_self gt_iff_lt ge_iff_le ne_eq not_true_eq_false not_false_eq_true storeOp apartOf freeze_nil refsL refs List.flatMap_cons List.flatMap_nil List.append_nil List.contains_nil List.set_cons_zero List.set_cons_succ snap snapL fill_nums flat_nums nums_length Go.V.freeze List.mapIdx_cons List.mapIdx_nil List.contains_cons Bool.or_false Bool.false_or Bool.or_true Bool.true_or
/-- An exact number in the program: the sign, above and below the line; 0 below the line stands for 1. -/
def ratG (n : Bool) (p q : Nat) : List AV := [us32 (limG p), .bool n, us32 (limG q)]
/-- An exact number on the page. -/
def numG (n : Bool) (p q : Nat) : List AV := [.bool n, .str (dec p), .str (dec q)]
def dn (q : Nat) : Nat := if q = 0 then 1 else q
section
variable {E : CallRel}
theorem c124_nat {n : Nat} : Go.V.Call tab E 124 [natC n] [] (.bool (decide (n = 0))) [] := by
  have h := c124_ok (E := E) (l := limG n)
  by_cases h0 : n = 0
  · subst h0
    rw [limG_zero] at h
    rw [natC, limG_zero, decide_eq_true rfl]
    exact h
  · have : (((limG n).length : Int) == 0) = false := by
      rw [beq_eq_false_iff_ne]
      intro h1
      exact h0 (limG_len0 (by omega))
    rw [this] at h
    rw [decide_eq_false h0]
    exact h
theorem c98_gen {n : Bool} {p : Nat} : Go.V.Call tab E 98 [.agg [us32 (limG p), .bool n]] [] (.bool n) [] := by
  refine Go.V.Call.mach i98 c98 rfl rfl rfl rfl ?_
  simp only [c98, us32, go_sem, ↓reduceIte, Nat.reduceEqDiff, Nat.reduceAdd, Nat.reduceMul, Nat.reduceLeDiff, Nat.reduceLT, Int.reduceToNat, Int.reduceLT, Int.reduceLE, reduceCtorEq, Nat.reduceBEq, sub, fillAll, fillIn, shiftR, shiftV, List.take_succ_cons, List.take_zero, List.drop_succ_cons, List.drop_zero, List.append_nil, Nat.zero_add]
  simp only [i98, Out, resAll, geto, ints, List.getElem?_cons_zero, List.getElem?_cons_succ, resOf, outOf, snap, snapL, ev, getE, List.mapM_cons, List.mapM_nil, Option.bind_some, Option.pure_def, Option.bind_eq_bind, Option.map_some, reduceIte, Nat.reduceEqDiff, true_and, and_true]
theorem c136_gen {n : Bool} {p : Nat} : Go.V.Call tab E 136 [.agg [us32 (limG p), .bool n]] [] (natC p) [] := by
  refine Go.V.Call.mach i136 c136 rfl rfl rfl rfl ?_
  simp only [c136, natC, us32, go_sem, ↓reduceIte, Nat.reduceEqDiff, Nat.reduceAdd, Nat.reduceMul, Nat.reduceLeDiff, Nat.reduceLT, Int.reduceToNat, Int.reduceLT, Int.reduceLE, reduceCtorEq, Nat.reduceBEq, sub, fillAll, fillIn, shiftR, shiftV, List.take_succ_cons, List.take_zero, List.drop_succ_cons, List.drop_zero, List.append_nil, Nat.zero_add]
  simp only [i136, Out, resAll, geto, ints, List.getElem?_cons_zero, List.getElem?_cons_succ, resOf, outOf, snap, snapL, ev, getE, List.mapM_cons, List.mapM_nil, Option.bind_some, Option.pure_def, Option.bind_eq_bind, Option.map_some, reduceIte, Nat.reduceEqDiff, true_and, and_true, sub, fillAll, fillIn, shiftR, shiftV, List.take_succ_cons, List.take_zero, List.drop_succ_cons, List.drop_zero, List.append_nil, Nat.zero_add, List.length_cons, List.length_nil, Nat.le_refl, us32]
theorem c100_gen {n : Bool} {p q : Nat} : Go.V.Call tab E 100 [.agg (ratG n p q)] [] (natC (dn q)) [] := by
  refine Go.V.Call.mach i100 c100 rfl rfl rfl rfl ?_
  have h124 := c124_nat (E := E) (n := q)
  simp only [natC, us32] at h124
  simp only [c100, natC, ratG, us32, go_sem, ↓reduceIte, Nat.reduceEqDiff, Nat.reduceAdd, Nat.reduceMul, Nat.reduceLeDiff, Nat.reduceLT, Int.reduceToNat, Int.reduceLT, Int.reduceLE, reduceCtorEq, Nat.reduceBEq, sub, fillAll, fillIn, shiftR, shiftV, List.take_succ_cons, List.take_zero, List.drop_succ_cons, List.drop_zero, List.append_nil, Nat.zero_add]
  refine goP h124 ?_
  by_cases h : q = 0
  · subst h
    have h90 := c90_nat (E := E) (n := 1) (by omega)
    simp only [natC, us32] at h90
    simp only [dn, us32, go_sem, ↓reduceIte, Nat.reduceEqDiff, Nat.reduceAdd, Nat.reduceMul, Nat.reduceLeDiff, Nat.reduceLT, Int.reduceToNat, Int.reduceLT, Int.reduceLE, reduceCtorEq, Nat.reduceBEq, sub, fillAll, fillIn, shiftR, shiftV, List.take_succ_cons, List.take_zero, List.drop_succ_cons, List.drop_zero, List.append_nil, Nat.zero_add]
    refine goP h90 ?_
    simp only [us32, go_sem, ↓reduceIte, Nat.reduceEqDiff, Nat.reduceAdd, Nat.reduceMul, Nat.reduceLeDiff, Nat.reduceLT, Int.reduceToNat, Int.reduceLT, Int.reduceLE, reduceCtorEq, Nat.reduceBEq, sub, fillAll, fillIn, shiftR, shiftV, List.take_succ_cons, List.take_zero, List.drop_succ_cons, List.drop_zero, List.append_nil, Nat.zero_add]
    simp only [i100, Out, resAll, geto, ints, List.getElem?_cons_zero, List.getElem?_cons_succ, resOf, outOf, snap, snapL, ev, getE, List.mapM_cons, List.mapM_nil, Option.bind_some, Option.pure_def, Option.bind_eq_bind, Option.map_some, reduceIte, Nat.reduceEqDiff, true_and, and_true, sub, fillAll, fillIn, shiftR, shiftV, List.take_succ_cons, List.take_zero, List.drop_succ_cons, List.drop_zero, List.append_nil, Nat.zero_add, List.length_cons, List.length_nil, Nat.le_refl, us32]
  · simp only [dn, us32, go_sem, ↓reduceIte, Nat.reduceEqDiff, Nat.reduceAdd, Nat.reduceMul, Nat.reduceLeDiff, Nat.reduceLT, Int.reduceToNat, Int.reduceLT, Int.reduceLE, reduceCtorEq, Nat.reduceBEq, sub, fillAll, fillIn, shiftR, shiftV, List.take_succ_cons, List.take_zero, List.drop_succ_cons, List.drop_zero, List.append_nil, Nat.zero_add, h]
    simp only [i100, Out, resAll, geto, ints, List.getElem?_cons_zero, List.getElem?_cons_succ, resOf, outOf, snap, snapL, ev, getE, List.mapM_cons, List.mapM_nil, Option.bind_some, Option.pure_def, Option.bind_eq_bind, Option.map_some, reduceIte, Nat.reduceEqDiff, true_and, and_true, sub, fillAll, fillIn, shiftR, shiftV, List.take_succ_cons, List.take_zero, List.drop_succ_cons, List.drop_zero, List.append_nil, Nat.zero_add, List.length_cons, List.length_nil, Nat.le_refl, us32]
theorem dgs_small {n : Nat} (h : n < lim2000) : (dgs n).length ≤ 1000000 := by
  by_cases h0 : n = 0
  · subst h0; rw [dgs_zero]; simp
  · have := lim2000_len h
    unfold decL at this
    rw [if_neg h0, List.length_reverse, asc_len] at this
    omega
theorem c99_lim {n : Nat} (h : n < lim2000) : Go.V.Call tab E 99 [natC n] [] (.str (dec n)) [] :=
  c99_ok (Nat.le_trans (lim2000_limbs h) (by omega)) (dgs_small h)
theorem c74_gen {n : Bool} {p q : Nat} (hp : p < lim2000) (hq : dn q < lim2000) : Go.V.Call tab E 74 [.agg (ratG n p q)] [] (.agg (numG n p (dn q))) [] := by
  have h99 := c99_lim (E := E) hp
  have h991 := c99_lim (E := E) hq
  have h98 := c98_gen (E := E) (n := n) (p := p)
  have h100 := c100_gen (E := E) (n := n) (p := p) (q := q)
  simp only [natC, us32, ratG] at h99 h991 h98 h100
  refine Go.V.Call.mach i74 c74 rfl rfl rfl rfl ?_
  simp only [c74, ratG, us32, go_sem, ↓reduceIte, Nat.reduceEqDiff, Nat.reduceAdd, Nat.reduceMul, Nat.reduceLeDiff, Nat.reduceLT, Int.reduceToNat, Int.reduceLT, Int.reduceLE, reduceCtorEq, Nat.reduceBEq, sub, fillAll, fillIn, shiftR, shiftV, List.take_succ_cons, List.take_zero, List.drop_succ_cons, List.drop_zero, List.append_nil, Nat.zero_add]
  refine goP h98 ?_
  simp only [us32, go_sem, ↓reduceIte, Nat.reduceEqDiff, Nat.reduceAdd, Nat.reduceMul, Nat.reduceLeDiff, Nat.reduceLT, Int.reduceToNat, Int.reduceLT, Int.reduceLE, reduceCtorEq, Nat.reduceBEq, sub, fillAll, fillIn, shiftR, shiftV, List.take_succ_cons, List.take_zero, List.drop_succ_cons, List.drop_zero, List.append_nil, Nat.zero_add]
  refine goP h99 ?_
  simp only [us32, go_sem, ↓reduceIte, Nat.reduceEqDiff, Nat.reduceAdd, Nat.reduceMul, Nat.reduceLeDiff, Nat.reduceLT, Int.reduceToNat, Int.reduceLT, Int.reduceLE, reduceCtorEq, Nat.reduceBEq, sub, fillAll, fillIn, shiftR, shiftV, List.take_succ_cons, List.take_zero, List.drop_succ_cons, List.drop_zero, List.append_nil, Nat.zero_add]
  refine goP h100 ?_
  simp only [us32, go_sem, ↓reduceIte, Nat.reduceEqDiff, Nat.reduceAdd, Nat.reduceMul, Nat.reduceLeDiff, Nat.reduceLT, Int.reduceToNat, Int.reduceLT, Int.reduceLE, reduceCtorEq, Nat.reduceBEq, sub, fillAll, fillIn, shiftR, shiftV, List.take_succ_cons, List.take_zero, List.drop_succ_cons, List.drop_zero, List.append_nil, Nat.zero_add]
  refine goP h991 ?_
  simp only [us32, go_sem, ↓reduceIte, Nat.reduceEqDiff, Nat.reduceAdd, Nat.reduceMul, Nat.reduceLeDiff, Nat.reduceLT, Int.reduceToNat, Int.reduceLT, Int.reduceLE, reduceCtorEq, Nat.reduceBEq, sub, fillAll, fillIn, shiftR, shiftV, List.take_succ_cons, List.take_zero, List.drop_succ_cons, List.drop_zero, List.append_nil, Nat.zero_add]
  simp only [i74, Out, resAll, geto, ints, List.getElem?_cons_zero, List.getElem?_cons_succ, resOf, outOf, snap, snapL, ev, getE, List.mapM_cons, List.mapM_nil, Option.bind_some, Option.pure_def, Option.bind_eq_bind, Option.map_some, reduceIte, Nat.reduceEqDiff, true_and, and_true, sub, fillAll, fillIn, shiftR, shiftV, List.take_succ_cons, List.take_zero, List.drop_succ_cons, List.drop_zero, List.append_nil, Nat.zero_add, List.length_cons, List.length_nil, Nat.le_refl, numG]
theorem c118_ok {n : Bool} {p : Nat} : Go.V.Call tab E 118 [.bool n, natC p] [] (.agg [us32 (limG p), .bool (n && decide (p ≠ 0))]) [] := by
  refine Go.V.Call.mach i118 c118 rfl rfl rfl rfl ?_
  have h124 := c124_nat (E := E) (n := p)
  simp only [natC, us32] at h124
  cases n with
  | false =>
    simp only [c118, natC, us32, go_sem, ↓reduceIte, Nat.reduceEqDiff, Nat.reduceAdd, Nat.reduceMul, Nat.reduceLeDiff, Nat.reduceLT, Int.reduceToNat, Int.reduceLT, Int.reduceLE, reduceCtorEq, Nat.reduceBEq, sub, fillAll, fillIn, shiftR, shiftV, List.take_succ_cons, List.take_zero, List.drop_succ_cons, List.drop_zero, List.append_nil, Nat.zero_add]
    simp only [i118, Out, resAll, geto, ints, List.getElem?_cons_zero, List.getElem?_cons_succ, resOf, outOf, snap, snapL, ev, getE, List.mapM_cons, List.mapM_nil, Option.bind_some, Option.pure_def, Option.bind_eq_bind, Option.map_some, reduceIte, Nat.reduceEqDiff, true_and, and_true, sub, fillAll, fillIn, shiftR, shiftV, List.take_succ_cons, List.take_zero, List.drop_succ_cons, List.drop_zero, List.append_nil, Nat.zero_add, List.length_cons, List.length_nil, Nat.le_refl, us32, Bool.false_and]
  | true =>
    simp only [c118, natC, us32, go_sem, ↓reduceIte, Nat.reduceEqDiff, Nat.reduceAdd, Nat.reduceMul, Nat.reduceLeDiff, Nat.reduceLT, Int.reduceToNat, Int.reduceLT, Int.reduceLE, reduceCtorEq, Nat.reduceBEq, sub, fillAll, fillIn, shiftR, shiftV, List.take_succ_cons, List.take_zero, List.drop_succ_cons, List.drop_zero, List.append_nil, Nat.zero_add]
    refine goP h124 ?_
    by_cases h : p = 0
    · subst h
      simp only [us32, go_sem, ↓reduceIte, Nat.reduceEqDiff, Nat.reduceAdd, Nat.reduceMul, Nat.reduceLeDiff, Nat.reduceLT, Int.reduceToNat, Int.reduceLT, Int.reduceLE, reduceCtorEq, Nat.reduceBEq, sub, fillAll, fillIn, shiftR, shiftV, List.take_succ_cons, List.take_zero, List.drop_succ_cons, List.drop_zero, List.append_nil, Nat.zero_add]
      simp only [i118, Out, resAll, geto, ints, List.getElem?_cons_zero, List.getElem?_cons_succ, resOf, outOf, snap, snapL, ev, getE, List.mapM_cons, List.mapM_nil, Option.bind_some, Option.pure_def, Option.bind_eq_bind, Option.map_some, reduceIte, Nat.reduceEqDiff, true_and, and_true, sub, fillAll, fillIn, shiftR, shiftV, List.take_succ_cons, List.take_zero, List.drop_succ_cons, List.drop_zero, List.append_nil, Nat.zero_add, List.length_cons, List.length_nil, Nat.le_refl, us32, Bool.true_and, decide_false, not_true_eq_false, ne_eq]
    · simp only [us32, go_sem, ↓reduceIte, Nat.reduceEqDiff, Nat.reduceAdd, Nat.reduceMul, Nat.reduceLeDiff, Nat.reduceLT, Int.reduceToNat, Int.reduceLT, Int.reduceLE, reduceCtorEq, Nat.reduceBEq, sub, fillAll, fillIn, shiftR, shiftV, List.take_succ_cons, List.take_zero, List.drop_succ_cons, List.drop_zero, List.append_nil, Nat.zero_add, h]
      simp only [i118, Out, resAll, geto, ints, List.getElem?_cons_zero, List.getElem?_cons_succ, resOf, outOf, snap, snapL, ev, getE, List.mapM_cons, List.mapM_nil, Option.bind_some, Option.pure_def, Option.bind_eq_bind, Option.map_some, reduceIte, Nat.reduceEqDiff, true_and, and_true, sub, fillAll, fillIn, shiftR, shiftV, List.take_succ_cons, List.take_zero, List.drop_succ_cons, List.drop_zero, List.append_nil, Nat.zero_add, List.length_cons, List.length_nil, Nat.le_refl, us32, Bool.true_and, decide_true, h, not_false_eq_true, ne_eq]
theorem c117_ok {n1 n2 : Bool} {p q : Nat} (hq : q ≠ 0) (hpl : (limG p).length ≤ 1000000) (hql : (limG q).length ≤ 1000000) :
    Go.V.Call tab E 117 [.agg [us32 (limG p), .bool n1], .agg [us32 (limG q), .bool n2]] [] (.tup [.agg (ratG ((n1 != n2) && decide (p / Nat.gcd p q ≠ 0)) (p / Nat.gcd p q) (q / Nat.gcd p q)), .bool true]) [] := by
  refine Go.V.Call.mach i117 c117 rfl rfl rfl rfl ?_
  have h124 := c124_nat (E := E) (n := q)
  rw [decide_eq_false hq] at h124
  have h136 := c136_gen (E := E) (n := n2) (p := q)
  have h135 := c135_ok (E := E) hpl hql
  have hg0 : Nat.gcd p q ≠ 0 := fun h => hq (Nat.eq_zero_of_gcd_eq_zero_right h)
  have hgl : (limG (Nat.gcd p q)).length ≤ 1000000 := by
    have := limG_mono (Nat.gcd_le_right p (Nat.pos_of_ne_zero hq))
    omega
  have h137p := c137_ok (E := E) hpl hgl hg0
  have h137q := c137_ok (E := E) hql hgl hg0
  generalize Nat.gcd p q = g at *
  have h981 := c98_gen (E := E) (n := n1) (p := p)
  have h982 := c98_gen (E := E) (n := n2) (p := q)
  have h118 := c118_ok (E := E) (n := n1 != n2) (p := p / g)
  generalize p / g = x at *
  generalize q / g = y at *
  simp only [natC, us32] at h124 h136 h135 h137p h137q h981 h982 h118
  have hb : boolV .ne (.bool n1) (.bool n2) = some (.bool (n1 != n2)) := by cases n1 <;> cases n2 <;> rfl
  simp only [c117, natC, us32, go_sem, ↓reduceIte, Nat.reduceEqDiff, Nat.reduceAdd, Nat.reduceMul, Nat.reduceLeDiff, Nat.reduceLT, Int.reduceToNat, Int.reduceLT, Int.reduceLE, reduceCtorEq, Nat.reduceBEq, sub, fillAll, fillIn, shiftR, shiftV, List.take_succ_cons, List.take_zero, List.drop_succ_cons, List.drop_zero, List.append_nil, Nat.zero_add]
  refine goP h124 ?_
  simp only [us32, go_sem, ↓reduceIte, Nat.reduceEqDiff, Nat.reduceAdd, Nat.reduceMul, Nat.reduceLeDiff, Nat.reduceLT, Int.reduceToNat, Int.reduceLT, Int.reduceLE, reduceCtorEq, Nat.reduceBEq, sub, fillAll, fillIn, shiftR, shiftV, List.take_succ_cons, List.take_zero, List.drop_succ_cons, List.drop_zero, List.append_nil, Nat.zero_add]
  refine goP h136 ?_
  simp only [us32, go_sem, ↓reduceIte, Nat.reduceEqDiff, Nat.reduceAdd, Nat.reduceMul, Nat.reduceLeDiff, Nat.reduceLT, Int.reduceToNat, Int.reduceLT, Int.reduceLE, reduceCtorEq, Nat.reduceBEq, sub, fillAll, fillIn, shiftR, shiftV, List.take_succ_cons, List.take_zero, List.drop_succ_cons, List.drop_zero, List.append_nil, Nat.zero_add]
  refine goP h135 ?_
  simp only [us32, go_sem, ↓reduceIte, Nat.reduceEqDiff, Nat.reduceAdd, Nat.reduceMul, Nat.reduceLeDiff, Nat.reduceLT, Int.reduceToNat, Int.reduceLT, Int.reduceLE, reduceCtorEq, Nat.reduceBEq, sub, fillAll, fillIn, shiftR, shiftV, List.take_succ_cons, List.take_zero, List.drop_succ_cons, List.drop_zero, List.append_nil, Nat.zero_add]
  refine goF h137p ?_
  simp only [us32, go_sem, ↓reduceIte, Nat.reduceEqDiff, Nat.reduceAdd, Nat.reduceMul, Nat.reduceLeDiff, Nat.reduceLT, Int.reduceToNat, Int.reduceLT, Int.reduceLE, reduceCtorEq, Nat.reduceBEq, sub, fillAll, fillIn, shiftR, shiftV, List.take_succ_cons, List.take_zero, List.drop_succ_cons, List.drop_zero, List.append_nil, Nat.zero_add]
  refine goF h137q ?_
  simp only [us32, go_sem, ↓reduceIte, Nat.reduceEqDiff, Nat.reduceAdd, Nat.reduceMul, Nat.reduceLeDiff, Nat.reduceLT, Int.reduceToNat, Int.reduceLT, Int.reduceLE, reduceCtorEq, Nat.reduceBEq, sub, fillAll, fillIn, shiftR, shiftV, List.take_succ_cons, List.take_zero, List.drop_succ_cons, List.drop_zero, List.append_nil, Nat.zero_add]
  refine goP h981 ?_
  simp only [us32, go_sem, ↓reduceIte, Nat.reduceEqDiff, Nat.reduceAdd, Nat.reduceMul, Nat.reduceLeDiff, Nat.reduceLT, Int.reduceToNat, Int.reduceLT, Int.reduceLE, reduceCtorEq, Nat.reduceBEq, sub, fillAll, fillIn, shiftR, shiftV, List.take_succ_cons, List.take_zero, List.drop_succ_cons, List.drop_zero, List.append_nil, Nat.zero_add]
  refine goP h982 ?_
  simp only [us32, go_sem, ↓reduceIte, Nat.reduceEqDiff, Nat.reduceAdd, Nat.reduceMul, Nat.reduceLeDiff, Nat.reduceLT, Int.reduceToNat, Int.reduceLT, Int.reduceLE, reduceCtorEq, Nat.reduceBEq, sub, fillAll, fillIn, shiftR, shiftV, List.take_succ_cons, List.take_zero, List.drop_succ_cons, List.drop_zero, List.append_nil, Nat.zero_add, hb]
  refine goF h118 ?_
  simp only [us32, go_sem, ↓reduceIte, Nat.reduceEqDiff, Nat.reduceAdd, Nat.reduceMul, Nat.reduceLeDiff, Nat.reduceLT, Int.reduceToNat, Int.reduceLT, Int.reduceLE, reduceCtorEq, Nat.reduceBEq, sub, fillAll, fillIn, shiftR, shiftV, List.take_succ_cons, List.take_zero, List.drop_succ_cons, List.drop_zero, List.append_nil, Nat.zero_add]
  simp only [i117, Out, resAll, geto, ints, List.getElem?_cons_zero, List.getElem?_cons_succ, resOf, outOf, snap, snapL, ev, getE, List.mapM_cons, List.mapM_nil, Option.bind_some, Option.pure_def, Option.bind_eq_bind, Option.map_some, reduceIte, Nat.reduceEqDiff, true_and, and_true, sub, fillAll, fillIn, shiftR, shiftV, List.take_succ_cons, List.take_zero, List.drop_succ_cons, List.drop_zero, List.append_nil, Nat.zero_add, List.length_cons, List.length_nil, Nat.le_refl, ratG, us32]
theorem c117_zero {n1 n2 : Bool} {p : Nat} : Go.V.Call tab E 117 [.agg [us32 (limG p), .bool n1], .agg [us32 (limG 0), .bool n2]] [] (.tup [.agg (ratG false 0 0), .bool false]) [] := by
  have h124 := c124_nat (E := E) (n := 0)
  rw [decide_eq_true rfl] at h124
  simp only [natC, us32, limG_zero] at h124
  simp only [ratG, us32, limG_zero]
  refine Go.V.Call.mach i117 c117 rfl rfl rfl rfl ?_
  simp only [c117, natC, us32, go_sem, ↓reduceIte, Nat.reduceEqDiff, Nat.reduceAdd, Nat.reduceMul, Nat.reduceLeDiff, Nat.reduceLT, Int.reduceToNat, Int.reduceLT, Int.reduceLE, reduceCtorEq, Nat.reduceBEq, sub, fillAll, fillIn, shiftR, shiftV, List.take_succ_cons, List.take_zero, List.drop_succ_cons, List.drop_zero, List.append_nil, Nat.zero_add]
  refine goP h124 ?_
  simp only [us32, go_sem, ↓reduceIte, Nat.reduceEqDiff, Nat.reduceAdd, Nat.reduceMul, Nat.reduceLeDiff, Nat.reduceLT, Int.reduceToNat, Int.reduceLT, Int.reduceLE, reduceCtorEq, Nat.reduceBEq, sub, fillAll, fillIn, shiftR, shiftV, List.take_succ_cons, List.take_zero, List.drop_succ_cons, List.drop_zero, List.append_nil, Nat.zero_add]
  simp only [i117, Out, resAll, geto, ints, List.getElem?_cons_zero, List.getElem?_cons_succ, resOf, outOf, snap, snapL, ev, getE, List.mapM_cons, List.mapM_nil, Option.bind_some, Option.pure_def, Option.bind_eq_bind, Option.map_some, reduceIte, Nat.reduceEqDiff, true_and, and_true, sub, fillAll, fillIn, shiftR, shiftV, List.take_succ_cons, List.take_zero, List.drop_succ_cons, List.drop_zero, List.append_nil, Nat.zero_add, List.length_cons, List.length_nil, Nat.le_refl, ratG, us32]
  rfl
/-- A right number on the page. -/
def RightN (n : Bool) (a b : List Int) : Prop := RightS a ∧ RightS b ∧ trimS a = a ∧ trimS b = b ∧ b ≠ [48] ∧ Nat.gcd (sval a) (sval b) = 1 ∧ ¬ (n = true ∧ a = [48])
theorem right_dec {a : List Int} (h : RightS a) (ht : trimS a = a) : bs a = dec (sval a) := by
  rw [dec_eq, ← trimS_dec h.1 (fun h0 => by have := h.2.1; rw [h0] at this; simp at this), ht]
theorem right_zero {a : List Int} (h : RightS a) (ht : trimS a = a) : sval a = 0 ↔ a = [48] := by
  have h1 : a = decL (sval a) := by
    rw [← trimS_dec h.1 (fun h0 => by have := h.2.1; rw [h0] at this; simp at this), ht]
  refine ⟨fun h0 => ?_, fun h0 => by rw [h0]; rfl⟩
  rw [h1, h0]
  rfl
theorem decL_right {n : Nat} (h : n < lim2000) : RightS (decL n) := ⟨decL_dig n, by
  have := decL_ne n
  rcases h : decL n with _ | ⟨x, y⟩
  · exact absurd h this
  · simp, lim2000_len h⟩
theorem trim_decL (n : Nat) : trimS (decL n) = decL n := by rw [trimS_dec (decL_dig n) (decL_ne n), sval_decL]
theorem str_eq' {a b : List Int} (ha : U8 a) (hb : U8 b) : strOp .eq (bs a) (bs b) = some (.bool (decide (a = b))) := by simp only [strOp, str_eq ha hb]
theorem str_ne' {a b : List Int} (ha : U8 a) (hb : U8 b) : strOp .ne (bs a) (bs b) = some (.bool (!decide (a = b))) := by simp only [strOp, str_eq ha hb]
theorem U8_48 {x : Int} (h : 0 ≤ x ∧ x < 256) : U8 [x] := fun y hy => by simp at hy; omega
theorem trimS_u8 {l : List Int} (h : U8 l) : U8 (trimS l) := by
  induction l with
  | nil => exact h
  | cons x l ih =>
    cases l with
    | nil => exact h
    | cons y l =>
      rw [trimS]
      split
      · exact ih (U8_cons.1 h).2
      · exact h
theorem c96_ok {n ok : Bool} {a b : List Int} (ha : U8 a) (hb : U8 b) (hal : a.length ≤ 1000000000) (hbl : b.length ≤ 1000000000) (hok : ok = true ↔ RightN n a b) :
    Go.V.Call tab E 96 [.agg [.bool n, .str (bs a), .str (bs b)]] [] (.bool ok) [] := by
  refine Go.V.Call.mach i96 c96 rfl rfl rfl rfl ?_
  have hfalse : ¬ RightN n a b → ok = false := fun h => by rw [← Bool.not_eq_true, hok]; exact h
  have e48 : (⟨#[48]⟩ : ByteArray) = bs [48] := rfl
  have e49 : (⟨#[49]⟩ : ByteArray) = bs [49] := rfl
  by_cases hRa : RightS a
  · have h119a := c119_ok (E := E) (b := true) ha hal ⟨fun _ => hRa, fun _ => rfl⟩
    by_cases hRb : RightS b
    · have h119b := c119_ok (E := E) (b := true) hb hbl ⟨fun _ => hRb, fun _ => rfl⟩
      have h120a := c120_S (E := E) ha hal
      have h120b := c120_S (E := E) hb hbl
      have na := str_ne' (trimS_u8 ha) ha
      have nb := str_ne' (trimS_u8 hb) hb
      have eb := str_eq' hb (U8_48 (x := 48) (by omega))
      have ea := str_eq' ha (U8_48 (x := 48) (by omega))
      rw [← e48] at eb ea
      by_cases hta : trimS a = a
      · by_cases htb : trimS b = b
        · by_cases hb48 : b = [48]
          · have := hfalse (fun h => h.2.2.2.2.1 hb48)
            subst this
            rw [decide_eq_true hta, Bool.not_true] at na
            rw [decide_eq_true htb, Bool.not_true] at nb
            rw [decide_eq_true hb48] at eb
            simp only [c96, go_sem, ↓reduceIte, Nat.reduceEqDiff, Nat.reduceAdd, Nat.reduceMul, Nat.reduceLeDiff, Nat.reduceLT, Int.reduceToNat, Int.reduceLT, Int.reduceLE, reduceCtorEq, Nat.reduceBEq, sub, fillAll, fillIn, shiftR, shiftV, List.take_succ_cons, List.take_zero, List.drop_succ_cons, List.drop_zero, List.append_nil, Nat.zero_add]
            refine goP h119a ?_
            simp only [go_sem, ↓reduceIte, Nat.reduceEqDiff, Nat.reduceAdd, Nat.reduceMul, Nat.reduceLeDiff, Nat.reduceLT, Int.reduceToNat, Int.reduceLT, Int.reduceLE, reduceCtorEq, Nat.reduceBEq, sub, fillAll, fillIn, shiftR, shiftV, List.take_succ_cons, List.take_zero, List.drop_succ_cons, List.drop_zero, List.append_nil, Nat.zero_add]
            refine goP h119b ?_
            simp only [go_sem, ↓reduceIte, Nat.reduceEqDiff, Nat.reduceAdd, Nat.reduceMul, Nat.reduceLeDiff, Nat.reduceLT, Int.reduceToNat, Int.reduceLT, Int.reduceLE, reduceCtorEq, Nat.reduceBEq, sub, fillAll, fillIn, shiftR, shiftV, List.take_succ_cons, List.take_zero, List.drop_succ_cons, List.drop_zero, List.append_nil, Nat.zero_add]
            refine goP h120a ?_
            simp only [go_sem, ↓reduceIte, Nat.reduceEqDiff, Nat.reduceAdd, Nat.reduceMul, Nat.reduceLeDiff, Nat.reduceLT, Int.reduceToNat, Int.reduceLT, Int.reduceLE, reduceCtorEq, Nat.reduceBEq, sub, fillAll, fillIn, shiftR, shiftV, List.take_succ_cons, List.take_zero, List.drop_succ_cons, List.drop_zero, List.append_nil, Nat.zero_add, na]
            refine goP h120b ?_
            simp only [go_sem, ↓reduceIte, Nat.reduceEqDiff, Nat.reduceAdd, Nat.reduceMul, Nat.reduceLeDiff, Nat.reduceLT, Int.reduceToNat, Int.reduceLT, Int.reduceLE, reduceCtorEq, Nat.reduceBEq, sub, fillAll, fillIn, shiftR, shiftV, List.take_succ_cons, List.take_zero, List.drop_succ_cons, List.drop_zero, List.append_nil, Nat.zero_add, nb, eb]
            simp only [i96, Out, resAll, geto, ints, List.getElem?_cons_zero, List.getElem?_cons_succ, resOf, outOf, snap, snapL, ev, getE, List.mapM_cons, List.mapM_nil, Option.bind_some, Option.pure_def, Option.bind_eq_bind, Option.map_some, reduceIte, Nat.reduceEqDiff, true_and, and_true]
          · have h121 := c121_ok (E := E) (a := sval a) (b := sval b) (Right_lim hRa) (Right_lim hRb)
            rw [← right_dec hRa hta, ← right_dec hRb htb, dec_eq] at h121
            have eg := str_eq' (decL_dig (Nat.gcd (sval a) (sval b))).u8 (U8_48 (x := 49) (by omega))
            rw [← e49] at eg
            have hg1 : decL (Nat.gcd (sval a) (sval b)) = [49] ↔ Nat.gcd (sval a) (sval b) = 1 := ⟨fun h => by rw [← sval_decL (Nat.gcd _ _), h]; rfl, fun h => by rw [h, decL_digit (by omega)]; rfl⟩
            rw [decide_eq_true hta, Bool.not_true] at na
            rw [decide_eq_true htb, Bool.not_true] at nb
            rw [decide_eq_false hb48] at eb
            have fin : ok = (decide (decL (Nat.gcd (sval a) (sval b)) = [49]) && !(n && decide (a = [48]))) := by
              rw [Bool.eq_iff_iff, hok]
              simp only [RightN, Bool.and_eq_true, decide_eq_true_eq, Bool.not_eq_true', Bool.and_eq_false_iff, decide_eq_false_iff_not, hg1]
              constructor
              · rintro ⟨_, _, _, _, _, h6, h7⟩
                refine ⟨h6, ?_⟩
                cases n with
                | false => exact .inl rfl
                | true => exact .inr (fun h => h7 ⟨rfl, h⟩)
              · rintro ⟨h6, h7⟩
                refine ⟨hRa, hRb, hta, htb, hb48, h6, ?_⟩
                rintro ⟨rfl, h8⟩
                rcases h7 with h7 | h7
                · cases h7
                · exact h7 h8
            simp only [c96, go_sem, ↓reduceIte, Nat.reduceEqDiff, Nat.reduceAdd, Nat.reduceMul, Nat.reduceLeDiff, Nat.reduceLT, Int.reduceToNat, Int.reduceLT, Int.reduceLE, reduceCtorEq, Nat.reduceBEq, sub, fillAll, fillIn, shiftR, shiftV, List.take_succ_cons, List.take_zero, List.drop_succ_cons, List.drop_zero, List.append_nil, Nat.zero_add]
            refine goP h119a ?_
            simp only [go_sem, ↓reduceIte, Nat.reduceEqDiff, Nat.reduceAdd, Nat.reduceMul, Nat.reduceLeDiff, Nat.reduceLT, Int.reduceToNat, Int.reduceLT, Int.reduceLE, reduceCtorEq, Nat.reduceBEq, sub, fillAll, fillIn, shiftR, shiftV, List.take_succ_cons, List.take_zero, List.drop_succ_cons, List.drop_zero, List.append_nil, Nat.zero_add]
            refine goP h119b ?_
            simp only [go_sem, ↓reduceIte, Nat.reduceEqDiff, Nat.reduceAdd, Nat.reduceMul, Nat.reduceLeDiff, Nat.reduceLT, Int.reduceToNat, Int.reduceLT, Int.reduceLE, reduceCtorEq, Nat.reduceBEq, sub, fillAll, fillIn, shiftR, shiftV, List.take_succ_cons, List.take_zero, List.drop_succ_cons, List.drop_zero, List.append_nil, Nat.zero_add]
            refine goP h120a ?_
            simp only [go_sem, ↓reduceIte, Nat.reduceEqDiff, Nat.reduceAdd, Nat.reduceMul, Nat.reduceLeDiff, Nat.reduceLT, Int.reduceToNat, Int.reduceLT, Int.reduceLE, reduceCtorEq, Nat.reduceBEq, sub, fillAll, fillIn, shiftR, shiftV, List.take_succ_cons, List.take_zero, List.drop_succ_cons, List.drop_zero, List.append_nil, Nat.zero_add, na]
            refine goP h120b ?_
            simp only [go_sem, ↓reduceIte, Nat.reduceEqDiff, Nat.reduceAdd, Nat.reduceMul, Nat.reduceLeDiff, Nat.reduceLT, Int.reduceToNat, Int.reduceLT, Int.reduceLE, reduceCtorEq, Nat.reduceBEq, sub, fillAll, fillIn, shiftR, shiftV, List.take_succ_cons, List.take_zero, List.drop_succ_cons, List.drop_zero, List.append_nil, Nat.zero_add, nb, eb]
            refine goP h121 ?_
            subst fin
            by_cases hg : decL (Nat.gcd (sval a) (sval b)) = [49]
            · rw [decide_eq_true hg] at eg ⊢
              cases n with
              | false =>
                simp only [go_sem, ↓reduceIte, Nat.reduceEqDiff, Nat.reduceAdd, Nat.reduceMul, Nat.reduceLeDiff, Nat.reduceLT, Int.reduceToNat, Int.reduceLT, Int.reduceLE, reduceCtorEq, Nat.reduceBEq, sub, fillAll, fillIn, shiftR, shiftV, List.take_succ_cons, List.take_zero, List.drop_succ_cons, List.drop_zero, List.append_nil, Nat.zero_add, eg]
                simp only [i96, Out, resAll, geto, ints, List.getElem?_cons_zero, List.getElem?_cons_succ, resOf, outOf, snap, snapL, ev, getE, List.mapM_cons, List.mapM_nil, Option.bind_some, Option.pure_def, Option.bind_eq_bind, Option.map_some, reduceIte, Nat.reduceEqDiff, true_and, and_true, Bool.false_and, Bool.not_false, Bool.true_and]
              | true =>
                cases hd : decide (a = [48])
                · rw [hd] at ea
                  simp only [go_sem, ↓reduceIte, Nat.reduceEqDiff, Nat.reduceAdd, Nat.reduceMul, Nat.reduceLeDiff, Nat.reduceLT, Int.reduceToNat, Int.reduceLT, Int.reduceLE, reduceCtorEq, Nat.reduceBEq, sub, fillAll, fillIn, shiftR, shiftV, List.take_succ_cons, List.take_zero, List.drop_succ_cons, List.drop_zero, List.append_nil, Nat.zero_add, eg, ea]
                  simp only [i96, Out, resAll, geto, ints, List.getElem?_cons_zero, List.getElem?_cons_succ, resOf, outOf, snap, snapL, ev, getE, List.mapM_cons, List.mapM_nil, Option.bind_some, Option.pure_def, Option.bind_eq_bind, Option.map_some, reduceIte, Nat.reduceEqDiff, true_and, and_true, Bool.true_and, Bool.not_false]
                · rw [hd] at ea
                  simp only [go_sem, ↓reduceIte, Nat.reduceEqDiff, Nat.reduceAdd, Nat.reduceMul, Nat.reduceLeDiff, Nat.reduceLT, Int.reduceToNat, Int.reduceLT, Int.reduceLE, reduceCtorEq, Nat.reduceBEq, sub, fillAll, fillIn, shiftR, shiftV, List.take_succ_cons, List.take_zero, List.drop_succ_cons, List.drop_zero, List.append_nil, Nat.zero_add, eg, ea]
                  simp only [i96, Out, resAll, geto, ints, List.getElem?_cons_zero, List.getElem?_cons_succ, resOf, outOf, snap, snapL, ev, getE, List.mapM_cons, List.mapM_nil, Option.bind_some, Option.pure_def, Option.bind_eq_bind, Option.map_some, reduceIte, Nat.reduceEqDiff, true_and, and_true, Bool.true_and, Bool.not_true]
            · rw [decide_eq_false hg] at eg ⊢
              simp only [go_sem, ↓reduceIte, Nat.reduceEqDiff, Nat.reduceAdd, Nat.reduceMul, Nat.reduceLeDiff, Nat.reduceLT, Int.reduceToNat, Int.reduceLT, Int.reduceLE, reduceCtorEq, Nat.reduceBEq, sub, fillAll, fillIn, shiftR, shiftV, List.take_succ_cons, List.take_zero, List.drop_succ_cons, List.drop_zero, List.append_nil, Nat.zero_add, eg]
              simp only [i96, Out, resAll, geto, ints, List.getElem?_cons_zero, List.getElem?_cons_succ, resOf, outOf, snap, snapL, ev, getE, List.mapM_cons, List.mapM_nil, Option.bind_some, Option.pure_def, Option.bind_eq_bind, Option.map_some, reduceIte, Nat.reduceEqDiff, true_and, and_true, Bool.false_and]
        · have := hfalse (fun h => htb h.2.2.2.1)
          subst this
          rw [decide_eq_true hta, Bool.not_true] at na
          rw [decide_eq_false htb, Bool.not_false] at nb
          simp only [c96, go_sem, ↓reduceIte, Nat.reduceEqDiff, Nat.reduceAdd, Nat.reduceMul, Nat.reduceLeDiff, Nat.reduceLT, Int.reduceToNat, Int.reduceLT, Int.reduceLE, reduceCtorEq, Nat.reduceBEq, sub, fillAll, fillIn, shiftR, shiftV, List.take_succ_cons, List.take_zero, List.drop_succ_cons, List.drop_zero, List.append_nil, Nat.zero_add]
          refine goP h119a ?_
          simp only [go_sem, ↓reduceIte, Nat.reduceEqDiff, Nat.reduceAdd, Nat.reduceMul, Nat.reduceLeDiff, Nat.reduceLT, Int.reduceToNat, Int.reduceLT, Int.reduceLE, reduceCtorEq, Nat.reduceBEq, sub, fillAll, fillIn, shiftR, shiftV, List.take_succ_cons, List.take_zero, List.drop_succ_cons, List.drop_zero, List.append_nil, Nat.zero_add]
          refine goP h119b ?_
          simp only [go_sem, ↓reduceIte, Nat.reduceEqDiff, Nat.reduceAdd, Nat.reduceMul, Nat.reduceLeDiff, Nat.reduceLT, Int.reduceToNat, Int.reduceLT, Int.reduceLE, reduceCtorEq, Nat.reduceBEq, sub, fillAll, fillIn, shiftR, shiftV, List.take_succ_cons, List.take_zero, List.drop_succ_cons, List.drop_zero, List.append_nil, Nat.zero_add]
          refine goP h120a ?_
          simp only [go_sem, ↓reduceIte, Nat.reduceEqDiff, Nat.reduceAdd, Nat.reduceMul, Nat.reduceLeDiff, Nat.reduceLT, Int.reduceToNat, Int.reduceLT, Int.reduceLE, reduceCtorEq, Nat.reduceBEq, sub, fillAll, fillIn, shiftR, shiftV, List.take_succ_cons, List.take_zero, List.drop_succ_cons, List.drop_zero, List.append_nil, Nat.zero_add, na]
          refine goP h120b ?_
          simp only [go_sem, ↓reduceIte, Nat.reduceEqDiff, Nat.reduceAdd, Nat.reduceMul, Nat.reduceLeDiff, Nat.reduceLT, Int.reduceToNat, Int.reduceLT, Int.reduceLE, reduceCtorEq, Nat.reduceBEq, sub, fillAll, fillIn, shiftR, shiftV, List.take_succ_cons, List.take_zero, List.drop_succ_cons, List.drop_zero, List.append_nil, Nat.zero_add, nb]
          simp only [i96, Out, resAll, geto, ints, List.getElem?_cons_zero, List.getElem?_cons_succ, resOf, outOf, snap, snapL, ev, getE, List.mapM_cons, List.mapM_nil, Option.bind_some, Option.pure_def, Option.bind_eq_bind, Option.map_some, reduceIte, Nat.reduceEqDiff, true_and, and_true]
      · have := hfalse (fun h => hta h.2.2.1)
        subst this
        rw [decide_eq_false hta, Bool.not_false] at na
        simp only [c96, go_sem, ↓reduceIte, Nat.reduceEqDiff, Nat.reduceAdd, Nat.reduceMul, Nat.reduceLeDiff, Nat.reduceLT, Int.reduceToNat, Int.reduceLT, Int.reduceLE, reduceCtorEq, Nat.reduceBEq, sub, fillAll, fillIn, shiftR, shiftV, List.take_succ_cons, List.take_zero, List.drop_succ_cons, List.drop_zero, List.append_nil, Nat.zero_add]
        refine goP h119a ?_
        simp only [go_sem, ↓reduceIte, Nat.reduceEqDiff, Nat.reduceAdd, Nat.reduceMul, Nat.reduceLeDiff, Nat.reduceLT, Int.reduceToNat, Int.reduceLT, Int.reduceLE, reduceCtorEq, Nat.reduceBEq, sub, fillAll, fillIn, shiftR, shiftV, List.take_succ_cons, List.take_zero, List.drop_succ_cons, List.drop_zero, List.append_nil, Nat.zero_add]
        refine goP h119b ?_
        simp only [go_sem, ↓reduceIte, Nat.reduceEqDiff, Nat.reduceAdd, Nat.reduceMul, Nat.reduceLeDiff, Nat.reduceLT, Int.reduceToNat, Int.reduceLT, Int.reduceLE, reduceCtorEq, Nat.reduceBEq, sub, fillAll, fillIn, shiftR, shiftV, List.take_succ_cons, List.take_zero, List.drop_succ_cons, List.drop_zero, List.append_nil, Nat.zero_add]
        refine goP h120a ?_
        simp only [go_sem, ↓reduceIte, Nat.reduceEqDiff, Nat.reduceAdd, Nat.reduceMul, Nat.reduceLeDiff, Nat.reduceLT, Int.reduceToNat, Int.reduceLT, Int.reduceLE, reduceCtorEq, Nat.reduceBEq, sub, fillAll, fillIn, shiftR, shiftV, List.take_succ_cons, List.take_zero, List.drop_succ_cons, List.drop_zero, List.append_nil, Nat.zero_add, na]
        simp only [i96, Out, resAll, geto, ints, List.getElem?_cons_zero, List.getElem?_cons_succ, resOf, outOf, snap, snapL, ev, getE, List.mapM_cons, List.mapM_nil, Option.bind_some, Option.pure_def, Option.bind_eq_bind, Option.map_some, reduceIte, Nat.reduceEqDiff, true_and, and_true]
    · have h119b := c119_ok (E := E) (b := false) hb hbl ⟨fun h => (by cases h), fun h => absurd h hRb⟩
      have := hfalse (fun h => hRb h.2.1)
      subst this
      simp only [c96, go_sem, ↓reduceIte, Nat.reduceEqDiff, Nat.reduceAdd, Nat.reduceMul, Nat.reduceLeDiff, Nat.reduceLT, Int.reduceToNat, Int.reduceLT, Int.reduceLE, reduceCtorEq, Nat.reduceBEq, sub, fillAll, fillIn, shiftR, shiftV, List.take_succ_cons, List.take_zero, List.drop_succ_cons, List.drop_zero, List.append_nil, Nat.zero_add]
      refine goP h119a ?_
      simp only [go_sem, ↓reduceIte, Nat.reduceEqDiff, Nat.reduceAdd, Nat.reduceMul, Nat.reduceLeDiff, Nat.reduceLT, Int.reduceToNat, Int.reduceLT, Int.reduceLE, reduceCtorEq, Nat.reduceBEq, sub, fillAll, fillIn, shiftR, shiftV, List.take_succ_cons, List.take_zero, List.drop_succ_cons, List.drop_zero, List.append_nil, Nat.zero_add]
      refine goP h119b ?_
      simp only [go_sem, ↓reduceIte, Nat.reduceEqDiff, Nat.reduceAdd, Nat.reduceMul, Nat.reduceLeDiff, Nat.reduceLT, Int.reduceToNat, Int.reduceLT, Int.reduceLE, reduceCtorEq, Nat.reduceBEq, sub, fillAll, fillIn, shiftR, shiftV, List.take_succ_cons, List.take_zero, List.drop_succ_cons, List.drop_zero, List.append_nil, Nat.zero_add]
      simp only [i96, Out, resAll, geto, ints, List.getElem?_cons_zero, List.getElem?_cons_succ, resOf, outOf, snap, snapL, ev, getE, List.mapM_cons, List.mapM_nil, Option.bind_some, Option.pure_def, Option.bind_eq_bind, Option.map_some, reduceIte, Nat.reduceEqDiff, true_and, and_true]
  · have h119a := c119_ok (E := E) (b := false) ha hal ⟨fun h => (by cases h), fun h => absurd h hRa⟩
    have := hfalse (fun h => hRa h.1)
    subst this
    simp only [c96, go_sem, ↓reduceIte, Nat.reduceEqDiff, Nat.reduceAdd, Nat.reduceMul, Nat.reduceLeDiff, Nat.reduceLT, Int.reduceToNat, Int.reduceLT, Int.reduceLE, reduceCtorEq, Nat.reduceBEq, sub, fillAll, fillIn, shiftR, shiftV, List.take_succ_cons, List.take_zero, List.drop_succ_cons, List.drop_zero, List.append_nil, Nat.zero_add]
    refine goP h119a ?_
    simp only [go_sem, ↓reduceIte, Nat.reduceEqDiff, Nat.reduceAdd, Nat.reduceMul, Nat.reduceLeDiff, Nat.reduceLT, Int.reduceToNat, Int.reduceLT, Int.reduceLE, reduceCtorEq, Nat.reduceBEq, sub, fillAll, fillIn, shiftR, shiftV, List.take_succ_cons, List.take_zero, List.drop_succ_cons, List.drop_zero, List.append_nil, Nat.zero_add]
    simp only [i96, Out, resAll, geto, ints, List.getElem?_cons_zero, List.getElem?_cons_succ, resOf, outOf, snap, snapL, ev, getE, List.mapM_cons, List.mapM_nil, Option.bind_some, Option.pure_def, Option.bind_eq_bind, Option.map_some, reduceIte, Nat.reduceEqDiff, true_and, and_true]
end
end Go.Proofs.Ytcmbaabkfihdmaa.I

/- Layer 7: the document's count. -/
set_option linter.unusedVariables false
set_option linter.unusedSimpArgs false
namespace Go.Proofs.Ytcmbaabkfihdmaa.I
open Go Go.V
section
variable {E : CallRel}

theorem max1 {d : Int} : max 1 d = if 1 ≤ d then d else 1 := by rw [Int.max_def]
theorem mul_bound {a b A B : Int} (h1 : 0 ≤ a) (h2 : a ≤ A) (h3 : 0 ≤ b) (h4 : b ≤ B) : 0 ≤ a * b ∧ a * b ≤ A * B :=
  ⟨Int.mul_nonneg h1 h3, Int.mul_le_mul h2 h4 h3 (by omega)⟩

theorem c17_ok {s : List Int} (hs : ∀ d ∈ s, In64 d) (hl : (s.length : Int) ≤ 9223372036854775806) : Go.V.Call tab E 17 [ints s] [] (optP (count s)) [] := by
  refine Go.V.Call.mach i17 c17 rfl rfl rfl rfl ?_
  simp only [c17, mNil, nat0, beq_self_eq_true, mSkip, mRet, mExit, mReg, mSeq, mCond, mTrue, mFalse, mBlock, mLv, mCodeE, mCodeR, mEndN, mEndR, mEndE, mOps, mSome, mGuard, mGtt, mGff, mGtf, mGft, mGu, mCallP, mCallR, mCallF, mCallO, mCallZ, mCallG, mCallM, mCallV, loopQ_exit, loopQ_ret, mO_mov, mO_newnil, mO_pick, mO_alloc, mO_box, mO_build, mO_bsl, mO_ldf, mO_ld, mO_st, mO_sta, mO_nilchk, mO_bin, mO_binb, mO_binp, mO_bins, mO_neg, mO_com, mO_not, mO_conv, mO_mk, mO_mk0, mO_s2b, mO_b2s, mO_cpy, mO_cut, mO_faddr, mO_fld, mO_iaddr, mO_iaddrf, mO_sidx, mO_len, mO_lenf, mO_slen, mO_scut, mO_app, mO_ext, mO_mx, mO_mn, mO_mkfn, evalOp, cutOp, argsE, ev, getE, putE, cellsOf, adopt, rowOf, binV, boolV, nilV, ar_add, ar_sub, ar_mul, ar_quo, ar_rem, ar_eq, ar_ne, ar_lt, ar_le, ar_gt, ar_ge, ar_and, ar_or, ar_xor, geto, bound, finRet, finNrm, ints, List.length_cons, List.length_nil, List.length_append, List.getElem?_cons_zero, List.getElem?_cons_succ, List.nil_append, List.cons_append, List.map_cons, List.map_nil, List.mapM_cons, List.mapM_nil, Option.map_some, Option.map_none, Option.bind_some, Option.pure_def, Option.bind_eq_bind, List.drop_zero, ↓reduceIte, Nat.reduceEqDiff, Nat.reduceAdd, Nat.reduceMul, Nat.reduceLeDiff, Nat.reduceLT, Int.reduceToNat, Int.reduceLT, Int.reduceLE, reduceCtorEq, or_self, or_false, false_or, or_true, true_or, true_and, and_true, and_self, decide_true, decide_false, Bool.false_eq_true, Bool.true_eq_false, Bool.not_true, Bool.not_false, Nat.le_refl, eq_self, gt_iff_lt, ge_iff_le, ne_eq, not_true_eq_false, not_false_eq_true]
  refine mLoop (fun N st => ∃ (k : Nat) (most n : Int), k ≤ s.length ∧ k ≤ 8 ∧ N = s.length - k ∧ 1 ≤ most ∧ most ≤ 4096 ∧ 0 ≤ n ∧ n ≤ most ∧ cnt 1 1 s = cnt most n (s.drop k) ∧
    st = ⟨[(0, ints s), (4, .int .i64 most), (5, .int .i64 n), (6, .int .i64 k)], []⟩) s.length ⟨_, rfl, 0, 1, 1, by omega, by omega, by omega, by omega, by omega, by omega, by omega, by simp, rfl⟩ ?_
  rintro N s0 ⟨k, most, n, hk, hk8, rfl, h1, h2, h3, h4, h5, rfl⟩
  by_cases hlt : k < s.length
  · have hlt' : (k : Int) < (s.length : Int) := by omega
    have hk0 : (0 : Int) ≤ (k : Int) := by omega
    have hk1 : IntKind.i64.wrap ((k : Int) + 1) = ((k + 1 : Nat) : Int) := by rw [wrap_i64 (by omega) (by omega)]; omega
    have hd := getD_in hs hlt
    rw [getD_drop hlt] at h5
    have hsub := sub_nums (k := .i64) hlt
    generalize s.getD k 0 = d at *
    by_cases he8 : 8 ≤ k
    · have he8' : (8 : Int) ≤ (k : Int) := by omega
      have : count s = none := by rw [count, if_pos (by omega)]
      simp only [b17_0, mNil, nat0, beq_self_eq_true, mSkip, mRet, mExit, mReg, mSeq, mCond, mTrue, mFalse, mBlock, mLv, mCodeE, mCodeR, mEndN, mEndR, mEndE, mOps, mSome, mGuard, mGtt, mGff, mGtf, mGft, mGu, mCallP, mCallR, mCallF, mCallO, mCallZ, mCallG, mCallM, mCallV, loopQ_exit, loopQ_ret, mO_mov, mO_newnil, mO_pick, mO_alloc, mO_box, mO_build, mO_bsl, mO_ldf, mO_ld, mO_st, mO_sta, mO_nilchk, mO_bin, mO_binb, mO_binp, mO_bins, mO_neg, mO_com, mO_not, mO_conv, mO_mk, mO_mk0, mO_s2b, mO_b2s, mO_cpy, mO_cut, mO_faddr, mO_fld, mO_iaddr, mO_iaddrf, mO_sidx, mO_len, mO_lenf, mO_slen, mO_scut, mO_app, mO_ext, mO_mx, mO_mn, mO_mkfn, evalOp, cutOp, argsE, ev, getE, putE, cellsOf, adopt, rowOf, binV, boolV, nilV, ar_add, ar_sub, ar_mul, ar_quo, ar_rem, ar_eq, ar_ne, ar_lt, ar_le, ar_gt, ar_ge, ar_and, ar_or, ar_xor, geto, bound, finRet, finNrm, ints, List.length_cons, List.length_nil, List.length_append, List.getElem?_cons_zero, List.getElem?_cons_succ, List.nil_append, List.cons_append, List.map_cons, List.map_nil, List.mapM_cons, List.mapM_nil, Option.map_some, Option.map_none, Option.bind_some, Option.pure_def, Option.bind_eq_bind, List.drop_zero, ↓reduceIte, Nat.reduceEqDiff, Nat.reduceAdd, Nat.reduceMul, Nat.reduceLeDiff, Nat.reduceLT, Int.reduceToNat, Int.reduceLT, Int.reduceLE, reduceCtorEq, or_self, or_false, false_or, or_true, true_or, true_and, and_true, and_self, decide_true, decide_false, Bool.false_eq_true, Bool.true_eq_false, Bool.not_true, Bool.not_false, Nat.le_refl, eq_self, gt_iff_lt, ge_iff_le, ne_eq, not_true_eq_false, not_false_eq_true, hlt', he8']
      simp only [i17, Out, resAll, geto, ints, List.getElem?_cons_zero, List.getElem?_cons_succ, resOf, outOf, snap, snapL, ev, getE, List.mapM_cons, List.mapM_nil, Option.bind_some, Option.pure_def, Option.bind_eq_bind, Option.map_some, reduceIte, Nat.reduceEqDiff, true_and, and_true, this, optP]
    · have he8' : ¬ (8 : Int) ≤ (k : Int) := by omega
      have none_of : (d < 0 ∨ 4096 < most * max 1 d) → count s = none := by
        intro h
        rw [count, h5, cnt, if_pos h]
        split <;> rfl
      by_cases hneg : d < 0
      · simp only [b17_0, mNil, nat0, beq_self_eq_true, mSkip, mRet, mExit, mReg, mSeq, mCond, mTrue, mFalse, mBlock, mLv, mCodeE, mCodeR, mEndN, mEndR, mEndE, mOps, mSome, mGuard, mGtt, mGff, mGtf, mGft, mGu, mCallP, mCallR, mCallF, mCallO, mCallZ, mCallG, mCallM, mCallV, loopQ_exit, loopQ_ret, mO_mov, mO_newnil, mO_pick, mO_alloc, mO_box, mO_build, mO_bsl, mO_ldf, mO_ld, mO_st, mO_sta, mO_nilchk, mO_bin, mO_binb, mO_binp, mO_bins, mO_neg, mO_com, mO_not, mO_conv, mO_mk, mO_mk0, mO_s2b, mO_b2s, mO_cpy, mO_cut, mO_faddr, mO_fld, mO_iaddr, mO_iaddrf, mO_sidx, mO_len, mO_lenf, mO_slen, mO_scut, mO_app, mO_ext, mO_mx, mO_mn, mO_mkfn, evalOp, cutOp, argsE, ev, getE, putE, cellsOf, adopt, rowOf, binV, boolV, nilV, ar_add, ar_sub, ar_mul, ar_quo, ar_rem, ar_eq, ar_ne, ar_lt, ar_le, ar_gt, ar_ge, ar_and, ar_or, ar_xor, geto, bound, finRet, finNrm, ints, List.length_cons, List.length_nil, List.length_append, List.getElem?_cons_zero, List.getElem?_cons_succ, List.nil_append, List.cons_append, List.map_cons, List.map_nil, List.mapM_cons, List.mapM_nil, Option.map_some, Option.map_none, Option.bind_some, Option.pure_def, Option.bind_eq_bind, List.drop_zero, ↓reduceIte, Nat.reduceEqDiff, Nat.reduceAdd, Nat.reduceMul, Nat.reduceLeDiff, Nat.reduceLT, Int.reduceToNat, Int.reduceLT, Int.reduceLE, reduceCtorEq, or_self, or_false, false_or, or_true, true_or, true_and, and_true, and_self, decide_true, decide_false, Bool.false_eq_true, Bool.true_eq_false, Bool.not_true, Bool.not_false, Nat.le_refl, eq_self, gt_iff_lt, ge_iff_le, ne_eq, not_true_eq_false, not_false_eq_true, hlt', he8', hk0, Int.toNat_natCast, hsub, hneg]
        simp only [i17, Out, resAll, geto, ints, List.getElem?_cons_zero, List.getElem?_cons_succ, resOf, outOf, snap, snapL, ev, getE, List.mapM_cons, List.mapM_nil, Option.bind_some, Option.pure_def, Option.bind_eq_bind, Option.map_some, reduceIte, Nat.reduceEqDiff, true_and, and_true, none_of (.inl hneg), optP]
      · by_cases hbig : 4096 < d
        · have : count s = none := none_of (.inr (by
            rw [max1, if_pos (by omega)]
            have := Int.mul_le_mul_of_nonneg_right (a := 1) (b := most) (c := d) h1 (by omega)
            omega))
          simp only [b17_0, mNil, nat0, beq_self_eq_true, mSkip, mRet, mExit, mReg, mSeq, mCond, mTrue, mFalse, mBlock, mLv, mCodeE, mCodeR, mEndN, mEndR, mEndE, mOps, mSome, mGuard, mGtt, mGff, mGtf, mGft, mGu, mCallP, mCallR, mCallF, mCallO, mCallZ, mCallG, mCallM, mCallV, loopQ_exit, loopQ_ret, mO_mov, mO_newnil, mO_pick, mO_alloc, mO_box, mO_build, mO_bsl, mO_ldf, mO_ld, mO_st, mO_sta, mO_nilchk, mO_bin, mO_binb, mO_binp, mO_bins, mO_neg, mO_com, mO_not, mO_conv, mO_mk, mO_mk0, mO_s2b, mO_b2s, mO_cpy, mO_cut, mO_faddr, mO_fld, mO_iaddr, mO_iaddrf, mO_sidx, mO_len, mO_lenf, mO_slen, mO_scut, mO_app, mO_ext, mO_mx, mO_mn, mO_mkfn, evalOp, cutOp, argsE, ev, getE, putE, cellsOf, adopt, rowOf, binV, boolV, nilV, ar_add, ar_sub, ar_mul, ar_quo, ar_rem, ar_eq, ar_ne, ar_lt, ar_le, ar_gt, ar_ge, ar_and, ar_or, ar_xor, geto, bound, finRet, finNrm, ints, List.length_cons, List.length_nil, List.length_append, List.getElem?_cons_zero, List.getElem?_cons_succ, List.nil_append, List.cons_append, List.map_cons, List.map_nil, List.mapM_cons, List.mapM_nil, Option.map_some, Option.map_none, Option.bind_some, Option.pure_def, Option.bind_eq_bind, List.drop_zero, ↓reduceIte, Nat.reduceEqDiff, Nat.reduceAdd, Nat.reduceMul, Nat.reduceLeDiff, Nat.reduceLT, Int.reduceToNat, Int.reduceLT, Int.reduceLE, reduceCtorEq, or_self, or_false, false_or, or_true, true_or, true_and, and_true, and_self, decide_true, decide_false, Bool.false_eq_true, Bool.true_eq_false, Bool.not_true, Bool.not_false, Nat.le_refl, eq_self, gt_iff_lt, ge_iff_le, ne_eq, not_true_eq_false, not_false_eq_true, hlt', he8', hk0, Int.toNat_natCast, hsub, hneg, hbig]
          simp only [i17, Out, resAll, geto, ints, List.getElem?_cons_zero, List.getElem?_cons_succ, resOf, outOf, snap, snapL, ev, getE, List.mapM_cons, List.mapM_nil, Option.bind_some, Option.pure_def, Option.bind_eq_bind, Option.map_some, reduceIte, Nat.reduceEqDiff, true_and, and_true, this, optP]
        · have hnd := mul_bound h3 (Int.le_trans h4 h2) (show 0 ≤ d by omega) (show d ≤ 4096 by omega)
          have hmd := mul_bound (show 0 ≤ most by omega) h2 (show 0 ≤ d by omega) (show d ≤ 4096 by omega)
          have hw1 : IntKind.i64.wrap (n * d) = n * d := wrap_i64 (by omega) (by omega)
          have hw2 : IntKind.i64.wrap (most * d) = most * d := wrap_i64 (by omega) (by omega)
          by_cases hpos : 0 < d
          · have hm : most * max 1 d = most * d := by rw [max1, if_pos (by omega)]
            by_cases hov : 4096 < most * d
            · simp only [b17_0, mNil, nat0, beq_self_eq_true, mSkip, mRet, mExit, mReg, mSeq, mCond, mTrue, mFalse, mBlock, mLv, mCodeE, mCodeR, mEndN, mEndR, mEndE, mOps, mSome, mGuard, mGtt, mGff, mGtf, mGft, mGu, mCallP, mCallR, mCallF, mCallO, mCallZ, mCallG, mCallM, mCallV, loopQ_exit, loopQ_ret, mO_mov, mO_newnil, mO_pick, mO_alloc, mO_box, mO_build, mO_bsl, mO_ldf, mO_ld, mO_st, mO_sta, mO_nilchk, mO_bin, mO_binb, mO_binp, mO_bins, mO_neg, mO_com, mO_not, mO_conv, mO_mk, mO_mk0, mO_s2b, mO_b2s, mO_cpy, mO_cut, mO_faddr, mO_fld, mO_iaddr, mO_iaddrf, mO_sidx, mO_len, mO_lenf, mO_slen, mO_scut, mO_app, mO_ext, mO_mx, mO_mn, mO_mkfn, evalOp, cutOp, argsE, ev, getE, putE, cellsOf, adopt, rowOf, binV, boolV, nilV, ar_add, ar_sub, ar_mul, ar_quo, ar_rem, ar_eq, ar_ne, ar_lt, ar_le, ar_gt, ar_ge, ar_and, ar_or, ar_xor, geto, bound, finRet, finNrm, ints, List.length_cons, List.length_nil, List.length_append, List.getElem?_cons_zero, List.getElem?_cons_succ, List.nil_append, List.cons_append, List.map_cons, List.map_nil, List.mapM_cons, List.mapM_nil, Option.map_some, Option.map_none, Option.bind_some, Option.pure_def, Option.bind_eq_bind, List.drop_zero, ↓reduceIte, Nat.reduceEqDiff, Nat.reduceAdd, Nat.reduceMul, Nat.reduceLeDiff, Nat.reduceLT, Int.reduceToNat, Int.reduceLT, Int.reduceLE, reduceCtorEq, or_self, or_false, false_or, or_true, true_or, true_and, and_true, and_self, decide_true, decide_false, Bool.false_eq_true, Bool.true_eq_false, Bool.not_true, Bool.not_false, Nat.le_refl, eq_self, gt_iff_lt, ge_iff_le, ne_eq, not_true_eq_false, not_false_eq_true, hlt', he8', hk0, Int.toNat_natCast, hsub, hneg, hbig, hw1, hw2, hpos, hov]
              simp only [i17, Out, resAll, geto, ints, List.getElem?_cons_zero, List.getElem?_cons_succ, resOf, outOf, snap, snapL, ev, getE, List.mapM_cons, List.mapM_nil, Option.bind_some, Option.pure_def, Option.bind_eq_bind, Option.map_some, reduceIte, Nat.reduceEqDiff, true_and, and_true, none_of (.inr (by rw [hm]; exact hov)), optP]
            · have g1 : 1 ≤ most * d := by
                have := Int.mul_le_mul_of_nonneg_left (a := 1) (b := d) (c := most) (by omega) (by omega)
                omega
              have g2 : n * d ≤ most * d := Int.mul_le_mul_of_nonneg_right h4 (by omega)
              have g3 : cnt 1 1 s = cnt (most * d) (n * d) (s.drop (k + 1)) := by rw [h5, cnt, if_neg (by rw [hm]; omega), hm]
              simp only [b17_0, mNil, nat0, beq_self_eq_true, mSkip, mRet, mExit, mReg, mSeq, mCond, mTrue, mFalse, mBlock, mLv, mCodeE, mCodeR, mEndN, mEndR, mEndE, mOps, mSome, mGuard, mGtt, mGff, mGtf, mGft, mGu, mCallP, mCallR, mCallF, mCallO, mCallZ, mCallG, mCallM, mCallV, loopQ_exit, loopQ_ret, mO_mov, mO_newnil, mO_pick, mO_alloc, mO_box, mO_build, mO_bsl, mO_ldf, mO_ld, mO_st, mO_sta, mO_nilchk, mO_bin, mO_binb, mO_binp, mO_bins, mO_neg, mO_com, mO_not, mO_conv, mO_mk, mO_mk0, mO_s2b, mO_b2s, mO_cpy, mO_cut, mO_faddr, mO_fld, mO_iaddr, mO_iaddrf, mO_sidx, mO_len, mO_lenf, mO_slen, mO_scut, mO_app, mO_ext, mO_mx, mO_mn, mO_mkfn, evalOp, cutOp, argsE, ev, getE, putE, cellsOf, adopt, rowOf, binV, boolV, nilV, ar_add, ar_sub, ar_mul, ar_quo, ar_rem, ar_eq, ar_ne, ar_lt, ar_le, ar_gt, ar_ge, ar_and, ar_or, ar_xor, geto, bound, finRet, finNrm, ints, List.length_cons, List.length_nil, List.length_append, List.getElem?_cons_zero, List.getElem?_cons_succ, List.nil_append, List.cons_append, List.map_cons, List.map_nil, List.mapM_cons, List.mapM_nil, Option.map_some, Option.map_none, Option.bind_some, Option.pure_def, Option.bind_eq_bind, List.drop_zero, ↓reduceIte, Nat.reduceEqDiff, Nat.reduceAdd, Nat.reduceMul, Nat.reduceLeDiff, Nat.reduceLT, Int.reduceToNat, Int.reduceLT, Int.reduceLE, reduceCtorEq, or_self, or_false, false_or, or_true, true_or, true_and, and_true, and_self, decide_true, decide_false, Bool.false_eq_true, Bool.true_eq_false, Bool.not_true, Bool.not_false, Nat.le_refl, eq_self, gt_iff_lt, ge_iff_le, ne_eq, not_true_eq_false, not_false_eq_true, hlt', he8', hk0, Int.toNat_natCast, hsub, hneg, hbig, hw1, hw2, hpos, hov, hk1]
              exact loopQ_go rfl (s.length - (k + 1)) (by omega) ⟨k + 1, most * d, n * d, by omega, by omega, rfl, g1, by omega, hnd.1, g2, g3, rfl⟩
          · obtain rfl : d = 0 := by omega
            have g3 : cnt 1 1 s = cnt most 0 (s.drop (k + 1)) := by rw [h5, cnt, if_neg (by rw [max1]; simp; omega)]; simp [max1]
            have hnov : ¬ 4096 < most := by omega
            simp only [b17_0, mNil, nat0, beq_self_eq_true, mSkip, mRet, mExit, mReg, mSeq, mCond, mTrue, mFalse, mBlock, mLv, mCodeE, mCodeR, mEndN, mEndR, mEndE, mOps, mSome, mGuard, mGtt, mGff, mGtf, mGft, mGu, mCallP, mCallR, mCallF, mCallO, mCallZ, mCallG, mCallM, mCallV, loopQ_exit, loopQ_ret, mO_mov, mO_newnil, mO_pick, mO_alloc, mO_box, mO_build, mO_bsl, mO_ldf, mO_ld, mO_st, mO_sta, mO_nilchk, mO_bin, mO_binb, mO_binp, mO_bins, mO_neg, mO_com, mO_not, mO_conv, mO_mk, mO_mk0, mO_s2b, mO_b2s, mO_cpy, mO_cut, mO_faddr, mO_fld, mO_iaddr, mO_iaddrf, mO_sidx, mO_len, mO_lenf, mO_slen, mO_scut, mO_app, mO_ext, mO_mx, mO_mn, mO_mkfn, evalOp, cutOp, argsE, ev, getE, putE, cellsOf, adopt, rowOf, binV, boolV, nilV, ar_add, ar_sub, ar_mul, ar_quo, ar_rem, ar_eq, ar_ne, ar_lt, ar_le, ar_gt, ar_ge, ar_and, ar_or, ar_xor, geto, bound, finRet, finNrm, ints, List.length_cons, List.length_nil, List.length_append, List.getElem?_cons_zero, List.getElem?_cons_succ, List.nil_append, List.cons_append, List.map_cons, List.map_nil, List.mapM_cons, List.mapM_nil, Option.map_some, Option.map_none, Option.bind_some, Option.pure_def, Option.bind_eq_bind, List.drop_zero, ↓reduceIte, Nat.reduceEqDiff, Nat.reduceAdd, Nat.reduceMul, Nat.reduceLeDiff, Nat.reduceLT, Int.reduceToNat, Int.reduceLT, Int.reduceLE, reduceCtorEq, or_self, or_false, false_or, or_true, true_or, true_and, and_true, and_self, decide_true, decide_false, Bool.false_eq_true, Bool.true_eq_false, Bool.not_true, Bool.not_false, Nat.le_refl, eq_self, gt_iff_lt, ge_iff_le, ne_eq, not_true_eq_false, not_false_eq_true, hlt', he8', hk0, Int.toNat_natCast, hsub, hneg, hbig, hw1, hw2, hpos, hnov, hk1]
            exact loopQ_go rfl (s.length - (k + 1)) (by omega) ⟨k + 1, most, n * 0, by omega, by omega, rfl, h1, h2, by simp, by simp; omega, by simpa using g3, rfl⟩
  · have hlt' : ¬ (k : Int) < (s.length : Int) := by omega
    obtain rfl : k = s.length := by omega
    have : count s = some n := by rw [count, if_neg (by omega), h5, List.drop_length, cnt]
    simp only [b17_0, k17_0, mNil, nat0, beq_self_eq_true, mSkip, mRet, mExit, mReg, mSeq, mCond, mTrue, mFalse, mBlock, mLv, mCodeE, mCodeR, mEndN, mEndR, mEndE, mOps, mSome, mGuard, mGtt, mGff, mGtf, mGft, mGu, mCallP, mCallR, mCallF, mCallO, mCallZ, mCallG, mCallM, mCallV, loopQ_exit, loopQ_ret, mO_mov, mO_newnil, mO_pick, mO_alloc, mO_box, mO_build, mO_bsl, mO_ldf, mO_ld, mO_st, mO_sta, mO_nilchk, mO_bin, mO_binb, mO_binp, mO_bins, mO_neg, mO_com, mO_not, mO_conv, mO_mk, mO_mk0, mO_s2b, mO_b2s, mO_cpy, mO_cut, mO_faddr, mO_fld, mO_iaddr, mO_iaddrf, mO_sidx, mO_len, mO_lenf, mO_slen, mO_scut, mO_app, mO_ext, mO_mx, mO_mn, mO_mkfn, evalOp, cutOp, argsE, ev, getE, putE, cellsOf, adopt, rowOf, binV, boolV, nilV, ar_add, ar_sub, ar_mul, ar_quo, ar_rem, ar_eq, ar_ne, ar_lt, ar_le, ar_gt, ar_ge, ar_and, ar_or, ar_xor, geto, bound, finRet, finNrm, ints, List.length_cons, List.length_nil, List.length_append, List.getElem?_cons_zero, List.getElem?_cons_succ, List.nil_append, List.cons_append, List.map_cons, List.map_nil, List.mapM_cons, List.mapM_nil, Option.map_some, Option.map_none, Option.bind_some, Option.pure_def, Option.bind_eq_bind, List.drop_zero, ↓reduceIte, Nat.reduceEqDiff, Nat.reduceAdd, Nat.reduceMul, Nat.reduceLeDiff, Nat.reduceLT, Int.reduceToNat, Int.reduceLT, Int.reduceLE, reduceCtorEq, or_self, or_false, false_or, or_true, true_or, true_and, and_true, and_self, decide_true, decide_false, Bool.false_eq_true, Bool.true_eq_false, Bool.not_true, Bool.not_false, Nat.le_refl, eq_self, gt_iff_lt, ge_iff_le, ne_eq, not_true_eq_false, not_false_eq_true, hlt']
    simp only [i17, Out, resAll, geto, ints, List.getElem?_cons_zero, List.getElem?_cons_succ, resOf, outOf, snap, snapL, ev, getE, List.mapM_cons, List.mapM_nil, Option.bind_some, Option.pure_def, Option.bind_eq_bind, Option.map_some, reduceIte, Nat.reduceEqDiff, true_and, and_true, this, optP]
end
end Go.Proofs.Ytcmbaabkfihdmaa.I

/- Two lists of numbers: are they the same? -/
set_option linter.unusedVariables false
set_option linter.unusedSimpArgs false
namespace Go.Proofs.Ytcmbaabkfihdmaa.I
open Go Go.V
section
variable {E : CallRel}
theorem c23_ok {s t : List Int} (hs : (s.length : Int) ≤ 1000000000000000) (ht : (t.length : Int) ≤ 1000000000000000) : Go.V.Call tab E 23 [ints s, ints t] [] (.bool (decide (s = t))) [] := by
  refine Go.V.Call.mach i23 c23 rfl rfl rfl rfl ?_
  by_cases hl : s.length = t.length
  · have hl' : (s.length : Int) = (t.length : Int) := by omega
    simp only [c23, mNil, nat0, beq_self_eq_true, mSkip, mRet, mExit, mReg, mSeq, mCond, mTrue, mFalse, mBlock, mLv, mCodeE, mCodeR, mEndN, mEndR, mEndE, mOps, mSome, mGuard, mGtt, mGff, mGtf, mGft, mGu, mCallP, mCallR, mCallF, mCallO, mCallZ, mCallG, mCallM, mCallV, loopQ_exit, loopQ_ret, mO_mov, mO_newnil, mO_pick, mO_alloc, mO_box, mO_build, mO_bsl, mO_ldf, mO_ld, mO_st, mO_sta, mO_nilchk, mO_bin, mO_binb, mO_binp, mO_bins, mO_neg, mO_com, mO_not, mO_conv, mO_mk, mO_mk0, mO_s2b, mO_b2s, mO_cpy, mO_cut, mO_faddr, mO_fld, mO_iaddr, mO_iaddrf, mO_sidx, mO_len, mO_lenf, mO_slen, mO_scut, mO_app, mO_ext, mO_mx, mO_mn, mO_mkfn, evalOp, cutOp, argsE, ev, getE, putE, cellsOf, adopt, rowOf, binV, boolV, nilV, ar_add, ar_sub, ar_mul, ar_quo, ar_rem, ar_eq, ar_ne, ar_lt, ar_le, ar_gt, ar_ge, ar_and, ar_or, ar_xor, geto, bound, finRet, finNrm, ints, List.length_cons, List.length_nil, List.length_append, List.getElem?_cons_zero, List.getElem?_cons_succ, List.nil_append, List.cons_append, List.map_cons, List.map_nil, List.mapM_cons, List.mapM_nil, Option.map_some, Option.map_none, Option.bind_some, Option.pure_def, Option.bind_eq_bind, List.drop_zero, ↓reduceIte, Nat.reduceEqDiff, Nat.reduceAdd, Nat.reduceMul, Nat.reduceLeDiff, Nat.reduceLT, Int.reduceToNat, Int.reduceLT, Int.reduceLE, reduceCtorEq, or_self, or_false, false_or, or_true, true_or, true_and, and_true, and_self, decide_true, decide_false, Bool.false_eq_true, Bool.true_eq_false, Bool.not_true, Bool.not_false, Nat.le_refl, eq_self, gt_iff_lt, ge_iff_le, ne_eq, not_true_eq_false, not_false_eq_true, hl', bne_self_eq_false]
    refine mLoop (fun N st => ∃ (k : Nat), k ≤ s.length ∧ N = s.length - k ∧ s.take k = t.take k ∧
      st = ⟨[(0, ints s), (1, ints t), (5, .int .i64 k)], []⟩) s.length ⟨_, rfl, 0, by omega, by omega, by simp, rfl⟩ ?_
    rintro N s0 ⟨k, hk, rfl, hp, rfl⟩
    by_cases hlt : k < s.length
    · have hlt' : (k : Int) < (t.length : Int) := by omega
      have hlt2 : k < t.length := by omega
      have hk0 : (0 : Int) ≤ (k : Int) := by omega
      have hk1 : IntKind.i64.wrap ((k : Int) + 1) = ((k + 1 : Nat) : Int) := by rw [wrap_i64 (by omega) (by omega)]; omega
      have hsub := sub_nums (k := .i64) hlt
      have hsub2 := sub_nums (k := .i64) hlt2
      by_cases he : s.getD k 0 = t.getD k 0
      · simp only [b23_0, mNil, nat0, beq_self_eq_true, mSkip, mRet, mExit, mReg, mSeq, mCond, mTrue, mFalse, mBlock, mLv, mCodeE, mCodeR, mEndN, mEndR, mEndE, mOps, mSome, mGuard, mGtt, mGff, mGtf, mGft, mGu, mCallP, mCallR, mCallF, mCallO, mCallZ, mCallG, mCallM, mCallV, loopQ_exit, loopQ_ret, mO_mov, mO_newnil, mO_pick, mO_alloc, mO_box, mO_build, mO_bsl, mO_ldf, mO_ld, mO_st, mO_sta, mO_nilchk, mO_bin, mO_binb, mO_binp, mO_bins, mO_neg, mO_com, mO_not, mO_conv, mO_mk, mO_mk0, mO_s2b, mO_b2s, mO_cpy, mO_cut, mO_faddr, mO_fld, mO_iaddr, mO_iaddrf, mO_sidx, mO_len, mO_lenf, mO_slen, mO_scut, mO_app, mO_ext, mO_mx, mO_mn, mO_mkfn, evalOp, cutOp, argsE, ev, getE, putE, cellsOf, adopt, rowOf, binV, boolV, nilV, ar_add, ar_sub, ar_mul, ar_quo, ar_rem, ar_eq, ar_ne, ar_lt, ar_le, ar_gt, ar_ge, ar_and, ar_or, ar_xor, geto, bound, finRet, finNrm, ints, List.length_cons, List.length_nil, List.length_append, List.getElem?_cons_zero, List.getElem?_cons_succ, List.nil_append, List.cons_append, List.map_cons, List.map_nil, List.mapM_cons, List.mapM_nil, Option.map_some, Option.map_none, Option.bind_some, Option.pure_def, Option.bind_eq_bind, List.drop_zero, ↓reduceIte, Nat.reduceEqDiff, Nat.reduceAdd, Nat.reduceMul, Nat.reduceLeDiff, Nat.reduceLT, Int.reduceToNat, Int.reduceLT, Int.reduceLE, reduceCtorEq, or_self, or_false, false_or, or_true, true_or, true_and, and_true, and_self, decide_true, decide_false, Bool.false_eq_true, Bool.true_eq_false, Bool.not_true, Bool.not_false, Nat.le_refl, eq_self, gt_iff_lt, ge_iff_le, ne_eq, not_true_eq_false, not_false_eq_true, hl', hlt', hk0, Int.toNat_natCast, hsub, hsub2, he, bne_self_eq_false, hk1]
        refine loopQ_go (rfl) (s.length - (k + 1)) (by omega) ⟨k + 1, by omega, rfl, ?_, rfl⟩
        rw [List.take_add_one, List.take_add_one, hp]
        congr 1
        have h1 : s[k]? = some (s.getD k 0) := by simp [List.getD, hlt]
        have h2 : t[k]? = some (t.getD k 0) := by simp [List.getD, hlt2]
        rw [h1, h2, he]
      · have he' : (s.getD k 0 != t.getD k 0) = true := by simpa using he
        have hne : s ≠ t := fun h => he (by rw [h])
        simp only [b23_0, mNil, nat0, beq_self_eq_true, mSkip, mRet, mExit, mReg, mSeq, mCond, mTrue, mFalse, mBlock, mLv, mCodeE, mCodeR, mEndN, mEndR, mEndE, mOps, mSome, mGuard, mGtt, mGff, mGtf, mGft, mGu, mCallP, mCallR, mCallF, mCallO, mCallZ, mCallG, mCallM, mCallV, loopQ_exit, loopQ_ret, mO_mov, mO_newnil, mO_pick, mO_alloc, mO_box, mO_build, mO_bsl, mO_ldf, mO_ld, mO_st, mO_sta, mO_nilchk, mO_bin, mO_binb, mO_binp, mO_bins, mO_neg, mO_com, mO_not, mO_conv, mO_mk, mO_mk0, mO_s2b, mO_b2s, mO_cpy, mO_cut, mO_faddr, mO_fld, mO_iaddr, mO_iaddrf, mO_sidx, mO_len, mO_lenf, mO_slen, mO_scut, mO_app, mO_ext, mO_mx, mO_mn, mO_mkfn, evalOp, cutOp, argsE, ev, getE, putE, cellsOf, adopt, rowOf, binV, boolV, nilV, ar_add, ar_sub, ar_mul, ar_quo, ar_rem, ar_eq, ar_ne, ar_lt, ar_le, ar_gt, ar_ge, ar_and, ar_or, ar_xor, geto, bound, finRet, finNrm, ints, List.length_cons, List.length_nil, List.length_append, List.getElem?_cons_zero, List.getElem?_cons_succ, List.nil_append, List.cons_append, List.map_cons, List.map_nil, List.mapM_cons, List.mapM_nil, Option.map_some, Option.map_none, Option.bind_some, Option.pure_def, Option.bind_eq_bind, List.drop_zero, ↓reduceIte, Nat.reduceEqDiff, Nat.reduceAdd, Nat.reduceMul, Nat.reduceLeDiff, Nat.reduceLT, Int.reduceToNat, Int.reduceLT, Int.reduceLE, reduceCtorEq, or_self, or_false, false_or, or_true, true_or, true_and, and_true, and_self, decide_true, decide_false, Bool.false_eq_true, Bool.true_eq_false, Bool.not_true, Bool.not_false, Nat.le_refl, eq_self, gt_iff_lt, ge_iff_le, ne_eq, not_true_eq_false, not_false_eq_true, hl', hlt', hk0, Int.toNat_natCast, hsub, hsub2, he']
        simp only [i23, Out, resAll, geto, ints, List.getElem?_cons_zero, List.getElem?_cons_succ, resOf, outOf, snap, snapL, ev, getE, List.mapM_cons, List.mapM_nil, Option.bind_some, Option.pure_def, Option.bind_eq_bind, Option.map_some, reduceIte, Nat.reduceEqDiff, true_and, and_true, hne, decide_false]
    · have hlt' : ¬ (k : Int) < (t.length : Int) := by omega
      have heq : s = t := by
        rw [List.take_of_length_le (by omega), List.take_of_length_le (by omega)] at hp
        exact hp
      simp only [b23_0, k23_0, mNil, nat0, beq_self_eq_true, mSkip, mRet, mExit, mReg, mSeq, mCond, mTrue, mFalse, mBlock, mLv, mCodeE, mCodeR, mEndN, mEndR, mEndE, mOps, mSome, mGuard, mGtt, mGff, mGtf, mGft, mGu, mCallP, mCallR, mCallF, mCallO, mCallZ, mCallG, mCallM, mCallV, loopQ_exit, loopQ_ret, mO_mov, mO_newnil, mO_pick, mO_alloc, mO_box, mO_build, mO_bsl, mO_ldf, mO_ld, mO_st, mO_sta, mO_nilchk, mO_bin, mO_binb, mO_binp, mO_bins, mO_neg, mO_com, mO_not, mO_conv, mO_mk, mO_mk0, mO_s2b, mO_b2s, mO_cpy, mO_cut, mO_faddr, mO_fld, mO_iaddr, mO_iaddrf, mO_sidx, mO_len, mO_lenf, mO_slen, mO_scut, mO_app, mO_ext, mO_mx, mO_mn, mO_mkfn, evalOp, cutOp, argsE, ev, getE, putE, cellsOf, adopt, rowOf, binV, boolV, nilV, ar_add, ar_sub, ar_mul, ar_quo, ar_rem, ar_eq, ar_ne, ar_lt, ar_le, ar_gt, ar_ge, ar_and, ar_or, ar_xor, geto, bound, finRet, finNrm, ints, List.length_cons, List.length_nil, List.length_append, List.getElem?_cons_zero, List.getElem?_cons_succ, List.nil_append, List.cons_append, List.map_cons, List.map_nil, List.mapM_cons, List.mapM_nil, Option.map_some, Option.map_none, Option.bind_some, Option.pure_def, Option.bind_eq_bind, List.drop_zero, ↓reduceIte, Nat.reduceEqDiff, Nat.reduceAdd, Nat.reduceMul, Nat.reduceLeDiff, Nat.reduceLT, Int.reduceToNat, Int.reduceLT, Int.reduceLE, reduceCtorEq, or_self, or_false, false_or, or_true, true_or, true_and, and_true, and_self, decide_true, decide_false, Bool.false_eq_true, Bool.true_eq_false, Bool.not_true, Bool.not_false, Nat.le_refl, eq_self, gt_iff_lt, ge_iff_le, ne_eq, not_true_eq_false, not_false_eq_true, hl', hlt']
      simp only [i23, Out, resAll, geto, ints, List.getElem?_cons_zero, List.getElem?_cons_succ, resOf, outOf, snap, snapL, ev, getE, List.mapM_cons, List.mapM_nil, Option.bind_some, Option.pure_def, Option.bind_eq_bind, Option.map_some, reduceIte, Nat.reduceEqDiff, true_and, and_true, heq, decide_true]
  · have hl' : ((s.length : Int) != (t.length : Int)) = true := by simp; omega
    have hne : s ≠ t := fun h => hl (by rw [h])
    simp only [c23, mNil, nat0, beq_self_eq_true, mSkip, mRet, mExit, mReg, mSeq, mCond, mTrue, mFalse, mBlock, mLv, mCodeE, mCodeR, mEndN, mEndR, mEndE, mOps, mSome, mGuard, mGtt, mGff, mGtf, mGft, mGu, mCallP, mCallR, mCallF, mCallO, mCallZ, mCallG, mCallM, mCallV, loopQ_exit, loopQ_ret, mO_mov, mO_newnil, mO_pick, mO_alloc, mO_box, mO_build, mO_bsl, mO_ldf, mO_ld, mO_st, mO_sta, mO_nilchk, mO_bin, mO_binb, mO_binp, mO_bins, mO_neg, mO_com, mO_not, mO_conv, mO_mk, mO_mk0, mO_s2b, mO_b2s, mO_cpy, mO_cut, mO_faddr, mO_fld, mO_iaddr, mO_iaddrf, mO_sidx, mO_len, mO_lenf, mO_slen, mO_scut, mO_app, mO_ext, mO_mx, mO_mn, mO_mkfn, evalOp, cutOp, argsE, ev, getE, putE, cellsOf, adopt, rowOf, binV, boolV, nilV, ar_add, ar_sub, ar_mul, ar_quo, ar_rem, ar_eq, ar_ne, ar_lt, ar_le, ar_gt, ar_ge, ar_and, ar_or, ar_xor, geto, bound, finRet, finNrm, ints, List.length_cons, List.length_nil, List.length_append, List.getElem?_cons_zero, List.getElem?_cons_succ, List.nil_append, List.cons_append, List.map_cons, List.map_nil, List.mapM_cons, List.mapM_nil, Option.map_some, Option.map_none, Option.bind_some, Option.pure_def, Option.bind_eq_bind, List.drop_zero, ↓reduceIte, Nat.reduceEqDiff, Nat.reduceAdd, Nat.reduceMul, Nat.reduceLeDiff, Nat.reduceLT, Int.reduceToNat, Int.reduceLT, Int.reduceLE, reduceCtorEq, or_self, or_false, false_or, or_true, true_or, true_and, and_true, and_self, decide_true, decide_false, Bool.false_eq_true, Bool.true_eq_false, Bool.not_true, Bool.not_false, Nat.le_refl, eq_self, gt_iff_lt, ge_iff_le, ne_eq, not_true_eq_false, not_false_eq_true, hl']
    simp only [i23, Out, resAll, geto, ints, List.getElem?_cons_zero, List.getElem?_cons_succ, resOf, outOf, snap, snapL, ev, getE, List.mapM_cons, List.mapM_nil, Option.bind_some, Option.pure_def, Option.bind_eq_bind, Option.map_some, reduceIte, Nat.reduceEqDiff, true_and, and_true, hne, decide_false]
end
end Go.Proofs.Ytcmbaabkfihdmaa.I

/- Layer 6: arrays, and what the page says of them. -/
set_option linter.unusedVariables false
set_option linter.unusedSimpArgs false
namespace Go.Proofs.Ytcmbaabkfihdmaa.I
open Go Go.V
attribute [local go_sem] mNil nat0 beq_self_eq_true mSkip mRet mExit mReg mSeq mCond mTrue mFalse mBlock mLv mCodeE mCodeR mEndN mEndR mEndE mOps mSome mGuard mGtt mGff mGtf mGft mGu mCallP mCallR mCallF mCallO mCallZ mCallG mCallM mCallV loopQ_exit loopQ_ret mO_mov mO_newnil mO_pick mO_alloc mO_box mO_build mO_bsl mO_ldf mO_ld mO_st mO_sta mO_nilchk mO_bin mO_binb mO_binp mO_bins mO_neg mO_com mO_not mO_conv mO_mk mO_mk0 mO_s2b mO_b2s mO_cpy mO_cut mO_faddr mO_fld mO_iaddr mO_iaddrf mO_sidx mO_len mO_lenf mO_slen mO_scut mO_app mO_ext mO_mx mO_mn mO_mkfn evalOp cutOp argsE ev getE putE cellsOf adopt rowOf binV boolV nilV ar_add ar_sub ar_mul ar_quo ar_rem ar_eq ar_ne ar_lt ar_le ar_gt ar_ge ar_and ar_or ar_xor geto bound finRet finNrm ints List.length_cons List.length_nil List.length_append List.getElem?_cons_zero List.getElem?_cons_succ List.nil_append List.cons_append List.map_cons List.map_nil List.mapM_cons List.mapM_nil Option.map_some Option.map_none Option.bind_some Option.pure_def Option.bind_eq_bind List.drop_zero or_self or_false false_or or_true true_or true_and and_true and_self decide_true decide_false Bool.false_eq_true Bool.true_eq_false Bool.not_true Bool.not_false Nat.le_refl eq_self gt_iff_lt ge_iff_le ne_eq not_true_eq_false not_false_eq_true storeOp apartOf freeze_nil refsL refs List.flatMap_cons List.flatMap_nil List.append_nil List.contains_nil List.set_cons_zero List.set_cons_succ snap snapL fill_nums flat_nums nums_length Go.V.freeze List.mapIdx_cons List.mapIdx_nil List.contains_cons Bool.or_false Bool.false_or Bool.or_true Bool.true_or
def runes (t : List Int) : AV := .sl t.length 1 (nums .i32 t)
def arrG (s : List Int) (ch : Bool) (t l : List Int) : List AV := [ints s, .bool ch, runes t, .sl l.length 3 (ratsC l), .bool true]
def numsC (l : List Int) : List AV := l.flatMap numC
def plG (s : List Int) (ch : Bool) (t l : List Int) : List AV := [ints s, .bool ch, runes t, .sl l.length 3 (numsC l)]
def noA : List AV := [.sl 0 1 [], .bool false, .sl 0 1 [], .sl 0 3 [], .bool false]
theorem numsC_len {l : List Int} : (numsC l).length = l.length * 3 := by
  induction l with
  | nil => rfl
  | cons z l ih =>
    have : numsC (z :: l) = numC z ++ numsC l := rfl
    rw [this, List.length_append, ih]
    simp [numC]
    omega
theorem numsC_get : ∀ {l : List Int} {i : Nat}, i < l.length → ((numsC l).drop (i * 3)).take 3 = numC (l.getD i 0)
  | [], i, h => by simp at h
  | z :: l, 0, _ => by
    have : numsC (z :: l) = numC z ++ numsC l := rfl
    rw [this, Nat.zero_mul, List.drop_zero]
    simp [numC]
  | z :: l, i + 1, h => by
    have : numsC (z :: l) = numC z ++ numsC l := rfl
    rw [this, Nat.succ_mul, List.drop_append]
    have e : (numC z).length = 3 := rfl
    rw [List.drop_eq_nil_of_le (by rw [e]; omega), e, Nat.add_sub_cancel, List.nil_append, numsC_get (by simpa using h)]
    simp
theorem sub_numsC {l : List Int} {i : Nat} (h : i < l.length) : sub true 3 (numsC l) (i * 3) = some (.agg (numC (l.getD i 0))) := by
  simp only [sub, numsC_len, if_true]
  rw [if_pos (by omega), numsC_get h]
theorem numsC_snoc {l : List Int} {z : Int} : numsC (l ++ [z]) = numsC l ++ numC z := by simp [numsC]
theorem beqBA {a : ByteArray} : (a == a) = true := by
  obtain ⟨⟨l⟩⟩ := a
  show ((⟨l⟩ : Array UInt8) == ⟨l⟩) = true
  simp
theorem same_numC {z : Int} : structV .ne [0, 2, 2] (.agg (numC z)) (.agg (numC z)) = some (.bool false) := by
  simp [structV, numC, kindOf, scalarsEq, scalEq, beqBA]
theorem dgs_bound : ∀ {k n : Nat}, n < 10 ^ k → (dgs n).length ≤ k
  | 0, n, h => by
    have : n = 0 := by simpa using h
    subst this
    rw [dgs_zero]; simp
  | k + 1, n, h => by
    by_cases h0 : n = 0
    · subst h0; rw [dgs_zero]; simp
    · rw [dgs_pos h0, List.length_cons]
      have := dgs_bound (k := k) (n := n / 10) (by rw [Nat.pow_succ] at h; omega)
      omega
theorem lim_len {n : Nat} : (lim n).length ≤ 2 := by
  unfold lim
  split
  · simp
  · split <;> simp
theorem dec1 : dec 1 = ⟨#[49]⟩ := by
  have : dgs 1 = [1] := by rw [dgs_pos (by omega)]; rw [show 1 / 10 = 0 from rfl, dgs_zero]; rfl
  rw [dec, if_neg (by omega), this]
  rfl
section
variable {E : CallRel}
theorem c99_small {n : Nat} (h : n < 18446744073709551616) : Go.V.Call tab E 99 [.agg [us32 (lim n)]] [] (.str (dec n)) [] := by
  have h1 := lim_len (n := n)
  have h2 := dgs_bound (k := 20) (n := n) (by omega)
  have h3 := c99_ok (E := E) (n := n) (by rw [← lim_limG h]; omega) (by omega)
  rwa [← lim_limG h] at h3
theorem c74_ok {z : Int} (hz : In64 z) : Go.V.Call tab E 74 [.agg (ratC z)] [] (.agg (numC z)) [] := by
  have hz' := hz
  obtain ⟨hz1, hz2⟩ := hz'
  have h99 := c99_small (E := E) (n := z.natAbs) (by omega)
  have h991 := c99_small (E := E) (n := 1) (by omega)
  rw [dec1, lim1] at h991
  have h98 : Go.V.Call tab E 98 [.agg [us32 (lim z.natAbs), .bool (decide (z < 0))]] [] (.bool (decide (z < 0))) [] := by
    refine Go.V.Call.mach i98 c98 rfl rfl rfl rfl ?_
    simp only [c98, us32, go_sem, ↓reduceIte, Nat.reduceEqDiff, Nat.reduceAdd, Nat.reduceMul, Nat.reduceLeDiff, Nat.reduceLT, Int.reduceToNat, Int.reduceLT, Int.reduceLE, reduceCtorEq, Nat.reduceBEq, sub, fillAll, fillIn, shiftR, shiftV, List.take_succ_cons, List.take_zero, List.drop_succ_cons, List.drop_zero, List.append_nil, Nat.zero_add]
    simp only [i98, Out, resAll, geto, ints, List.getElem?_cons_zero, List.getElem?_cons_succ, resOf, outOf, snap, snapL, ev, getE, List.mapM_cons, List.mapM_nil, Option.bind_some, Option.pure_def, Option.bind_eq_bind, Option.map_some, reduceIte, Nat.reduceEqDiff, true_and, and_true]
  refine Go.V.Call.mach i74 c74 rfl rfl rfl rfl ?_
  simp only [c74, ratC, us32, go_sem, ↓reduceIte, Nat.reduceEqDiff, Nat.reduceAdd, Nat.reduceMul, Nat.reduceLeDiff, Nat.reduceLT, Int.reduceToNat, Int.reduceLT, Int.reduceLE, reduceCtorEq, Nat.reduceBEq, sub, fillAll, fillIn, shiftR, shiftV, List.take_succ_cons, List.take_zero, List.drop_succ_cons, List.drop_zero, List.append_nil, Nat.zero_add]
  refine goP h98 ?_
  simp only [us32, go_sem, ↓reduceIte, Nat.reduceEqDiff, Nat.reduceAdd, Nat.reduceMul, Nat.reduceLeDiff, Nat.reduceLT, Int.reduceToNat, Int.reduceLT, Int.reduceLE, reduceCtorEq, Nat.reduceBEq, sub, fillAll, fillIn, shiftR, shiftV, List.take_succ_cons, List.take_zero, List.drop_succ_cons, List.drop_zero, List.append_nil, Nat.zero_add]
  refine goP h99 ?_
  simp only [us32, go_sem, ↓reduceIte, Nat.reduceEqDiff, Nat.reduceAdd, Nat.reduceMul, Nat.reduceLeDiff, Nat.reduceLT, Int.reduceToNat, Int.reduceLT, Int.reduceLE, reduceCtorEq, Nat.reduceBEq, sub, fillAll, fillIn, shiftR, shiftV, List.take_succ_cons, List.take_zero, List.drop_succ_cons, List.drop_zero, List.append_nil, Nat.zero_add]
  refine goP c100_ok ?_
  simp only [us32, go_sem, ↓reduceIte, Nat.reduceEqDiff, Nat.reduceAdd, Nat.reduceMul, Nat.reduceLeDiff, Nat.reduceLT, Int.reduceToNat, Int.reduceLT, Int.reduceLE, reduceCtorEq, Nat.reduceBEq, sub, fillAll, fillIn, shiftR, shiftV, List.take_succ_cons, List.take_zero, List.drop_succ_cons, List.drop_zero, List.append_nil, Nat.zero_add]
  refine goP h991 ?_
  simp only [us32, go_sem, ↓reduceIte, Nat.reduceEqDiff, Nat.reduceAdd, Nat.reduceMul, Nat.reduceLeDiff, Nat.reduceLT, Int.reduceToNat, Int.reduceLT, Int.reduceLE, reduceCtorEq, Nat.reduceBEq, sub, fillAll, fillIn, shiftR, shiftV, List.take_succ_cons, List.take_zero, List.drop_succ_cons, List.drop_zero, List.append_nil, Nat.zero_add]
  simp only [i74, Out, resAll, geto, ints, List.getElem?_cons_zero, List.getElem?_cons_succ, resOf, outOf, snap, snapL, ev, getE, List.mapM_cons, List.mapM_nil, Option.bind_some, Option.pure_def, Option.bind_eq_bind, Option.map_some, reduceIte, Nat.reduceEqDiff, true_and, and_true, sub, fillAll, fillIn, shiftR, shiftV, List.take_succ_cons, List.take_zero, List.drop_succ_cons, List.drop_zero, List.append_nil, Nat.zero_add, List.length_cons, List.length_nil, Nat.le_refl, numC]
end
end Go.Proofs.Ytcmbaabkfihdmaa.I

/- Layer 3: the number that the page speaks of. -/
set_option linter.unusedVariables false
set_option linter.unusedSimpArgs false
namespace Go.Proofs.Ytcmbaabkfihdmaa.I
open Go Go.V
attribute [local go_sem] mNil nat0 beq_self_eq_true mSkip mRet mExit mReg mSeq mCond mTrue mFalse mBlock mLv mCodeE mCodeR mEndN mEndR mEndE mOps mSome mGuard mGtt mGff mGtf mGft mGu mCallP mCallR mCallF mCallO mCallZ mCallG mCallM mCallV loopQ_exit loopQ_ret mO_mov mO_newnil mO_pick mO_alloc mO_box mO_build mO_bsl mO_ldf mO_ld mO_st mO_sta mO_nilchk mO_bin mO_binb mO_binp mO_bins mO_neg mO_com mO_not mO_conv mO_mk mO_mk0 mO_s2b mO_b2s mO_cpy mO_cut mO_faddr mO_fld mO_iaddr mO_iaddrf mO_sidx mO_len mO_lenf mO_slen mO_scut mO_app mO_ext mO_mx mO_mn mO_mkfn evalOp cutOp argsE ev getE putE cellsOf adopt rowOf binV boolV nilV ar_add ar_sub ar_mul ar_quo ar_rem ar_eq ar_ne ar_lt ar_le ar_gt ar_ge ar_and ar_or ar_xor geto bound finRet finNrm ints List.length_cons List.length_nil List.length_append List.getElem?_cons_zero List.getElem?_cons_succ List.nil_append List.cons_append List.map_cons List.map_nil List.mapM_cons List.mapM_nil Option.map_some Option.map_none Option.bind_some Option.pure_def Option.bind_eq_bind List.drop_zero or_self or_false false_or or_true true_or true_and and_true and_self decide_true decide_false Bool.false_eq_true Bool.true_eq_false Bool.not_true Bool.not_false Nat.le_refl eq_self gt_iff_lt ge_iff_le ne_eq not_true_eq_false not_false_eq_true storeOp apartOf freeze_nil refsL refs List.flatMap_cons List.flatMap_nil List.append_nil List.contains_nil List.set_cons_zero List.set_cons_succ snap snapL fill_nums flat_nums nums_length Go.V.freeze List.mapIdx_cons List.mapIdx_nil List.contains_cons Bool.or_false Bool.false_or Bool.or_true Bool.true_or
theorem beq_bs {a b : List Int} (ha : U8 a) (hb : U8 b) : (bs a == bs b) = decide (a = b) := by
  by_cases h : a = b
  · subst h
    rw [beqBA, decide_eq_true rfl]
  · rw [decide_eq_false h]
    have h2 : u8l a ≠ u8l b := fun e => h (u8l_inj ha hb e)
    show (((u8l a).toArray : Array UInt8) == (u8l b).toArray) = false
    simpa using h2
theorem num_same {n m : Bool} {a b c d : List Int} (ha : U8 a) (hb : U8 b) (hc : U8 c) (hd : U8 d) :
    structV .eq [0, 2, 2] (.agg [.bool n, .str (bs a), .str (bs b)]) (.agg [.bool m, .str (bs c), .str (bs d)]) = some (.bool (decide (n = m ∧ a = c ∧ b = d))) := by
  have h1 : ([AV.bool n, AV.str (bs a), AV.str (bs b)]).map kindOf = [0, 2, 2] := rfl
  have h2 : ([AV.bool m, AV.str (bs c), AV.str (bs d)]).map kindOf = [0, 2, 2] := rfl
  simp only [structV, h1, h2, and_self, if_true, scalarsEq, scalEq, beq_bs ha hc, beq_bs hb hd]
  by_cases e1 : n = m
  · have : (n == m) = true := by rw [e1]; cases m <;> rfl
    rw [this]
    by_cases e2 : a = c
    · rw [decide_eq_true e2]
      by_cases e3 : b = d
      · rw [decide_eq_true e3]; simp [e1, e2, e3]
      · rw [decide_eq_false e3]; simp [e3]
    · rw [decide_eq_false e2]; simp [e2]
  · have : (n == m) = false := by revert e1; cases n <;> cases m <;> simp
    rw [this]; simp [e1]
section
variable {E : CallRel}
theorem c95_ok {n ok : Bool} {a b : List Int} (ha : U8 a) (hb : U8 b) (hal : a.length ≤ 1000000000) (hbl : b.length ≤ 1000000000) (hok : ok = true ↔ RightN n a b) :
    ∃ (n' : Bool) (p q : Nat), (ok = true → n' = n ∧ p = sval a ∧ q = sval b) ∧ Go.V.Call tab E 95 [.agg [.bool n, .str (bs a), .str (bs b)]] [] (.tup [.agg (ratG n' p q), .bool ok]) [] := by
  have hfalse : ¬ RightN n a b → ok = false := fun h => by rw [← Bool.not_eq_true, hok]; exact h
  have pa : ∀ b' : Bool, (b' = true ↔ RightS a) → _ := fun b' h => c116_ok (E := E) (b := b') ha hal h
  have pb : ∀ b' : Bool, (b' = true ↔ RightS b) → _ := fun b' h => c116_ok (E := E) (b := b') hb hbl h
  by_cases hRa : RightS a
  · have h116a := pa true ⟨fun _ => hRa, fun _ => rfl⟩
    by_cases hRb : RightS b
    · have h116b := pb true ⟨fun _ => hRb, fun _ => rfl⟩
      simp only [if_true] at h116a h116b
      have h118a := c118_ok (E := E) (n := n) (p := sval a)
      have h118b := c118_ok (E := E) (n := false) (p := sval b)
      have la := lim2000_limbs (Right_lim hRa)
      have lb := lim2000_limbs (Right_lim hRb)
      by_cases hq : sval b = 0
      · have := hfalse (fun h => h.2.2.2.2.1 ((right_zero hRb h.2.2.2.1).1 hq))
        subst this
        refine ⟨false, 0, 0, fun h => (by cases h), ?_⟩
        rw [hq] at h116b h118b
        have h117 := c117_zero (E := E) (n1 := n && decide (sval a ≠ 0)) (n2 := false && decide (0 ≠ 0)) (p := sval a)
        simp only [natC, us32, ratG] at h116a h116b h118a h118b h117 ⊢
        refine Go.V.Call.mach i95 c95 rfl rfl rfl rfl ?_
        simp only [c95, us32, go_sem, ↓reduceIte, Nat.reduceEqDiff, Nat.reduceAdd, Nat.reduceMul, Nat.reduceLeDiff, Nat.reduceLT, Int.reduceToNat, Int.reduceLT, Int.reduceLE, reduceCtorEq, Nat.reduceBEq, sub, fillAll, fillIn, shiftR, shiftV, List.take_succ_cons, List.take_zero, List.drop_succ_cons, List.drop_zero, List.append_nil, Nat.zero_add]
        refine goP h116a ?_
        simp only [us32, go_sem, ↓reduceIte, Nat.reduceEqDiff, Nat.reduceAdd, Nat.reduceMul, Nat.reduceLeDiff, Nat.reduceLT, Int.reduceToNat, Int.reduceLT, Int.reduceLE, reduceCtorEq, Nat.reduceBEq, sub, fillAll, fillIn, shiftR, shiftV, List.take_succ_cons, List.take_zero, List.drop_succ_cons, List.drop_zero, List.append_nil, Nat.zero_add]
        refine goP h116b ?_
        simp only [us32, go_sem, ↓reduceIte, Nat.reduceEqDiff, Nat.reduceAdd, Nat.reduceMul, Nat.reduceLeDiff, Nat.reduceLT, Int.reduceToNat, Int.reduceLT, Int.reduceLE, reduceCtorEq, Nat.reduceBEq, sub, fillAll, fillIn, shiftR, shiftV, List.take_succ_cons, List.take_zero, List.drop_succ_cons, List.drop_zero, List.append_nil, Nat.zero_add]
        refine goF h118a ?_
        simp only [us32, go_sem, ↓reduceIte, Nat.reduceEqDiff, Nat.reduceAdd, Nat.reduceMul, Nat.reduceLeDiff, Nat.reduceLT, Int.reduceToNat, Int.reduceLT, Int.reduceLE, reduceCtorEq, Nat.reduceBEq, sub, fillAll, fillIn, shiftR, shiftV, List.take_succ_cons, List.take_zero, List.drop_succ_cons, List.drop_zero, List.append_nil, Nat.zero_add]
        refine goF h118b ?_
        simp only [us32, go_sem, ↓reduceIte, Nat.reduceEqDiff, Nat.reduceAdd, Nat.reduceMul, Nat.reduceLeDiff, Nat.reduceLT, Int.reduceToNat, Int.reduceLT, Int.reduceLE, reduceCtorEq, Nat.reduceBEq, sub, fillAll, fillIn, shiftR, shiftV, List.take_succ_cons, List.take_zero, List.drop_succ_cons, List.drop_zero, List.append_nil, Nat.zero_add]
        refine goP h117 ?_
        simp only [us32, go_sem, ↓reduceIte, Nat.reduceEqDiff, Nat.reduceAdd, Nat.reduceMul, Nat.reduceLeDiff, Nat.reduceLT, Int.reduceToNat, Int.reduceLT, Int.reduceLE, reduceCtorEq, Nat.reduceBEq, sub, fillAll, fillIn, shiftR, shiftV, List.take_succ_cons, List.take_zero, List.drop_succ_cons, List.drop_zero, List.append_nil, Nat.zero_add, List.all_cons, List.all_nil, Nat.reduceBNe, Bool.and_true]
        simp only [i95, Out, resAll, geto, ints, List.getElem?_cons_zero, List.getElem?_cons_succ, resOf, outOf, snap, snapL, ev, getE, List.mapM_cons, List.mapM_nil, Option.bind_some, Option.pure_def, Option.bind_eq_bind, Option.map_some, reduceIte, Nat.reduceEqDiff, true_and, and_true, sub, fillAll, fillIn, shiftR, shiftV, List.take_succ_cons, List.take_zero, List.drop_succ_cons, List.drop_zero, List.append_nil, Nat.zero_add, List.length_cons, List.length_nil, Nat.le_refl, us32]
      · have hqp := Nat.pos_of_ne_zero hq
        have h117 := c117_ok (E := E) (n1 := n && decide (sval a ≠ 0)) (n2 := false && decide (sval b ≠ 0)) (p := sval a) (q := sval b) hq (by omega) (by omega)
        have hgp : 0 < Nat.gcd (sval a) (sval b) := Nat.gcd_pos_of_pos_right _ hqp
        have hy0 : sval b / Nat.gcd (sval a) (sval b) ≠ 0 := by
          have h1 := Nat.gcd_le_right (sval a) hqp
          have := (Nat.div_pos h1 hgp)
          omega
        have hxl : sval a / Nat.gcd (sval a) (sval b) < lim2000 := Nat.lt_of_le_of_lt (Nat.div_le_self _ _) (Right_lim hRa)
        have hyl : sval b / Nat.gcd (sval a) (sval b) < lim2000 := Nat.lt_of_le_of_lt (Nat.div_le_self _ _) (Right_lim hRb)
        have hdn : dn (sval b / Nat.gcd (sval a) (sval b)) = sval b / Nat.gcd (sval a) (sval b) := by rw [dn, if_neg hy0]
        have hdiv1 : sval b / Nat.gcd (sval a) (sval b) = sval b → Nat.gcd (sval a) (sval b) = 1 := fun h => by
          rcases Nat.lt_or_ge 1 (Nat.gcd (sval a) (sval b)) with h1 | h1
          · have := Nat.div_lt_self hqp h1
            omega
          · omega
        refine ⟨((n && decide (sval a ≠ 0)) != (false && decide (sval b ≠ 0))) && decide (sval a / Nat.gcd (sval a) (sval b) ≠ 0), sval a / Nat.gcd (sval a) (sval b), sval b / Nat.gcd (sval a) (sval b), ?_, ?_⟩
        rotate_left
        · have h74 := c74_gen (E := E) (n := ((n && decide (sval a ≠ 0)) != (false && decide (sval b ≠ 0))) && decide (sval a / Nat.gcd (sval a) (sval b) ≠ 0)) hxl (by rw [hdn]; exact hyl)
          have hsame := num_same (n := ((n && decide (sval a ≠ 0)) != (false && decide (sval b ≠ 0))) && decide (sval a / Nat.gcd (sval a) (sval b) ≠ 0)) (m := n) (decL_dig (sval a / Nat.gcd (sval a) (sval b))).u8 (decL_dig (sval b / Nat.gcd (sval a) (sval b))).u8 ha hb
          have hokd : decide ((((n && decide (sval a ≠ 0)) != (false && decide (sval b ≠ 0))) && decide (sval a / Nat.gcd (sval a) (sval b) ≠ 0)) = n ∧ decL (sval a / Nat.gcd (sval a) (sval b)) = a ∧ decL (sval b / Nat.gcd (sval a) (sval b)) = b) = ok := by
            rw [Bool.eq_iff_iff, hok, decide_eq_true_eq]
            constructor
            · rintro ⟨e1, e2, e3⟩
              have s1 := congrArg sval e2
              rw [sval_decL] at s1
              have s2 := congrArg sval e3
              rw [sval_decL] at s2
              refine ⟨hRa, hRb, by rw [← e2]; exact trim_decL _, by rw [← e3]; exact trim_decL _, ?_, hdiv1 s2, ?_⟩
              · rintro rfl
                exact hq rfl
              · rintro ⟨rfl, rfl⟩
                have : sval [48] = 0 := rfl
                rw [this] at e1
                simp at e1
            · rintro ⟨_, _, t1, t2, _, g1, g2⟩
              rw [g1, Nat.div_one, Nat.div_one]
              refine ⟨?_, ?_, ?_⟩
              · cases n with
                | false => simp
                | true =>
                  have : sval a ≠ 0 := fun h => g2 ⟨rfl, (right_zero hRa t1).1 h⟩
                  simp [this]
              · rw [← trimS_dec hRa.1 (fun h0 => by have := hRa.2.1; rw [h0] at this; simp at this), t1]
              · rw [← trimS_dec hRb.1 (fun h0 => by have := hRb.2.1; rw [h0] at this; simp at this), t2]
          rw [hokd, ← dec_eq, ← dec_eq] at hsame
          rw [hdn] at h74
          simp only [natC, us32, ratG, numG] at h116a h116b h118a h118b h117 h74 ⊢
          refine Go.V.Call.mach i95 c95 rfl rfl rfl rfl ?_
          simp only [c95, us32, go_sem, ↓reduceIte, Nat.reduceEqDiff, Nat.reduceAdd, Nat.reduceMul, Nat.reduceLeDiff, Nat.reduceLT, Int.reduceToNat, Int.reduceLT, Int.reduceLE, reduceCtorEq, Nat.reduceBEq, sub, fillAll, fillIn, shiftR, shiftV, List.take_succ_cons, List.take_zero, List.drop_succ_cons, List.drop_zero, List.append_nil, Nat.zero_add]
          refine goP h116a ?_
          simp only [us32, go_sem, ↓reduceIte, Nat.reduceEqDiff, Nat.reduceAdd, Nat.reduceMul, Nat.reduceLeDiff, Nat.reduceLT, Int.reduceToNat, Int.reduceLT, Int.reduceLE, reduceCtorEq, Nat.reduceBEq, sub, fillAll, fillIn, shiftR, shiftV, List.take_succ_cons, List.take_zero, List.drop_succ_cons, List.drop_zero, List.append_nil, Nat.zero_add]
          refine goP h116b ?_
          simp only [us32, go_sem, ↓reduceIte, Nat.reduceEqDiff, Nat.reduceAdd, Nat.reduceMul, Nat.reduceLeDiff, Nat.reduceLT, Int.reduceToNat, Int.reduceLT, Int.reduceLE, reduceCtorEq, Nat.reduceBEq, sub, fillAll, fillIn, shiftR, shiftV, List.take_succ_cons, List.take_zero, List.drop_succ_cons, List.drop_zero, List.append_nil, Nat.zero_add]
          refine goF h118a ?_
          simp only [us32, go_sem, ↓reduceIte, Nat.reduceEqDiff, Nat.reduceAdd, Nat.reduceMul, Nat.reduceLeDiff, Nat.reduceLT, Int.reduceToNat, Int.reduceLT, Int.reduceLE, reduceCtorEq, Nat.reduceBEq, sub, fillAll, fillIn, shiftR, shiftV, List.take_succ_cons, List.take_zero, List.drop_succ_cons, List.drop_zero, List.append_nil, Nat.zero_add]
          refine goF h118b ?_
          simp only [us32, go_sem, ↓reduceIte, Nat.reduceEqDiff, Nat.reduceAdd, Nat.reduceMul, Nat.reduceLeDiff, Nat.reduceLT, Int.reduceToNat, Int.reduceLT, Int.reduceLE, reduceCtorEq, Nat.reduceBEq, sub, fillAll, fillIn, shiftR, shiftV, List.take_succ_cons, List.take_zero, List.drop_succ_cons, List.drop_zero, List.append_nil, Nat.zero_add]
          refine goP h117 ?_
          simp only [us32, go_sem, ↓reduceIte, Nat.reduceEqDiff, Nat.reduceAdd, Nat.reduceMul, Nat.reduceLeDiff, Nat.reduceLT, Int.reduceToNat, Int.reduceLT, Int.reduceLE, reduceCtorEq, Nat.reduceBEq, sub, fillAll, fillIn, shiftR, shiftV, List.take_succ_cons, List.take_zero, List.drop_succ_cons, List.drop_zero, List.append_nil, Nat.zero_add]
          refine goR h74 rfl ?_
          simp only [us32, go_sem, ↓reduceIte, Nat.reduceEqDiff, Nat.reduceAdd, Nat.reduceMul, Nat.reduceLeDiff, Nat.reduceLT, Int.reduceToNat, Int.reduceLT, Int.reduceLE, reduceCtorEq, Nat.reduceBEq, sub, fillAll, fillIn, shiftR, shiftV, List.take_succ_cons, List.take_zero, List.drop_succ_cons, List.drop_zero, List.append_nil, Nat.zero_add, hsame, List.all_cons, List.all_nil, Nat.reduceBNe, Bool.and_true]
          simp only [i95, Out, resAll, geto, ints, List.getElem?_cons_zero, List.getElem?_cons_succ, resOf, outOf, snap, snapL, ev, getE, List.mapM_cons, List.mapM_nil, Option.bind_some, Option.pure_def, Option.bind_eq_bind, Option.map_some, reduceIte, Nat.reduceEqDiff, true_and, and_true, sub, fillAll, fillIn, shiftR, shiftV, List.take_succ_cons, List.take_zero, List.drop_succ_cons, List.drop_zero, List.append_nil, Nat.zero_add, List.length_cons, List.length_nil, Nat.le_refl, us32]
        · intro ht
          obtain ⟨_, _, t1, t2, _, g1, g2⟩ := hok.1 ht
          rw [g1, Nat.div_one, Nat.div_one]
          refine ⟨?_, rfl, rfl⟩
          cases n with
          | false => simp
          | true =>
            have : sval a ≠ 0 := fun h => g2 ⟨rfl, (right_zero hRa t1).1 h⟩
            simp [this]
    · have h116b := pb false ⟨fun h => (by cases h), fun h => absurd h hRb⟩
      have := hfalse (fun h => hRb h.2.1)
      subst this
      refine ⟨false, 0, 0, fun h => (by cases h), ?_⟩
      simp only [if_true, if_false, Bool.false_eq_true] at h116a h116b
      simp only [natC, us32, ratG, limG_zero] at h116a h116b ⊢
      refine Go.V.Call.mach i95 c95 rfl rfl rfl rfl ?_
      simp only [c95, us32, go_sem, ↓reduceIte, Nat.reduceEqDiff, Nat.reduceAdd, Nat.reduceMul, Nat.reduceLeDiff, Nat.reduceLT, Int.reduceToNat, Int.reduceLT, Int.reduceLE, reduceCtorEq, Nat.reduceBEq, sub, fillAll, fillIn, shiftR, shiftV, List.take_succ_cons, List.take_zero, List.drop_succ_cons, List.drop_zero, List.append_nil, Nat.zero_add]
      refine goP h116a ?_
      simp only [us32, go_sem, ↓reduceIte, Nat.reduceEqDiff, Nat.reduceAdd, Nat.reduceMul, Nat.reduceLeDiff, Nat.reduceLT, Int.reduceToNat, Int.reduceLT, Int.reduceLE, reduceCtorEq, Nat.reduceBEq, sub, fillAll, fillIn, shiftR, shiftV, List.take_succ_cons, List.take_zero, List.drop_succ_cons, List.drop_zero, List.append_nil, Nat.zero_add]
      refine goP h116b ?_
      simp only [us32, go_sem, ↓reduceIte, Nat.reduceEqDiff, Nat.reduceAdd, Nat.reduceMul, Nat.reduceLeDiff, Nat.reduceLT, Int.reduceToNat, Int.reduceLT, Int.reduceLE, reduceCtorEq, Nat.reduceBEq, sub, fillAll, fillIn, shiftR, shiftV, List.take_succ_cons, List.take_zero, List.drop_succ_cons, List.drop_zero, List.append_nil, Nat.zero_add]
      simp only [i95, Out, resAll, geto, ints, List.getElem?_cons_zero, List.getElem?_cons_succ, resOf, outOf, snap, snapL, ev, getE, List.mapM_cons, List.mapM_nil, Option.bind_some, Option.pure_def, Option.bind_eq_bind, Option.map_some, reduceIte, Nat.reduceEqDiff, true_and, and_true, sub, fillAll, fillIn, shiftR, shiftV, List.take_succ_cons, List.take_zero, List.drop_succ_cons, List.drop_zero, List.append_nil, Nat.zero_add, List.length_cons, List.length_nil, Nat.le_refl, us32]
      rfl
  · have h116a := pa false ⟨fun h => (by cases h), fun h => absurd h hRa⟩
    have := hfalse (fun h => hRa h.1)
    subst this
    have h116b : ∃ (x : Nat) (t : Bool), Go.V.Call tab E 116 [.str (bs b)] [] (.tup [natC x, .bool t]) [] := by
      by_cases hRb : RightS b
      · exact ⟨_, _, pb true ⟨fun _ => hRb, fun _ => rfl⟩⟩
      · exact ⟨_, _, pb false ⟨fun h => (by cases h), fun h => absurd h hRb⟩⟩
    obtain ⟨x, t, h116b⟩ := h116b
    refine ⟨false, 0, 0, fun h => (by cases h), ?_⟩
    simp only [if_true, if_false, Bool.false_eq_true] at h116a
    simp only [natC, us32, ratG, limG_zero] at h116a h116b ⊢
    refine Go.V.Call.mach i95 c95 rfl rfl rfl rfl ?_
    simp only [c95, us32, go_sem, ↓reduceIte, Nat.reduceEqDiff, Nat.reduceAdd, Nat.reduceMul, Nat.reduceLeDiff, Nat.reduceLT, Int.reduceToNat, Int.reduceLT, Int.reduceLE, reduceCtorEq, Nat.reduceBEq, sub, fillAll, fillIn, shiftR, shiftV, List.take_succ_cons, List.take_zero, List.drop_succ_cons, List.drop_zero, List.append_nil, Nat.zero_add]
    refine goP h116a ?_
    simp only [us32, go_sem, ↓reduceIte, Nat.reduceEqDiff, Nat.reduceAdd, Nat.reduceMul, Nat.reduceLeDiff, Nat.reduceLT, Int.reduceToNat, Int.reduceLT, Int.reduceLE, reduceCtorEq, Nat.reduceBEq, sub, fillAll, fillIn, shiftR, shiftV, List.take_succ_cons, List.take_zero, List.drop_succ_cons, List.drop_zero, List.append_nil, Nat.zero_add]
    refine goP h116b ?_
    simp only [us32, go_sem, ↓reduceIte, Nat.reduceEqDiff, Nat.reduceAdd, Nat.reduceMul, Nat.reduceLeDiff, Nat.reduceLT, Int.reduceToNat, Int.reduceLT, Int.reduceLE, reduceCtorEq, Nat.reduceBEq, sub, fillAll, fillIn, shiftR, shiftV, List.take_succ_cons, List.take_zero, List.drop_succ_cons, List.drop_zero, List.append_nil, Nat.zero_add]
    simp only [i95, Out, resAll, geto, ints, List.getElem?_cons_zero, List.getElem?_cons_succ, resOf, outOf, snap, snapL, ev, getE, List.mapM_cons, List.mapM_nil, Option.bind_some, Option.pure_def, Option.bind_eq_bind, Option.map_some, reduceIte, Nat.reduceEqDiff, true_and, and_true, sub, fillAll, fillIn, shiftR, shiftV, List.take_succ_cons, List.take_zero, List.drop_succ_cons, List.drop_zero, List.append_nil, Nat.zero_add, List.length_cons, List.length_nil, Nat.le_refl, us32]
    rfl
end
end Go.Proofs.Ytcmbaabkfihdmaa.I

/- Layer 6: arrays made, and told plainly. -/
set_option linter.unusedVariables false
set_option linter.unusedSimpArgs false
namespace Go.Proofs.Ytcmbaabkfihdmaa.I
open Go Go.V
attribute [local go_sem] mNil nat0 beq_self_eq_true mSkip mRet mExit mReg mSeq mCond mTrue mFalse mBlock mLv mCodeE mCodeR mEndN mEndR mEndE mOps mSome mGuard mGtt mGff mGtf mGft mGu mCallP mCallR mCallF mCallO mCallZ mCallG mCallM mCallV loopQ_exit loopQ_ret mO_mov mO_newnil mO_pick mO_alloc mO_box mO_build mO_bsl mO_ldf mO_ld mO_st mO_sta mO_nilchk mO_bin mO_binb mO_binp mO_bins mO_neg mO_com mO_not mO_conv mO_mk mO_mk0 mO_s2b mO_b2s mO_cpy mO_cut mO_faddr mO_fld mO_iaddr mO_iaddrf mO_sidx mO_len mO_lenf mO_slen mO_scut mO_app mO_ext mO_mx mO_mn mO_mkfn evalOp cutOp argsE ev getE putE cellsOf adopt rowOf binV boolV nilV ar_add ar_sub ar_mul ar_quo ar_rem ar_eq ar_ne ar_lt ar_le ar_gt ar_ge ar_and ar_or ar_xor geto bound finRet finNrm ints List.length_cons List.length_nil List.length_append List.getElem?_cons_zero List.getElem?_cons_succ List.nil_append List.cons_append List.map_cons List.map_nil List.mapM_cons List.mapM_nil Option.map_some Option.map_none Option.bind_some Option.pure_def Option.bind_eq_bind List.drop_zero or_self or_false false_or or_true true_or true_and and_true and_self decide_true decide_false Bool.false_eq_true Bool.true_eq_false Bool.not_true Bool.not_false Nat.le_refl eq_self gt_iff_lt ge_iff_le ne_eq not_true_eq_false not_false_eq_true storeOp apartOf freeze_nil refsL refs List.flatMap_cons List.flatMap_nil List.append_nil List.contains_nil List.set_cons_zero List.set_cons_succ snap snapL fill_nums flat_nums nums_length Go.V.freeze List.mapIdx_cons List.mapIdx_nil List.contains_cons Bool.or_false Bool.false_or Bool.or_true Bool.true_or
theorem c92_ok {t : List Int} (ht : (t.length : Int) ≤ 1000000000000) : Go.V.Call tab E 92 [runes t] [] (.arr 0 0) [⟨false, 21, 1, 0, t.length, nums .i32 t, false⟩] := by
  refine ⟨0, ?_⟩
  have h1 : t.length * 4 ≤ 140737488355328 := by omega
  have h2 : t.length ≤ 140737488355328 := by omega
  simp only [CallN, E, ext, cloneOf, runes, h1, h2, and_self, if_true]
theorem c91_ok {l : List Int} (hl : (l.length : Int) ≤ 1000000000000) : Go.V.Call tab E 91 [.sl l.length 3 (ratsC l)] [] (.arr 0 0) [⟨false, 70, 3, 0, l.length, ratsC l, false⟩] := by
  refine ⟨0, ?_⟩
  have h1 : l.length * 56 ≤ 140737488355328 := by omega
  have h2 : l.length ≤ 140737488355328 := by omega
  simp only [CallN, E, ext, cloneOf, h1, h2, and_self, if_true]
theorem c76_ok {s t l : List Int} {ch : Bool} (ht : (t.length : Int) ≤ 1000000000000) : Go.V.Call tab E 76 [.agg (arrG s ch t l)] [] (.arr 0 0) [⟨false, 21, 1, 0, t.length, nums .i32 t, false⟩] := by
  refine Go.V.Call.mach i76 c76 rfl rfl rfl rfl ?_
  simp only [c76, arrG, runes, go_sem, ↓reduceIte, Nat.reduceEqDiff, Nat.reduceAdd, Nat.reduceMul, Nat.reduceLeDiff, Nat.reduceLT, Int.reduceToNat, Int.reduceLT, Int.reduceLE, reduceCtorEq, Nat.reduceBEq, sub, fillAll, fillIn, shiftR, shiftV, List.take_succ_cons, List.take_zero, List.drop_succ_cons, List.drop_zero, List.append_nil, Nat.zero_add]
  refine goO (c92_ok ht) rfl rfl ?_
  simp only [go_sem, ↓reduceIte, Nat.reduceEqDiff, Nat.reduceAdd, Nat.reduceMul, Nat.reduceLeDiff, Nat.reduceLT, Int.reduceToNat, Int.reduceLT, Int.reduceLE, reduceCtorEq, Nat.reduceBEq, fillAll, fillIn, shiftR, shiftV, List.take_succ_cons, List.take_zero, List.drop_succ_cons, List.drop_zero, List.append_nil, Nat.zero_add]
  simp only [i76, Out, resAll, geto, ints, List.getElem?_cons_zero, List.getElem?_cons_succ, resOf, outOf, snap, snapL, ev, getE, List.mapM_cons, List.mapM_nil, Option.bind_some, Option.pure_def, Option.bind_eq_bind, Option.map_some, reduceIte, Nat.reduceEqDiff, true_and, and_true, ownOut, ownL, ownV, scalar, List.contains_nil, List.length_nil, List.length_cons, List.nil_append, List.cons_append, storeOp, apartOf, freeze_nil, refsL, refs, List.flatMap_cons, List.flatMap_nil, List.append_nil, List.contains_nil, List.set_cons_zero, List.set_cons_succ, snap, snapL, fill_nums, flat_nums, nums_length, reduceCtorEq, Bool.false_eq_true, and_self, not_false_eq_true, beq_self_eq_true, Nat.zero_add]
theorem c69_G {s t l : List Int} {ch : Bool} (hs : (s.length : Int) ≤ 1000000000000) : Go.V.Call tab E 69 [.agg (arrG s ch t l)] [] (ints s) [] := by
  refine Go.V.Call.mach i69 c69 rfl rfl rfl rfl ?_
  simp only [c69, arrG, runes, go_sem, ↓reduceIte, Nat.reduceEqDiff, Nat.reduceAdd, Nat.reduceMul, Nat.reduceLeDiff, Nat.reduceLT, Int.reduceToNat, Int.reduceLT, Int.reduceLE, reduceCtorEq, Nat.reduceBEq, sub, fillAll, fillIn, shiftR, shiftV, List.take_succ_cons, List.take_zero, List.drop_succ_cons, List.drop_zero, List.append_nil, Nat.zero_add]
  refine goO (c85_ok hs) rfl rfl ?_
  simp only [go_sem, ↓reduceIte, Nat.reduceEqDiff, Nat.reduceAdd, Nat.reduceMul, Nat.reduceLeDiff, Nat.reduceLT, Int.reduceToNat, Int.reduceLT, Int.reduceLE, reduceCtorEq, Nat.reduceBEq, fillAll, fillIn, shiftR, shiftV, List.take_succ_cons, List.take_zero, List.drop_succ_cons, List.drop_zero, List.append_nil, Nat.zero_add]
  simp only [i69, Out, resAll, geto, ints, List.getElem?_cons_zero, List.getElem?_cons_succ, resOf, outOf, snap, snapL, ev, getE, List.mapM_cons, List.mapM_nil, Option.bind_some, Option.pure_def, Option.bind_eq_bind, Option.map_some, reduceIte, Nat.reduceEqDiff, true_and, and_true]
section
variable {E : CallRel}
theorem c54_G {s t l : List Int} {ch : Bool} (ht : (t.length : Int) ≤ 1000000000000) (hl : (l.length : Int) ≤ 1000000000000) : Go.V.Call tab E 54 [.agg (arrG s ch t l)] [] (.int .i64 ((t.length : Int) + (l.length : Int))) [] := by
  refine Go.V.Call.mach i54 c54 rfl rfl rfl rfl ?_
  have hw : IntKind.i64.wrap ((t.length : Int) + (l.length : Int)) = (t.length : Int) + (l.length : Int) := wrap_i64 (by omega) (by omega)
  simp only [c54, arrG, runes, go_sem, ↓reduceIte, Nat.reduceEqDiff, Nat.reduceAdd, Nat.reduceMul, Nat.reduceLeDiff, Nat.reduceLT, Int.reduceToNat, Int.reduceLT, Int.reduceLE, reduceCtorEq, Nat.reduceBEq, sub, fillAll, fillIn, shiftR, shiftV, List.take_succ_cons, List.take_zero, List.drop_succ_cons, List.drop_zero, List.append_nil, Nat.zero_add, hw]
  simp only [i54, Out, resAll, geto, ints, List.getElem?_cons_zero, List.getElem?_cons_succ, resOf, outOf, snap, snapL, ev, getE, List.mapM_cons, List.mapM_nil, Option.bind_some, Option.pure_def, Option.bind_eq_bind, Option.map_some, reduceIte, Nat.reduceEqDiff, true_and, and_true]
theorem c54_no : Go.V.Call tab E 54 [.agg noA] [] (.int .i64 0) [] := by
  refine Go.V.Call.mach i54 c54 rfl rfl rfl rfl ?_
  have hw : IntKind.i64.wrap (0 + 0) = 0 := by decide
  simp only [c54, noA, go_sem, ↓reduceIte, Nat.reduceEqDiff, Nat.reduceAdd, Nat.reduceMul, Nat.reduceLeDiff, Nat.reduceLT, Int.reduceToNat, Int.reduceLT, Int.reduceLE, reduceCtorEq, Nat.reduceBEq, sub, fillAll, fillIn, shiftR, shiftV, List.take_succ_cons, List.take_zero, List.drop_succ_cons, List.drop_zero, List.append_nil, Nat.zero_add, hw]
  simp only [i54, Out, resAll, geto, ints, List.getElem?_cons_zero, List.getElem?_cons_succ, resOf, outOf, snap, snapL, ev, getE, List.mapM_cons, List.mapM_nil, Option.bind_some, Option.pure_def, Option.bind_eq_bind, Option.map_some, reduceIte, Nat.reduceEqDiff, true_and, and_true]
theorem c75_ok {t : List Int} (ht : (t.length : Int) ≤ 1000000000000) : Go.V.Call tab E 75 [runes t, runes t] [] (.bool true) [] := by
  refine Go.V.Call.mach i75 c75 rfl rfl rfl rfl ?_
  simp only [c75, runes, go_sem, ↓reduceIte, Nat.reduceEqDiff, Nat.reduceAdd, Nat.reduceMul, Nat.reduceLeDiff, Nat.reduceLT, Int.reduceToNat, Int.reduceLT, Int.reduceLE, reduceCtorEq, Nat.reduceBEq, bne_self_eq_false]
  refine mLoop (fun N st => ∃ (k : Nat), k ≤ t.length ∧ N = t.length - k ∧
    st = ⟨[(0, runes t), (1, runes t), (5, .int .i64 k)], []⟩) t.length ⟨_, rfl, 0, by omega, by omega, rfl⟩ ?_
  rintro N s0 ⟨k, hk, rfl, rfl⟩
  by_cases hlt : k < t.length
  · have hlt' : (k : Int) < (t.length : Int) := by omega
    have hk0 : (0 : Int) ≤ (k : Int) := by omega
    have hk1 : IntKind.i64.wrap ((k : Int) + 1) = ((k + 1 : Nat) : Int) := by rw [wrap_i64 (by omega) (by omega)]; omega
    have hsub := sub_nums (k := .i32) hlt
    simp only [b75_0, runes, go_sem, ↓reduceIte, Nat.reduceEqDiff, Nat.reduceAdd, Nat.reduceMul, Nat.reduceLeDiff, Nat.reduceLT, Int.reduceToNat, Int.reduceLT, Int.reduceLE, reduceCtorEq, Nat.reduceBEq, hlt', hk0, Int.toNat_natCast, hsub, bne_self_eq_false, hk1]
    exact loopQ_go rfl (t.length - (k + 1)) (by omega) ⟨k + 1, by omega, rfl, rfl⟩
  · have hlt' : ¬ (k : Int) < (t.length : Int) := by omega
    simp only [b75_0, k75_0, runes, go_sem, ↓reduceIte, Nat.reduceEqDiff, Nat.reduceAdd, Nat.reduceMul, Nat.reduceLeDiff, Nat.reduceLT, Int.reduceToNat, Int.reduceLT, Int.reduceLE, reduceCtorEq, Nat.reduceBEq, hlt']
    simp only [i75, Out, resAll, geto, ints, List.getElem?_cons_zero, List.getElem?_cons_succ, resOf, outOf, snap, snapL, ev, getE, List.mapM_cons, List.mapM_nil, Option.bind_some, Option.pure_def, Option.bind_eq_bind, Option.map_some, reduceIte, Nat.reduceEqDiff, true_and, and_true]
/-- What is the same is the same. -/
theorem c50_ok {s t l : List Int} {ch : Bool} (hs : (s.length : Int) ≤ 1000000000000) (ht : (t.length : Int) ≤ 1000000000000) (hl : (l.length : Int) ≤ 1000000000000) : Go.V.Call tab E 50 [.agg (plG s ch t l), .agg (plG s ch t l)] [] (.bool true) [] := by
  refine Go.V.Call.mach i50 c50 rfl rfl rfl rfl ?_
  simp only [c50, plG, runes, go_sem, ↓reduceIte, Nat.reduceEqDiff, Nat.reduceAdd, Nat.reduceMul, Nat.reduceLeDiff, Nat.reduceLT, Int.reduceToNat, Int.reduceLT, Int.reduceLE, reduceCtorEq, Nat.reduceBEq, sub, fillAll, fillIn, shiftR, shiftV, List.take_succ_cons, List.take_zero, List.drop_succ_cons, List.drop_zero, List.append_nil, Nat.zero_add, beq_self_eq_true]
  refine goP (c23_ok (s := s) (t := s) (by omega) (by omega)) ?_
  simp only [go_sem, ↓reduceIte, Nat.reduceEqDiff, Nat.reduceAdd, Nat.reduceMul, Nat.reduceLeDiff, Nat.reduceLT, Int.reduceToNat, Int.reduceLT, Int.reduceLE, reduceCtorEq, Nat.reduceBEq, sub, fillAll, fillIn, shiftR, shiftV, List.take_succ_cons, List.take_zero, List.drop_succ_cons, List.drop_zero, List.append_nil, Nat.zero_add, decide_true]
  refine goP (c75_ok ht) ?_
  simp only [go_sem, ↓reduceIte, Nat.reduceEqDiff, Nat.reduceAdd, Nat.reduceMul, Nat.reduceLeDiff, Nat.reduceLT, Int.reduceToNat, Int.reduceLT, Int.reduceLE, reduceCtorEq, Nat.reduceBEq, sub, fillAll, fillIn, shiftR, shiftV, List.take_succ_cons, List.take_zero, List.drop_succ_cons, List.drop_zero, List.append_nil, Nat.zero_add, bne_self_eq_false]
  refine mLoop (fun N st => ∃ (k : Nat), k ≤ l.length ∧ N = l.length - k ∧
    st = ⟨[(2, .loc 0 0 0), (3, .loc 1 0 0), (5, .int .i64 k)], [⟨true, 77, 4, 0, 1, plG s ch t l, false⟩, ⟨true, 77, 4, 0, 1, plG s ch t l, false⟩]⟩) l.length ⟨_, rfl, 0, by omega, by omega, rfl⟩ ?_
  rintro N s0 ⟨k, hk, rfl, rfl⟩
  have sub43 : ∀ {a b c d : AV}, sub false 1 [a, b, c, d] (0 + 3) = some d := fun {a b c d} => rfl
  by_cases hlt : k < l.length
  · have hlt' : (k : Int) < (l.length : Int) := by omega
    have hk0 : (0 : Int) ≤ (k : Int) := by omega
    have hk1 : IntKind.i64.wrap ((k : Int) + 1) = ((k + 1 : Nat) : Int) := by rw [wrap_i64 (by omega) (by omega)]; omega
    have hsub := sub_numsC hlt
    have hsame := same_numC (z := l.getD k 0)
    simp only [b50_0, plG, runes, go_sem, ↓reduceIte, Nat.reduceEqDiff, Nat.reduceAdd, Nat.reduceMul, Nat.reduceLeDiff, Nat.reduceLT, Int.reduceToNat, Int.reduceLT, Int.reduceLE, reduceCtorEq, Nat.reduceBEq, sub43, Nat.zero_add, hlt', hk0, Int.toNat_natCast, hsub, hsame, hk1]
    exact loopQ_go rfl (l.length - (k + 1)) (by omega) ⟨k + 1, by omega, rfl, rfl⟩
  · have hlt' : ¬ (k : Int) < (l.length : Int) := by omega
    simp only [b50_0, k50_0, plG, runes, go_sem, ↓reduceIte, Nat.reduceEqDiff, Nat.reduceAdd, Nat.reduceMul, Nat.reduceLeDiff, Nat.reduceLT, Int.reduceToNat, Int.reduceLT, Int.reduceLE, reduceCtorEq, Nat.reduceBEq, sub43, hlt']
    simp only [i50, Out, resAll, geto, ints, List.getElem?_cons_zero, List.getElem?_cons_succ, resOf, outOf, snap, snapL, ev, getE, List.mapM_cons, List.mapM_nil, Option.bind_some, Option.pure_def, Option.bind_eq_bind, Option.map_some, reduceIte, Nat.reduceEqDiff, true_and, and_true]
end
theorem subP4 {a b c d : AV} : sub true 4 [a, b, c, d] 0 = some (.agg [a, b, c, d]) := rfl
theorem subP3 {a b c d : AV} : sub false 1 [a, b, c, d] (0 + 3) = some d := rfl
theorem subP3' {a b c d : AV} : sub false 1 [a, b, c, d] 3 = some d := rfl
/-- What is told of an array. -/
theorem c52_ok {s t l : List Int} {ch : Bool} (hs : (s.length : Int) ≤ 1000000000000) (ht : (t.length : Int) ≤ 1000000000000) (hl : (l.length : Int) ≤ 1000000000000) (hz : ∀ z ∈ l, In64 z) : Go.V.Call tab E 52 [.agg (arrG s ch t l)] [] (.agg (plG s ch t l)) [] := by
  refine Go.V.Call.mach i52 c52 rfl rfl rfl rfl ?_
  have hsubA : ∀ {a b c d e : AV}, sub false 1 [a, b, c, d, e] 1 = some b := fun {a b c d e} => rfl
  simp only [c52, arrG, runes, go_sem, ↓reduceIte, Nat.reduceEqDiff, Nat.reduceAdd, Nat.reduceMul, Nat.reduceLeDiff, Nat.reduceLT, Int.reduceToNat, Int.reduceLT, Int.reduceLE, reduceCtorEq, Nat.reduceBEq, subA5, hsubA, subA3, fillAll, fillIn, shiftR, shiftV, List.take_succ_cons, List.take_zero, List.drop_succ_cons, List.drop_zero, List.append_nil, Nat.zero_add]
  refine goP (c69_G (s := s) (t := t) (l := l) (ch := ch) hs) ?_
  simp only [go_sem, ↓reduceIte, Nat.reduceEqDiff, Nat.reduceAdd, Nat.reduceMul, Nat.reduceLeDiff, Nat.reduceLT, Int.reduceToNat, Int.reduceLT, Int.reduceLE, reduceCtorEq, Nat.reduceBEq, subA5, hsubA, subA3, fillAll, fillIn, shiftR, shiftV, List.take_succ_cons, List.take_zero, List.drop_succ_cons, List.drop_zero, List.append_nil, Nat.zero_add]
  refine goZ (r' := runes t) (c76_ok (s := s) (t := t) (l := l) (ch := ch) ht) rfl ?_
  simp only [runes, go_sem, ↓reduceIte, Nat.reduceEqDiff, Nat.reduceAdd, Nat.reduceMul, Nat.reduceLeDiff, Nat.reduceLT, Int.reduceToNat, Int.reduceLT, Int.reduceLE, reduceCtorEq, Nat.reduceBEq, subA5, hsubA, subA3, fillAll, fillIn, shiftR, shiftV, List.take_succ_cons, List.take_zero, List.drop_succ_cons, List.drop_zero, List.append_nil, Nat.zero_add]
  refine mLoop (fun N st => ∃ (i : Nat), i ≤ l.length ∧ N = l.length - i ∧
    st = ⟨[(2, .loc 4 0 0), (3, .loc 8 0 0), (14, .sl l.length 3 (ratsC l)), (15, .int .i64 l.length), (16, .int .i64 i)],
      [⟨true, 48, 5, 0, 1, arrG s ch t l, false⟩, ⟨false, 3, 1, 0, 0, [], false⟩, ⟨false, 21, 1, 0, 0, [], false⟩, ⟨false, 97, 3, 0, 0, [], false⟩, ⟨true, 77, 4, 0, 1, [.arr 1 0, .bool false, .arr 2 0, .arr 3 0], false⟩,
       ⟨false, 3, 1, 0, 0, [], false⟩, ⟨false, 21, 1, 0, 0, [], false⟩, ⟨false, 97, 3, 0, 0, [], false⟩, ⟨true, 77, 4, 0, 1, [ints s, .bool ch, runes t, .arr 9 i], false⟩, ⟨false, 97, 3, i, i, numsC (l.take i), false⟩]⟩) l.length
    ⟨_, rfl, 0, by omega, by omega, by simp [getE, ints, runes, arrG, numsC]⟩ ?_
  rintro N s0 ⟨i, hi, rfl, rfl⟩
  by_cases hlt : i < l.length
  · have hlt' : (i : Int) < (l.length : Int) := by omega
    have hi0 : (0 : Int) ≤ (i : Int) := by omega
    have hi1 : IntKind.i64.wrap ((i : Int) + 1) = ((i + 1 : Nat) : Int) := by rw [wrap_i64 (by omega) (by omega)]; omega
    have hsub := sub_rats hlt
    have hzi : In64 (l.getD i 0) := hz _ (by simp [List.getD, hlt])
    have htk := take_snoc hlt
    have e1 : (i + 1) * 40 ≤ 140737488355328 := by omega
    have e2 : i + 1 ≤ 140737488355328 := by omega
    have h74 := c74_ok (E := E) hzi
    simp only [b52_0, arrG, runes, go_sem, ↓reduceIte, Nat.reduceEqDiff, Nat.reduceAdd, Nat.reduceMul, Nat.reduceLeDiff, Nat.reduceLT, Int.reduceToNat, Int.reduceLT, Int.reduceLE, reduceCtorEq, Nat.reduceBEq, hlt', hi0, Int.toNat_natCast, hsub, ratC, us32, subT3, subP3, subP3', fillAll, fillIn, shiftR, shiftV, List.take_succ_cons, List.take_zero, List.drop_succ_cons, List.drop_zero, List.append_nil, Nat.zero_add]
    refine goR h74 rfl ?_
    simp only [go_sem, ↓reduceIte, Nat.reduceEqDiff, Nat.reduceAdd, Nat.reduceMul, Nat.reduceLeDiff, Nat.reduceLT, Int.reduceToNat, Int.reduceLT, Int.reduceLE, reduceCtorEq, Nat.reduceBEq, fillAll, fillIn, shiftR, shiftV, List.take_succ_cons, List.take_zero, List.drop_succ_cons, List.drop_zero, List.append_nil, Nat.zero_add, numC, hi1, e1, e2, List.flatten_cons, List.flatten_nil, Option.getD_some, subP3, subP3']
    refine loopQ_go rfl (l.length - (i + 1)) (by omega) ⟨i + 1, by omega, rfl, ?_⟩
    rw [htk, numsC_snoc]
    rfl
  · have hlt' : ¬ (i : Int) < (l.length : Int) := by omega
    obtain rfl : i = l.length := by omega
    simp only [b52_0, k52_0, arrG, runes, go_sem, ↓reduceIte, Nat.reduceEqDiff, Nat.reduceAdd, Nat.reduceMul, Nat.reduceLeDiff, Nat.reduceLT, Int.reduceToNat, Int.reduceLT, Int.reduceLE, reduceCtorEq, Nat.reduceBEq, hlt', List.take_length, subP4, fillAll, fillIn, shiftR, shiftV, List.take_succ_cons, List.take_zero, List.drop_succ_cons, List.drop_zero, List.append_nil, Nat.zero_add]
    simp only [i52, Out, resAll, geto, ints, List.getElem?_cons_zero, List.getElem?_cons_succ, resOf, outOf, snap, snapL, ev, getE, List.mapM_cons, List.mapM_nil, Option.bind_some, Option.pure_def, Option.bind_eq_bind, Option.map_some, reduceIte, Nat.reduceEqDiff, true_and, and_true, plG, runes, subP4]
/-- An array of numbers, if they are so many. -/
def fits (s : List Int) (n : Nat) : Bool := decide (count s = some (n : Int))
section
variable {E : CallRel}
end
end Go.Proofs.Ytcmbaabkfihdmaa.I
