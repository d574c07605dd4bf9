/- Layer 1: a number's digits. -/
import Derived.Test.YtcmbaabkfihdmaaL01b
import Derived.Test.YtcmbaabkfihdmaaL17c
set_option linter.unusedVariables false
set_option linter.unusedSimpArgs false
namespace Go.Proofs.Ytcmbaabkfihdmaa.I
open Go Go.V
attribute [local go_sem] mNil nat0 beq_self_eq_true mSkip mRet mExit mReg mSeq mCond mTrue mFalse mBlock mLv mCodeE mCodeR mEndN mEndR mEndE mOps mSome mGuard mGtt mGff mGtf mGft mGu mCallP mCallR mCallF mCallO mCallZ mCallG mCallM mCallV loopQ_exit loopQ_ret mO_mov mO_newnil mO_pick mO_alloc mO_box mO_build mO_bsl mO_ldf mO_ld mO_st mO_sta mO_nilchk mO_bin mO_binb mO_binp mO_bins mO_neg mO_not mO_conv mO_mk mO_mk0 mO_s2b mO_b2s mO_cpy mO_cut mO_faddr mO_fld mO_iaddr mO_iaddrf mO_sidx mO_len mO_lenf mO_slen mO_scut mO_app mO_ext mO_mx mO_mn mO_mkfn evalOp cutOp argsE ev getE putE cellsOf adopt rowOf binV boolV nilV arith geto bound finRet finNrm ints List.length_cons List.length_nil List.length_append List.getElem?_cons_zero List.getElem?_cons_succ List.nil_append List.cons_append List.map_cons List.map_nil List.mapM_cons List.mapM_nil Option.map_some Option.map_none Option.bind_some Option.pure_def Option.bind_eq_bind List.drop_zero or_self or_false false_or or_true true_or true_and and_true and_self decide_true decide_false Bool.false_eq_true Bool.true_eq_false Bool.not_true Bool.not_false Nat.le_refl eq_self gt_iff_lt ge_iff_le ne_eq not_true_eq_false not_false_eq_true storeOp apartOf freeze_nil refsL refs List.flatMap_cons List.flatMap_nil List.append_nil List.contains_nil List.set_cons_zero List.set_cons_succ snap snapL fill_nums flat_nums nums_length Go.V.freeze List.mapIdx_cons List.mapIdx_nil List.contains_cons Bool.or_false Bool.false_or Bool.or_true Bool.true_or
theorem asc_append {a b : List Int} : asc (a ++ b) = asc a ++ asc b := by simp [asc]
theorem asc_len {a : List Int} : (asc a).length = a.length := by simp [asc]
/-- Two ends change places until they meet. -/
def Half (y x : List Int) (i : Nat) : Prop := x.length = y.length ∧ ∀ p, p < y.length → x.getD p 0 = if p < i ∨ y.length < p + 1 + i then y.getD (y.length - 1 - p) 0 else y.getD p 0
theorem half_zero {y : List Int} : Half y y 0 := ⟨rfl, fun p hp => by rw [if_neg (by omega)]⟩
theorem half_step {y x : List Int} {i : Nat} (h : Half y x i) (hi : i + i + 1 < y.length) : Half y (swp x i (y.length - 1 - i)) (i + 1) := by
  obtain ⟨h1, h2⟩ := h
  refine ⟨by rw [swp_len (by omega) (by omega), h1], fun p hp => ?_⟩
  rw [swp_get (by omega) (by omega)]
  have ei := h2 i (by omega)
  have ej := h2 (y.length - 1 - i) (by omega)
  rw [if_neg (by omega)] at ei ej
  split
  · rename_i hpj
    rw [ei, if_pos (by omega)]
    congr 1
    omega
  · split
    · rename_i hpi
      rw [ej, if_pos (by omega)]
      congr 1
      omega
    · rw [h2 p hp]
      split
      · rw [if_pos (by omega)]
      · rw [if_neg (by omega)]
theorem half_done {y x : List Int} {i : Nat} (h : Half y x i) (hi : y.length ≤ i + i + 1) : x = y.reverse := by
  obtain ⟨h1, h2⟩ := h
  refine List.ext_getElem (by simp [h1]) (fun p hp hq => ?_)
  have hp' : p < y.length := by omega
  have e := h2 p hp'
  have e1 : x.getD p 0 = x[p] := by simp [List.getD, hp]
  have e2 : y.getD (y.length - 1 - p) 0 = y[y.length - 1 - p]'(by omega) := by simp [List.getD, show y.length - 1 - p < y.length by omega]
  rw [e1] at e
  rw [List.getElem_reverse, ← e2, e]
  split
  · rfl
  · rename_i hn
    congr 1
    omega
theorem dgs_ten {V : Nat} (h : V ≠ 0) : dgs V = ((V % 10 : Nat) : Int) :: dgs (V / 10) := dgs_pos h
theorem subT1 {a : AV} : sub true 1 [a] 0 = some (.agg [a]) := rfl
section
variable {E : CallRel}
theorem c99_ok {n : Nat} (h1 : (limG n).length ≤ 1000000) (h2 : (dgs n).length ≤ 1000000) : Go.V.Call tab E 99 [.agg [us32 (limG n)]] [] (.str (dec n)) [] := by
  refine Go.V.Call.mach i99 c99 rfl rfl rfl rfl ?_
  by_cases h0 : n = 0
  · subst h0
    simp only [c99, us32, limG_zero, go_sem, ↓reduceIte, Nat.reduceEqDiff, Nat.reduceAdd, Nat.reduceMul, Nat.reduceLeDiff, Nat.reduceLT, Int.reduceToNat, Int.reduceLT, Int.reduceLE, reduceCtorEq, Nat.reduceBEq, subB1, subT1, fillAll, fillIn, shiftR, shiftV, List.take_succ_cons, List.take_zero, List.drop_succ_cons, List.drop_zero, List.append_nil, Nat.zero_add, show ((0 : Int) == 0) = true from rfl]
    simp only [i99, Out, resAll, geto, ints, List.getElem?_cons_zero, List.getElem?_cons_succ, resOf, outOf, snap, snapL, ev, getE, List.mapM_cons, List.mapM_nil, Option.bind_some, Option.pure_def, Option.bind_eq_bind, Option.map_some, reduceIte, Nat.reduceEqDiff, true_and, and_true, dec]
  · have hlen : (limG n).length ≠ 0 := by rw [limG_pos h0]; simp
    have hlen' : (((limG n).length : Int) == 0) = false := by rw [beq_eq_false_iff_ne]; omega
    simp only [c99, us32, go_sem, ↓reduceIte, Nat.reduceEqDiff, Nat.reduceAdd, Nat.reduceMul, Nat.reduceLeDiff, Nat.reduceLT, Int.reduceToNat, Int.reduceLT, Int.reduceLE, reduceCtorEq, Nat.reduceBEq, subB1, subT1, fillAll, fillIn, shiftR, shiftV, List.take_succ_cons, List.take_zero, List.drop_succ_cons, List.drop_zero, List.append_nil, Nat.zero_add, hlen']
    refine mLoop (fun N st => ∃ (m : Nat) (out : List Int), m ≤ n ∧ N = m ∧ dgs n = out ++ dgs m ∧
      st = ⟨[(1, .loc 0 0 0), (3, .arr 1 out.length)], [⟨true, 66, 1, 0, 1, [us32 (limG m)], false⟩, ⟨false, 5, 1, out.length, out.length, nums .u8 (asc out), false⟩]⟩) n ⟨_, rfl, n, [], by omega, rfl, by simp, by simp [getE, us32, asc, nums]⟩ ?_
    rintro N s0 ⟨m, out, hm, rfl, hd, rfl⟩
    by_cases hN : N = 0
    · subst hN
      rw [dgs_zero, List.append_nil] at hd
      have hlast := dgs_last h0
      have hol : 1 ≤ out.length := by
        obtain ⟨l, d, e, _⟩ := hlast
        rw [← hd, e]; simp
      have hw : IntKind.i64.wrap ((out.length : Int) - 1) = (out.length : Int) - 1 := by
        rw [hd] at h2
        exact wrap_i64 (by omega) (by omega)
      rw [hd] at h2
      simp only [b99_0, k99_2, us32, limG_zero, go_sem, ↓reduceIte, Nat.reduceEqDiff, Nat.reduceAdd, Nat.reduceMul, Nat.reduceLeDiff, Nat.reduceLT, Int.reduceToNat, Int.reduceLT, Int.reduceLE, reduceCtorEq, Nat.reduceBEq, subB1, subT1, fillAll, fillIn, shiftR, shiftV, List.take_succ_cons, List.take_zero, List.drop_succ_cons, List.drop_zero, List.append_nil, Nat.zero_add]
      refine goR (c124_ok (l := [])) rfl ?_
      simp only [go_sem, ↓reduceIte, Nat.reduceEqDiff, Nat.reduceAdd, Nat.reduceMul, Nat.reduceLeDiff, Nat.reduceLT, Int.reduceToNat, Int.reduceLT, Int.reduceLE, reduceCtorEq, Nat.reduceBEq, List.length_nil, show (((0 : Nat) : Int)) = 0 from rfl, show ((0 : Int) == 0) = true from rfl, hw]
      refine mLoop (fun N st => ∃ (i : Nat) (x : List Int) (jj : Int), i ≤ out.length ∧ N = out.length - i ∧ jj = (out.length : Int) - 1 - (i : Int) ∧ Half (asc out) x i ∧
        st = ⟨[(3, .arr 1 out.length), (7, .int .i64 i), (8, .int .i64 jj)], [⟨true, 66, 1, 0, 1, [.sl 0 1 (nums .u32 [])], false⟩, ⟨false, 5, 1, out.length, out.length, nums .u8 x, false⟩]⟩) out.length ⟨_, rfl, 0, asc out, _, by omega, by omega, rfl, half_zero, by simp [getE]⟩ ?_
      rintro N s0 ⟨i, x, jj, hi, rfl, hjj, hx, rfl⟩
      have hxl : x.length = out.length := by rw [hx.1, asc_len]
      by_cases hlt : i + i + 1 < out.length
      · have hlt' : (i : Int) < jj := by omega
        obtain ⟨j, hj⟩ : ∃ j : Nat, jj = j := ⟨jj.toNat, by omega⟩
        subst hj
        have hi0 : (0 : Int) ≤ (i : Int) := by omega
        have hj0 : (0 : Int) ≤ (j : Int) := by omega
        have hil : (i : Int) < (out.length : Int) := by omega
        have hjl : (j : Int) < (out.length : Int) := by omega
        have hsi := sub_nums (k := .u8) (l := x) (i := i) (by omega)
        have hsj := sub_nums (k := .u8) (l := x) (i := j) (by omega)
        have ht1 : i * 1 + 1 ≤ x.length := by omega
        have ht2 : j * 1 + 1 ≤ (x.take i).length + ((x.drop (i + 1)).length + 1) := by simp; omega
        have hi1 : IntKind.i64.wrap ((i : Int) + 1) = ((i + 1 : Nat) : Int) := by rw [wrap_i64 (by omega) (by omega)]; omega
        have hj1 : IntKind.i64.wrap ((j : Int) - 1) = (j : Int) - 1 := wrap_i64 (by omega) (by omega)
        have hst := half_step hx (by rw [asc_len]; exact hlt)
        have hjeq : (asc out).length - 1 - i = j := by rw [asc_len]; omega
        rw [hjeq] at hst
        simp only [b99_2, go_sem, ↓reduceIte, Nat.reduceEqDiff, Nat.reduceAdd, Nat.reduceMul, Nat.reduceLeDiff, Nat.reduceLT, Int.reduceToNat, Int.reduceLT, Int.reduceLE, reduceCtorEq, Nat.reduceBEq, hlt', hi0, hj0, hil, hjl, hsi, hsj, ht1, ht2, hi1, hj1, Int.toNat_natCast]
        exact loopQ_go rfl (out.length - (i + 1)) (by omega) ⟨i + 1, swp x i j, _, by omega, rfl, by omega, hst, rfl⟩
      · have hlt' : ¬ (i : Int) < jj := by omega
        have hxx := half_done hx (by rw [asc_len]; omega)
        simp only [b99_2, k99_1, go_sem, ↓reduceIte, Nat.reduceEqDiff, Nat.reduceAdd, Nat.reduceMul, Nat.reduceLeDiff, Nat.reduceLT, Int.reduceToNat, Int.reduceLT, Int.reduceLE, reduceCtorEq, Nat.reduceBEq, hlt', bytesOf_nums]
        simp only [i99, Out, resAll, geto, ints, List.getElem?_cons_zero, List.getElem?_cons_succ, resOf, outOf, snap, snapL, ev, getE, List.mapM_cons, List.mapM_nil, Option.bind_some, Option.pure_def, Option.bind_eq_bind, Option.map_some, reduceIte, Nat.reduceEqDiff, true_and, and_true, dec, if_neg h0, hxx, hd]
    · have hlenN : (limG N).length ≠ 0 := by rw [limG_pos hN]; simp
      have hlenN' : (((limG N).length : Int) == 0) = false := by rw [beq_eq_false_iff_ne]; omega
      have hmono := limG_mono hm
      have hsm := c125_ok (E := E) (l := limG N) (d := 1000000000) R32_limG (by omega) (by omega)
      rw [nval_limG] at hsm
      have hqr := Nat.div_add_mod N 1000000000
      have hrl := Nat.mod_lt N (show 0 < 1000000000 by omega)
      have hqN : N / 1000000000 < N := by omega
      simp only [b99_0, us32, go_sem, ↓reduceIte, Nat.reduceEqDiff, Nat.reduceAdd, Nat.reduceMul, Nat.reduceLeDiff, Nat.reduceLT, Int.reduceToNat, Int.reduceLT, Int.reduceLE, reduceCtorEq, Nat.reduceBEq, subB1, subT1, fillAll, fillIn, shiftR, shiftV, List.take_succ_cons, List.take_zero, List.drop_succ_cons, List.drop_zero, List.append_nil, Nat.zero_add]
      refine goR (c124_ok (l := limG N)) rfl ?_
      simp only [us32, go_sem, ↓reduceIte, Nat.reduceEqDiff, Nat.reduceAdd, Nat.reduceMul, Nat.reduceLeDiff, Nat.reduceLT, Int.reduceToNat, Int.reduceLT, Int.reduceLE, reduceCtorEq, Nat.reduceBEq, subB1, subT1, fillAll, fillIn, shiftR, shiftV, List.take_succ_cons, List.take_zero, List.drop_succ_cons, List.drop_zero, List.append_nil, Nat.zero_add, hlenN']
      refine goF hsm ?_
      generalize N / 1000000000 = q at *
      generalize N % 1000000000 = r at *
      simp only [us32, go_sem, ↓reduceIte, Nat.reduceEqDiff, Nat.reduceAdd, Nat.reduceMul, Nat.reduceLeDiff, Nat.reduceLT, Int.reduceToNat, Int.reduceLT, Int.reduceLE, reduceCtorEq, Nat.reduceBEq, subB1, subT1, fillAll, fillIn, shiftR, shiftV, List.take_succ_cons, List.take_zero, List.drop_succ_cons, List.drop_zero, List.append_nil, Nat.zero_add]
      refine mLoop (fun N' st => ∃ (i : Nat) (o : List Int) (r' : Nat), i ≤ 9 ∧ N' = 9 - i ∧ r' < 10 ^ (9 - i) ∧ dgs n = o ++ dgs (q * 10 ^ (9 - i) + r') ∧
        st = ⟨[(1, .loc 0 0 0), (3, .arr 1 o.length), (4, .loc 3 0 0), (5, .int .u32 r'), (6, .int .i64 i)],
          [⟨true, 66, 1, 0, 1, [us32 (limG N)], false⟩, ⟨false, 5, 1, o.length, o.length, nums .u8 (asc o), false⟩, ⟨false, 133, 1, 0, 0, [], false⟩, ⟨true, 66, 1, 0, 1, [us32 (limG q)], false⟩]⟩) 9
        ⟨_, rfl, 0, out, r, by omega, by omega, by simpa using hrl, by rw [hd]; congr 2; simp; omega, by simp [getE, us32]⟩ ?_
      rintro N' s0 ⟨i, o, r', hi, rfl, hr', hdo, rfl⟩
      have exitC : ∀ V, V = q → dgs n = o ++ dgs V → dgs n = o ++ dgs q := fun V h1 h2 => by rw [← h1]; exact h2
      by_cases hi9 : i < 9
      · have hi9' : (i : Int) < 9 := by omega
        have hp : 10 ^ (9 - i) = 10 * 10 ^ (9 - (i + 1)) := by rw [show 9 - i = (9 - (i + 1)) + 1 by omega, Nat.pow_succ, Nat.mul_comm]
        have hpp : 0 < 10 ^ (9 - (i + 1)) := Nat.pow_pos (by omega)
        rw [hp] at hr' hdo
        have hV : q * (10 * 10 ^ (9 - (i + 1))) = 10 * (q * 10 ^ (9 - (i + 1))) := by rw [← Nat.mul_assoc, ← Nat.mul_assoc, Nat.mul_comm q]
        rw [hV] at hdo
        have step : q * 10 ^ (9 - (i + 1)) + r' ≠ 0 → (o.length + 1 ≤ 1000000 ∧ dgs n = (o ++ [((r' % 10 : Nat) : Int)]) ++ dgs (q * 10 ^ (9 - (i + 1)) + r' / 10)) := by
          intro hne
          have e : dgs (10 * (q * 10 ^ (9 - (i + 1))) + r') = ((r' % 10 : Nat) : Int) :: dgs (q * 10 ^ (9 - (i + 1)) + r' / 10) := by
            generalize q * 10 ^ (9 - (i + 1)) = G at *
            rw [dgs_pos (by omega)]
            congr 2 <;> omega
          rw [e] at hdo
          refine ⟨?_, by rw [hdo]; simp⟩
          rw [hdo] at h2
          simp at h2
          omega
        have hr10 : r' / 10 < 10 ^ (9 - (i + 1)) := by omega
        have hrl2 : r' < 10000000000 := by
          have : 10 ^ (9 - (i + 1)) ≤ 10 ^ 8 := Nat.pow_le_pow_right (by omega) (by omega)
          omega
        have hrl3 : r' < 1000000000 := by
          have : 10 ^ (9 - (i + 1)) ≤ 10 ^ 8 := Nat.pow_le_pow_right (by omega) (by omega)
          omega
        have t1 : Int.tmod (r' : Int) 10 = ((r' % 10 : Nat) : Int) := by rw [Int.tmod_eq_emod_of_nonneg (by omega)]; omega
        have t2 : IntKind.u32.wrap (Int.tdiv (r' : Int) 10) = ((r' / 10 : Nat) : Int) := by rw [Int.tdiv_eq_ediv_of_nonneg (by omega), wrap_u32]; omega
        have t3 : IntKind.u32.wrap (48 + ((r' % 10 : Nat) : Int)) = 48 + ((r' % 10 : Nat) : Int) := by rw [wrap_u32]; omega
        have t4 : IntKind.u8.wrap (48 + ((r' % 10 : Nat) : Int)) = 48 + ((r' % 10 : Nat) : Int) := by
          simp only [IntKind.wrap, IntKind.bits, IntKind.signed]
          simp
          omega
        have t5 : ¬ (10 : Int) = 0 := by omega
        have hi1 : IntKind.i64.wrap ((i : Int) + 1) = ((i + 1 : Nat) : Int) := by rw [wrap_i64 (by omega) (by omega)]; omega
        have hasc : nums .u8 (asc (o ++ [((r' % 10 : Nat) : Int)])) = nums .u8 (asc o) ++ [.int .u8 (48 + ((r' % 10 : Nat) : Int))] := by simp [nums, asc]
        by_cases hr0 : r' = 0
        · subst hr0
          have z1 : ¬ (0 : Int) < ((0 : Nat) : Int) := by omega
          by_cases hq0 : q = 0
          · subst hq0
            simp only [b99_1, k99_0, us32, limG_zero, go_sem, ↓reduceIte, Nat.reduceEqDiff, Nat.reduceAdd, Nat.reduceMul, Nat.reduceLeDiff, Nat.reduceLT, Int.reduceToNat, Int.reduceLT, Int.reduceLE, reduceCtorEq, Nat.reduceBEq, subB1, subT1, fillAll, fillIn, shiftR, shiftV, List.take_succ_cons, List.take_zero, List.drop_succ_cons, List.drop_zero, List.append_nil, Nat.zero_add, hi9', z1]
            refine goR (c124_ok (l := [])) rfl ?_
            simp only [us32, limG_zero, go_sem, ↓reduceIte, Nat.reduceEqDiff, Nat.reduceAdd, Nat.reduceMul, Nat.reduceLeDiff, Nat.reduceLT, Int.reduceToNat, Int.reduceLT, Int.reduceLE, reduceCtorEq, Nat.reduceBEq, subB1, subT1, fillAll, fillIn, shiftR, shiftV, List.take_succ_cons, List.take_zero, List.drop_succ_cons, List.drop_zero, List.append_nil, Nat.zero_add, List.length_nil, show (((0 : Nat) : Int)) = 0 from rfl, show ((0 : Int) == 0) = true from rfl]
            refine loopQ_go rfl 0 (by omega) ⟨0, o, by omega, rfl, ?_, ?_⟩
            · rw [hdo]; simp
            · rw [limG_zero]; rfl
          · have hlq : (((limG q).length : Int) == 0) = false := by
              have : (limG q).length ≠ 0 := by rw [limG_pos hq0]; simp
              rw [beq_eq_false_iff_ne]; omega
            have hne : q * 10 ^ (9 - (i + 1)) + 0 ≠ 0 := by
              have := Nat.mul_pos (Nat.pos_of_ne_zero hq0) hpp
              omega
            obtain ⟨e1, e2⟩ := step hne
            have e3 : (o.length + 1) * 1 ≤ 140737488355328 := by omega
            have e4 : o.length + 1 ≤ 140737488355328 := by omega
            simp only [b99_1, us32, go_sem, ↓reduceIte, Nat.reduceEqDiff, Nat.reduceAdd, Nat.reduceMul, Nat.reduceLeDiff, Nat.reduceLT, Int.reduceToNat, Int.reduceLT, Int.reduceLE, reduceCtorEq, Nat.reduceBEq, subB1, subT1, fillAll, fillIn, shiftR, shiftV, List.take_succ_cons, List.take_zero, List.drop_succ_cons, List.drop_zero, List.append_nil, Nat.zero_add, hi9', z1]
            refine goR (c124_ok (l := limG q)) rfl ?_
            simp only [us32, go_sem, ↓reduceIte, Nat.reduceEqDiff, Nat.reduceAdd, Nat.reduceMul, Nat.reduceLeDiff, Nat.reduceLT, Int.reduceToNat, Int.reduceLT, Int.reduceLE, reduceCtorEq, Nat.reduceBEq, subB1, subT1, fillAll, fillIn, shiftR, shiftV, List.take_succ_cons, List.take_zero, List.drop_succ_cons, List.drop_zero, List.append_nil, Nat.zero_add, hlq, t1, t2, t3, t4, t5, e3, e4, hi1, Nat.mul_one, List.flatten_cons, List.flatten_nil, Option.getD_some]
            refine loopQ_go rfl (9 - (i + 1)) (by omega) ⟨i + 1, _, _, by omega, rfl, hr10, e2, ?_⟩
            rw [hasc, List.length_append]
            rfl
        · have z1 : (0 : Int) < (r' : Int) := by omega
          obtain ⟨e1, e2⟩ := step (by omega)
          have e3 : (o.length + 1) * 1 ≤ 140737488355328 := by omega
          have e4 : o.length + 1 ≤ 140737488355328 := by omega
          simp only [b99_1, us32, go_sem, ↓reduceIte, Nat.reduceEqDiff, Nat.reduceAdd, Nat.reduceMul, Nat.reduceLeDiff, Nat.reduceLT, Int.reduceToNat, Int.reduceLT, Int.reduceLE, reduceCtorEq, Nat.reduceBEq, subB1, subT1, fillAll, fillIn, shiftR, shiftV, List.take_succ_cons, List.take_zero, List.drop_succ_cons, List.drop_zero, List.append_nil, Nat.zero_add, hi9', z1, t1, t2, t3, t4, t5, e3, e4, hi1, Nat.mul_one, List.flatten_cons, List.flatten_nil, Option.getD_some]
          refine loopQ_go rfl (9 - (i + 1)) (by omega) ⟨i + 1, _, _, by omega, rfl, hr10, e2, ?_⟩
          rw [hasc, List.length_append]
          rfl
      · have hi9' : ¬ (i : Int) < 9 := by omega
        obtain rfl : i = 9 := by omega
        simp only [Nat.sub_self, Nat.pow_zero, Nat.mul_one] at hr' hdo
        obtain rfl : r' = 0 := by omega
        simp only [b99_1, k99_0, us32, go_sem, ↓reduceIte, Nat.reduceEqDiff, Nat.reduceAdd, Nat.reduceMul, Nat.reduceLeDiff, Nat.reduceLT, Int.reduceToNat, Int.reduceLT, Int.reduceLE, reduceCtorEq, Nat.reduceBEq, subB1, subT1, fillAll, fillIn, shiftR, shiftV, List.take_succ_cons, List.take_zero, List.drop_succ_cons, List.drop_zero, List.append_nil, Nat.zero_add, hi9']
        refine loopQ_go rfl q (by omega) ⟨q, o, by omega, rfl, ?_, rfl⟩
        rw [hdo]
        rfl
end
end Go.Proofs.Ytcmbaabkfihdmaa.I
