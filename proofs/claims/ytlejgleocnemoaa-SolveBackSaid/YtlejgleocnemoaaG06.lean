/- The texts L02a L02b L02c L16a LDet LSol LRed L18a L16b L08a L08b L07l L07m L07o L07p L16c L16d L18b LInv L18c L18d, one behind the other. Conditions: each text's own. -/
import Derived.Test.YtlejgleocnemoaaG05
import Derived.Test.YtlejgleocnemoaaG04
import Derived.WalkKit
set_option linter.unusedSimpArgs false
set_option linter.unusedVariables false
namespace Go.Proofs.Ytlejgleocnemoaa.I
open Go Go.V
attribute [local go_sem_proc ↓] reduceIte
attribute [local go_sem_proc] Nat.reduceEqDiff Nat.reduceAdd Nat.reduceMul Nat.reduceLeDiff Nat.reduceLT Int.reduceToNat Int.reduceLT Int.reduceLE reduceCtorEq Nat.reduceBEq
attribute [local go_sem] mNil nat0 beq_self_eq_true mSkip mRet mExit mReg mSeq mCond mTrue mFalse mBlock mLv mCodeE mCodeR mEndN mEndR mEndE mOps mSome mGuard mGtt mGff mGtf mGft mGu mCallP mCallR mCallF mCallO mCallZ mCallG mCallM mCallV loopQ_exit loopQ_ret mO_mov mO_newnil mO_pick mO_alloc mO_box mO_build mO_bsl mO_bslF mO_newnilB mO_bslB mO_lenB mO_appB mO_allocA mO_bslA mO_appA mO_ldb mO_faddrb mRsv mO_ldf mO_ld mO_st mO_sta mO_nilchk mO_bin mO_binb mO_binp mO_bins mO_neg mO_com mO_not mO_conv mO_mk mO_mk0 mO_mkB mO_s2b mO_b2s mO_cpy mO_cut mO_faddr mO_fld mO_iaddr mO_iaddrf mO_sidx mO_len mO_lenf mO_slen mO_scut mO_app mO_ext mO_mx mO_mn mO_mkfn evalOp cutOp argsE ev getE putE cellsOf adopt rowOf binV boolV nilV ar_add ar_sub ar_mul ar_quo ar_rem ar_eq ar_ne ar_lt ar_le ar_gt ar_ge ar_and ar_or ar_xor geto bound finRet finNrm ints List.length_cons List.length_nil List.length_append List.getElem?_cons_zero List.getElem?_cons_succ List.nil_append List.cons_append List.map_cons List.map_nil List.mapM_cons List.mapM_nil Option.map_some Option.map_none Option.bind_some Option.pure_def Option.bind_eq_bind List.drop_zero or_self or_false false_or or_true true_or true_and and_true and_self decide_true decide_false Bool.false_eq_true Bool.true_eq_false Bool.not_true Bool.not_false Nat.le_refl eq_self gt_iff_lt ge_iff_le ne_eq not_true_eq_false not_false_eq_true storeOp apartOf freeze_nil refsL refs List.flatMap_cons List.flatMap_nil List.append_nil List.contains_nil List.set_cons_zero List.set_cons_succ snap snapL fill_nums flat_nums nums_length Go.V.freeze List.mapIdx_cons List.mapIdx_nil List.contains_cons Bool.or_false Bool.false_or Bool.or_true Bool.true_or
section
variable {E : CallRel}
theorem sub_step {x y c : Nat} (hx : x < 4294967296) (hy : y < 4294967296) (hc : c ≤ 1) : ∃ d c' : Nat, d < 4294967296 ∧ c' ≤ 1 ∧ x + 4294967296 * c' = y + c + d ∧
    (x + 4294967296 - y + 4294967296 - c) % 4294967296 = d ∧ (if x < y + c then 1 else 0) = c' := by
  by_cases h : x < y + c
  · exact ⟨x + 4294967296 - y - c, 1, by omega, by omega, by omega, by omega, if_pos h⟩
  · exact ⟨x - y - c, 0, by omega, by omega, by omega, by omega, if_neg h⟩
theorem c150_ok {a b : Nat} (ha : (limG a).length ≤ 1000000) (hb : (limG b).length ≤ 1000000) : Go.V.Call tab E 150 [natC a, natC b] [] (.tup [natC (if b ≤ a then a - b else 0), .bool (decide (b ≤ a))]) [] := by
  refine Go.V.Call.mach i150 c150 rfl rfl rfl rfl ?_
  have hcmp := c145_ok (E := E) (a := a) (b := b) ha hb
  have hmono := fun h : b ≤ a => limG_mono (a := b) (b := a) h
  have hRa := R32_limG (n := a)
  have hRb := R32_limG (n := b)
  have ea := nval_limG (n := a)
  have eb := nval_limG (n := b)
  by_cases hab : b ≤ a
  · have hc : ¬ cmpZ a b < 0 := by
      unfold cmpZ
      rw [if_neg (by omega)]
      split <;> omega
    rw [if_pos hab, decide_eq_true hab]
    have hCA := hmono hab
    have htrim : ∀ l : List Int, R32 l → (l.length : Int) ≤ 1000000000000 → nval l = a - b → Go.V.Call tab E 139 [us32 l] [] (natC (a - b)) [] := fun l h1 h2 h3 => by
      have h := c139_ok (E := E) (l := l) h2
      rwa [trimL_limG h1, h3] at h
    simp only [natC, us32] at hcmp htrim ⊢
    clear hmono
    generalize hA : limG a = A at *
    generalize hC : limG b = C at *
    have b1 : (0 : Int) ≤ (A.length : Int) := by omega
    have b2 : 4 * A.length ≤ 140737488355328 := by omega
    have b3 : (A.length : Int) ≤ 140737488355328 := by omega
    simp only [c150, us32, go_sem, subB1, subT1, FL]
    refine goP hcmp ?_
    simp only [us32, go_sem, subB1, subT1, FL, hc, b1, b2, b3, Int.toNat_natCast, flat_nums]
    refine mLoop (fun N st => ∃ (i : Nat) (L : List Int) (c : Nat), i ≤ A.length ∧ N = A.length - i ∧ L.length = A.length ∧ R32 L ∧ c ≤ 1 ∧ (∀ j, i ≤ j → L.getD j 0 = 0) ∧ nval (A.take i) + 4294967296 ^ i * c = nval (C.take i) + nval L ∧
      st = ⟨[(2, .loc 0 0 0), (3, .loc 1 0 0), (4, .loc 3 0 0), (6, .arr 4 0), (7, .int .u32 c), (21, .int .i64 A.length), (22, .int .i64 i)],
        [⟨true, 55, 1, 0, 1, [us32 A], false⟩, ⟨true, 55, 1, 0, 1, [us32 C], false⟩, ⟨false, 154, 1, 0, 0, [], false⟩, ⟨true, 55, 1, 0, 1, [.arr 2 0], false⟩, ⟨false, 154, 1, 0, A.length, nums .u32 L, false⟩]⟩) A.length
      ⟨_, rfl, 0, List.replicate A.length 0, 0, by omega, by omega, by simp, R32_zeros, by omega, fun j _ => zeros_get, by rw [nval_zeros]; simp [nval], by simp [getE, us32]⟩ ?_
    rintro N s0 ⟨i, L, c, hi, rfl, hL, hR', hc1, hz, hv, rfl⟩
    by_cases hiX : i < A.length
    · have hi' : (i : Int) < (A.length : Int) := by omega
      have hi0 : (0 : Int) ≤ (i : Int) := by omega
      have hi1 : IntKind.i64.wrap ((i : Int) + 1) = ((i + 1 : Nat) : Int) := by rw [wrap_i64 (by omega) (by omega)]; omega
      have hsx := sub_nums (k := .u32) hiX
      have hxr := R32_get hRa i
      have hyr := R32_get hRb i
      have htx := nval_take_succ' (l := A) (k := i)
      have hty := nval_take_succ' (l := C) (k := i)
      obtain ⟨x, hx⟩ := Int.eq_ofNat_of_zero_le hxr.1
      obtain ⟨y, hy⟩ := Int.eq_ofNat_of_zero_le hyr.1
      rw [hx] at hsx hxr htx
      rw [hy] at hyr hty
      simp only [Int.toNat_natCast] at htx hty
      have h103 := c157_ok (E := E) (x := x) (y := y) (b := c) (by omega) (by omega) hc1
      obtain ⟨d, c', hdl, hc'1, hst, hd, hc'⟩ := sub_step (x := x) (y := y) (c := c) (by omega) (by omega) hc1
      rw [hd, hc'] at h103
      clear hd hc'
      have t1 : i * 1 + 1 ≤ L.length := by omega
      have p1 := put_nval (l := L) (k := i) (v := (d : Int)) (by omega)
      rw [hz i (by omega)] at p1
      simp only [Int.toNat_natCast, Int.toNat_zero, Nat.mul_zero, Nat.add_zero] at p1
      have inv : nval (A.take (i + 1)) + 4294967296 ^ (i + 1) * c' = nval (C.take (i + 1)) + nval (put L i (d : Int)) := by
        rw [p1, htx, hty, Nat.pow_succ, Nat.mul_assoc]
        generalize 4294967296 ^ i = P at *
        have e1 : P * (x + 4294967296 * c') = P * (y + c + d) := by rw [hst]
        simp only [Nat.mul_add] at e1
        omega
      have fin : (put L i (d : Int)).length = A.length ∧ R32 (put L i (d : Int)) ∧ (∀ j, i + 1 ≤ j → (put L i (d : Int)).getD j 0 = 0) := by
        refine ⟨by rw [put_len (by omega), hL], put_R32 hR' (by omega), fun j hj => ?_⟩
        rw [put_get (by omega), if_neg (by omega)]
        exact hz j (by omega)
      obtain ⟨f1, f2, f3⟩ := fin
      by_cases hiY : i < C.length
      · have hiY' : (i : Int) < (C.length : Int) := by omega
        have hsy := sub_nums (k := .u32) hiY
        rw [hy] at hsy
        simp only [b150_0, us32, go_sem, subB1, hi', hi0, hiY', hsx, hsy, Int.toNat_natCast]
        refine goP h103 ?_
        simp only [us32, go_sem, hi', hi0, Int.toNat_natCast, t1, hi1]
        exact loopQ_go rfl (A.length - (i + 1)) (by omega) ⟨i + 1, put L i (d : Int), c', by omega, rfl, f1, f2, hc'1, f3, inv, rfl⟩
      · have hiY' : ¬ (i : Int) < (C.length : Int) := by omega
        have hy0 : y = 0 := by
          have := getD_big (l := C) (k := i) (by omega)
          omega
        subst hy0
        simp only [b150_0, us32, go_sem, subB1, hi', hi0, hiY', hsx, Int.toNat_natCast]
        refine goP h103 ?_
        simp only [us32, go_sem, hi', hi0, Int.toNat_natCast, t1, hi1]
        exact loopQ_go rfl (A.length - (i + 1)) (by omega) ⟨i + 1, put L i (d : Int), c', by omega, rfl, f1, f2, hc'1, f3, inv, rfl⟩
    · have hn' : ¬ (i : Int) < (A.length : Int) := by omega
      obtain rfl : i = A.length := by omega
      rw [List.take_length, List.take_of_length_le hCA, ea, eb] at hv
      have hlt := nval_lt hR'
      rw [hL] at hlt
      have hc0 : c = 0 := by
        by_cases h : c = 0
        · exact h
        · have : c = 1 := by omega
          subst this
          omega
      have hval : nval L = a - b := by subst hc0; omega
      have h63 := htrim L hR' (by omega) hval
      rw [hL] at h63
      simp only [b150_0, k150_0, us32, go_sem, hn', Int.lt_irrefl]
      refine goF h63 ?_
      simp only [us32, go_sem, FL]
      simp only [i150, OT, reduceIte, Nat.reduceEqDiff, sub, FL, List.length_cons, List.length_nil, Nat.le_refl, us32]
  · have hc : cmpZ a b < 0 := by
      unfold cmpZ
      rw [if_pos (by omega)]
      omega
    rw [if_neg hab, decide_eq_false hab]
    simp only [natC, us32, limG_zero] at hcmp ⊢
    simp only [c150, us32, go_sem, subB1, subT1, FL]
    refine goP hcmp ?_
    simp only [us32, go_sem, subB1, subT1, FL, hc]
    simp only [i150, OT, reduceIte, Nat.reduceEqDiff, sub, FL, List.length_cons, List.length_nil, Nat.le_refl]
    rfl
end
theorem wI_neg {p : Nat} : whC (true && decide (p ≠ 0)) p = wI (-(p : Int)) := by
  have h1 : (-(p : Int)).natAbs = p := by omega
  rw [wI, h1]
  congr 1
  by_cases h : p = 0
  · subst h; rfl
  · rw [decide_eq_true h, decide_eq_true (show -(p : Int) < 0 by omega)]; rfl
theorem wI_pos {p : Nat} : whC (false && decide (p ≠ 0)) p = wI (p : Int) := by
  have h1 : ((p : Int)).natAbs = p := by omega
  rw [wI, h1, decide_eq_false (show ¬ (p : Int) < 0 by omega)]
  rfl
section
variable {E : CallRel}
theorem c138_ok {x y : Int} (hx : (limG x.natAbs).length ≤ 1000000) (hy : (limG y.natAbs).length ≤ 1000000) : Go.V.Call tab E 138 [.agg (wI x), .agg (wI y)] [] (.agg (wI (x + y))) [] := by
  refine Go.V.Call.mach i138 c138 rfl rfl rfl rfl ?_
  have h92 := c151_ok (E := E) hx hy
  have h93 := c150_ok (E := E) hx hy
  have h93' := c150_ok (E := E) hy hx
  have h68 := fun n p => c136_ok (E := E) (n := n) (p := p)
  simp only [natC, us32] at h92 h93 h93' h68
  by_cases hs : decide (x < 0) = decide (y < 0)
  · have hb : (decide (x < 0) == decide (y < 0)) = true := by rw [hs]; cases decide (y < 0) <;> rfl
    have hr : whC (decide (x < 0) && decide (x.natAbs + y.natAbs ≠ 0)) (x.natAbs + y.natAbs) = wI (x + y) := by
      by_cases h : x < 0
      · have hy0 : y < 0 := by rw [decide_eq_true h] at hs; simpa using hs.symm
        rw [decide_eq_true h, wI_neg]
        congr 1; omega
      · have hy0 : ¬ y < 0 := by rw [decide_eq_false h] at hs; simpa using hs.symm
        rw [decide_eq_false h, wI_pos]
        congr 1; omega
    rw [← hr]
    simp only [c138, wI, whC, us32, go_sem, FL, subW0, subW1, hb]
    refine goP h92 ?_
    simp only [us32, go_sem, FL]
    refine goP (h68 _ _) ?_
    simp only [us32, go_sem, FL]
    simp only [i138, OT, reduceIte, Nat.reduceEqDiff, subW2, whC, us32]
  · have hb : (decide (x < 0) == decide (y < 0)) = false := by
      revert hs; cases decide (x < 0) <;> cases decide (y < 0) <;> intro hs <;> first | rfl | exact absurd rfl hs
    by_cases hle : y.natAbs ≤ x.natAbs
    · rw [if_pos hle, decide_eq_true hle] at h93
      have hr : whC (decide (x < 0) && decide (x.natAbs - y.natAbs ≠ 0)) (x.natAbs - y.natAbs) = wI (x + y) := by
        by_cases h : x < 0
        · have hy0 : ¬ y < 0 := fun h2 => hs (by rw [decide_eq_true h, decide_eq_true h2])
          rw [decide_eq_true h, wI_neg]
          congr 1; omega
        · have hy0 : y < 0 := by
            by_cases h2 : y < 0
            · exact h2
            · exact absurd (by rw [decide_eq_false h, decide_eq_false h2]) hs
          rw [decide_eq_false h, wI_pos]
          congr 1; omega
      rw [← hr]
      simp only [c138, wI, whC, us32, go_sem, FL, subW0, subW1, hb]
      refine goP h93 ?_
      simp only [us32, go_sem, FL, subW0, subW1, subT1]
      refine goF (h68 _ _) ?_
      simp only [us32, go_sem, FL]
      simp only [i138, OT, reduceIte, Nat.reduceEqDiff, subW2, whC, us32]
    · rw [if_neg hle, decide_eq_false hle, limG_zero] at h93
      rw [if_pos (by omega), decide_eq_true (show x.natAbs ≤ y.natAbs by omega)] at h93'
      have hr : whC (decide (y < 0) && decide (y.natAbs - x.natAbs ≠ 0)) (y.natAbs - x.natAbs) = wI (x + y) := by
        by_cases h : y < 0
        · have hy0 : ¬ x < 0 := fun h2 => hs (by rw [decide_eq_true h, decide_eq_true h2])
          rw [decide_eq_true h, wI_neg]
          congr 1; omega
        · have hy0 : x < 0 := by
            by_cases h2 : x < 0
            · exact h2
            · exact absurd (by rw [decide_eq_false h, decide_eq_false h2]) hs
          rw [decide_eq_false h, wI_pos]
          congr 1; omega
      rw [← hr]
      simp only [c138, wI, whC, us32, go_sem, FL, subW0, subW1, hb]
      refine goP h93 ?_
      simp only [us32, go_sem, FL, subW0, subW1, subT1]
      refine goP h93' ?_
      simp only [us32, go_sem, FL, subW0, subW1, subT1]
      refine goF (h68 _ _) ?_
      simp only [us32, go_sem, FL]
      simp only [i138, OT, reduceIte, Nat.reduceEqDiff, subW2, whC, us32]
theorem c110_ok {x y : Int} (hx : (limG x.natAbs).length ≤ 1000000) (hy : (limG y.natAbs).length ≤ 1000000) : Go.V.Call tab E 110 [.agg (wI x), .sl 1 2 (wI y)] [] (.agg (wI (x + y))) [] := by
  refine Go.V.Call.mach i110 c110 rfl rfl rfl rfl ?_
  have h72 := c138_ok (E := E) hx hy
  simp only [wI, whC, us32] at h72
  simp only [c110, wI, whC, us32, go_sem, FL, subW2]
  refine mLoop (fun N st => ∃ (i : Nat) (z : Int), (i = 0 ∧ z = x ∨ i = 1 ∧ z = x + y) ∧ N = 1 - i ∧
    st = ⟨[(2, .loc 0 0 0), (4, .loc 2 0 0), (7, .sl 1 2 (wI y)), (8, .int .i64 1), (9, .int .i64 i)], [⟨true, 57, 2, 0, 1, wI z, false⟩, ⟨false, 154, 1, 0, 0, [], false⟩, ⟨true, 57, 2, 0, 1, [.arr 1 0, .bool false], false⟩]⟩) 1
    ⟨_, rfl, 0, x, .inl ⟨rfl, rfl⟩, by omega, by simp [getE, wI, whC, us32]⟩ ?_
  rintro N s0 ⟨i, z, hiv, rfl, rfl⟩
  rcases hiv with ⟨rfl, rfl⟩ | ⟨rfl, rfl⟩
  · have hs2 : sub true 2 (wI y) (0 * 2) = some (.agg (wI y)) := rfl
    have hs2' : sub true 2 (wI y) 0 = some (.agg (wI y)) := rfl
    have w1 : IntKind.i64.wrap (0 + 1) = 1 := by decide
    have h01 : (0 : Int) < ((1 : Nat) : Int) := by omega
    simp only [wI, whC, us32] at hs2 hs2'
    simp only [b110_0, wI, whC, us32, go_sem, FL, subW2, subW0, subW1, h01, hs2, hs2']
    refine goF h72 ?_
    simp only [us32, go_sem, FL, subW2, subW0, subW1, w1]
    exact loopQ_go rfl 0 (by omega) ⟨1, _, .inr ⟨rfl, rfl⟩, by omega, rfl⟩
  · have g : ¬ ((1 : Nat) : Int) < 1 := by omega
    simp only [b110_0, k110_0, wI, whC, us32, go_sem, FL, subW2, subW0, subW1, Int.lt_irrefl, g]
    simp only [i110, OT, reduceIte, Nat.reduceEqDiff, subW2, wI, whC, us32]
end
end Go.Proofs.Ytlejgleocnemoaa.I

namespace Go.Proofs.Ytlejgleocnemoaa.I
open Go Go.V
attribute [local go_sem] mNil nat0 beq_self_eq_true mSkip mRet mExit mReg mSeq mCond mTrue mFalse mBlock mLv mCodeE mCodeR mEndN mEndR mEndE mOps mSome mGuard mGtt mGff mGtf mGft mGu mCallP mCallR mCallF mCallO mCallZ mCallG mCallM mCallV loopQ_exit loopQ_ret mO_mov mO_newnil mO_pick mO_alloc mO_box mO_build mO_bsl mO_bslF mO_newnilB mO_bslB mO_lenB mO_appB mO_allocA mO_bslA mO_appA mO_ldb mO_faddrb mRsv mO_ldf mO_ld mO_st mO_sta mO_nilchk mO_bin mO_binb mO_binp mO_bins mO_neg mO_com mO_not mO_conv mO_mk mO_mk0 mO_mkB mO_s2b mO_b2s mO_cpy mO_cut mO_faddr mO_fld mO_iaddr mO_iaddrf mO_sidx mO_len mO_lenf mO_slen mO_scut mO_app mO_ext mO_mx mO_mn mO_mkfn evalOp cutOp argsE ev getE putE cellsOf adopt rowOf binV boolV nilV ar_add ar_sub ar_mul ar_quo ar_rem ar_eq ar_ne ar_lt ar_le ar_gt ar_ge ar_and ar_or ar_xor geto bound finRet finNrm ints List.length_cons List.length_nil List.length_append List.getElem?_cons_zero List.getElem?_cons_succ List.nil_append List.cons_append List.map_cons List.map_nil List.mapM_cons List.mapM_nil Option.map_some Option.map_none Option.bind_some Option.pure_def Option.bind_eq_bind List.drop_zero or_self or_false false_or or_true true_or true_and and_true and_self decide_true decide_false Bool.false_eq_true Bool.true_eq_false Bool.not_true Bool.not_false Nat.le_refl eq_self gt_iff_lt ge_iff_le ne_eq not_true_eq_false not_false_eq_true storeOp apartOf freeze_nil refsL refs List.flatMap_cons List.flatMap_nil List.append_nil List.contains_nil List.set_cons_zero List.set_cons_succ snap snapL fill_nums flat_nums nums_length Go.V.freeze List.mapIdx_cons List.mapIdx_nil List.contains_cons Bool.or_false Bool.false_or Bool.or_true Bool.true_or
def R9d (l : List Int) : Prop := ∀ x ∈ l, 0 ≤ x ∧ x ≤ 9
section
variable {E : CallRel}
end
section
variable {E : CallRel}
end
end Go.Proofs.Ytlejgleocnemoaa.I

namespace Go.Proofs.Ytlejgleocnemoaa.I
open Go Go.V
attribute [local go_sem_proc ↓] reduceIte
attribute [local go_sem_proc] Nat.reduceEqDiff Nat.reduceAdd Nat.reduceMul Nat.reduceLeDiff Nat.reduceLT Int.reduceToNat Int.reduceLT Int.reduceLE reduceCtorEq Nat.reduceBEq
attribute [local go_sem] mNil nat0 beq_self_eq_true mSkip mRet mExit mReg mSeq mCond mTrue mFalse mBlock mLv mCodeE mCodeR mEndN mEndR mEndE mOps mSome mGuard mGtt mGff mGtf mGft mGu mCallP mCallR mCallF mCallO mCallZ mCallG mCallM mCallV loopQ_exit loopQ_ret mO_mov mO_newnil mO_pick mO_alloc mO_box mO_build mO_bsl mO_bslF mO_newnilB mO_bslB mO_lenB mO_appB mO_allocA mO_bslA mO_appA mO_ldb mO_faddrb mRsv mO_ldf mO_ld mO_st mO_sta mO_nilchk mO_bin mO_binb mO_binp mO_bins mO_neg mO_com mO_not mO_conv mO_mk mO_mk0 mO_mkB mO_s2b mO_b2s mO_cpy mO_cut mO_faddr mO_fld mO_iaddr mO_iaddrf mO_sidx mO_len mO_lenf mO_slen mO_scut mO_app mO_ext mO_mx mO_mn mO_mkfn evalOp cutOp argsE ev getE putE cellsOf adopt rowOf binV boolV nilV ar_add ar_sub ar_mul ar_quo ar_rem ar_eq ar_ne ar_lt ar_le ar_gt ar_ge ar_and ar_or ar_xor geto bound finRet finNrm ints List.length_cons List.length_nil List.length_append List.getElem?_cons_zero List.getElem?_cons_succ List.nil_append List.cons_append List.map_cons List.map_nil List.mapM_cons List.mapM_nil Option.map_some Option.map_none Option.bind_some Option.pure_def Option.bind_eq_bind List.drop_zero or_self or_false false_or or_true true_or true_and and_true and_self decide_true decide_false Bool.false_eq_true Bool.true_eq_false Bool.not_true Bool.not_false Nat.le_refl eq_self gt_iff_lt ge_iff_le ne_eq not_true_eq_false not_false_eq_true storeOp apartOf freeze_nil refsL refs List.flatMap_cons List.flatMap_nil List.append_nil List.contains_nil List.set_cons_zero List.set_cons_succ snap snapL fill_nums flat_nums nums_length Go.V.freeze List.mapIdx_cons List.mapIdx_nil List.contains_cons Bool.or_false Bool.false_or Bool.or_true Bool.true_or
def wdI (z : Int) : List AV := wdC (decide (z < 0)) z.natAbs
def numR (r : Rat) : List AV := numG (decide (r.num < 0)) r.num.natAbs r.den
theorem Sz.pos {i : Nat} {r : Rat} (h : Sz i r) : 1 ≤ i := by
  rcases Nat.eq_zero_or_pos i with h0 | h0
  · subst h0
    have := h.2
    have := r.den_nz
    simp at *
    omega
  · exact h0
theorem natAbs_den {r : Rat} : ((r.den : Int)).natAbs = r.den := by omega
theorem den_neg {r : Rat} : decide ((r.den : Int) < 0) = false := decide_eq_false (by omega)
section
variable {E : CallRel}
theorem c108_I {a b : Int} (ha : (limG a.natAbs).length ≤ 1000000) (hb : (limG b.natAbs).length ≤ 1000000) : Go.V.Call tab E 108 [.agg (wI a), .sl 1 2 (wI b)] [] (.agg (wI (a * b))) [] := by
  rw [← wI_mul]
  exact c108_ok ha hb
theorem c109_R {x : Rt} {r : Rat} (h : RV x r) : Go.V.Call tab E 109 [.agg (rtC x)] [] (.agg (wI (r.den : Int))) [] := by
  have h1 := c109_ok (E := E) (n := x.1) (p := x.2.1) (q := x.2.2)
  rw [h.2.2] at h1
  rw [wI, den_neg, natAbs_den]
  exact h1
theorem c107_I {a b : Int} (hb : b ≠ 0) (hla : (limG a.natAbs).length ≤ 1000000) (hlb : (limG b.natAbs).length ≤ 1000000) :
    Go.V.Call tab E 107 [.agg (wI a), .agg (wI b)] [] (.tup [.agg (rtC (rR (Rat.divInt a b))), .bool true]) [] := by
  rw [← rR_divInt hb]
  exact c107_ok (by omega) hla hlb
theorem rtC_top {x : Rt} {r : Rat} (h : RV x r) : rtC x = wI r.num ++ [us32 (limG x.2.2)] := by
  obtain ⟨n, p, q⟩ := x
  obtain ⟨h1, h2, _⟩ := h
  simp only at h1 h2
  subst h1; subst h2
  rfl
set_option maxHeartbeats 1000000 in
theorem c49_ok {x y : Rt} {a b : Rat} {i j : Nat} (hx : RV x a) (hy : RV y b) (ha : Sz i a) (hb : Sz j b) (hij : i + j + 1 ≤ 32000000) : Go.V.Call tab E 49 [.agg (rtC x), .sl 1 3 (rtC y)] [] (.agg (rtC (rR (a + b)))) [] := by
  refine Go.V.Call.mach i49 c49 rfl rfl rfl rfl ?_
  obtain ⟨hn, hd⟩ := add_num_lt ha hb
  have ux := c109_R (E := E) hx
  have uy := c109_R (E := E) hy
  have e1 : (a.num * b.den).natAbs < 2 ^ (i + j) := by rw [Int.natAbs_mul, Int.natAbs_natCast]; exact lt_mul_pow ha.1 hb.2
  have e2 : (b.num * a.den).natAbs < 2 ^ (i + j) := by rw [Int.natAbs_mul, Int.natAbs_natCast, Nat.add_comm]; exact lt_mul_pow hb.1 ha.2
  have l1 := limG_sz ha.1 (by omega)
  have l2 := limG_sz ha.2 (by omega)
  have l3 := limG_sz hb.1 (by omega)
  have l4 := limG_sz hb.2 (by omega)
  have p1 := c108_I (E := E) (a := a.num) (b := (b.den : Int)) l1 (by rw [natAbs_den]; exact l4)
  have p2 := c108_I (E := E) (a := b.num) (b := (a.den : Int)) l3 (by rw [natAbs_den]; exact l2)
  have p3 := c108_I (E := E) (a := (a.den : Int)) (b := (b.den : Int)) (by rw [natAbs_den]; exact l2) (by rw [natAbs_den]; exact l4)
  have s := c110_ok (E := E) (x := a.num * b.den) (y := b.num * a.den) (limG_sz e1 (by omega)) (limG_sz e2 (by omega))
  have h38 := c107_I (E := E) (a := a.num * b.den + b.num * a.den) (b := (a.den : Int) * b.den) den_mul_ne (limG_sz hn (by omega)) (limG_sz hd (by omega))
  rw [add_divInt] at h38
  clear e1 e2 l1 l2 l3 l4 hn hd
  generalize a.num * (b.den : Int) = A1 at *
  generalize b.num * (a.den : Int) = A2 at *
  generalize (a.den : Int) * (b.den : Int) = A3 at *
  have tx := rtC_top hx
  have ty := rtC_top hy
  generalize rR (a + b) = z at *
  rw [tx] at ux
  rw [ty] at uy
  simp only [wI, whC, us32, List.cons_append, List.nil_append] at ux uy p1 p2 p3 s
  simp only [rtC, ratG, us32, wI, whC] at h38
  simp only [c49, tx, ty, rtC, ratG, wI, whC, us32, go_sem, FL, subT3]
  refine mLoop (fun N st => ∃ (k : Nat) (cs : List AV), (k = 0 ∧ cs = rtC x ∨ k = 1 ∧ cs = rtC z) ∧ N = 1 - k ∧
    st = ⟨[(2, .loc 0 0 0), (4, .loc 3 0 0), (7, .sl 1 3 (rtC y)), (8, .int .i64 1), (9, .int .i64 k)], [⟨true, 59, 3, 0, 1, cs, false⟩, ⟨false, 154, 1, 0, 0, [], false⟩, ⟨false, 154, 1, 0, 0, [], false⟩, ⟨true, 59, 3, 0, 1, [.arr 1 0, .bool false, .arr 2 0], false⟩]⟩) 1
    ⟨_, rfl, 0, rtC x, .inl ⟨rfl, rfl⟩, by omega, by simp [getE, tx, ty, wI, whC, us32, hx.1, hx.2.1, hy.1, hy.2.1]⟩ ?_
  rintro N s0 ⟨k, cs, hiv, rfl, rfl⟩
  rcases hiv with ⟨rfl, rfl⟩ | ⟨rfl, rfl⟩
  · have hs2 : sub true 3 (rtC y) (0 * 3) = some (.agg (rtC y)) := rfl
    have hs2' : sub true 3 (rtC y) 0 = some (.agg (rtC y)) := rfl
    have w1 : IntKind.i64.wrap (0 + 1) = 1 := by decide
    have h01 : (0 : Int) < ((1 : Nat) : Int) := by omega
    rw [ty] at hs2 hs2'
    simp only [wI, whC, us32, List.cons_append, List.nil_append] at hs2 hs2'
    simp only [b49_0, tx, ty, wI, whC, us32, go_sem, FL, subT3, subT2, h01, hs2, hs2']
    refine goF uy ?_
    simp only [us32, go_sem, FL, subT3, subT2, List.flatten_cons, List.flatten_nil, Option.getD_some]
    refine goF p1 ?_
    simp only [us32, go_sem, FL, subT3, subT2]
    refine goP ux ?_
    simp only [us32, go_sem, FL, subT3, subT2, List.flatten_cons, List.flatten_nil, Option.getD_some]
    refine goF p2 ?_
    simp only [us32, go_sem, FL, subT3, subT2, List.flatten_cons, List.flatten_nil, Option.getD_some]
    refine goF s ?_
    simp only [us32, go_sem, FL, subT3, subT2]
    refine goP ux ?_
    simp only [us32, go_sem, FL, subT3, subT2]
    refine goF uy ?_
    simp only [us32, go_sem, FL, subT3, subT2, List.flatten_cons, List.flatten_nil, Option.getD_some]
    refine goF p3 ?_
    simp only [us32, go_sem, FL, subT3, subT2]
    refine goP h38 ?_
    simp only [us32, go_sem, FL, subT3, subT2, w1]
    exact loopQ_go rfl 0 (by omega) ⟨1, _, .inr ⟨rfl, rfl⟩, by omega, by simp only [ty, wI, whC, us32, rtC, ratG, List.cons_append, List.nil_append]; rfl⟩
  · have g : ¬ ((1 : Nat) : Int) < 1 := by omega
    simp only [b49_0, k49_0, rtC, ratG, us32, go_sem, FL, subT3, Int.lt_irrefl, g]
    simp only [i49, OT, reduceIte, Nat.reduceEqDiff, subT3, rtC, ratG, us32]
end
theorem wI_minus {z : Int} : whC (!decide (z < 0) && decide (z.natAbs ≠ 0)) z.natAbs = wI (-z) := by
  have h1 : (-z).natAbs = z.natAbs := by omega
  rw [wI, h1]
  congr 1
  by_cases h : z < 0
  · rw [decide_eq_true h, decide_eq_false (show ¬ -z < 0 by omega)]; rfl
  · rw [decide_eq_false h]
    by_cases h0 : z = 0
    · subst h0; rfl
    · rw [decide_eq_true (show z.natAbs ≠ 0 by omega), decide_eq_true (show -z < 0 by omega)]; rfl
def flr (r : Rat) : Int := r.num / (r.den : Int)
def restR (b r : Rat) : Rat := if b = 0 then r else r + -(b * ((flr (r / b) : Int) : Rat))
theorem flr_lt {r : Rat} {k : Nat} (h : Sz k r) : (flr r).natAbs < 2 ^ (k + 1) := by
  have hd := r.den_nz
  have h1 : flr r * (r.den : Int) ≤ r.num := Int.ediv_mul_le _ (by omega)
  have h2 : r.num < (flr r + 1) * (r.den : Int) := Int.lt_ediv_add_one_mul_self _ (by omega)
  have hn := h.1
  have hp : 0 < 2 ^ k := Nat.pow_pos (by omega)
  rw [Nat.pow_succ]
  generalize flr r = f at *
  have hd1 : (1 : Int) ≤ (r.den : Int) := by omega
  by_cases hf : 0 ≤ f
  · have : f * 1 ≤ f * (r.den : Int) := Int.mul_le_mul_of_nonneg_left hd1 hf
    omega
  · have h3 : (-(f + 1)) * 1 ≤ (-(f + 1)) * (r.den : Int) := Int.mul_le_mul_of_nonneg_left hd1 (by omega)
    have h4 : (-(f + 1)) * (r.den : Int) = -((f + 1) * (r.den : Int)) := Int.neg_mul _ _
    omega
theorem Sz.int {z : Int} {k : Nat} (h : z.natAbs < 2 ^ k) (hk : 1 ≤ k) : Sz k (z : Rat) := by
  refine ⟨by rw [Rat.num_intCast]; exact h, ?_⟩
  rw [Rat.den_intCast]
  exact Nat.one_lt_two_pow (by omega)
theorem rnum_ne {b : Rat} (h : b ≠ 0) : b.num ≠ 0 := fun hh => h (Rat.num_eq_zero.1 hh)
theorem Sz.rest {b r : Rat} {i j : Nat} (hr : Sz i r) (hb : Sz j b) : Sz (2 * i + 2 * j + 2) (restR b r) := by
  unfold restR
  split
  · exact hr.mono (by omega)
  · rename_i h0
    have h1 := hr.div hb (rnum_ne h0)
    have h2 := Sz.int (flr_lt h1) (by omega)
    exact (hr.add (hb.mul h2).neg).mono (by omega)
section
variable {E : CallRel}
theorem c111_I {z : Int} : Go.V.Call tab E 111 [.agg (wI z)] [] (.agg (wI (-z))) [] := by
  refine Go.V.Call.mach i111 c111 rfl rfl rfl rfl ?_
  have h := c136_ok (E := E) (n := !decide (z < 0)) (p := z.natAbs)
  have hw := wI_minus (z := z)
  simp only [natC, us32] at h
  simp only [wI, whC, us32] at hw ⊢
  simp only [c111, us32, go_sem, FL, subW2, subW0, subW1]
  refine goP h ?_
  simp only [us32, go_sem, FL]
  simp only [i111, OT, reduceIte, Nat.reduceEqDiff, subW2]
  rw [hw]
theorem rtC_neg {r : Rat} : wI (-r.num) ++ [us32 (limG r.den)] = rtC (rR (-r)) := by
  simp only [rtC, ratG, rR, Rat.neg_num, Rat.neg_den, wI, whC, List.cons_append, List.nil_append]
theorem c50_ok {x : Rt} {r : Rat} (hx : RV x r) : Go.V.Call tab E 50 [.agg (rtC x)] [] (.agg (rtC (rR (-r)))) [] := by
  refine Go.V.Call.mach i50 c50 rfl rfl rfl rfl ?_
  have h := c111_I (E := E) (z := r.num)
  have hd := c79_gen (E := E) (n := x.1) (p := x.2.1) (q := x.2.2)
  have tx := rtC_top hx
  have hn := rtC_neg (r := r)
  change Go.V.Call tab E 79 [.agg (rtC x)] [] _ [] at hd
  rw [tx, hx.2.2] at hd
  rw [tx, ← hn]
  simp only [wI, whC, us32, natC, List.cons_append, List.nil_append] at h hd ⊢
  simp only [c50, us32, go_sem, FL, subT3, subT2]
  refine goP h ?_
  simp only [us32, go_sem, FL, subT3, subT2]
  refine goP hd ?_
  simp only [us32, go_sem, FL, subT3, subT2]
  simp only [i50, OT, reduceIte, Nat.reduceEqDiff, subT3]
set_option maxHeartbeats 1000000 in
theorem c56_ok {x y : Rt} {a b : Rat} {i j : Nat} (hx : RV x a) (hy : RV y b) (ha : Sz i a) (hb : Sz j b) (hij : i + j + 1 ≤ 32000000) : Go.V.Call tab E 56 [.agg (rtC x), .sl 1 3 (rtC y)] [] (.agg (rtC (rR (a * b)))) [] := by
  refine Go.V.Call.mach i56 c56 rfl rfl rfl rfl ?_
  obtain ⟨hn, hd⟩ := mul_num_lt ha hb
  have ux := c109_R (E := E) hx
  have uy := c109_R (E := E) hy
  have l1 := limG_sz ha.1 (by omega)
  have l2 := limG_sz ha.2 (by omega)
  have l3 := limG_sz hb.1 (by omega)
  have l4 := limG_sz hb.2 (by omega)
  have p1 := c108_I (E := E) (a := a.num) (b := b.num) l1 l3
  have p3 := c108_I (E := E) (a := (a.den : Int)) (b := (b.den : Int)) (by rw [natAbs_den]; exact l2) (by rw [natAbs_den]; exact l4)
  have h38 := c107_I (E := E) (a := a.num * b.num) (b := (a.den : Int) * b.den) den_mul_ne (limG_sz hn (by omega)) (limG_sz hd (by omega))
  rw [mul_divInt] at h38
  clear l1 l2 l3 l4 hn hd
  generalize a.num * b.num = A1 at *
  generalize (a.den : Int) * (b.den : Int) = A3 at *
  have tx := rtC_top hx
  have ty := rtC_top hy
  generalize rR (a * b) = z at *
  rw [tx] at ux
  rw [ty] at uy
  simp only [wI, whC, us32, List.cons_append, List.nil_append] at ux uy p1 p3
  simp only [rtC, ratG, us32, wI, whC] at h38
  simp only [c56, tx, ty, rtC, ratG, wI, whC, us32, go_sem, FL, subT3]
  refine mLoop (fun N st => ∃ (k : Nat) (cs : List AV), (k = 0 ∧ cs = rtC x ∨ k = 1 ∧ cs = rtC z) ∧ N = 1 - k ∧
    st = ⟨[(2, .loc 0 0 0), (4, .loc 3 0 0), (7, .sl 1 3 (rtC y)), (8, .int .i64 1), (9, .int .i64 k)], [⟨true, 59, 3, 0, 1, cs, false⟩, ⟨false, 154, 1, 0, 0, [], false⟩, ⟨false, 154, 1, 0, 0, [], false⟩, ⟨true, 59, 3, 0, 1, [.arr 1 0, .bool false, .arr 2 0], false⟩]⟩) 1
    ⟨_, rfl, 0, rtC x, .inl ⟨rfl, rfl⟩, by omega, by simp [getE, tx, ty, wI, whC, us32, hx.1, hx.2.1, hy.1, hy.2.1]⟩ ?_
  rintro N s0 ⟨k, cs, hiv, rfl, rfl⟩
  rcases hiv with ⟨rfl, rfl⟩ | ⟨rfl, rfl⟩
  · have hs2 : sub true 3 (rtC y) (0 * 3) = some (.agg (rtC y)) := rfl
    have hs2' : sub true 3 (rtC y) 0 = some (.agg (rtC y)) := rfl
    have w1 : IntKind.i64.wrap (0 + 1) = 1 := by decide
    have h01 : (0 : Int) < ((1 : Nat) : Int) := by omega
    rw [ty] at hs2 hs2'
    simp only [wI, whC, us32, List.cons_append, List.nil_append] at hs2 hs2'
    simp only [b56_0, tx, ty, wI, whC, us32, go_sem, FL, subT3, subT2, h01, hs2, hs2']
    refine goF p1 ?_
    simp only [us32, go_sem, FL, subT3, subT2, List.flatten_cons, List.flatten_nil, Option.getD_some]
    refine goP ux ?_
    simp only [us32, go_sem, FL, subT3, subT2, List.flatten_cons, List.flatten_nil, Option.getD_some]
    refine goF uy ?_
    simp only [us32, go_sem, FL, subT3, subT2, List.flatten_cons, List.flatten_nil, Option.getD_some]
    refine goF p3 ?_
    simp only [us32, go_sem, FL, subT3, subT2]
    refine goP h38 ?_
    simp only [us32, go_sem, FL, subT3, subT2, w1]
    exact loopQ_go rfl 0 (by omega) ⟨1, _, .inr ⟨rfl, rfl⟩, by omega, by simp only [ty, wI, whC, us32, rtC, ratG, List.cons_append, List.nil_append]; rfl⟩
  · have g : ¬ ((1 : Nat) : Int) < 1 := by omega
    simp only [b56_0, k56_0, rtC, ratG, us32, go_sem, FL, subT3, Int.lt_irrefl, g]
    simp only [i56, OT, reduceIte, Nat.reduceEqDiff, subT3, rtC, ratG, us32]
theorem c51_ok {x y : Rt} {a b : Rat} {i j : Nat} (hx : RV x a) (hy : RV y b) (ha : Sz i a) (hb : Sz j b) (h0 : b ≠ 0) (hij : i + j + 1 ≤ 32000000) : Go.V.Call tab E 51 [.agg (rtC x), .agg (rtC y)] [] (.tup [.agg (rtC (rR (a / b))), .bool true]) [] := by
  refine Go.V.Call.mach i51 c51 rfl rfl rfl rfl ?_
  obtain ⟨hn, hd⟩ := div_num_lt ha hb
  have ux := c109_R (E := E) hx
  have uy := c109_R (E := E) hy
  have p1 := c108_I (E := E) (a := a.num) (b := (b.den : Int)) (limG_sz ha.1 (by omega)) (by rw [natAbs_den]; exact limG_sz hb.2 (by omega))
  have p3 := c108_I (E := E) (a := (a.den : Int)) (b := b.num) (by rw [natAbs_den]; exact limG_sz ha.2 (by omega)) (limG_sz hb.1 (by omega))
  have h38 := c107_I (E := E) (a := a.num * b.den) (b := (a.den : Int) * b.num) (Int.mul_ne_zero (by have := a.den_nz; omega) (rnum_ne h0)) (limG_sz hn (by omega)) (limG_sz hd (by omega))
  rw [div_divInt] at h38
  clear hn hd
  generalize a.num * (b.den : Int) = A1 at *
  generalize (a.den : Int) * b.num = A3 at *
  have tx := rtC_top hx
  have ty := rtC_top hy
  generalize rR (a / b) = z at *
  rw [tx] at ux
  rw [ty] at uy
  rw [tx, ty]
  simp only [wI, whC, us32, List.cons_append, List.nil_append] at ux uy p1 p3 ⊢
  simp only [rtC, ratG, us32, wI, whC] at h38 ⊢
  simp only [c51, us32, go_sem, FL, subT3, subT2]
  refine goP uy ?_
  simp only [us32, go_sem, FL, subT3, subT2, List.flatten_cons, List.flatten_nil]
  refine goP p1 ?_
  simp only [us32, go_sem, FL, subT3, subT2]
  refine goP ux ?_
  simp only [us32, go_sem, FL, subT3, subT2, List.flatten_cons, List.flatten_nil]
  refine goP p3 ?_
  simp only [us32, go_sem, FL, subT3, subT2]
  refine goP h38 ?_
  simp only [us32, go_sem, FL, subT3, subT2]
  simp only [i51, OT, reduceIte, Nat.reduceEqDiff, subT3]
end
end Go.Proofs.Ytlejgleocnemoaa.I

namespace Go.Proofs.Ytlejgleocnemoaa.I
open Go Go.V
abbrev Mx := Nat → Nat → Rat
def skp (f : Mx) (i : Nat) : Mx := fun r => if r < i then f r else f (r + 1)
def upd (f : Mx) (k : Nat) (u : Nat → Rat) : Mx := fun r => if r = k then u else f r
def sumN : Nat → (Nat → Rat) → Rat
  | 0, _ => 0
  | n + 1, g => sumN n g + g n
def sg (i : Nat) : Rat := if i % 2 = 0 then 1 else -1
def det : Nat → Mx → Rat
  | 0, _ => 1
  | n + 1, f => sumN (n + 1) fun i => sg (n + i) * f i n * det n (skp f i)
theorem sumN_congr {g h : Nat → Rat} : ∀ {n : Nat}, (∀ i, i < n → g i = h i) → sumN n g = sumN n h
  | 0, _ => rfl
  | n + 1, hh => by rw [sumN, sumN, sumN_congr (n := n) (fun i hi => hh i (by omega)), hh n (by omega)]
theorem sumN_lin {a : Rat} {g h : Nat → Rat} : ∀ {n : Nat}, sumN n (fun i => a * g i + h i) = a * sumN n g + sumN n h
  | 0 => by simp only [sumN]; grind
  | n + 1 => by
    simp only [sumN, sumN_lin (n := n)]
    grind
theorem sumN_zero {g : Nat → Rat} {n : Nat} (h : ∀ i, i < n → g i = 0) : sumN n g = 0 := by
  induction n with
  | zero => rfl
  | succ n ih => rw [sumN, ih (fun i hi => h i (by omega)), h n (by omega), Rat.add_zero]
theorem sumN_one {g : Nat → Rat} {k : Nat} : ∀ {n : Nat}, k < n → (∀ i, i < n → i ≠ k → g i = 0) → sumN n g = g k
  | 0, h, _ => by omega
  | n + 1, h, hz => by
    rw [sumN]
    by_cases hk : k = n
    · subst hk
      rw [sumN_zero (fun i hi => hz i (by omega) (by omega)), Rat.zero_add]
    · rw [sumN_one (k := k) (n := n) (by omega) (fun i hi => hz i (by omega)), hz n (by omega) (by omega), Rat.add_zero]
theorem sumN_two {g : Nat → Rat} {k : Nat} : ∀ {n : Nat}, k + 1 < n → (∀ i, i < n → i ≠ k → i ≠ k + 1 → g i = 0) → sumN n g = g k + g (k + 1)
  | 0, h, _ => by omega
  | n + 1, h, hz => by
    rw [sumN]
    by_cases hk : k + 1 = n
    · subst hk
      rw [sumN_one (k := k) (by omega) (fun i hi hik => hz i (by omega) hik (by omega))]
    · rw [sumN_two (k := k) (n := n) (by omega) (fun i hi => hz i (by omega)), hz n (by omega) (by omega) (by omega), Rat.add_zero]
theorem det_congr : ∀ {n : Nat} {f g : Mx}, (∀ i j, i < n → j < n → f i j = g i j) → det n f = det n g
  | 0, _, _, _ => rfl
  | n + 1, f, g, h => by
    rw [det, det]
    refine sumN_congr fun i hi => ?_
    rw [h i n hi (by omega), det_congr (n := n) (f := skp f i) (g := skp g i) (fun r j hr hj => by
      unfold skp
      split
      · exact h r j (by omega) (by omega)
      · exact h (r + 1) j (by omega) (by omega))]
theorem skp_upd_same {f : Mx} {k : Nat} {u : Nat → Rat} : skp (upd f k u) k = skp f k := by
  funext r
  unfold skp upd
  split
  · rw [if_neg (by omega)]
  · rw [if_neg (by omega)]
theorem skp_upd_lt {f : Mx} {k i : Nat} {u : Nat → Rat} (h : k < i) : skp (upd f k u) i = upd (skp f i) k u := by
  funext r
  unfold skp upd
  by_cases hr : r < i
  · simp only [if_pos hr]
  · simp only [if_neg hr]
    rw [if_neg (by omega), if_neg (by omega)]
theorem skp_upd_gt {f : Mx} {k i : Nat} {u : Nat → Rat} (h : i < k) : skp (upd f k u) i = upd (skp f i) (k - 1) u := by
  funext r
  unfold skp upd
  by_cases hr : r < i
  · simp only [if_pos hr]
    rw [if_neg (by omega), if_neg (by omega)]
  · simp only [if_neg hr]
    by_cases h2 : r + 1 = k
    · rw [if_pos h2, if_pos (by omega)]
    · rw [if_neg h2, if_neg (by omega)]
theorem det_lin {a : Rat} {u v : Nat → Rat} : ∀ {n : Nat} {f : Mx} {k : Nat}, k < n → det n (upd f k fun j => a * u j + v j) = a * det n (upd f k u) + det n (upd f k v)
  | 0, _, _, h => by omega
  | n + 1, f, k, h => by
    rw [det, det, det, ← sumN_lin]
    refine sumN_congr fun i hi => ?_
    by_cases hik : i = k
    · subst hik
      simp only [skp_upd_same]
      simp only [upd, if_true]
      grind
    · have e : ∀ u : Nat → Rat, upd f k u i = f i := fun u => by unfold upd; rw [if_neg hik]
      simp only [e]
      rcases Nat.lt_or_gt_of_ne hik with hlt | hgt
      · simp only [skp_upd_gt hlt]
        rw [det_lin (n := n) (by omega)]
        grind
      · simp only [skp_upd_lt hgt]
        rw [det_lin (n := n) (by omega)]
        grind
theorem det_zrow {n : Nat} {f : Mx} {k : Nat} (h : k < n) (hz : ∀ j, j < n → f k j = 0) : det n f = 0 := by
  have h1 := det_lin (a := 1) (u := fun _ => 0) (v := fun _ => 0) (f := f) h
  have h2 : det n (upd f k fun _ => 0) = 0 := by
    have e : (fun j : Nat => (1 : Rat) * (fun _ => (0 : Rat)) j + (fun _ => (0 : Rat)) j) = fun _ => 0 := by funext j; grind
    rw [e] at h1
    grind
  rw [← h2]
  refine det_congr fun i j hi hj => ?_
  unfold upd
  split
  · rename_i e; subst e; exact hz j hj
  · rfl
theorem det_adj : ∀ {n : Nat} {f : Mx} {k : Nat}, k + 1 < n → (∀ j, j < n → f k j = f (k + 1) j) → det n f = 0
  | 0, _, _, h, _ => by omega
  | n + 1, f, k, h, he => by
    rw [det]
    rw [sumN_two (k := k) h (fun i hi h1 h2 => ?_)]
    · have e1 : det n (skp f k) = det n (skp f (k + 1)) := by
        refine det_congr fun r j hr hj => ?_
        unfold skp
        by_cases h1 : r < k
        · rw [if_pos h1, if_pos (by omega)]
        · rw [if_neg h1]
          by_cases h2 : r = k
          · subst h2; rw [if_pos (by omega)]; exact (he j (by omega)).symm
          · rw [if_neg (by omega)]
      have e2 : sg (n + (k + 1)) = - sg (n + k) := by
        unfold sg
        by_cases hp : (n + k) % 2 = 0
        · rw [if_pos hp, if_neg (by omega)]
        · rw [if_neg hp, if_pos (by omega)]; rfl
      rw [e1, e2, he n (by omega)]
      grind
    · have : det n (skp f i) = 0 := by
        rcases Nat.lt_or_gt_of_ne h1 with hlt | hgt
        · refine det_adj (n := n) (k := k - 1) (by omega) fun j hj => ?_
          unfold skp
          rw [if_neg (by omega), if_neg (by omega), show k - 1 + 1 = k by omega]
          exact he j (by omega)
        · refine det_adj (n := n) (k := k) (by omega) fun j hj => ?_
          unfold skp
          rw [if_pos (by omega), if_pos (by omega)]
          exact he j (by omega)
      rw [this, Rat.mul_zero]
theorem upd_upd {f : Mx} {k l : Nat} {u v : Nat → Rat} (h : k ≠ l) : upd (upd f k u) l v = upd (upd f l v) k u := by
  funext r
  unfold upd
  by_cases h1 : r = l
  · subst h1; rw [if_pos rfl, if_neg (fun e => h e.symm), if_pos rfl]
  · rw [if_neg h1, if_neg h1]
theorem upd_self {f : Mx} {k : Nat} : upd f k (f k) = f := by
  funext r
  unfold upd
  split
  · rename_i e; rw [e]
  · rfl
theorem det_swap {n : Nat} {f : Mx} {k : Nat} (h : k + 1 < n) : det n (upd (upd f k (f (k + 1))) (k + 1) (f k)) = - det n f := by
  have D : ∀ x : Nat → Rat, det n (upd (upd f k x) (k + 1) x) = 0 := fun x => det_adj h (fun j hj => by
    unfold upd
    rw [if_neg (by omega), if_pos rfl, if_pos rfl])
  have L1 : ∀ (a b y : Nat → Rat), det n (upd (upd f k fun j => 1 * a j + b j) (k + 1) y) = det n (upd (upd f k a) (k + 1) y) + det n (upd (upd f k b) (k + 1) y) := fun a b y => by
    rw [upd_upd (by omega), det_lin (by omega), upd_upd (k := k + 1) (by omega), upd_upd (k := k + 1) (by omega), Rat.one_mul]
  have L2 : ∀ (a b x : Nat → Rat), det n (upd (upd f k x) (k + 1) fun j => 1 * a j + b j) = det n (upd (upd f k x) (k + 1) a) + det n (upd (upd f k x) (k + 1) b) := fun a b x => by
    rw [det_lin (by omega), Rat.one_mul]
  have h1 := D (fun j => 1 * f k j + f (k + 1) j)
  rw [L1, L2, L2, D, D] at h1
  have h2 : upd (upd f k (f k)) (k + 1) (f (k + 1)) = f := by rw [upd_self, upd_self]
  rw [h2] at h1
  grind
theorem det_same : ∀ {d n : Nat} {f : Mx} {i : Nat}, i + d + 1 < n → (∀ j, j < n → f i j = f (i + d + 1) j) → det n f = 0
  | 0, n, f, i, h, he => det_adj h he
  | d + 1, n, f, i, h, he => by
    have hs := det_swap (f := f) (k := i + d + 1) (n := n) (by omega)
    have : det n (upd (upd f (i + d + 1) (f (i + d + 1 + 1))) (i + d + 1 + 1) (f (i + d + 1))) = 0 := by
      refine det_same (d := d) (i := i) (by omega) fun j hj => ?_
      unfold upd
      rw [if_neg (by omega), if_neg (by omega), if_neg (by omega), if_pos rfl]
      exact he j hj
    rw [this] at hs
    grind
theorem det_rows {n : Nat} {f : Mx} {i k : Nat} (hi : i < n) (hk : k < n) (hne : i ≠ k) (he : ∀ j, j < n → f i j = f k j) : det n f = 0 := by
  rcases Nat.lt_or_gt_of_ne hne with h | h
  · exact det_same (d := k - i - 1) (i := i) (by omega) (fun j hj => by rw [show i + (k - i - 1) + 1 = k by omega]; exact he j hj)
  · exact det_same (d := i - k - 1) (i := k) (by omega) (fun j hj => by rw [show k + (i - k - 1) + 1 = i by omega]; exact (he j hj).symm)
theorem det_comb {n : Nat} {f : Mx} {k : Nat} (hk : k < n) (y : Nat → Rat) : ∀ {m : Nat}, m ≤ n → det n (upd f k fun j => sumN m fun i => y i * f i j) = if k < m then y k * det n f else 0
  | 0, _ => by
    rw [if_neg (by omega)]
    exact det_zrow hk (fun j _ => by unfold upd; rw [if_pos rfl]; rfl)
  | m + 1, hm => by
    have e : (fun j => sumN (m + 1) fun i => y i * f i j) = fun j => y m * f m j + sumN m fun i => y i * f i j := by
      funext j
      rw [sumN, Rat.add_comm]
    rw [e, det_lin hk, det_comb hk y (m := m) (by omega)]
    by_cases hkm : m = k
    · subst hkm
      rw [upd_self, if_neg (by omega), if_pos (by omega), Rat.add_zero]
    · have : det n (upd f k (f m)) = 0 := det_rows (i := m) (k := k) (by omega) hk hkm (fun j _ => by
        unfold upd
        rw [if_neg hkm, if_pos rfl])
      rw [this, Rat.mul_zero, Rat.zero_add]
      by_cases h2 : k < m
      · rw [if_pos h2, if_pos (by omega)]
      · rw [if_neg h2, if_neg (by omega)]
theorem cramer {n : Nat} {f : Mx} {y b : Nat → Rat} (h : ∀ j, j < n → sumN n (fun i => y i * f i j) = b j) {k : Nat} (hk : k < n) : det n (upd f k b) = y k * det n f := by
  have := det_comb hk y (f := f) (Nat.le_refl n)
  rw [if_pos hk] at this
  rw [← this]
  refine det_congr fun i j hi hj => ?_
  unfold upd
  split
  · exact (h j hj).symm
  · rfl
theorem det_last {n : Nat} {f : Mx} (h : ∀ j, j < n → f n j = 0) : det (n + 1) f = f n n * det n f := by
  rw [det, sumN_one (k := n) (by omega) (fun i hi hne => ?_)]
  · have e1 : sg (n + n) = 1 := by unfold sg; rw [if_pos (by omega)]
    have e2 : det n (skp f n) = det n f := det_congr fun i j hi hj => by unfold skp; rw [if_pos hi]
    rw [e1, e2, Rat.one_mul]
  · have : det n (skp f i) = 0 := det_zrow (k := n - 1) (by omega) (fun j hj => by
      unfold skp
      rw [if_neg (by omega), show n - 1 + 1 = n by omega]
      exact h j hj)
    rw [this, Rat.mul_zero]
theorem det_step {c : Nat} {f : Mx} {y : Nat → Rat} (h : ∀ j, j < c → f c j = sumN c fun i => y i * f i j) : det (c + 1) f = (f c c - sumN c fun i => y i * f i c) * det c f := by
  have h1 := det_comb (n := c + 1) (f := f) (k := c) (by omega) (fun i => if i = c then 1 else - y i) (Nat.le_refl _)
  rw [if_pos (by omega), if_pos rfl, Rat.one_mul] at h1
  have hs : ∀ j, sumN (c + 1) (fun i => (if i = c then 1 else - y i) * f i j) = f c j - sumN c fun i => y i * f i j := fun j => by
    rw [sumN, if_pos rfl, Rat.one_mul]
    have : sumN c (fun i => (if i = c then 1 else - y i) * f i j) = - sumN c fun i => y i * f i j := by
      have h2 := sumN_lin (a := -1) (g := fun i => y i * f i j) (h := fun _ => 0) (n := c)
      rw [sumN_zero (g := fun _ => 0) (fun _ _ => rfl)] at h2
      rw [show - sumN c (fun i => y i * f i j) = -1 * sumN c (fun i => y i * f i j) + 0 by grind, ← h2]
      refine sumN_congr fun i hi => ?_
      rw [if_neg (by omega)]
      grind
    rw [this]
    grind
  rw [← h1, det_last (fun j hj => ?_)]
  · have e1 : det c (upd f c fun j => sumN (c + 1) fun i => (if i = c then 1 else - y i) * f i j) = det c f := det_congr fun i j hi hj => by unfold upd; rw [if_neg (by omega)]
    rw [e1]
    congr 1
    unfold upd
    rw [if_pos rfl]
    exact hs c
  · unfold upd
    rw [if_pos rfl]
    rw [hs, ← h j hj]
    grind
def dB (S : Nat) : Nat → Nat
  | 0 => 1
  | n + 1 => (n + 1) * (S * dB S n)
theorem sumN_int {B : Nat} {g : Nat → Rat} : ∀ {n : Nat}, (∀ i, i < n → ∃ z : Int, g i = z ∧ z.natAbs ≤ B) → ∃ z : Int, sumN n g = z ∧ z.natAbs ≤ n * B
  | 0, _ => ⟨0, by simp [sumN], by simp⟩
  | n + 1, h => by
    obtain ⟨z, h1, h2⟩ := sumN_int (n := n) (fun i hi => h i (by omega))
    obtain ⟨w, h3, h4⟩ := h n (by omega)
    refine ⟨z + w, by rw [sumN, h1, h3, Rat.intCast_add], ?_⟩
    rw [Nat.add_mul]
    omega
theorem det_int {S : Nat} : ∀ {n : Nat} {f : Mx}, (∀ i j, i < n → j < n → ∃ z : Int, f i j = z ∧ z.natAbs ≤ S) → ∃ z : Int, det n f = z ∧ z.natAbs ≤ dB S n
  | 0, _, _ => ⟨1, by simp [det], by simp [dB]⟩
  | n + 1, f, h => by
    rw [det, dB]
    refine sumN_int fun i hi => ?_
    obtain ⟨z, h1, h2⟩ := h i n hi (by omega)
    obtain ⟨w, h3, h4⟩ := det_int (S := S) (n := n) (f := skp f i) (fun r j hr hj => by
      unfold skp
      split
      · exact h r j (by omega) (by omega)
      · exact h (r + 1) j (by omega) (by omega))
    rw [h1, h3]
    have hb : (z * w).natAbs ≤ S * dB S n := by rw [Int.natAbs_mul]; exact Nat.mul_le_mul h2 h4
    unfold sg
    split
    · exact ⟨z * w, by rw [Rat.one_mul, Rat.intCast_mul], hb⟩
    · exact ⟨-(z * w), by rw [Rat.intCast_neg, Rat.intCast_mul]; grind, by rw [Int.natAbs_neg]; exact hb⟩
end Go.Proofs.Ytlejgleocnemoaa.I

namespace Go.Proofs.Ytlejgleocnemoaa.I
open Go Go.V
theorem sumN_add {g h : Nat → Rat} {n : Nat} : sumN n (fun i => g i + h i) = sumN n g + sumN n h := by
  have := sumN_lin (a := 1) (g := g) (h := h) (n := n)
  rw [Rat.one_mul] at this
  rw [← this]
  exact sumN_congr fun i _ => by rw [Rat.one_mul]
theorem sumN_mul {a : Rat} {g : Nat → Rat} {n : Nat} : sumN n (fun i => a * g i) = a * sumN n g := by
  have := sumN_lin (a := a) (g := g) (h := fun _ => 0) (n := n)
  rw [sumN_zero (g := fun _ => 0) (fun _ _ => rfl), Rat.add_zero] at this
  rw [← this]
  exact sumN_congr fun i _ => by rw [Rat.add_zero]
theorem sumN_pair {g : Nat → Rat} {k l n : Nat} (hk : k < n) (hl : l < n) (hne : k ≠ l) (hz : ∀ i, i < n → i ≠ k → i ≠ l → g i = 0) : sumN n g = g k + g l := by
  have h1 : sumN n g = sumN n (fun i => (if i = k then g k else 0) + (if i = k then 0 else g i)) := sumN_congr fun i _ => by
    by_cases h : i = k
    · subst h; rw [if_pos rfl, if_pos rfl, Rat.add_zero]
    · rw [if_neg h, if_neg h, Rat.zero_add]
  rw [h1, sumN_add, sumN_one (k := k) hk (fun i _ h => if_neg h), sumN_one (k := l) hl (fun i hi h => by
    by_cases h2 : i = k
    · rw [if_pos h2]
    · rw [if_neg h2]; exact hz i hi h2 h), if_pos rfl, if_neg (fun h => hne h.symm)]
def Sol (n w : Nat) (R : Mx) (v : Nat → Rat) : Prop := ∀ r, r < n → sumN w (fun j => R r j * v j) = 0
def SameSol (n w : Nat) (R S : Mx) : Prop := ∀ v, Sol n w R v ↔ Sol n w S v
theorem SameSol.refl {n w : Nat} {R : Mx} : SameSol n w R R := fun v => Iff.rfl
theorem SameSol.trans {n w : Nat} {R S T : Mx} (h1 : SameSol n w R S) (h2 : SameSol n w S T) : SameSol n w R T := fun v => (h1 v).trans (h2 v)
theorem SameSol.symm {n w : Nat} {R S : Mx} (h1 : SameSol n w R S) : SameSol n w S R := fun v => (h1 v).symm
def swR (R : Mx) (c p : Nat) : Mx := fun r => if r = c then R p else if r = p then R c else R r
theorem sol_swap {n w c p : Nat} {R : Mx} (hc : c < n) (hp : p < n) : SameSol n w R (swR R c p) := fun v => by
  constructor
  · intro h r hr
    unfold swR
    by_cases h1 : r = c
    · simp only [if_pos h1]; exact h p hp
    · simp only [if_neg h1]
      by_cases h2 : r = p
      · simp only [if_pos h2]; exact h c hc
      · simp only [if_neg h2]; exact h r hr
  · intro h r hr
    by_cases h1 : r = c
    · subst h1
      have := h p hp
      unfold swR at this
      by_cases h2 : p = r
      · simp only [if_pos h2] at this; rw [h2] at this; exact this
      · simp only [if_neg h2, if_pos] at this; exact this
    · by_cases h2 : r = p
      · subst h2
        have := h c hc
        unfold swR at this
        simp only [if_pos] at this
        exact this
      · have := h r hr
        unfold swR at this
        simp only [if_neg h1, if_neg h2] at this
        exact this
theorem sol_elim {n w c : Nat} {R S : Mx} {q : Nat → Rat} {s : Rat} (hc : c < n) (hs : s ≠ 0) (hS : ∀ r, r < n → r ≠ c → ∀ j, j < w → S r j = R r j - q r * R c j) (hSc : ∀ j, j < w → S c j = s * R c j) : SameSol n w R S := fun v => by
  have e1 : sumN w (fun j => S c j * v j) = s * sumN w (fun j => R c j * v j) := by
    rw [← sumN_mul]
    exact sumN_congr fun j hj => by rw [hSc j hj]; grind
  have e2 : ∀ r, r < n → r ≠ c → sumN w (fun j => S r j * v j) = -q r * sumN w (fun j => R c j * v j) + sumN w (fun j => R r j * v j) := fun r hr hrc => by
    rw [← sumN_lin]
    exact sumN_congr fun j hj => by rw [hS r hr hrc j hj]; grind
  constructor
  · intro h r hr
    by_cases hrc : r = c
    · subst hrc; rw [e1, h r hr, Rat.mul_zero]
    · rw [e2 r hr hrc, h r hr, h c hc, Rat.mul_zero, Rat.zero_add]
  · intro h
    have h0 : sumN w (fun j => R c j * v j) = 0 := by
      have := h c hc
      rw [e1] at this
      rcases Rat.mul_eq_zero.1 this with h2 | h2
      · exact absurd h2 hs
      · exact h2
    intro r hr
    by_cases hrc : r = c
    · subst hrc; exact h0
    · have := h r hr
      rw [e2 r hr hrc, h0, Rat.mul_zero, Rat.zero_add] at this
      exact this
def Cl (n c : Nat) (R : Mx) : Prop := ∀ k, k < c → R k k ≠ 0 ∧ ∀ r, r < n → r ≠ k → R r k = 0
theorem Cl.swap {n c p : Nat} {R : Mx} (h : Cl n c R) (hcp : c ≤ p) (hp : p < n) : Cl n c (swR R c p) := fun k hk => by
  obtain ⟨h1, h2⟩ := h k hk
  unfold swR
  refine ⟨by rw [if_neg (by omega), if_neg (by omega)]; exact h1, fun r hr hrk => ?_⟩
  split
  · exact h2 p hp (by omega)
  · split
    · exact h2 c (by omega) (by omega)
    · exact h2 r hr hrk
theorem Cl.elim {n w c : Nat} {R S : Mx} {q : Nat → Rat} {s : Rat} (h : Cl n c R) (hc : c < n) (hw : n ≤ w) (hs : s ≠ 0) (hp : R c c ≠ 0) (hS : ∀ r, r < n → r ≠ c → ∀ j, j < w → S r j = R r j - q r * R c j) (hSc : ∀ j, j < w → S c j = s * R c j)
    (hq : ∀ r, r < n → r ≠ c → R r c = q r * R c c) : Cl n (c + 1) S := fun k hk => by
  by_cases hkc : k = c
  · subst hkc
    refine ⟨by rw [hSc k (by omega)]; exact fun h0 => (Rat.mul_eq_zero.1 h0).elim hs hp, fun r hr hrk => ?_⟩
    rw [hS r hr hrk k (by omega), ← hq r hr hrk]
    grind
  · obtain ⟨h1, h2⟩ := h k (by omega)
    have h0 := h2 c hc (fun e => hkc e.symm)
    refine ⟨by rw [hS k (by omega) hkc k (by omega), h0, Rat.mul_zero]; intro hh; exact h1 (by grind), fun r hr hrk => ?_⟩
    by_cases hrc : r = c
    · subst hrc; rw [hSc k (by omega), h0, Rat.mul_zero]
    · rw [hS r hr hrc k (by omega), h2 r hr hrk, h0, Rat.mul_zero]
      grind
def Ker (n w : Nat) (R : Mx) : Prop := ∃ v : Nat → Rat, Sol n w R v ∧ (∃ k, k < n ∧ v k ≠ 0) ∧ ∀ k, n ≤ k → v k = 0
theorem ker_of {n w c : Nat} {R : Mx} (h : Cl n c R) (hc : c < n) (hw : n ≤ w) (hz : ∀ r, r < n → c ≤ r → R r c = 0) : Ker n w R := by
  refine ⟨fun k => if k < c then -(R k c / R k k) else if k = c then 1 else 0, fun r hr => ?_, ⟨c, hc, ?_⟩, fun k hk => ?_⟩
  · by_cases hrc : r < c
    · rw [sumN_pair (k := r) (l := c) (by omega) (by omega) (by omega) (fun i hi h1 h2 => ?_)]
      · simp only [if_pos hrc, if_neg (show ¬ c < c by omega), if_true]
        have := (h r hrc).1
        grind
      · by_cases hic : i < c
        · rw [(h i hic).2 r hr (fun e => h1 e.symm), Rat.zero_mul]
        · simp only [if_neg hic, if_neg h2, Rat.mul_zero]
    · rw [sumN_one (k := c) (by omega) (fun i hi h1 => ?_)]
      · rw [hz r hr (by omega), Rat.zero_mul]
      · by_cases hic : i < c
        · rw [(h i hic).2 r hr (by omega), Rat.zero_mul]
        · simp only [if_neg hic, if_neg h1, Rat.mul_zero]
  · simp only [if_neg (show ¬ c < c by omega), if_true]
    decide
  · simp only []
    rw [if_neg (by omega), if_neg (by omega)]
theorem Ker.same {n w : Nat} {R S : Mx} (h : SameSol n w R S) (hk : Ker n w S) : Ker n w R := by
  obtain ⟨v, h1, h2⟩ := hk
  exact ⟨v, (h v).2 h1, h2⟩
theorem no_ker {n w : Nat} {R : Mx} (h : Cl n n R) (hw : n ≤ w) : ¬ Ker n w R := by
  rintro ⟨v, h1, ⟨k, hk, h2⟩, h3⟩
  have h4 := h1 k hk
  rw [sumN_one (k := k) (by omega) (fun i hi h5 => ?_)] at h4
  · rcases Rat.mul_eq_zero.1 h4 with h6 | h6
    · exact (h k hk).1 h6
    · exact h2 h6
  · by_cases hin : i < n
    · rw [(h i hin).2 k hk (fun e => h5 e.symm), Rat.zero_mul]
    · rw [h3 i (by omega), Rat.mul_zero]
def ansV (n : Nat) (X : Nat → Rat) (j : Nat) : Nat → Rat := fun k => if k < n then -(X k) else if k = j then 1 else 0
theorem ans_sol {n w j : Nat} {R : Mx} (h : Cl n n R) (hj : n ≤ j) (hjw : j < w) : Sol n w R (ansV n (fun k => R k j / R k k) j) := fun r hr => by
  rw [sumN_pair (k := r) (l := j) (by omega) hjw (by omega) (fun i hi h1 h2 => ?_)]
  · unfold ansV
    rw [if_pos hr, if_neg (by omega), if_pos rfl]
    have := (h r hr).1
    grind
  · unfold ansV
    by_cases hin : i < n
    · rw [(h i hin).2 r hr (fun e => h1 e.symm), Rat.zero_mul]
    · rw [if_neg hin, if_neg h2, Rat.mul_zero]
theorem sol_sub {n w : Nat} {R : Mx} {u v : Nat → Rat} (hu : Sol n w R u) (hv : Sol n w R v) : Sol n w R (fun k => u k - v k) := fun r hr => by
  have h : sumN w (fun j => R r j * (u j - v j)) = -1 * sumN w (fun j => R r j * v j) + sumN w (fun j => R r j * u j) := by
    rw [← sumN_lin]
    exact sumN_congr fun j _ => by grind
  rw [h, hu r hr, hv r hr]
  grind
theorem ans_one {n w j : Nat} {R : Mx} {X Y : Nat → Rat} (hn : ¬ Ker n w R) (hX : Sol n w R (ansV n X j)) (hY : Sol n w R (ansV n Y j)) : ∀ k, k < n → X k = Y k := fun k hk => by
  by_cases h : X k = Y k
  · exact h
  · exfalso
    refine hn ⟨_, sol_sub hX hY, ⟨k, hk, ?_⟩, fun i hi => ?_⟩
    · unfold ansV
      rw [if_pos hk, if_pos hk]
      intro h2
      exact h (by grind)
    · unfold ansV
      simp only [if_neg (show ¬ i < n by omega)]
      grind
theorem ans_same {n w j : Nat} {R S T : Mx} (h1 : SameSol n w R S) (h2 : SameSol n w R T) (hS : Cl n n S) (hT : Cl n n T) (hw : n ≤ w) (hj : n ≤ j) (hjw : j < w) : ∀ k, k < n → S k j / S k k = T k j / T k k :=
  ans_one (R := R) (fun h => no_ker hS hw (h.same h1.symm)) ((h1 _).2 (ans_sol hS hj hjw)) ((h2 _).2 (ans_sol hT hj hjw))
end Go.Proofs.Ytlejgleocnemoaa.I

namespace Go.Proofs.Ytlejgleocnemoaa.I
open Go Go.V
abbrev Gd := Nat → List Rat
def en (a : Gd) (r j : Nat) : Rat := (a r).getD j 0
def lessL (x y : List Rat) (q : Rat) : List Rat := (List.range x.length).map fun i => x.getD i 0 + -(y.getD i 0 * q)
def swA (a : Gd) (c p : Nat) : Gd := fun r => if r = c then a p else if r = p then a c else a r
def elA (a x : Gd) (c : Nat) : Gd := fun r => if r = c ∨ en a r c = 0 then x r else lessL (x r) (x c) (en a r c / en a c c)
def pvt (a : Gd) (c : Nat) : Nat → Nat → Nat
  | 0, p => p
  | k + 1, p => if en a p c = 0 then pvt a c k (p + 1) else p
def redA (n : Nat) : Nat → Gd × Gd → Option (Gd × Gd)
  | 0, s => some s
  | k + 1, s => if pvt s.1 (n - (k + 1)) (k + 1) (n - (k + 1)) = n then none else
      redA n k (elA (swA s.1 (n - (k + 1)) (pvt s.1 (n - (k + 1)) (k + 1) (n - (k + 1)))) (swA s.1 (n - (k + 1)) (pvt s.1 (n - (k + 1)) (k + 1) (n - (k + 1)))) (n - (k + 1)),
        elA (swA s.1 (n - (k + 1)) (pvt s.1 (n - (k + 1)) (k + 1) (n - (k + 1)))) (swA s.2 (n - (k + 1)) (pvt s.1 (n - (k + 1)) (k + 1) (n - (k + 1)))) (n - (k + 1)))
theorem pvt_spec {a : Gd} {c : Nat} : ∀ {k p : Nat}, p ≤ pvt a c k p ∧ pvt a c k p ≤ p + k ∧ (∀ i, p ≤ i → i < pvt a c k p → en a i c = 0) ∧ (pvt a c k p < p + k → en a (pvt a c k p) c ≠ 0)
  | 0, p => ⟨Nat.le_refl _, Nat.le_refl _, fun i h1 h2 => by rw [pvt] at h2; omega, fun h => by rw [pvt] at h; omega⟩
  | k + 1, p => by
    rw [pvt]
    by_cases h : en a p c = 0
    · rw [if_pos h]
      obtain ⟨h1, h2, h3, h4⟩ := pvt_spec (a := a) (c := c) (k := k) (p := p + 1)
      refine ⟨by omega, by omega, fun i g1 g2 => ?_, fun g => h4 (by omega)⟩
      by_cases hi : i = p
      · subst hi; exact h
      · exact h3 i (by omega) g2
    · rw [if_neg h]
      exact ⟨Nat.le_refl _, by omega, fun i g1 g2 => by omega, fun _ => h⟩
theorem len_lessL {x y : List Rat} {q : Rat} : (lessL x y q).length = x.length := by simp [lessL]
theorem getD_lessL {x y : List Rat} {q : Rat} {j : Nat} (h : j < x.length) : (lessL x y q).getD j 0 = x.getD j 0 + -(y.getD j 0 * q) := by
  simp [lessL, List.getD, h]
def cmb (n : Nat) (s : Gd × Gd) : Mx := fun r j => if j < n then en s.1 r j else en s.2 r (j - n)
def Lens (n m : Nat) (s : Gd × Gd) : Prop := ∀ r, r < n → (s.1 r).length = n ∧ (s.2 r).length = m
theorem Lens.swap {n m c p : Nat} {s : Gd × Gd} (h : Lens n m s) (hc : c < n) (hp : p < n) : Lens n m (swA s.1 c p, swA s.2 c p) := fun r hr => by
  unfold swA
  simp only []
  split
  · exact h p hp
  · split
    · exact h c hc
    · exact h r hr
theorem Lens.elim {n m c : Nat} {a : Gd} {s : Gd × Gd} (h : Lens n m s) : Lens n m (elA a s.1 c, elA a s.2 c) := fun r hr => by
  unfold elA
  simp only []
  split
  · exact h r hr
  · rw [len_lessL, len_lessL]; exact h r hr
theorem cmb_swap {n c p : Nat} {s : Gd × Gd} : cmb n (swA s.1 c p, swA s.2 c p) = swR (cmb n s) c p := by
  funext r j
  unfold cmb swR swA en
  by_cases h1 : r = c
  · simp only [if_pos h1]
  · simp only [if_neg h1]
    by_cases h2 : r = p
    · simp only [if_pos h2]
    · simp only [if_neg h2]
theorem en_elim {n c : Nat} {a x : Gd} {r j : Nat} (hr : r ≠ c) (hj : j < (x r).length) : en (elA a x c) r j = en x r j - en a r c / en a c c * en x c j := by
  unfold elA
  by_cases h : en a r c = 0
  · have : (if r = c ∨ en a r c = 0 then x r else lessL (x r) (x c) (en a r c / en a c c)) = x r := if_pos (.inr h)
    rw [en, this, h]
    rw [Rat.div_def, Rat.zero_mul, Rat.zero_mul]
    rw [en]
    grind
  · have : (if r = c ∨ en a r c = 0 then x r else lessL (x r) (x c) (en a r c / en a c c)) = lessL (x r) (x c) (en a r c / en a c c) := if_neg (fun hh => hh.elim hr h)
    have e0 : en (fun r => if r = c ∨ en a r c = 0 then x r else lessL (x r) (x c) (en a r c / en a c c)) r j = en x r j + -(en x c j * (en a r c / en a c c)) := by
      rw [en, this, getD_lessL hj]; rfl
    rw [e0]
    grind
theorem en_elim_c {c : Nat} {a x : Gd} {j : Nat} : en (elA a x c) c j = en x c j := by
  have : elA a x c c = x c := by unfold elA; exact if_pos (.inl rfl)
  rw [en, this, en]
theorem cmb_elim {n m c : Nat} {s : Gd × Gd} (h : Lens n m s) (hc : c < n) : (∀ r, r < n → r ≠ c → ∀ j, j < n + m → cmb n (elA s.1 s.1 c, elA s.1 s.2 c) r j = cmb n s r j - en s.1 r c / en s.1 c c * cmb n s c j) ∧ (∀ j, j < n + m → cmb n (elA s.1 s.1 c, elA s.1 s.2 c) c j = 1 * cmb n s c j) := by
  refine ⟨fun r hr hrc j hj => ?_, fun j hj => ?_⟩
  · obtain ⟨l1, l2⟩ := h r hr
    unfold cmb
    by_cases hjn : j < n
    · simp only [if_pos hjn]
      exact en_elim (n := n) hrc (by omega)
    · simp only [if_neg hjn]
      exact en_elim (n := n) hrc (by omega)
  · unfold cmb
    rw [Rat.one_mul, en_elim_c, en_elim_c]
theorem redA_spec {n m : Nat} : ∀ {k : Nat} {s : Gd × Gd}, k ≤ n → Lens n m s → Cl n (n - k) (cmb n s) →
    match redA n k s with
    | none => Ker n (n + m) (cmb n s)
    | some t => SameSol n (n + m) (cmb n s) (cmb n t) ∧ Cl n n (cmb n t) ∧ Lens n m t
  | 0, s, hk, hl, hcl => by rw [redA]; exact ⟨SameSol.refl, hcl, hl⟩
  | k + 1, s, hk, hl, hcl => by
    rw [redA]
    obtain ⟨c, hcdef⟩ : ∃ c, c = n - (k + 1) := ⟨_, rfl⟩
    rw [← hcdef] at hcl ⊢
    obtain ⟨p1, p2, p3, p4⟩ := pvt_spec (a := s.1) (c := c) (k := k + 1) (p := c)
    generalize pvt s.1 c (k + 1) c = p at *
    have hcn : c < n := by omega
    have hcm : ∀ r, cmb n s r c = en s.1 r c := fun r => by unfold cmb; rw [if_pos hcn]
    by_cases hp : p = n
    · rw [if_pos hp]
      exact ker_of hcl hcn (by omega) (fun r hr hcr => by rw [hcm]; exact p3 r hcr (by omega))
    · rw [if_neg hp]
      have hpn : p < n := by omega
      have hl2 := hl.swap hcn hpn
      have hs2 : SameSol n (n + m) (cmb n s) (cmb n (swA s.1 c p, swA s.2 c p)) := by rw [cmb_swap]; exact sol_swap hcn hpn
      have hcl2 : Cl n c (cmb n (swA s.1 c p, swA s.2 c p)) := by rw [cmb_swap]; exact hcl.swap p1 hpn
      have hpv : cmb n (swA s.1 c p, swA s.2 c p) c c ≠ 0 := by
        rw [cmb_swap]
        unfold swR
        rw [if_pos rfl, hcm]
        exact p4 (by omega)
      obtain ⟨e1, e2⟩ := cmb_elim hl2 hcn
      have hq : ∀ r, r < n → r ≠ c → cmb n (swA s.1 c p, swA s.2 c p) r c = en (swA s.1 c p) r c / en (swA s.1 c p) c c * cmb n (swA s.1 c p, swA s.2 c p) c c := fun r _ _ => by
        have hcc : ∀ r, cmb n (swA s.1 c p, swA s.2 c p) r c = en (swA s.1 c p) r c := fun r => by unfold cmb; rw [if_pos hcn]
        rw [hcc] at hpv
        rw [hcc, hcc]
        grind
      have hs3 := sol_elim (n := n) (w := n + m) hcn (show (1 : Rat) ≠ 0 by decide) e1 e2
      have hcl3 := hcl2.elim (w := n + m) hcn (by omega) (show (1 : Rat) ≠ 0 by decide) hpv e1 e2 hq
      have hl3 := hl2.elim (a := swA s.1 c p) (c := c)
      rw [show c + 1 = n - k by omega] at hcl3
      have ih := redA_spec (k := k) (by omega) hl3 hcl3
      revert ih
      simp only []
      generalize redA n k (elA (swA s.1 c p) (swA s.1 c p) c, elA (swA s.1 c p) (swA s.2 c p) c) = R
      intro ih
      cases R with
      | none => exact (ih.same hs3).same hs2
      | some t => exact ⟨(hs2.trans hs3).trans ih.1, ih.2⟩
theorem Cl.zero {n : Nat} {R : Mx} : Cl n 0 R := fun k h => by omega
theorem redA_all {n m : Nat} {s : Gd × Gd} (hl : Lens n m s) :
    match redA n n s with
    | none => Ker n (n + m) (cmb n s)
    | some t => SameSol n (n + m) (cmb n s) (cmb n t) ∧ Cl n n (cmb n t) ∧ Lens n m t :=
  redA_spec (Nat.le_refl n) hl (by rw [Nat.sub_self]; exact Cl.zero)
end Go.Proofs.Ytlejgleocnemoaa.I

namespace Go.Proofs.Ytlejgleocnemoaa.I
open Go Go.V
attribute [local go_sem_proc ↓] reduceIte
attribute [local go_sem_proc] Nat.reduceEqDiff Nat.reduceAdd Nat.reduceMul Nat.reduceLeDiff Nat.reduceLT Int.reduceToNat Int.reduceLT Int.reduceLE reduceCtorEq Nat.reduceBEq
attribute [local go_sem] mNil nat0 beq_self_eq_true mSkip mRet mExit mReg mSeq mCond mTrue mFalse mBlock mLv mCodeE mCodeR mEndN mEndR mEndE mOps mSome mGuard mGtt mGff mGtf mGft mGu mCallP mCallR mCallF mCallO mCallZ mCallG mCallM mCallV loopQ_exit loopQ_ret mO_mov mO_newnil mO_pick mO_alloc mO_box mO_build mO_bsl mO_bslF mO_newnilB mO_bslB mO_lenB mO_appB mO_allocA mO_bslA mO_appA mO_ldb mO_faddrb mRsv mO_ldf mO_ld mO_st mO_sta mO_nilchk mO_bin mO_binb mO_binp mO_bins mO_neg mO_com mO_not mO_conv mO_mk mO_mk0 mO_mkB mO_s2b mO_b2s mO_cpy mO_cut mO_faddr mO_fld mO_iaddr mO_iaddrf mO_sidx mO_len mO_lenf mO_slen mO_scut mO_app mO_ext mO_mx mO_mn mO_mkfn evalOp cutOp argsE ev getE putE cellsOf adopt rowOf binV boolV nilV ar_add ar_sub ar_mul ar_quo ar_rem ar_eq ar_ne ar_lt ar_le ar_gt ar_ge ar_and ar_or ar_xor geto bound finRet finNrm ints List.length_cons List.length_nil List.length_append List.getElem?_cons_zero List.getElem?_cons_succ List.nil_append List.cons_append List.map_cons List.map_nil List.mapM_cons List.mapM_nil Option.map_some Option.map_none Option.bind_some Option.pure_def Option.bind_eq_bind List.drop_zero or_self or_false false_or or_true true_or true_and and_true and_self decide_true decide_false Bool.false_eq_true Bool.true_eq_false Bool.not_true Bool.not_false Nat.le_refl eq_self gt_iff_lt ge_iff_le ne_eq not_true_eq_false not_false_eq_true storeOp apartOf freeze_nil refsL refs List.flatMap_cons List.flatMap_nil List.append_nil List.contains_nil List.set_cons_zero List.set_cons_succ snap snapL fill_nums flat_nums nums_length Go.V.freeze List.mapIdx_cons List.mapIdx_nil List.contains_cons Bool.or_false Bool.false_or Bool.or_true Bool.true_or
def sgZ (z : Int) : Int := if z = 0 then 0 else if z < 0 then -1 else 1
theorem c149_ok {z : Int} : Go.V.Call tab E 149 [.agg (wI z)] [] (.int .i64 (sgZ z)) [] := by
  refine Go.V.Call.mach i149 c149 rfl rfl rfl rfl ?_
  have h := c123_nat (E := E) (n := z.natAbs)
  by_cases h0 : z = 0
  · subst h0
    simp only [natC, us32] at h
    simp only [c149, wI, whC, us32, go_sem, FL, subW2, subW0, subW1]
    refine goP h ?_
    simp only [us32, go_sem, FL, subW2, subW0, subW1, Int.natAbs_zero]
    simp only [i149, OT, reduceIte, Nat.reduceEqDiff, sgZ, if_true]
  · have hz : ¬ z.natAbs = 0 := by omega
    simp only [natC, us32, hz] at h
    by_cases hn : z < 0
    · simp only [c149, wI, whC, us32, go_sem, FL, subW2, subW0, subW1]
      refine goP h ?_
      simp only [us32, go_sem, FL, subW2, subW0, subW1, hn]
      simp only [i149, OT, reduceIte, Nat.reduceEqDiff, sgZ, h0, hn, if_false, if_true]
    · simp only [c149, wI, whC, us32, go_sem, FL, subW2, subW0, subW1]
      refine goP h ?_
      simp only [us32, go_sem, FL, subW2, subW0, subW1, hn]
      simp only [i149, OT, reduceIte, Nat.reduceEqDiff, sgZ, h0, hn, if_false]
theorem sgZ_num {r : Rat} : (sgZ r.num == 0) = decide (r = 0) := by
  have : r.num = 0 ↔ r = 0 := Rat.num_eq_zero
  unfold sgZ
  by_cases h : r.num = 0
  · rw [if_pos h, decide_eq_true (this.1 h)]; rfl
  · rw [if_neg h, decide_eq_false (fun h0 => h (this.2 h0))]
    split <;> rfl
theorem c129_ok {r : Rat} : Go.V.Call tab E 129 [.agg (rtC (rR r))] [] (.int .i64 (sgZ r.num)) [] := by
  refine Go.V.Call.mach i129 c129 rfl rfl rfl rfl ?_
  have h := c149_ok (z := r.num)
  simp only [wI, whC, us32] at h
  simp only [c129, rtC, ratG, rR, us32, go_sem, FL, subT3, subT2]
  refine goP h ?_
  simp only [us32, go_sem, FL, subT3, subT2]
  simp only [i129, OT, reduceIte, Nat.reduceEqDiff]
theorem fill_rtsA {L : List Rt} {i : Nat} {z : Rt} (h : i < L.length) : fillIn (rtsC L) (i * 3) (rtC z) = rtsC (L.set i z) := by
  have hl : ∀ l : List Rt, (rtsC l).length = l.length * 3 := fun l => flat_len (fun _ => rfl)
  have h1 : ∀ {k : Nat} {l : List Rt}, (rtsC l).take (k * 3) = rtsC (l.take k) := fun {k l} => by
    induction l generalizing k with
    | nil => simp [rtsC]
    | cons a l ih =>
      cases k with
      | zero => simp [rtsC]
      | succ k =>
        have : rtsC (a :: l) = rtC a ++ rtsC l := by simp [rtsC]
        rw [this, List.take_succ_cons, show rtsC (a :: l.take k) = rtC a ++ rtsC (l.take k) by simp [rtsC], List.take_append, show (k + 1) * 3 = 3 + k * 3 by omega]
        rw [show (rtC a).length = 3 from rfl, show 3 + k * 3 - 3 = k * 3 by omega, ih]
        congr 1
        exact List.take_of_length_le (by rw [show (rtC a).length = 3 from rfl]; omega)
  have h2 : ∀ {k : Nat} {l : List Rt}, (rtsC l).drop (k * 3) = rtsC (l.drop k) := fun {k l} => by
    induction l generalizing k with
    | nil => simp [rtsC]
    | cons a l ih =>
      cases k with
      | zero => simp [rtsC]
      | succ k =>
        have : rtsC (a :: l) = rtC a ++ rtsC l := by simp [rtsC]
        rw [this, List.drop_succ_cons, List.drop_append, show (k + 1) * 3 = 3 + k * 3 by omega]
        rw [show (rtC a).length = 3 from rfl, show 3 + k * 3 - 3 = k * 3 by omega, ih, List.drop_eq_nil_of_le (by rw [show (rtC a).length = 3 from rfl]; omega), List.nil_append]
  unfold fillIn
  rw [show i * 3 + (rtC z).length = (i + 1) * 3 by rw [show (rtC z).length = 3 from rfl]; omega, h1, h2, List.set_eq_take_append_cons_drop, if_pos h]
  simp [rtsC]
def rO (l : List Rat) : AObj := ⟨false, 59, 3, 0, l.length, rtsC (l.map rR), false⟩
theorem rO_eq {l : List Rat} : rO l = ⟨false, 59, 3, 0, l.length, rtsC (l.map rR), false⟩ := rfl
def lessT (x y : List Rat) (q : Rat) (k : Nat) : List Rat := (List.range x.length).map fun i => if i < k then x.getD i 0 + -(y.getD i 0 * q) else x.getD i 0
theorem lessT_len {x y : List Rat} {q : Rat} {k : Nat} : (lessT x y q k).length = x.length := by simp [lessT]
theorem lessT_zero {x y : List Rat} {q : Rat} : lessT x y q 0 = x := by
  apply List.ext_getElem?
  intro i
  by_cases h : i < x.length
  · simp [lessT, List.getD, h]
  · rw [List.getElem?_eq_none (by rw [lessT_len]; omega), List.getElem?_eq_none (by omega)]
theorem lessT_all {x y : List Rat} {q : Rat} : lessT x y q x.length = lessL x y q := by
  unfold lessT lessL
  refine List.map_congr_left fun i hi => ?_
  rw [if_pos (List.mem_range.1 hi)]
theorem lessT_get {x y : List Rat} {q : Rat} {k : Nat} (h : k < x.length) : (lessT x y q k).getD k 0 = x.getD k 0 := by
  simp [lessT, List.getD, h]
theorem lessT_set {x y : List Rat} {q : Rat} {k : Nat} (h : k < x.length) : (lessT x y q k).set k (x.getD k 0 + -(y.getD k 0 * q)) = lessT x y q (k + 1) := by
  apply List.ext_getElem?
  intro i
  by_cases hi : i < x.length
  · by_cases hik : i = k
    · subst hik
      rw [List.getElem?_set_self (by rw [lessT_len]; exact hi)]
      simp [lessT, List.getD, hi]
    · rw [List.getElem?_set_ne (fun e => hik e.symm)]
      simp [lessT, List.getD, hi]
      by_cases h2 : i < k
      · rw [if_pos h2, if_pos (by omega)]
      · rw [if_neg h2, if_neg (by omega)]
  · rw [List.getElem?_eq_none (by rw [List.length_set, lessT_len]; omega), List.getElem?_eq_none (by rw [lessT_len]; omega)]
theorem sub_rR {l : List Rat} {i : Nat} (h : i < l.length) : sub true 3 (rtsC (l.map rR)) (i * 3) = some (.agg (rtC (rR (l.getD i 0)))) := by
  rw [sub_rts (by rw [List.length_map]; exact h)]
  simp [rtAt, List.getD, h]
theorem rtC3 {z : Rt} : rtC z = [us32 (limG z.2.1), .bool z.1, us32 (limG z.2.2)] := rfl
theorem set_self {α : Type} {l : List α} {i : Nat} {a : α} (h : l[i]? = some a) : l.set i a = l := by
  apply List.ext_getElem?
  intro j
  by_cases hj : i = j
  · subst hj; rw [List.getElem?_set_self (List.getElem?_eq_some_iff.1 h).1, h]
  · rw [List.getElem?_set_ne hj]
theorem mapIA {l : List AObj} : List.mapIdx (fun (_ : Nat) (o : AObj) => o) l = l := by
  apply List.ext_getElem?
  intro i
  simp
theorem fill_rR {l : List Rat} {i : Nat} {z : Rat} (h : i < l.length) : fillIn (rtsC (l.map rR)) (i * 3) (rtC (rR z)) = rtsC ((l.set i z).map rR) := by
  rw [fill_rtsA (by rw [List.length_map]; exact h), List.map_set]
theorem rts_len {l : List Rat} : (rtsC (l.map rR)).length = l.length * 3 := by
  rw [show (rtsC (l.map rR)).length = (l.map rR).length * 3 from flat_len (fun _ => rfl), List.length_map]
theorem c130_ok {M : List AObj} {p q : Nat} {x y : List Rat} {t : Rat} {i j : Nat} (hp : M[p]? = some (rO x)) (hq : M[q]? = some (rO y)) (hne : p ≠ q) (hl : y.length = x.length) (hxl : x.length ≤ 100000) (hx : ∀ a ∈ x, Sz i a) (hy : ∀ a ∈ y, Sz i a) (ht : Sz j t) (hij : i + (i + j) + 2 ≤ 32000000) :
    ∃ B : AObj, Go.V.Call tab E 130 [.arr p 0, .arr q 0, .agg (rtC (rR t))] M (.tup []) ((M.set p (rO (lessL x y t))) ++ [B]) := by
  refine ⟨⟨true, 59, 3, 0, 1, rtC (rR t), false⟩, ?_⟩
  refine Go.V.Call.mach i130 c130 rfl rfl rfl rfl ?_
  have hpl : p < M.length := (List.getElem?_eq_some_iff.1 hp).1
  have hql : q < M.length := (List.getElem?_eq_some_iff.1 hq).1
  have hx0 : ∀ k, k < x.length → Sz i (x.getD k 0) := fun k h => by
    simp only [List.getD, List.getElem?_eq_getElem h, Option.getD_some]; exact hx _ (List.getElem_mem h)
  have hy0 : ∀ k, k < x.length → Sz i (y.getD k 0) := fun k h => by
    simp only [List.getD, List.getElem?_eq_getElem (show k < y.length by omega), Option.getD_some]; exact hy _ (List.getElem_mem (by omega))
  have m1 : ∀ o : AObj, (M ++ [o])[p]? = some (rO x) := fun o => by rw [List.getElem?_append_left hpl]; exact hp
  simp only [rO_eq] at m1
  simp only [c130, rtC3, us32, go_sem, FL, m1]
  refine mLoop (fun N st => ∃ (k : Nat) (K : List AObj), k ≤ x.length ∧ N = x.length - k ∧ K = (M.set p (rO (lessT x y t k))) ++ [⟨true, 59, 3, 0, 1, rtC (rR t), false⟩] ∧
    st = ⟨[(0, .arr p 0), (1, .arr q 0), (5, .loc M.length 0 0), (8, .int .i64 x.length), (9, .int .i64 k)], K⟩) x.length ⟨_, rfl, 0, _, by omega, by omega, rfl, by rw [lessT_zero, set_self hp]; rfl⟩ ?_
  rintro N s0 ⟨k, K, hk, rfl, hK, rfl⟩
  by_cases hkx : k < x.length
  · have hk' : (k : Int) < (x.length : Int) := by omega
    have hk0 : (0 : Int) ≤ (k : Int) := by omega
    have hk1 : IntKind.i64.wrap ((k : Int) + 1) = ((k + 1 : Nat) : Int) := by rw [wrap_i64 (by omega) (by omega)]; omega
    have n1 : K[p]? = some (rO (lessT x y t k)) := by rw [hK, List.getElem?_append_left (by simpa using hpl)]; simp [hpl]
    have n2 : K[q]? = some (rO y) := by rw [hK, List.getElem?_append_left (by simpa using hql), List.getElem?_set_ne hne]; exact hq
    have n3 : K[M.length]? = some ⟨true, 59, 3, 0, 1, rtC (rR t), false⟩ := by rw [hK, List.getElem?_append_right (by simp)]; simp
    have n4 : ∀ o : AObj, K.set p o = (M.set p o) ++ [⟨true, 59, 3, 0, 1, rtC (rR t), false⟩] := fun o => by rw [hK, List.set_append_left _ _ (by simpa using hpl), List.set_set]
    have s1 := sub_rR (l := lessT x y t k) (i := k) (by rw [lessT_len]; exact hkx)
    rw [lessT_get hkx] at s1
    have s2 := sub_rR (l := y) (i := k) (by omega)
    have hfill := fill_rR (l := lessT x y t k) (i := k) (z := x.getD k 0 + -(y.getD k 0 * t)) (by rw [lessT_len]; exact hkx)
    rw [lessT_set hkx] at hfill
    have hlen3 : k * 3 + 3 ≤ (rtsC ((lessT x y t k).map rR)).length := by rw [rts_len, lessT_len]; omega
    have h56 := c56_ok (E := I.E) (x := rR (y.getD k 0)) (y := rR t) RV.self RV.self (hy0 k hkx) ht (by omega)
    have h50 := c50_ok (E := I.E) (x := rR (y.getD k 0 * t)) RV.self
    have h49 := c49_ok (E := I.E) (x := rR (x.getD k 0)) (y := rR (-(y.getD k 0 * t))) RV.self RV.self (hx0 k hkx) ((hy0 k hkx).mul ht).neg (by omega)
    have hky : (k : Int) < (y.length : Int) := by omega
    have hnx : rO (lessT x y t (k + 1)) = ⟨false, 59, 3, 0, x.length, rtsC ((lessT x y t (k + 1)).map rR), false⟩ := by rw [rO_eq, lessT_len]
    have hs3 : sub true 3 (rtC (rR t)) 0 = some (.agg (rtC (rR t))) := rfl
    simp only [rO_eq, lessT_len, hl] at n1 n2
    clear hK hx hy hx0 hy0
    generalize x.getD k 0 = a at *
    generalize y.getD k 0 = b at *
    generalize b * t = bt at *
    generalize a + -bt = s at *
    generalize rR (-bt) = zn at *
    generalize rR bt = zb at *
    generalize rR s = zs at *
    generalize rR a = za at *
    generalize rR b = zbb at *
    generalize rR t = zt at *
    simp only [rtC3, us32] at n3 n4 s1 s2 hfill h56 h50 h49 hs3
    simp only [b130_0, go_sem, FL, hk', hk0, hky, n1, n2, n3, s1, s2, hs3, Int.toNat_natCast, us32]
    refine goP h56 ?_
    simp only [go_sem, FL, us32]
    refine goP h50 ?_
    simp only [go_sem, FL, us32]
    refine goP h49 ?_
    simp only [go_sem, us32, mapIA, n1, hk', hk0, Int.toNat_natCast, hlen3, hfill, n4, hk1]
    exact loopQ_go rfl (x.length - (k + 1)) (by omega) ⟨k + 1, _, by omega, rfl, by rw [hnx]; rfl, rfl⟩
  · obtain rfl : k = x.length := by omega
    rw [lessT_all] at hK
    subst hK
    simp only [b130_0, go_sem, Int.lt_irrefl]
    simp only [i130, OT, reduceIte, Nat.reduceEqDiff]
    simp
    rfl
end Go.Proofs.Ytlejgleocnemoaa.I

namespace Go.Proofs.Ytlejgleocnemoaa.I
open Go Go.V
attribute [local go_sem] mNil nat0 beq_self_eq_true mSkip mRet mExit mReg mSeq mCond mTrue mFalse mBlock mLv mCodeE mCodeR mEndN mEndR mEndE mOps mSome mGuard mGtt mGff mGtf mGft mGu mCallP mCallR mCallF mCallO mCallZ mCallG mCallM mCallV loopQ_exit loopQ_ret mO_mov mO_newnil mO_pick mO_alloc mO_box mO_build mO_bsl mO_bslF mO_newnilB mO_bslB mO_lenB mO_appB mO_allocA mO_bslA mO_appA mO_ldb mO_faddrb mRsv mO_ldf mO_ld mO_st mO_sta mO_nilchk mO_bin mO_binb mO_binp mO_bins mO_neg mO_com mO_not mO_conv mO_mk mO_mk0 mO_mkB mO_s2b mO_b2s mO_cpy mO_cut mO_faddr mO_fld mO_iaddr mO_iaddrf mO_sidx mO_len mO_lenf mO_slen mO_scut mO_app mO_ext mO_mx mO_mn mO_mkfn evalOp cutOp argsE ev getE putE cellsOf adopt rowOf binV boolV nilV ar_add ar_sub ar_mul ar_quo ar_rem ar_eq ar_ne ar_lt ar_le ar_gt ar_ge ar_and ar_or ar_xor geto bound finRet finNrm ints List.length_cons List.length_nil List.length_append List.getElem?_cons_zero List.getElem?_cons_succ List.nil_append List.cons_append List.map_cons List.map_nil List.mapM_cons List.mapM_nil Option.map_some Option.map_none Option.bind_some Option.pure_def Option.bind_eq_bind List.drop_zero or_self or_false false_or or_true true_or true_and and_true and_self decide_true decide_false Bool.false_eq_true Bool.true_eq_false Bool.not_true Bool.not_false Nat.le_refl eq_self gt_iff_lt ge_iff_le ne_eq not_true_eq_false not_false_eq_true storeOp apartOf freeze_nil refsL refs List.flatMap_cons List.flatMap_nil List.append_nil List.contains_nil List.set_cons_zero List.set_cons_succ snap snapL fill_nums flat_nums nums_length Go.V.freeze List.mapIdx_cons List.mapIdx_nil List.contains_cons Bool.or_false Bool.false_or Bool.or_true Bool.true_or
section
variable {E : CallRel}
end
end Go.Proofs.Ytlejgleocnemoaa.I

namespace Go.Proofs.Ytlejgleocnemoaa.I
open Go Go.V
attribute [local go_sem_proc ↓] reduceIte
attribute [local go_sem_proc] Nat.reduceEqDiff Nat.reduceAdd Nat.reduceMul Nat.reduceLeDiff Nat.reduceLT Int.reduceToNat Int.reduceLT Int.reduceLE reduceCtorEq Nat.reduceBEq
attribute [local go_sem] mNil nat0 beq_self_eq_true mSkip mRet mExit mReg mSeq mCond mTrue mFalse mBlock mLv mCodeE mCodeR mEndN mEndR mEndE mOps mSome mGuard mGtt mGff mGtf mGft mGu mCallP mCallR mCallF mCallO mCallZ mCallG mCallM mCallV loopQ_exit loopQ_ret mO_mov mO_newnil mO_pick mO_alloc mO_box mO_build mO_bsl mO_bslF mO_newnilB mO_bslB mO_lenB mO_appB mO_allocA mO_bslA mO_appA mO_ldb mO_faddrb mRsv mO_ldf mO_ld mO_st mO_sta mO_nilchk mO_bin mO_binb mO_binp mO_bins mO_neg mO_com mO_not mO_conv mO_mk mO_mk0 mO_mkB mO_s2b mO_b2s mO_cpy mO_cut mO_faddr mO_fld mO_iaddr mO_iaddrf mO_sidx mO_len mO_lenf mO_slen mO_scut mO_app mO_ext mO_mx mO_mn mO_mkfn evalOp cutOp argsE ev getE putE cellsOf adopt rowOf binV boolV nilV ar_add ar_sub ar_mul ar_quo ar_rem ar_eq ar_ne ar_lt ar_le ar_gt ar_ge ar_and ar_or ar_xor geto bound finRet finNrm ints List.length_cons List.length_nil List.length_append List.getElem?_cons_zero List.getElem?_cons_succ List.nil_append List.cons_append List.map_cons List.map_nil List.mapM_cons List.mapM_nil Option.map_some Option.map_none Option.bind_some Option.pure_def Option.bind_eq_bind List.drop_zero or_self or_false false_or or_true true_or true_and and_true and_self decide_true decide_false Bool.false_eq_true Bool.true_eq_false Bool.not_true Bool.not_false Nat.le_refl eq_self gt_iff_lt ge_iff_le ne_eq not_true_eq_false not_false_eq_true storeOp apartOf freeze_nil refsL refs List.flatMap_cons List.flatMap_nil List.append_nil List.contains_nil List.set_cons_zero List.set_cons_succ snap snapL fill_nums flat_nums nums_length Go.V.freeze List.mapIdx_cons List.mapIdx_nil List.contains_cons Bool.or_false Bool.false_or Bool.or_true Bool.true_or
def zR (z : Int) : Rt := (decide (z < 0), z.natAbs, 1)
theorem ratC_zR {z : Int} (hz : In64 z) : ratC z = rtC (zR z) := by
  obtain ⟨h1, h2⟩ := hz
  rw [ratC, lim_limG (by omega)]
  show _ = [us32 (limG z.natAbs), AV.bool (decide (z < 0)), us32 (limG 1)]
  rw [limG_one (d := 1) (by omega) (by omega)]
  rfl
theorem ratsC_zR {l : List Int} (hl : ∀ z ∈ l, In64 z) : ratsC l = rtsC (l.map zR) := by
  induction l with
  | nil => rfl
  | cons z l ih =>
    have e1 : ratsC (z :: l) = ratC z ++ ratsC l := by simp [ratsC]
    have e2 : rtsC ((z :: l).map zR) = rtC (zR z) ++ rtsC (l.map zR) := by simp [rtsC]
    rw [e1, e2, ratC_zR (hl z (by simp)), ih fun y hy => hl y (by simp [hy])]
theorem arrV_X {s l : List Int} (hl : ∀ z ∈ l, In64 z) : arrV s l = arrX s false [] (l.map zR) := by
  rw [arrV, arrX, ratsC_zR hl, List.length_map]
  rfl
theorem rint_zR {z : Int} (hz : In64 z) : rint (zR z) = some z := by
  obtain ⟨h1, h2⟩ := hz
  have hd : dn (zR z).2.2 = 1 := rfl
  rw [rint, if_pos hd]
  show wint (decide (z < 0)) z.natAbs = some z
  by_cases h : z < 0
  · rw [decide_eq_true h, wint, if_pos rfl, if_pos (by omega)]
    congr 1; omega
  · rw [decide_eq_false h, wint, if_neg (by simp), if_pos (by omega)]
    congr 1; omega
theorem rv_zR {z : Int} (hz : In64 z) : rv (zR z) = z := rv_of (rint_zR hz)
theorem map_rv_zR {l : List Int} (hl : ∀ z ∈ l, In64 z) : (l.map zR).map rv = l := by
  rw [List.map_map]
  conv => rhs; rw [← List.map_id l]
  exact List.map_congr_left fun x hx => rv_zR (hl x hx)
theorem wint_64 {n : Bool} {p : Nat} {z : Int} (h : wint n p = some z) : In64 z := by
  unfold wint at h
  split at h
  · split at h
    · simp at h; subst h; unfold In64; omega
    · cases h
  · split at h
    · simp at h; subst h; unfold In64; omega
    · cases h
theorem rv_64 {x : Rt} : In64 (rv x) := by
  unfold rv
  cases h : rint x with
  | none => exact ⟨by decide, by decide⟩
  | some z =>
    unfold rint at h
    split at h
    · exact wint_64 h
    · cases h
def wholeB (ch : Bool) (t : List Int) (L : List Rt) : Bool := !(ch && decide (0 < t.length + L.length)) && L.all fun x => (rint x).isSome
theorem wholeB_iff {ch : Bool} {t : List Int} {L : List Rt} : wholeB ch t L = true ↔ ¬ (ch = true ∧ 0 < t.length + L.length) ∧ WhO L := by
  unfold wholeB WhO
  simp only [Bool.and_eq_true, Bool.not_eq_true', List.all_eq_true]
  refine and_congr_left' ?_
  cases ch <;> simp
def lisV (s : List Int) (ch : Bool) (t : List Int) (L : List Rt) : List Int := if s.length ≤ 1 ∧ wholeB ch t L = true then L.map rv else []
def lisE (s : List Int) (ch : Bool) (t : List Int) (L : List Rt) : Int := if 1 < s.length then 23 else if wholeB ch t L = true then 0 else 22
def noP : List AV := plX [] false [] []
def axA (s : List Int) (a : Int) : Int := if a < 0 then (s.length : Int) - 1 else a
def axB (s : List Int) (a : Int) : Bool := decide (0 ≤ axA s a) && decide (axA s a < (s.length : Int))
theorem c11_X {l : List Int} (hl : (l.length : Int) ≤ 1000000000000) (hz : ∀ z ∈ l, In64 z) : Go.V.Call tab E 11 [ints l] [] (.agg (arrX [(l.length : Int)] false [] (l.map zR))) [] := by
  rw [← arrV_X hz]
  exact c11_ok hl hz
theorem c84_ok {s t s' ks : List Int} {L : List Rt} {ch : Bool} (hs : ∀ d ∈ s', In64 d) (hsl : (s'.length : Int) ≤ 1000000000000) (ht : (t.length : Int) ≤ 1000000000000) (hl : (L.length : Int) ≤ 1000000000000) (hks : (ks.length : Int) ≤ 1000000000) :
    Go.V.Call tab E 84 [.agg (arrX s ch t L), ints s', ints ks] [] (.tup [.agg (if fits s' ks.length then arrX s' ch (picksT ch t ks) (picksR ch L ks) else noA), .int .i64 (if fits s' ks.length then 0 else 26)]) [] := by
  refine Go.V.Call.mach i84 c84 rfl rfl rfl rfl ?_
  have h49 := c64_ok (s := s) (t := t) (s' := s') (ks := ks) (l := L) (ch := ch) hs hsl ht hl hks
  simp only [arrX, runes, ints] at h49
  cases hf : fits s' ks.length with
  | true =>
    rw [hf] at h49
    simp only [if_true] at h49
    simp only [c84, arrX, runes, ints, go_sem, FL, subA5]
    refine goP h49 ?_
    simp only [go_sem, FL, subA5]
    simp only [i84, OT, reduceIte, Nat.reduceEqDiff, subA5, if_true, arrX, runes, ints]
  | false =>
    rw [hf] at h49
    simp only [Bool.false_eq_true, if_false, noA] at h49
    simp only [c84, arrX, runes, ints, go_sem, FL, subA5]
    refine goP h49 ?_
    simp only [go_sem, FL, subA5]
    simp only [i84, OT, reduceIte, Nat.reduceEqDiff, subA5, Bool.false_eq_true, if_false, noA]
theorem c82_ok {s t : List Int} {ch : Bool} {L : List Rt} (hs : (s.length : Int) ≤ 1000000000) (ht : (t.length : Int) ≤ 1000000000000) (hl : (L.length : Int) ≤ 1000000000000) :
    Go.V.Call tab E 82 [.agg (arrX s ch t L)] [] (.tup [.arr 0 0, .int .i64 (lisE s ch t L)]) [rowI (lisV s ch t L)] := by
  refine Go.V.Call.mach i82 c82 rfl rfl rfl rfl ?_
  have h56 := c66_X (s := s) (t := t) (l := L) (ch := ch) (by omega)
  have h100 := c91_X (s := s) (t := t) (l := L) (ch := ch) (ok := wholeB ch t L) ht hl wholeB_iff
  simp only [arrX, runes, ints] at h56 h100
  by_cases h1 : (1 : Int) < (s.length : Int)
  · have hE : lisE s ch t L = 23 := if_pos (by omega)
    have hV : lisV s ch t L = [] := if_neg (by omega)
    simp only [c82, arrX, runes, ints, go_sem, FL, subA5]
    refine goP h56 ?_
    simp only [go_sem, FL, subA5, h1]
    simp only [i82, OT, reduceIte, Nat.reduceEqDiff, ownOut, ownL, ownV, scalar, List.contains_nil, List.length_nil, List.length_cons, List.nil_append, List.cons_append, storeOp, apartOf, freeze_nil, refsL, refs, List.flatMap_cons, List.flatMap_nil, List.append_nil, List.contains_nil, List.set_cons_zero, List.set_cons_succ, snap, snapL, fill_nums, flat_nums, nums_length, reduceCtorEq, Bool.false_eq_true, and_self, not_false_eq_true, beq_self_eq_true, Nat.zero_add, hE, hV]
    rfl
  · cases hw : wholeB ch t L with
    | true =>
      have hE : lisE s ch t L = 0 := by rw [lisE, if_neg (by omega), if_pos hw]
      have hV : lisV s ch t L = L.map rv := if_pos ⟨by omega, hw⟩
      rw [hw] at h100
      simp only [if_true, rowI] at h100
      simp only [c82, arrX, runes, ints, go_sem, FL, subA5]
      refine goP h56 ?_
      simp only [go_sem, FL, subA5, h1]
      refine goO h100 rfl rfl ?_
      simp only [go_sem, FL, subA5]
      simp only [i82, OT, reduceIte, Nat.reduceEqDiff, ownOut, ownL, ownV, scalar, List.contains_nil, List.length_nil, List.length_cons, List.nil_append, List.cons_append, storeOp, apartOf, freeze_nil, refsL, refs, List.flatMap_cons, List.flatMap_nil, List.append_nil, List.contains_nil, List.set_cons_zero, List.set_cons_succ, snap, snapL, fill_nums, flat_nums, nums_length, reduceCtorEq, Bool.false_eq_true, and_self, not_false_eq_true, beq_self_eq_true, Nat.zero_add, hE, hV]
      rfl
    | false =>
      have hE : lisE s ch t L = 22 := by rw [lisE, if_neg (by omega), if_neg (by rw [hw]; simp)]
      have hV : lisV s ch t L = [] := if_neg (by rw [hw]; simp)
      rw [hw] at h100
      simp only [Bool.false_eq_true, if_false, rowI] at h100
      simp only [c82, arrX, runes, ints, go_sem, FL, subA5]
      refine goP h56 ?_
      simp only [go_sem, FL, subA5, h1]
      refine goO h100 rfl rfl ?_
      simp only [go_sem, FL, subA5]
      simp only [i82, OT, reduceIte, Nat.reduceEqDiff, ownOut, ownL, ownV, scalar, List.contains_nil, List.length_nil, List.length_cons, List.nil_append, List.cons_append, storeOp, apartOf, freeze_nil, refsL, refs, List.flatMap_cons, List.flatMap_nil, List.append_nil, List.contains_nil, List.set_cons_zero, List.set_cons_succ, snap, snapL, fill_nums, flat_nums, nums_length, reduceCtorEq, Bool.false_eq_true, and_self, not_false_eq_true, beq_self_eq_true, Nat.zero_add, hE, hV]
      rfl
theorem count_nat {s : List Int} {m : Int} (h : count s = some m) : ∃ n : Nat, m = n ∧ n ≤ 4096 ∧ s.length ≤ 8 ∧ prd s = n := by
  obtain ⟨h1, h2, h3⟩ := count_bound h
  have h4 := h3 s.length
  rw [List.take_length, ← count_prd h] at h4
  exact ⟨m.toNat, by omega, by omega, h1, by rw [← count_prd h]; omega⟩
theorem fits_of {s : List Int} {n : Nat} (h : count s = some (n : Int)) : fits s n = true := by rw [fits, h]; simp
theorem fill_row {ks : List Int} {i n : Nat} (hn : ks.length = n) (hi : i < n) : (ks.take i ++ List.replicate (n - i) 0).take i ++ ks.getD i 0 :: (ks.take i ++ List.replicate (n - i) 0).drop (i + 1) = ks.take (i + 1) ++ List.replicate (n - (i + 1)) 0 := by
  have h1 : (ks.take i).length = i := by rw [List.length_take]; omega
  rw [List.take_left' h1, List.drop_append, h1, List.drop_eq_nil_of_le (by omega), List.nil_append, List.drop_replicate, take_snoc (by omega), List.append_assoc]
  rw [show n - i - (i + 1 - i) = n - (i + 1) by omega]
  rfl
theorem row_len {ks : List Int} {i n : Nat} (hn : ks.length = n) (hi : i ≤ n) : (ks.take i ++ List.replicate (n - i) 0).length = n := by
  rw [List.length_append, List.length_take, List.length_replicate]; omega
theorem set_twice {y : List Int} {m : Nat} {v u : Int} (h : m < y.length) : (y.take m ++ v :: y.drop (m + 1)).take m ++ u :: (y.take m ++ v :: y.drop (m + 1)).drop (m + 1) = y.take m ++ u :: y.drop (m + 1) := by
  have h1 : (y.take m).length = m := by rw [List.length_take]; omega
  rw [List.take_left' h1, List.drop_append, h1, List.drop_eq_nil_of_le (by omega), List.nil_append, show m + 1 - m = 1 by omega]
  rfl
def outA (e : Int) (s ks : List Int) (ch : Bool) (t : List Int) (L : List Rt) : List AV := if e = 0 then arrX s ch (picksT ch t ks) (picksR ch L ks) else noA
def outP (e : Int) (s ks : List Int) (ch : Bool) (t : List Int) (l : List Nm) : List AV := if e = 0 then plX s ch (picksT ch t ks) (picksN ch l ks) else noP
def negB (w : List Int) : Bool := w.any fun d => decide (d < 0)
def resE (e0 : Int) (w : List Int) : Int := if e0 ≠ 0 then e0 else if negB w = true then 22 else match count w with | none => if 8 < w.length then 23 else 26 | some _ => 0
def cyc (w : List Int) (len : Nat) : List Int := (List.range (prd w).toNat).map fun i => if len = 0 then (-1 : Int) else ((i % len : Nat) : Int)
theorem cyc_len {w : List Int} {len : Nat} : (cyc w len).length = (prd w).toNat := by simp [cyc]
theorem cyc_get {w : List Int} {len i : Nat} (h : i < (prd w).toNat) : (cyc w len).getD i 0 = if len = 0 then (-1 : Int) else ((i % len : Nat) : Int) := by simp [cyc, List.getD, h]
theorem negB_take {w : List Int} {i : Nat} (h : ∀ d ∈ w.take i, 0 ≤ d) (hi : i < w.length) (hd : w.getD i 0 < 0) : negB w = true := by
  rw [negB, List.any_eq_true]
  exact ⟨w.getD i 0, by simp [List.getD, hi], by simpa using hd⟩
theorem negB_no {w : List Int} (h : ∀ d ∈ w, 0 ≤ d) : negB w = false := by
  rw [← Bool.not_eq_true, negB, List.any_eq_true]
  rintro ⟨d, hd, hn⟩
  have := h d hd
  simp at hn
  omega
set_option maxHeartbeats 1000000 in
theorem c29_ok {sb tb s t : List Int} {cb ch : Bool} {Lb L : List Rt} (hsb : (sb.length : Int) ≤ 1000000000) (htb : (tb.length : Int) ≤ 1000000000) (hlb : (Lb.length : Int) ≤ 1000000000)
    (hs : (s.length : Int) ≤ 1000000000) (ht : (t.length : Int) ≤ 1000000000) (hl : (L.length : Int) ≤ 1000000000) :
    Go.V.Call tab E 29 [.agg (arrX sb cb tb Lb), .agg (arrX s ch t L)] [] (.tup [.agg (outA (resE (lisE sb cb tb Lb) (lisV sb cb tb Lb)) (lisV sb cb tb Lb) (cyc (lisV sb cb tb Lb) (t.length + L.length)) ch t L), .int .i64 (resE (lisE sb cb tb Lb) (lisV sb cb tb Lb))]) [] := by
  refine Go.V.Call.mach i29 c29 rfl rfl rfl rfl ?_
  have h89 := c82_ok (s := sb) (t := tb) (ch := cb) (L := Lb) hsb (by omega) (by omega)
  have hw64 : ∀ d ∈ lisV sb cb tb Lb, In64 d := fun d hd => by
    unfold lisV at hd
    split at hd
    · obtain ⟨x, _, rfl⟩ := List.mem_map.1 hd; exact rv_64
    · simp at hd
  have hwl : ((lisV sb cb tb Lb).length : Int) ≤ 1000000000 := by
    unfold lisV
    split <;> simp <;> omega
  have h55 := c23_X (s := s) (t := t) (l := L) (ch := ch) (by omega) (by omega)
  generalize hwd : lisV sb cb tb Lb = w at *
  generalize hed : lisE sb cb tb Lb = e0 at *
  clear hwd hed
  obtain ⟨len, hlen⟩ : ∃ len, len = t.length + L.length := ⟨_, rfl⟩
  rw [← hlen] at h55 ⊢
  simp only [arrX, runes, ints, rowI] at h89 h55
  by_cases he : e0 = 0
  · subst he
    have q0 : ((0 : Int) != 0) = false := rfl
    simp only [c29, arrX, runes, ints, go_sem, FL, subA5]
    refine goO h89 rfl rfl ?_
    simp only [go_sem, FL, subA5, q0]
    refine mLoop (fun N st => ∃ i : Nat, i ≤ w.length ∧ N = w.length - i ∧ (∀ d ∈ w.take i, 0 ≤ d) ∧
      st = ⟨[(3, .loc 1 0 0), (4, .loc 5 0 0), (6, .arr 6 0), (23, .arr 6 0), (24, .int .i64 w.length), (25, .int .i64 i)],
        [⟨true, 28, 5, 0, 1, arrX sb cb tb Lb, false⟩, ⟨true, 28, 5, 0, 1, arrX s ch t L, false⟩, ⟨false, 3, 1, 0, 0, [], false⟩, ⟨false, 21, 1, 0, 0, [], false⟩, ⟨false, 59, 3, 0, 0, [], false⟩,
         ⟨true, 28, 5, 0, 1, [.arr 2 0, .bool false, .arr 3 0, .arr 4 0, .bool false], false⟩, ⟨false, 3, 1, 0, w.length, nums .i64 w, false⟩]⟩) w.length
      ⟨_, rfl, 0, by omega, by omega, fun x hx => by simp at hx, by simp [getE, arrX, runes, ints]⟩ ?_
    rintro N s0 ⟨i, hi, rfl, hneg, rfl⟩
    by_cases hlt : i < w.length
    · have hlt' : (i : Int) < (w.length : Int) := by omega
      have hi0 : (0 : Int) ≤ (i : Int) := by omega
      have hi1 : IntKind.i64.wrap ((i : Int) + 1) = ((i + 1 : Nat) : Int) := by rw [wrap_i64 (by omega) (by omega)]; omega
      have hsub := sub_nums (k := .i64) hlt
      by_cases hd : w.getD i 0 < 0
      · have hr : resE 0 w = 22 := by rw [resE, if_neg (by omega), if_pos (negB_take hneg hlt hd)]
        simp only [b29_0, arrX, runes, ints, go_sem, FL, hlt', hi0, Int.toNat_natCast, hsub, hd]
        simp only [i29, OT, reduceIte, Nat.reduceEqDiff, subA5, hr, outA, noA]
        rfl
      · simp only [b29_0, arrX, runes, ints, go_sem, hlt', hi0, Int.toNat_natCast, hsub, hd, hi1]
        refine loopQ_go rfl (w.length - (i + 1)) (by omega) ⟨i + 1, by omega, rfl, ?_, by simp only [arrX, runes, ints]; rfl⟩
        intro d hdm
        rw [take_snoc hlt] at hdm
        rcases List.mem_append.1 hdm with h | h
        · exact hneg d h
        · have := List.mem_singleton.1 h; omega
    · have hlt' : ¬ (i : Int) < (w.length : Int) := by omega
      obtain rfl : i = w.length := by omega
      rw [List.take_length] at hneg
      have hnb := negB_no hneg
      have h90 := c83_ok (E := E) hw64 (by omega)
      simp only [ints] at h90
      cases hc : count w with
      | none =>
        rw [hc] at h90
        simp only [optP] at h90
        by_cases h8 : 8 < w.length
        · have h8' : (8 : Int) < (w.length : Int) := by omega
          have hr : resE 0 w = 23 := by rw [resE, if_neg (by omega), if_neg (by rw [hnb]; simp), hc]; exact if_pos h8
          simp only [b29_0, k29_1, arrX, runes, ints, go_sem, FL, hlt', Int.lt_irrefl]
          refine goR h90 rfl ?_
          simp only [go_sem, FL, h8']
          simp only [i29, OT, reduceIte, Nat.reduceEqDiff, subA5, hr, outA, noA]
          rfl
        · have h8' : ¬ (8 : Int) < (w.length : Int) := by omega
          have hr : resE 0 w = 26 := by rw [resE, if_neg (by omega), if_neg (by rw [hnb]; simp), hc]; exact if_neg h8
          simp only [b29_0, k29_1, arrX, runes, ints, go_sem, FL, hlt', Int.lt_irrefl]
          refine goR h90 rfl ?_
          simp only [go_sem, FL, h8']
          simp only [i29, OT, reduceIte, Nat.reduceEqDiff, subA5, hr, outA, noA]
          rfl
      | some m =>
        obtain ⟨n, rfl, hn4, hw8, hp⟩ := count_nat hc
        have hr : resE 0 w = 0 := by rw [resE, if_neg (by omega), if_neg (by rw [hnb]; simp), hc]
        rw [hc] at h90
        simp only [optP] at h90
        have hkl : (cyc w len).length = n := by rw [cyc_len, hp]; rfl
        have hkg : ∀ i, i < n → (cyc w len).getD i 0 = if len = 0 then (-1 : Int) else ((i % len : Nat) : Int) := fun i hi => cyc_get (by rw [hp]; exact hi)
        rw [hr]
        generalize cyc w len = ks at *
        have h91 := c84_ok (s := s) (t := t) (s' := w) (ks := ks) (L := L) (ch := ch) hw64 (by omega) (by omega) (by omega) (by omega)
        rw [hkl, fits_of hc] at h91
        simp only [if_true, arrX, runes, ints] at h91
        have b1 : (0 : Int) ≤ (n : Int) := by omega
        have b2 : 8 * n ≤ 140737488355328 := by omega
        have b3 : (n : Int) ≤ 140737488355328 := by omega
        simp only [b29_0, k29_1, arrX, runes, ints, go_sem, FL, hlt', Int.lt_irrefl]
        refine goR h90 rfl ?_
        simp only [go_sem, FL, b1, b2, b3, Int.toNat_natCast, flat_nums]
        refine mLoop (fun N st => ∃ i : Nat, i ≤ n ∧ N = n - i ∧
          st = ⟨[(3, .loc 1 0 0), (4, .loc 5 0 0), (6, .arr 6 0), (12, .arr 7 0), (54, .int .i64 n), (55, .int .i64 i)],
            [⟨true, 28, 5, 0, 1, arrX sb cb tb Lb, false⟩, ⟨true, 28, 5, 0, 1, arrX s ch t L, false⟩, ⟨false, 3, 1, 0, 0, [], false⟩, ⟨false, 21, 1, 0, 0, [], false⟩, ⟨false, 59, 3, 0, 0, [], false⟩,
             ⟨true, 28, 5, 0, 1, [.arr 2 0, .bool false, .arr 3 0, .arr 4 0, .bool false], false⟩, ⟨false, 3, 1, 0, w.length, nums .i64 w, false⟩, ⟨false, 3, 1, 0, n, nums .i64 (ks.take i ++ List.replicate (n - i) 0), false⟩]⟩) n
          ⟨_, rfl, 0, by omega, by omega, by simp [getE, arrX, runes, ints]⟩ ?_
        clear hi hlt hlt' hneg
        rintro N s0 ⟨i, hi, rfl, rfl⟩
        by_cases hlt : i < n
        · have hlt' : (i : Int) < (n : Int) := by omega
          have hi0 : (0 : Int) ≤ (i : Int) := by omega
          have hi1 : IntKind.i64.wrap ((i : Int) + 1) = ((i + 1 : Nat) : Int) := by rw [wrap_i64 (by omega) (by omega)]; omega
          have hyl := row_len (i := i) hkl (by omega)
          have hfill := fill_row hkl hlt
          have hv := hkg i hlt
          rw [hv] at hfill
          generalize ks.take i ++ List.replicate (n - i) 0 = Y at *
          have t1 : i * 1 + 1 ≤ Y.length := by omega
          have t2 : i * 1 + 1 ≤ (Y.take i).length + ((Y.drop (i + 1)).length + 1) := by rw [List.length_take, List.length_drop]; omega
          by_cases hz : len = 0
          · have hz' : ¬ (0 : Int) < (len : Int) := by omega
            rw [if_pos hz] at hfill
            simp only [b29_1, arrX, runes, ints, go_sem, subA5, hlt', hi0, Int.toNat_natCast, t1]
            refine goP h55 ?_
            simp only [go_sem, hz', hi1]
            refine loopQ_go rfl (n - (i + 1)) (by omega) ⟨i + 1, by omega, rfl, ?_⟩
            rw [hfill]
            simp only [arrX, runes, ints]
            rfl
          · have hz' : (0 : Int) < (len : Int) := by omega
            have hz2 : ¬ (len : Int) = 0 := by omega
            rw [if_neg hz] at hfill
            have hst := set_twice (y := Y) (m := i) (v := -1) (u := ((i % len : Nat) : Int)) (by omega)
            have hmod := tmodN i len
            simp only [b29_1, arrX, runes, ints, go_sem, subA5, hlt', hi0, Int.toNat_natCast, t1]
            refine goP h55 ?_
            simp only [go_sem, subA5, hz']
            refine goP h55 ?_
            simp only [go_sem, hz', hz2, hmod, hi1, hlt', hi0, Int.toNat_natCast, t2, hst]
            refine loopQ_go rfl (n - (i + 1)) (by omega) ⟨i + 1, by omega, rfl, ?_⟩
            rw [hfill]
            simp only [arrX, runes, ints]
            rfl
        · have hlt' : ¬ (i : Int) < (n : Int) := by omega
          obtain rfl : i = n := by omega
          have hfin : ks.take i ++ List.replicate (i - i) 0 = ks := by rw [Nat.sub_self, List.replicate_zero, List.append_nil, List.take_of_length_le (by omega)]
          rw [hkl] at h91
          simp only [b29_1, k29_0, arrX, runes, ints, go_sem, FL, subA5, hlt', Int.lt_irrefl, hfin]
          refine goF h91 ?_
          simp only [go_sem, FL, subA5]
          simp only [i29, OT, reduceIte, Nat.reduceEqDiff, subA5, outA, arrX, runes, ints, if_true]
  · have q0 : (e0 != 0) = true := by rw [bne_iff_ne]; exact he
    have hr : resE e0 w = e0 := if_pos he
    simp only [c29, arrX, runes, ints, go_sem, FL, subA5]
    refine goO h89 rfl rfl ?_
    simp only [go_sem, FL, subA5, q0]
    simp only [i29, OT, reduceIte, Nat.reduceEqDiff, subA5, hr, outA, he, if_false, noA]
end Go.Proofs.Ytlejgleocnemoaa.I

namespace Go.Proofs.Ytlejgleocnemoaa.I
open Go Go.V
theorem set_set {y : List Int} {m : Nat} {v u : Int} (h : m < y.length) : (y.take m ++ v :: y.drop (m + 1)).take m ++ u :: (y.take m ++ v :: y.drop (m + 1)).drop (m + 1) = y.take m ++ u :: y.drop (m + 1) := by
  have e1 : (y.take m).length = m := by simp; omega
  rw [List.take_append_of_le_length (by omega), List.take_take, Nat.min_self, List.drop_append, e1, List.drop_eq_nil_of_le (by omega)]
  simp [show m + 1 - m = 1 by omega]
section
variable {E : CallRel}
end
end Go.Proofs.Ytlejgleocnemoaa.I

namespace Go.Proofs.Ytlejgleocnemoaa.I
open Go Go.V
attribute [local go_sem] mNil nat0 beq_self_eq_true mSkip mRet mExit mReg mSeq mCond mTrue mFalse mBlock mLv mCodeE mCodeR mEndN mEndR mEndE mOps mSome mGuard mGtt mGff mGtf mGft mGu mCallP mCallR mCallF mCallO mCallZ mCallG mCallM mCallV loopQ_exit loopQ_ret mO_mov mO_newnil mO_pick mO_alloc mO_box mO_build mO_bsl mO_bslF mO_newnilB mO_bslB mO_lenB mO_appB mO_allocA mO_bslA mO_appA mO_ldb mO_faddrb mRsv mO_ldf mO_ld mO_st mO_sta mO_nilchk mO_bin mO_binb mO_binp mO_bins mO_neg mO_com mO_not mO_conv mO_mk mO_mk0 mO_mkB mO_s2b mO_b2s mO_cpy mO_cut mO_faddr mO_fld mO_iaddr mO_iaddrf mO_sidx mO_len mO_lenf mO_slen mO_scut mO_app mO_ext mO_mx mO_mn mO_mkfn evalOp cutOp argsE ev getE putE cellsOf adopt rowOf binV boolV nilV ar_add ar_sub ar_mul ar_quo ar_rem ar_eq ar_ne ar_lt ar_le ar_gt ar_ge ar_and ar_or ar_xor geto bound finRet finNrm ints List.length_cons List.length_nil List.length_append List.getElem?_cons_zero List.getElem?_cons_succ List.nil_append List.cons_append List.map_cons List.map_nil List.mapM_cons List.mapM_nil Option.map_some Option.map_none Option.bind_some Option.pure_def Option.bind_eq_bind List.drop_zero or_self or_false false_or or_true true_or true_and and_true and_self decide_true decide_false Bool.false_eq_true Bool.true_eq_false Bool.not_true Bool.not_false Nat.le_refl eq_self gt_iff_lt ge_iff_le ne_eq not_true_eq_false not_false_eq_true storeOp apartOf freeze_nil refsL refs List.flatMap_cons List.flatMap_nil List.append_nil List.contains_nil List.set_cons_zero List.set_cons_succ snap snapL fill_nums flat_nums nums_length Go.V.freeze List.mapIdx_cons List.mapIdx_nil List.contains_cons Bool.or_false Bool.false_or Bool.or_true Bool.true_or
section
variable {E : CallRel}
end
def wi (s : List Int) (a n : Int) : List Int := if 0 ≤ a ∧ a < s.length then s.take a.toNat ++ n :: s.drop (a.toNat + 1) else s
def wo (s : List Int) (a : Int) : List Int := if 0 ≤ a ∧ a < s.length then s.take a.toNat ++ s.drop (a.toNat + 1) else s
section
variable {E : CallRel}
end
def mprd : List Int → Int
  | [] => 1
  | d :: ds => max 1 d * mprd ds
theorem mprd_pos : ∀ {s : List Int}, 1 ≤ mprd s
  | [] => Int.le_refl _
  | d :: ds => by
    have h1 := mprd_pos (s := ds)
    have h2 : 1 ≤ max 1 d := by rw [max1]; split <;> omega
    have := Int.mul_le_mul_of_nonneg_left (a := 1) (b := mprd ds) (c := max 1 d) h1 (by omega)
    rw [mprd]
    omega
theorem cnt_iff : ∀ {s : List Int} {most n : Int}, 1 ≤ most → most ≤ 4096 → ((∀ d ∈ s, 0 ≤ d) ∧ most * mprd s ≤ 4096 → cnt most n s = some (n * prd s)) ∧ (cnt most n s ≠ none → (∀ d ∈ s, 0 ≤ d) ∧ most * mprd s ≤ 4096)
  | [], most, n, h1, h2 => ⟨fun _ => by rw [cnt, prd, Int.mul_one], fun _ => ⟨fun d hd => by simp at hd, by rw [mprd, Int.mul_one]; exact h2⟩⟩
  | d :: ds, most, n, h1, h2 => by
    have hmx : 1 ≤ max 1 d := by rw [max1]; split <;> omega
    have hmm : 1 ≤ most * max 1 d := by
      have := Int.mul_le_mul_of_nonneg_left (a := 1) (b := max 1 d) (c := most) hmx (by omega)
      omega
    have hp := mprd_pos (s := ds)
    rw [cnt, mprd, prd]
    refine ⟨fun ⟨h3, h4⟩ => ?_, fun h => ?_⟩
    · have hd := h3 d (by simp)
      have h5 : most * max 1 d ≤ 4096 := by
        have := Int.mul_le_mul_of_nonneg_left (a := 1) (b := mprd ds) (c := most * max 1 d) hp (by omega)
        rw [← Int.mul_assoc] at h4
        omega
      rw [if_neg (by omega), (cnt_iff hmm h5).1 ⟨fun x hx => h3 x (by simp [hx]), by rw [Int.mul_assoc]; exact h4⟩, Int.mul_assoc]
    · split at h
      · exact absurd rfl h
      · rename_i hno
        obtain ⟨h3, h4⟩ := (cnt_iff hmm (by omega)).2 h
        refine ⟨fun x hx => ?_, by rw [← Int.mul_assoc]; exact h4⟩
        rcases List.mem_cons.1 hx with rfl | hx
        · omega
        · exact h3 x hx
theorem count_iff {s : List Int} : (s.length ≤ 8 ∧ (∀ d ∈ s, 0 ≤ d) ∧ mprd s ≤ 4096 → count s = some (prd s)) ∧ (count s ≠ none → s.length ≤ 8 ∧ (∀ d ∈ s, 0 ≤ d) ∧ mprd s ≤ 4096) := by
  unfold count
  obtain ⟨h1, h2⟩ := cnt_iff (s := s) (most := 1) (n := 1) (by omega) (by omega)
  refine ⟨fun ⟨h3, h4, h5⟩ => ?_, fun h => ?_⟩
  · rw [if_neg (by omega), h1 ⟨h4, by rw [Int.one_mul]; exact h5⟩, Int.one_mul]
  · split at h
    · exact absurd rfl h
    · obtain ⟨h3, h4⟩ := h2 h
      exact ⟨by omega, h3, by rwa [Int.one_mul] at h4⟩
def spl (s : List Int) (a : Int) : AV :=
  if count s = none ∨ a < 0 ∨ (s.length : Int) ≤ a then .tup [.int .i64 0, .int .i64 0, .int .i64 0, .bool false]
  else .tup [.int .i64 (prd (s.take a.toNat)), .int .i64 (s.getD a.toNat 0), .int .i64 (prd (s.drop (a.toNat + 1))), .bool true]
section
variable {E : CallRel}
end
end Go.Proofs.Ytlejgleocnemoaa.I

namespace Go.Proofs.Ytlejgleocnemoaa.I
open Go Go.V
attribute [local go_sem_proc ↓] reduceIte
attribute [local go_sem_proc] Nat.reduceEqDiff Nat.reduceAdd Nat.reduceMul Nat.reduceLeDiff Nat.reduceLT Int.reduceToNat Int.reduceLT Int.reduceLE reduceCtorEq Nat.reduceBEq
attribute [local go_sem] mNil nat0 beq_self_eq_true mSkip mRet mExit mReg mSeq mCond mTrue mFalse mBlock mLv mCodeE mCodeR mEndN mEndR mEndE mOps mSome mGuard mGtt mGff mGtf mGft mGu mCallP mCallR mCallF mCallO mCallZ mCallG mCallM mCallV loopQ_exit loopQ_ret mO_mov mO_newnil mO_pick mO_alloc mO_box mO_build mO_bsl mO_bslF mO_newnilB mO_bslB mO_lenB mO_appB mO_allocA mO_bslA mO_appA mO_ldb mO_faddrb mRsv mO_ldf mO_ld mO_st mO_sta mO_nilchk mO_bin mO_binb mO_binp mO_bins mO_neg mO_com mO_not mO_conv mO_mk mO_mk0 mO_mkB mO_s2b mO_b2s mO_cpy mO_cut mO_faddr mO_fld mO_iaddr mO_iaddrf mO_sidx mO_len mO_lenf mO_slen mO_scut mO_app mO_ext mO_mx mO_mn mO_mkfn evalOp cutOp argsE ev getE putE cellsOf adopt rowOf binV boolV nilV ar_add ar_sub ar_mul ar_quo ar_rem ar_eq ar_ne ar_lt ar_le ar_gt ar_ge ar_and ar_or ar_xor geto bound finRet finNrm ints List.length_cons List.length_nil List.length_append List.getElem?_cons_zero List.getElem?_cons_succ List.nil_append List.cons_append List.map_cons List.map_nil List.mapM_cons List.mapM_nil Option.map_some Option.map_none Option.bind_some Option.pure_def Option.bind_eq_bind List.drop_zero or_self or_false false_or or_true true_or true_and and_true and_self decide_true decide_false Bool.false_eq_true Bool.true_eq_false Bool.not_true Bool.not_false Nat.le_refl eq_self gt_iff_lt ge_iff_le ne_eq not_true_eq_false not_false_eq_true storeOp apartOf freeze_nil refsL refs List.flatMap_cons List.flatMap_nil List.append_nil List.contains_nil List.set_cons_zero List.set_cons_succ snap snapL fill_nums flat_nums nums_length Go.V.freeze List.mapIdx_cons List.mapIdx_nil List.contains_cons Bool.or_false Bool.false_or Bool.or_true Bool.true_or
def badA (ch : Bool) (t : List Int) (l : List Rt) : Bool := ch && decide (0 < t.length + l.length)
def roomE (s : List Int) : Int := if 8 < s.length then 23 else if count s = none then 26 else 0
def roomN (s : List Int) : Int := if 8 < s.length then 0 else (count s).getD 0
theorem c52_X {s : List Int} {l : List Rt} (hs : ∀ d ∈ s, In64 d) (hsl : (s.length : Int) ≤ 1000000000000) (hl : (l.length : Int) ≤ 1000000000000) : Go.V.Call tab E 52 [ints s, .sl l.length 3 (rtsC l)] [] (.tup [if fits s l.length then .agg (arrX s false [] l) else .agg noA, .bool (fits s l.length)]) [] := by
  refine Go.V.Call.mach i52 c52 rfl rfl rfl rfl ?_
  simp only [c52, go_sem, FL]
  refine goP (c83_ok hs (by omega)) ?_
  cases hc : count s with
  | none =>
    have hf : fits s l.length = false := by simp [fits, hc]
    simp only [optP, go_sem, FL]
    simp only [i52, OT, reduceIte, Nat.reduceEqDiff, subA5, hf, noA, Bool.false_eq_true]
  | some m =>
    by_cases hm : m = (l.length : Int)
    · subst hm
      have hf : fits s l.length = true := by simp [fits, hc]
      simp only [optP, go_sem, FL, bne_self_eq_false]
      refine goO (c102_ok hsl) rfl rfl ?_
      simp only [go_sem, FL]
      refine goO (c112_X hl) rfl rfl ?_
      simp only [go_sem, FL]
      simp only [i52, OT, reduceIte, Nat.reduceEqDiff, subA5, hf, arrX, runes]
      rfl
    · have hf : fits s l.length = false := by simp [fits, hc, hm]
      have hm' : (m != (l.length : Int)) = true := by simpa using hm
      simp only [optP, go_sem, FL, hm']
      simp only [i52, OT, reduceIte, Nat.reduceEqDiff, subA5, hf, noA, Bool.false_eq_true]
end Go.Proofs.Ytlejgleocnemoaa.I

namespace Go.Proofs.Ytlejgleocnemoaa.I
open Go Go.V
attribute [local go_sem] mNil nat0 beq_self_eq_true mSkip mRet mExit mReg mSeq mCond mTrue mFalse mBlock mLv mCodeE mCodeR mEndN mEndR mEndE mOps mSome mGuard mGtt mGff mGtf mGft mGu mCallP mCallR mCallF mCallO mCallZ mCallG mCallM mCallV loopQ_exit loopQ_ret mO_mov mO_newnil mO_pick mO_alloc mO_box mO_build mO_bsl mO_bslF mO_newnilB mO_bslB mO_lenB mO_appB mO_allocA mO_bslA mO_appA mO_ldb mO_faddrb mRsv mO_ldf mO_ld mO_st mO_sta mO_nilchk mO_bin mO_binb mO_binp mO_bins mO_neg mO_com mO_not mO_conv mO_mk mO_mk0 mO_mkB mO_s2b mO_b2s mO_cpy mO_cut mO_faddr mO_fld mO_iaddr mO_iaddrf mO_sidx mO_len mO_lenf mO_slen mO_scut mO_app mO_ext mO_mx mO_mn mO_mkfn evalOp cutOp argsE ev getE putE cellsOf adopt rowOf binV boolV nilV ar_add ar_sub ar_mul ar_quo ar_rem ar_eq ar_ne ar_lt ar_le ar_gt ar_ge ar_and ar_or ar_xor geto bound finRet finNrm ints List.length_cons List.length_nil List.length_append List.getElem?_cons_zero List.getElem?_cons_succ List.nil_append List.cons_append List.map_cons List.map_nil List.mapM_cons List.mapM_nil Option.map_some Option.map_none Option.bind_some Option.pure_def Option.bind_eq_bind List.drop_zero or_self or_false false_or or_true true_or true_and and_true and_self decide_true decide_false Bool.false_eq_true Bool.true_eq_false Bool.not_true Bool.not_false Nat.le_refl eq_self gt_iff_lt ge_iff_le ne_eq not_true_eq_false not_false_eq_true storeOp apartOf freeze_nil refsL refs List.flatMap_cons List.flatMap_nil List.append_nil List.contains_nil List.set_cons_zero List.set_cons_succ snap snapL fill_nums flat_nums nums_length Go.V.freeze List.mapIdx_cons List.mapIdx_nil List.contains_cons Bool.or_false Bool.false_or Bool.or_true Bool.true_or
def xT : Option Rat → Rt
  | none => (false, 0, 0)
  | some r => rR r
def xV : Option Rat → Rat
  | none => 0
  | some r => r
def dg (b : Rat) (x : Option Rat) : Option Rat := if b = 0 then x else some (restR b (xV x))
def nx (b : Rat) (x : Option Rat) : Option Rat := if b = 0 then none else some ((flr (xV x / b) : Int) : Rat)
def stp (col : Nat → Rat) (n : Nat) (x : Option Rat) : Nat → Option Rat
  | 0 => x
  | m + 1 => nx (col (n - 1 - m)) (stp col n x m)
def dgt (col : Nat → Rat) (n : Nat) (x : Option Rat) (k : Nat) : Option Rat := dg (col k) (stp col n x (n - 1 - k))
theorem Sz.zero {i : Nat} (h : 1 ≤ i) : Sz i 0 := ⟨by rw [Rat.num_ofNat]; exact Nat.pow_pos (by omega), Nat.one_lt_two_pow (by omega)⟩
theorem Sz.nx {b : Rat} {x : Option Rat} {i j : Nat} (hx : Sz i (xV x)) (hb : Sz j b) : Sz (i + j + 1) (xV (nx b x)) := by
  unfold I.nx
  split
  · exact Sz.zero (by omega)
  · rename_i h0
    exact Sz.int (flr_lt (hx.div hb (rnum_ne h0))) (by omega)
theorem Sz.stp {col : Nat → Rat} {n : Nat} {x : Option Rat} {i j : Nat} (hx : Sz i (xV x)) (hb : ∀ k, Sz j (col k)) : ∀ m, Sz (i + (j + 1) * m) (xV (stp col n x m))
  | 0 => by simpa [I.stp] using hx
  | m + 1 => ((Sz.stp hx hb m).nx (hb _)).mono (by rw [Nat.mul_add, Nat.mul_one]; omega)
theorem rtAt_mapR {A : List Rat} {i : Nat} (h : i < A.length) : rtAt (A.map rR) i = rR (A.getD i 0) := by
  simp [rtAt, List.getD, h]
theorem pick_map {A : List Rat} {i : Nat} (h : i < A.length) : pickR (A.map rR) (i : Int) = rR (A.getD i 0) := by
  rw [pickR, if_pos ⟨by omega, by rw [List.length_map]; omega⟩, Int.toNat_natCast, rtAt_mapR h]
def dAt (A B : List Rat) (n w : Nat) (q : Nat) : Option Rat :=
  dgt (fun k => A.getD (k * w + q / B.length % w) 0) n (some (B.getD (q % B.length) 0)) (q / B.length / w)
def encL (A B : List Rat) (n w : Nat) : List Rt := (List.range (n * w * B.length)).map fun q => xT (dAt A B n w q)
def encB (A B : List Rat) (n w : Nat) (lim : Int) : Bool := (List.range (n * w * B.length)).all fun q => decide ((rlimbs (xT (dAt A B n w q)) : Int) ≤ lim)
end Go.Proofs.Ytlejgleocnemoaa.I

namespace Go.Proofs.Ytlejgleocnemoaa.I
open Go Go.V
attribute [local go_sem_proc ↓] reduceIte
attribute [local go_sem_proc] Nat.reduceEqDiff Nat.reduceAdd Nat.reduceMul Nat.reduceLeDiff Nat.reduceLT Int.reduceToNat Int.reduceLT Int.reduceLE reduceCtorEq Nat.reduceBEq
attribute [local go_sem] mNil nat0 beq_self_eq_true mSkip mRet mExit mReg mSeq mCond mTrue mFalse mBlock mLv mCodeE mCodeR mEndN mEndR mEndE mOps mSome mGuard mGtt mGff mGtf mGft mGu mCallP mCallR mCallF mCallO mCallZ mCallG mCallM mCallV loopQ_exit loopQ_ret mO_mov mO_newnil mO_pick mO_alloc mO_box mO_build mO_bsl mO_bslF mO_newnilB mO_bslB mO_lenB mO_appB mO_allocA mO_bslA mO_appA mO_ldb mO_faddrb mRsv mO_ldf mO_ld mO_st mO_sta mO_nilchk mO_bin mO_binb mO_binp mO_bins mO_neg mO_com mO_not mO_conv mO_mk mO_mk0 mO_mkB mO_s2b mO_b2s mO_cpy mO_cut mO_faddr mO_fld mO_iaddr mO_iaddrf mO_sidx mO_len mO_lenf mO_slen mO_scut mO_app mO_ext mO_mx mO_mn mO_mkfn evalOp cutOp argsE ev getE putE cellsOf adopt rowOf binV boolV nilV ar_add ar_sub ar_mul ar_quo ar_rem ar_eq ar_ne ar_lt ar_le ar_gt ar_ge ar_and ar_or ar_xor geto bound finRet finNrm ints List.length_cons List.length_nil List.length_append List.getElem?_cons_zero List.getElem?_cons_succ List.nil_append List.cons_append List.map_cons List.map_nil List.mapM_cons List.mapM_nil Option.map_some Option.map_none Option.bind_some Option.pure_def Option.bind_eq_bind List.drop_zero or_self or_false false_or or_true true_or true_and and_true and_self decide_true decide_false Bool.false_eq_true Bool.true_eq_false Bool.not_true Bool.not_false Nat.le_refl eq_self gt_iff_lt ge_iff_le ne_eq not_true_eq_false not_false_eq_true storeOp apartOf freeze_nil refsL refs List.flatMap_cons List.flatMap_nil List.append_nil List.contains_nil List.set_cons_zero List.set_cons_succ snap snapL fill_nums flat_nums nums_length Go.V.freeze List.mapIdx_cons List.mapIdx_nil List.contains_cons Bool.or_false Bool.false_or Bool.or_true Bool.true_or
structure NSt (M : List AObj) (o n : Nat) (L : Nat → List Rat) : Prop where
  box : M[o + n]? = some ⟨true, 26, 1, 0, n, (List.range n).map fun i => .arr (o + i) (L i).length, false⟩
  row : ∀ i, i < n → M[o + i]? = some ⟨false, 59, 3, (L i).length, (L i).length, rtsC ((L i).map rR), false⟩
def updL (L : Nat → List Rat) (i : Nat) (l : List Rat) : Nat → List Rat := fun r => if r = i then l else L r
theorem NSt.lt {M : List AObj} {o n : Nat} {L : Nat → List Rat} (h : NSt M o n L) : o + n < M.length := (List.getElem?_eq_some_iff.1 h.box).1
theorem NSt.app {M G : List AObj} {o n : Nat} {L : Nat → List Rat} (h : NSt M o n L) : NSt (M ++ G) o n L := by
  have hl := h.lt
  exact ⟨by rw [List.getElem?_append_left hl]; exact h.box, fun i hi => by rw [List.getElem?_append_left (by omega)]; exact h.row i hi⟩
theorem cells_set {o n i : Nat} {L : Nat → List Rat} {l : List Rat} (hi : i < n) : ((List.range n).map fun i => AV.arr (o + i) (L i).length).set i (.arr (o + i) l.length) = (List.range n).map fun r => AV.arr (o + r) (updL L i l r).length := by
  apply List.ext_getElem?
  intro r
  by_cases hr : r < n
  · by_cases hri : r = i
    · subst hri
      rw [List.getElem?_set_self (by simp; exact hr)]
      simp [updL, hr]
    · rw [List.getElem?_set_ne (fun e => hri e.symm)]
      simp [updL, hr, hri]
  · rw [List.getElem?_eq_none (by simp; omega), List.getElem?_eq_none (by simp; omega)]
theorem fill_one {cs : List AV} {i : Nat} {v : AV} (h : i < cs.length) : fillIn cs (i * 1) [v] = cs.set i v := by
  unfold fillIn
  rw [Nat.mul_one, List.set_eq_take_append_cons_drop, if_pos h]
  simp
theorem NSt.step {M : List AObj} {o n i : Nat} {L : Nat → List Rat} (h : NSt M o n L) (hi : i < n) {l : List Rat} :
    NSt ((M.set (o + i) ⟨false, 59, 3, l.length, l.length, rtsC (l.map rR), false⟩).set (o + n) ⟨true, 26, 1, 0, n, ((List.range n).map fun i => AV.arr (o + i) (L i).length).set i (.arr (o + i) l.length), false⟩) o n (updL L i l) := by
  have hl := h.lt
  refine ⟨?_, fun r hr => ?_⟩
  · rw [List.getElem?_set_self (by simpa using hl), cells_set hi]
  · rw [List.getElem?_set_ne (by omega)]
    by_cases hri : r = i
    · subst hri
      rw [List.getElem?_set_self (by omega)]
      simp [updL]
    · rw [List.getElem?_set_ne (by omega)]
      simp only [updL, if_neg hri]
      exact h.row r hr
theorem NSt.congr {M : List AObj} {o n : Nat} {L L' : Nat → List Rat} (h : NSt M o n L) (he : ∀ i, i < n → L i = L' i) : NSt M o n L' :=
  ⟨by rw [h.box]; congr 2; exact List.map_congr_left fun i hi => by rw [he i (List.mem_range.1 hi)], fun i hi => by rw [h.row i hi, he i hi]⟩
def gridG (G : List (List Rat)) : AV := .sl G.length 1 (G.map fun r => .sl r.length 3 (rtsC (r.map rR)))
theorem mapM_some {α β : Type} {f : α → Option β} {g : α → β} : ∀ {l : List α}, (∀ x ∈ l, f x = some (g x)) → l.mapM f = some (l.map g)
  | [], _ => rfl
  | x :: l, h => by
    rw [List.mapM_cons, h x (by simp), mapM_some (fun y hy => h y (by simp [hy]))]
    rfl
theorem snap_arr {M : List AObj} {n g k : Nat} {ob : AObj} (h : M[n]? = some ob) (hg : ob.g = g) : snap M (k + 1) (.arr n g) = (snapL M k ob.box ob.cs).map fun cs => .sl ob.n ob.sz cs := by
  have e : geto M n g = some ob := by rw [geto, h]; simp only [hg, if_true]
  rw [snap, e]
theorem snap_grid {M : List AObj} {o n : Nat} {L : Nat → List Rat} (h : NSt M o n L) : snap M 10 (.arr (o + n) 0) = some (gridG ((List.range n).map L)) := by
  have e : ∀ i, i < n → snap M 8 (.arr (o + i) (L i).length) = some (.sl (L i).length 3 (rtsC ((L i).map rR))) := fun i hi => by
    rw [snap_arr (k := 7) (h.row i hi) rfl]
    rfl
  rw [snap_arr (k := 9) h.box rfl]
  have e2 : snapL M 9 true ((List.range n).map fun i => AV.arr (o + i) (L i).length) = ((List.range n).map fun i => AV.arr (o + i) (L i).length).mapM (snap M 8) := rfl
  rw [e2, mapM_some (g := fun v : AV => match v with | .arr k _ => AV.sl (L (k - o)).length 3 (rtsC ((L (k - o)).map rR)) | v => v) (fun x hx => by
    obtain ⟨i, hi, rfl⟩ := List.mem_map.1 hx
    simp only [show o + i - o = i by omega]
    exact e i (List.mem_range.1 hi))]
  simp only [Option.map_some, gridG, List.length_map, List.length_range, List.map_map]
  congr 2
  apply List.map_congr_left
  intro i _
  simp only [Function.comp, show o + i - o = i by omega]
theorem adopt_rep {ty sz : Nat} : ∀ {n : Nat} {M : List AObj}, adopt (List.replicate n (.nilsl ty sz)) M = ((List.range n).map fun i => AV.arr (M.length + i) 0, M ++ List.replicate n ⟨false, ty, sz, 0, 0, [], false⟩)
  | 0, M => by simp [adopt]
  | n + 1, M => by
    rw [List.replicate_succ, adopt, adopt_rep (n := n)]
    simp only [List.length_append, List.length_cons, List.length_nil, List.append_assoc, List.cons_append, List.nil_append]
    rw [List.range_succ_eq_map, List.map_cons, List.map_map, List.replicate_succ]
    congr 2
    apply List.map_congr_left
    intro i _
    simp only [Function.comp]
    congr 1
    omega
theorem NSt.new {M : List AObj} {n : Nat} : NSt ((M ++ List.replicate n ⟨false, 59, 3, 0, 0, [], false⟩) ++ [⟨true, 26, 1, 0, n, (List.range n).map fun i => AV.arr (M.length + i) 0, false⟩]) M.length n fun _ => [] := by
  refine ⟨?_, fun i hi => ?_⟩
  · rw [List.getElem?_append_right (by simp)]
    simp
  · rw [List.getElem?_append_left (by simp; omega), List.getElem?_append_right (by omega)]
    simp [show M.length + i - M.length = i by omega, hi, rtsC]
theorem c97_ok {s t : List Int} {ch : Bool} {l : List Rt} (hs : s.length ≤ 8) : Go.V.Call tab E 97 [.agg (arrX s ch t l)] [] (.int .i64 (s.getD 1 1)) [] := by
  refine Go.V.Call.mach i97 c97 rfl rfl rfl rfl ?_
  have h66 := c66_X (s := s) (t := t) (l := l) (ch := ch) (by omega)
  have h44 := c44_X (s := s) (t := t) (l := l) (ch := ch) (by omega)
  simp only [arrX, runes, ints] at h66 h44
  by_cases h : s.length < 2
  · have h' : (s.length : Int) < 2 := by omega
    have e : s.getD 1 1 = 1 := by simp [List.getD, show s[1]? = none from List.getElem?_eq_none (by omega)]
    simp only [c97, arrX, runes, ints, go_sem, FL, subA5]
    refine goP h66 ?_
    simp only [go_sem, FL, h']
    simp only [i97, OT, reduceIte, Nat.reduceEqDiff, e]
  · have h' : ¬ (s.length : Int) < 2 := by omega
    have h1 : (1 : Int) < (s.length : Int) := by omega
    have hs1 := sub_nums (k := .i64) (l := s) (i := 1) (by omega)
    have e : s.getD 1 0 = s.getD 1 1 := by simp [List.getD, show 1 < s.length by omega]
    rw [e] at hs1
    simp only [c97, arrX, runes, ints, go_sem, FL, subA5]
    refine goP h66 ?_
    simp only [go_sem, FL, h', subA5]
    refine goP h44 ?_
    simp only [go_sem, FL, h1, show (0 : Int) ≤ 1 by omega, Int.toNat_one, hs1]
    simp only [i97, OT, reduceIte, Nat.reduceEqDiff]
def rowA (A : List Rat) (C i j : Nat) : List Rat := (List.range j).map fun k => A.getD (i * C + k) 0
theorem rowA_len {A : List Rat} {C i j : Nat} : (rowA A C i j).length = j := by simp [rowA]
theorem rowA_succ {A : List Rat} {C i j : Nat} : rowA A C i (j + 1) = rowA A C i j ++ [A.getD (i * C + j) 0] := by simp [rowA, List.range_succ]
def lstA (A : List Rat) (C i j : Nat) : Nat → List Rat := fun r => if r < i then rowA A C r C else if r = i then rowA A C i j else []
def gridA (A : List Rat) (R C : Nat) : List (List Rat) := (List.range R).map fun i => rowA A C i C
theorem c96_loop {s t : List Int} {A : List Rat} {ch : Bool} {R C : Nat} (hA : A.length = R * C) (hR : R ≤ 4096) (hC : C ≤ 4096) (hAl : A.length ≤ 4096) {M : List AObj} {env : Env} (h0 : M[0]? = some ⟨true, 28, 5, 0, 1, arrX s ch t (A.map rR), false⟩)
    (hN : NSt M 2 R fun _ => []) (e1 : getE env 1 = .loc 0 0 0) (e5 : getE env 5 = .int .i64 C) (e6 : getE env 6 = .arr (2 + R) 0) (e26 : getE env 26 = .int .i64 R) (e27 : getE env 27 = .int .i64 0) :
    Mach (Go.V.Call tab E) (Go.V.Fin i96 [] (gridG (gridA A R C)) []) [.code (.loop [1, 5, 6, 26, 27] none b96_0), .endb 0, .code k96_1] .nrm ⟨env, M⟩ := by
  refine mLoop (fun N st => ∃ (i : Nat) (K : List AObj), i ≤ R ∧ N = R - i ∧ NSt K 2 R (lstA A C i 0) ∧ K[0]? = some ⟨true, 28, 5, 0, 1, arrX s ch t (A.map rR), false⟩ ∧
    st = ⟨[(1, .loc 0 0 0), (5, .int .i64 C), (6, .arr (2 + R) 0), (26, .int .i64 R), (27, .int .i64 i)], K⟩) R ⟨_, rfl, 0, M, by omega, by omega, hN.congr (fun i _ => by simp [lstA, rowA]), h0, by simp only [List.map_cons, List.map_nil, e1, e5, e6, e26, e27]; rfl⟩ ?_
  rintro N s0 ⟨i, K, hi, rfl, hK, hK0, rfl⟩
  by_cases hiR : i < R
  · have hi' : (i : Int) < (R : Int) := by omega
    have hi0 : (0 : Int) ≤ (i : Int) := by omega
    have hi1 : IntKind.i64.wrap ((i : Int) + 1) = ((i + 1 : Nat) : Int) := by rw [wrap_i64 (by omega) (by omega)]; omega
    simp only [b96_0, go_sem, hi']
    refine mLoop (fun N st => ∃ (j : Nat) (K : List AObj), j ≤ C ∧ N = C - j ∧ NSt K 2 R (lstA A C i j) ∧ K[0]? = some ⟨true, 28, 5, 0, 1, arrX s ch t (A.map rR), false⟩ ∧
      st = ⟨[(1, .loc 0 0 0), (5, .int .i64 C), (6, .arr (2 + R) 0), (7, .int .i64 i), (26, .int .i64 R), (27, .int .i64 i), (30, .int .i64 C), (31, .int .i64 j)], K⟩) C ⟨_, rfl, 0, K, by omega, by omega, hK, hK0, rfl⟩ ?_
    clear hK hK0 K
    rintro N s0 ⟨j, K, hj, rfl, hK, hK0, rfl⟩
    by_cases hjC : j < C
    · have hj' : (j : Int) < (C : Int) := by omega
      have hj1 : IntKind.i64.wrap ((j : Int) + 1) = ((j + 1 : Nat) : Int) := by rw [wrap_i64 (by omega) (by omega)]; omega
      have hq : i * C + j < A.length := by
        have : (i + 1) * C ≤ R * C := Nat.mul_le_mul_right _ hiR
        rw [Nat.add_mul, Nat.one_mul] at this
        omega
      have w1 : IntKind.i64.wrap ((i : Int) * (C : Int)) = ((i * C : Nat) : Int) := by rw [← Int.natCast_mul, wrap_i64 (by omega) (by omega)]
      have w2 : IntKind.i64.wrap (((i * C : Nat) : Int) + (j : Int)) = ((i * C + j : Nat) : Int) := by rw [← Int.natCast_add, wrap_i64 (by omega) (by omega)]
      have h25 := c25_ok (s := s) (t := t) (l := A.map rR) (ch := ch) (k := ((i * C + j : Nat) : Int)) (by rw [List.length_map]; omega)
      rw [pick_map hq] at h25
      have b1 := hK.box
      have r1 := hK.row i hiR
      have hlt := hK.lt
      have ell : lstA A C i j i = rowA A C i j := by simp [lstA]
      rw [ell, rowA_len] at r1
      have b2 : ∀ o : AObj, (K.set (2 + i) o)[2 + R]? = some ⟨true, 26, 1, 0, R, (List.range R).map fun r => .arr (2 + r) (lstA A C i j r).length, false⟩ := fun o => by rw [List.getElem?_set_ne (by omega)]; exact b1
      have hcs : sub false 1 ((List.range R).map fun r => AV.arr (2 + r) (lstA A C i j r).length) (i * 1) = some (.arr (2 + i) j) := by
        simp only [sub, List.length_map, List.length_range, Nat.mul_one, Bool.false_eq_true, if_false, if_true]
        rw [if_pos (by omega)]
        simp [hiR, ell, rowA_len]
      have hfill := fill_one (cs := (List.range R).map fun r => AV.arr (2 + r) (lstA A C i j r).length) (i := i) (v := .arr (2 + i) (rowA A C i (j + 1)).length) (by simp; exact hiR)
      have hst := hK.step hiR (l := rowA A C i (j + 1))
      have hst2 := hst.congr (L' := lstA A C i (j + 1)) (fun r hr => by
        unfold updL lstA
        by_cases hri : r = i
        · subst hri; rw [if_pos rfl, if_neg (by omega), if_pos rfl]
        · rw [if_neg hri, if_neg hri, if_neg hri])
      have hst0 : ∀ a b : AObj, ((K.set (2 + i) a).set (2 + R) b)[0]? = some ⟨true, 28, 5, 0, 1, arrX s ch t (A.map rR), false⟩ := fun a b => by rw [List.getElem?_set_ne (by omega), List.getElem?_set_ne (by omega)]; exact hK0
      have hlen1 : i * 1 + 1 ≤ ((List.range R).map fun r => AV.arr (2 + r) (lstA A C i j r).length).length := by simp; omega
      have happ : rtsC ((rowA A C i j).map rR) ++ rtC (rR (A.getD (i * C + j) 0)) = rtsC ((rowA A C i (j + 1)).map rR) := by rw [rowA_succ, List.map_append]; simp [rtsC]
      rw [rowA_len] at hst2 hfill
      clear hK hst
      generalize (List.range R).map (fun r => AV.arr (2 + r) (lstA A C i j r).length) = CS at *
      generalize rR (A.getD (i * C + j) 0) = z at *
      generalize rtsC ((rowA A C i (j + 1)).map rR) = rows' at *
      have y1 : (j + 1) * 56 ≤ 140737488355328 := by omega
      have y2 : j + 1 ≤ 140737488355328 := by omega
      simp only [arrX, runes, ints] at hK0 h25
      simp only [rtC3, us32] at happ h25
      simp only [b96_1, go_sem, mapIA, hj', hi', hi0, b1, b2, r1, hcs, hK0, subA5, w1, w2, Int.toNat_natCast, us32]
      refine goF h25 ?_
      simp only [go_sem, mapIA, us32, List.flatten_cons, List.flatten_nil, Option.getD_some, hi', hi0, b1, b2, r1, hcs, y1, y2, happ, Int.toNat_natCast, hlen1, hfill, hj1]
      refine loopQ_go rfl (C - (j + 1)) (by omega) ⟨j + 1, _, by omega, rfl, hst2, hst0 _ _, ?_⟩
      simp [getE]
    · obtain rfl : j = C := by omega
      simp only [b96_1, k96_0, go_sem, Int.lt_irrefl, hi1]
      refine loopQ_go rfl (R - (i + 1)) (by omega) ⟨i + 1, K, by omega, rfl, hK.congr (fun r hr => ?_), hK0, rfl⟩
      unfold lstA
      by_cases h1 : r < i
      · rw [if_pos h1, if_pos (by omega)]
      · rw [if_neg h1]
        by_cases h2 : r = i
        · subst h2; rw [if_pos rfl, if_pos (by omega)]
        · rw [if_neg h2, if_neg (by omega)]
          simp [rowA]
  · obtain rfl : i = R := by omega
    have hsn := snap_grid hK
    have hgA : (List.range i).map (lstA A C i 0) = gridA A i C := List.map_congr_left fun r hr => by unfold lstA; rw [if_pos (List.mem_range.1 hr)]
    rw [hgA] at hsn
    simp only [b96_0, k96_1, go_sem, Int.lt_irrefl]
    exact ⟨rfl, rfl, hsn⟩
theorem c96_ok {s t : List Int} {A : List Rat} {ch : Bool} {R C : Nat} (hs : s.length ≤ 8) (hR0 : s.getD 0 1 = (R : Int)) (hC0 : s.getD 1 1 = (C : Int)) (hA : A.length = R * C) (hR : R ≤ 4096) (hC : C ≤ 4096) (hAl : A.length ≤ 4096) :
    Go.V.Call tab E 96 [.agg (arrX s ch t (A.map rR))] [] (gridG (gridA A R C)) [] := by
  refine Go.V.Call.mach i96 c96 rfl rfl rfl rfl ?_
  have h44 := c44_X (s := s) (t := t) (l := A.map rR) (ch := ch) (by omega)
  have hloop := fun (M : List AObj) (env : Env) h0 hN e1 e5 e6 e26 e27 => c96_loop (s := s) (t := t) (A := A) (ch := ch) (R := R) (C := C) hA hR hC hAl (M := M) (env := env) h0 hN e1 e5 e6 e26 e27
  have had : ∀ M : List AObj, adopt (List.replicate R (.nilsl 59 3)) M = ((List.range R).map fun i => AV.arr (M.length + i) 0, M ++ List.replicate R ⟨false, 59, 3, 0, 0, [], false⟩) := fun M => adopt_rep
  have z0 : (0 : Int) ≤ (R : Int) := by omega
  have z1 : 24 * R ≤ 140737488355328 := by omega
  have z2 : (R : Int) ≤ 140737488355328 := by omega
  have hnew := NSt.new (M := [⟨true, 28, 5, 0, 1, arrX s ch t (A.map rR), false⟩, ⟨true, 26, 1, 0, 0, [], false⟩]) (n := R)
  have hg : ∀ (a b : AObj) (x : AObj), (a :: b :: (List.replicate R x))[R + 2]? = none := fun a b x => List.getElem?_eq_none (by simp)
  have key : ∀ env, getE env 1 = .loc 0 0 0 → getE env 5 = .int .i64 C → getE env 6 = .arr (R + 2) 0 → getE env 26 = .int .i64 R → getE env 27 = .int .i64 0 →
      Mach (Go.V.Call tab E) (Go.V.Fin i96 [] (gridG (gridA A R C)) []) [.code (.loop [1, 5, 6, 26, 27] none b96_0), .endb 0, .code k96_1] .nrm
        ⟨env, ⟨true, 28, 5, 0, 1, arrX s ch t (A.map rR), false⟩ :: ⟨true, 26, 1, 0, 0, [], false⟩ :: (List.replicate R ⟨false, 59, 3, 0, 0, [], false⟩ ++ [⟨true, 26, 1, 0, R, (List.range R).map fun i => AV.arr (2 + i) 0, false⟩])⟩ := fun env e1 e5 e6 e26 e27 =>
    hloop _ _ rfl hnew e1 e5 (by rw [e6, Nat.add_comm]) e26 e27
  have hbx : ∀ a b : AObj, (a :: b :: (List.replicate R (⟨false, 59, 3, 0, 0, [], false⟩ : AObj) ++ [⟨true, 26, 1, 0, R, (List.range R).map fun i => AV.arr (2 + i) 0, false⟩]))[R + 2]? = some ⟨true, 26, 1, 0, R, (List.range R).map fun i => AV.arr (2 + i) 0, false⟩ := fun a b => by
    rw [List.getElem?_cons_succ, List.getElem?_cons_succ, List.getElem?_append_right (by simp)]
    simp
  have hlr : (List.replicate R (⟨false, 59, 3, 0, 0, [], false⟩ : AObj)).length = R := List.length_replicate
  clear hloop hnew hg
  match s, hR0, hC0, h44, key with
  | [], hR0, hC0, h44, key =>
    obtain rfl : R = 1 := by have : ((1 : Int)) = (R : Int) := hR0; omega
    obtain rfl : C = 1 := by have : ((1 : Int)) = (C : Int) := hC0; omega
    have had1 : ∀ M : List AObj, adopt (List.replicate 1 (.nilsl 59 3)) M = ([AV.arr M.length 0], M ++ [⟨false, 59, 3, 0, 0, [], false⟩]) := fun M => rfl
    have key1 : ∀ env, getE env 1 = .loc 0 0 0 → getE env 5 = .int .i64 1 → getE env 6 = .arr 3 0 → getE env 26 = .int .i64 1 → getE env 27 = .int .i64 0 →
        Mach (Go.V.Call tab E) (Go.V.Fin i96 [] (gridG (gridA A 1 1)) []) [.code (.loop [1, 5, 6, 26, 27] none b96_0), .endb 0, .code k96_1] .nrm
          ⟨env, [⟨true, 28, 5, 0, 1, arrX [] ch t (A.map rR), false⟩, ⟨true, 26, 1, 0, 0, [], false⟩, ⟨false, 59, 3, 0, 0, [], false⟩, ⟨true, 26, 1, 0, 1, [.arr 2 0], false⟩]⟩ := key
    clear had key hbx hlr
    simp only [arrX, runes, ints, List.length_nil] at h44 key1
    simp only [c96, arrX, runes, ints, go_sem, FL, subA5]
    refine goF h44 ?_
    simp only [go_sem, mapIA, had1, Int.natCast_zero, Int.natCast_one, Int.lt_irrefl, show ¬ (1 : Int) < 0 by omega, Int.toNat_one, Nat.zero_add, show (0 : Int) ≤ 1 by omega, show (1 : Int) ≤ 140737488355328 by omega, show 24 * 1 ≤ 140737488355328 by omega]
    exact key1 _ rfl rfl rfl rfl rfl
  | [d], hR0, hC0, h44, key =>
    obtain rfl : d = (R : Int) := hR0
    obtain rfl : C = 1 := by have : ((1 : Int)) = (C : Int) := hC0; omega
    have hs0 : sub false 1 (nums .i64 [(R : Int)]) 0 = some (.int .i64 (R : Int)) := rfl
    simp only [arrX, runes, ints] at h44 key
    simp only [c96, arrX, runes, ints, go_sem, FL, subA5]
    refine goF h44 ?_
    simp only [go_sem, mapIA, had, hs0, Int.natCast_zero, Int.natCast_one, Int.lt_irrefl, z0, z1, z2, Int.toNat_natCast, hbx, hlr, Nat.zero_add, Nat.zero_mul, show (0 : Int) ≤ 0 by omega, show (0 : Int) < 1 by omega]
    exact key _ rfl rfl rfl rfl rfl
  | d :: e :: r, hR0, hC0, h44, key =>
    obtain rfl : d = (R : Int) := hR0
    obtain rfl : e = (C : Int) := hC0
    have hs0 : sub false 1 (nums .i64 ((R : Int) :: (C : Int) :: r)) 0 = some (.int .i64 (R : Int)) := rfl
    have hs1 : sub false 1 (nums .i64 ((R : Int) :: (C : Int) :: r)) (1 * 1) = some (.int .i64 (C : Int)) := rfl
    have p0 : (0 : Int) < ((r.length + 1 + 1 : Nat) : Int) := by omega
    have p1 : (1 : Int) < ((r.length + 1 + 1 : Nat) : Int) := by omega
    simp only [arrX, runes, ints] at h44 key
    simp only [c96, arrX, runes, ints, go_sem, FL, subA5]
    refine goF h44 ?_
    simp only [go_sem, mapIA, had, hs0, hs1, p0, p1, Int.lt_irrefl, z0, z1, z2, Int.toNat_natCast, Int.toNat_one, hbx, hlr, Nat.zero_add, Nat.zero_mul, show (0 : Int) ≤ 0 by omega, show (0 : Int) ≤ 1 by omega]
    exact key _ rfl rfl rfl rfl rfl
structure ArrM (s t : List Int) (ch : Bool) (A : List Rat) (R C : Nat) : Prop where
  s8 : s.length ≤ 8
  r0 : s.getD 0 1 = (R : Int)
  c0 : s.getD 1 1 = (C : Int)
  R4 : R ≤ 4096
  C4 : C ≤ 4096
  al : A.length ≤ 4096
  tl : t.length ≤ 4096
  len : s.length ≤ 2 → t.length + A.length = R * C
  tx : ch = false → t = []
theorem ArrM.ok {s t : List Int} {ch : Bool} {A : List Rat} {R C : Nat} (h : ArrM s t ch A R C) (h2 : s.length ≤ 2) (hb : (ch && decide (0 < t.length + A.length)) = false) : A.length = R * C ∧ t = [] := by
  have h3 := h.len h2
  cases hc : ch with
  | true =>
    rw [hc, Bool.true_and, decide_eq_false_iff_not] at hb
    exact ⟨by omega, List.eq_nil_of_length_eq_zero (by omega)⟩
  | false =>
    have := h.tx hc
    subst this
    exact ⟨by simpa using h3, rfl⟩
def chkE (s t : List Int) (ch : Bool) (A : List Rat) (R C : Nat) : Int :=
  if 2 < s.length then 23 else if (ch && decide (0 < t.length + A.length)) = true then 22 else if R < C then 24 else if 32 < R ∨ 8 < C then 26 else 0
theorem grid_len {A : List Rat} {R C : Nat} : (gridA A R C).length = R := by simp [gridA]
theorem c95_ok {s t : List Int} {ch : Bool} {A : List Rat} {R C : Nat} (h : ArrM s t ch A R C) : Go.V.Call tab E 95 [.agg (arrX s ch t (A.map rR))] [] (.int .i64 (chkE s t ch A R C)) [] := by
  refine Go.V.Call.mach i95 c95 rfl rfl rfl rfl ?_
  have hal := h.al
  have htl := h.tl
  have hs8 := h.s8
  have h66 := c66_X (s := s) (t := t) (l := A.map rR) (ch := ch) (by omega)
  have h68 := c68_ok (s := s) (t := t) (l := A.map rR) (ch := ch)
  have h23 := c23_X (s := s) (t := t) (l := A.map rR) (ch := ch) (by omega) (by rw [List.length_map]; omega)
  have h97 := c97_ok (s := s) (t := t) (l := A.map rR) (ch := ch) hs8
  rw [h.c0] at h97
  by_cases h2 : 2 < s.length
  · have h2' : (2 : Int) < (s.length : Int) := by omega
    simp only [arrX, runes, ints] at h66
    simp only [c95, arrX, runes, ints, go_sem, FL, subA5]
    refine goP h66 ?_
    simp only [go_sem, FL, subA5, h2']
    simp only [i95, OT, reduceIte, Nat.reduceEqDiff, chkE, h2, if_true]
  · have h2' : ¬ (2 : Int) < (s.length : Int) := by omega
    by_cases hb : (ch && decide (0 < t.length + A.length)) = true
    · obtain ⟨rfl, hb2⟩ := Bool.and_eq_true_iff.1 hb
      have hb3 : (0 : Int) < ((t.length + A.length : Nat) : Int) := by have := of_decide_eq_true hb2; omega
      rw [List.length_map] at h23
      simp only [arrX, runes, ints] at h66 h68 h23
      simp only [c95, arrX, runes, ints, go_sem, FL, subA5]
      refine goP h66 ?_
      simp only [go_sem, FL, subA5, h2']
      refine goP h68 ?_
      simp only [go_sem, FL, subA5]
      refine goP h23 ?_
      simp only [go_sem, FL, subA5, hb3]
      simp only [i95, OT, reduceIte, Nat.reduceEqDiff, chkE, h2, if_false, hb, if_true]
    · have hbf : (ch && decide (0 < t.length + A.length)) = false := by simpa using hb
      obtain ⟨hA, rfl⟩ := h.ok (by omega) hbf
      have h96 := c96_ok (s := s) (t := []) (A := A) (ch := ch) (R := R) (C := C) hs8 h.r0 h.c0 hA h.R4 h.C4 hal
      rw [gridG, grid_len] at h96
      generalize (gridA A R C).map (fun r => AV.sl r.length 3 (rtsC (r.map rR))) = GC at *
      have e1 : chkE s [] ch A R C = if R < C then 24 else if 32 < R ∨ 8 < C then 26 else 0 := by rw [chkE, if_neg h2, if_neg hb]
      rw [List.length_map] at h23
      cases hc : ch with
      | true =>
        subst hc
        have hz : ¬ (0 : Int) < ((A.length : Nat) : Int) := by
          rw [Bool.true_and, decide_eq_false_iff_not] at hbf; simp at hbf ⊢; simp [hbf]
        rw [e1]
        simp only [arrX, runes, ints] at h66 h68 h23 h96 h97
        by_cases hRC : R < C
        · have hRC' : (R : Int) < (C : Int) := by omega
          simp only [c95, arrX, runes, ints, go_sem, FL, subA5]
          refine goP h66 ?_
          simp only [go_sem, FL, subA5, h2']
          refine goP h68 ?_
          simp only [go_sem, FL, subA5]
          refine goP h23 ?_
          simp only [go_sem, FL, subA5, hz]
          refine goP h96 ?_
          simp only [go_sem, FL, subA5]
          refine goP h97 ?_
          simp only [go_sem, FL, subA5, hRC']
          simp only [i95, OT, reduceIte, Nat.reduceEqDiff, hRC, if_true]
        · have hRC' : ¬ (R : Int) < (C : Int) := by omega
          by_cases h32 : 32 < R
          · have h32' : (32 : Int) < (R : Int) := by omega
            have e2 : (32 < R ∨ 8 < C) = True := eq_true (.inl h32)
            simp only [c95, arrX, runes, ints, go_sem, FL, subA5]
            refine goP h66 ?_
            simp only [go_sem, FL, subA5, h2']
            refine goP h68 ?_
            simp only [go_sem, FL, subA5]
            refine goP h23 ?_
            simp only [go_sem, FL, subA5, hz]
            refine goP h96 ?_
            simp only [go_sem, FL, subA5]
            refine goP h97 ?_
            simp only [go_sem, FL, subA5, hRC']
            refine goP h96 ?_
            simp only [go_sem, FL, subA5, h32']
            simp only [i95, OT, reduceIte, Nat.reduceEqDiff, hRC, if_false, e2, if_true]
          · have h32' : ¬ (32 : Int) < (R : Int) := by omega
            by_cases h8 : 8 < C
            · have h8' : (8 : Int) < (C : Int) := by omega
              have e2 : (32 < R ∨ 8 < C) = True := eq_true (.inr h8)
              simp only [c95, arrX, runes, ints, go_sem, FL, subA5]
              refine goP h66 ?_
              simp only [go_sem, FL, subA5, h2']
              refine goP h68 ?_
              simp only [go_sem, FL, subA5]
              refine goP h23 ?_
              simp only [go_sem, FL, subA5, hz]
              refine goP h96 ?_
              simp only [go_sem, FL, subA5]
              refine goP h97 ?_
              simp only [go_sem, FL, subA5, hRC']
              refine goP h96 ?_
              simp only [go_sem, FL, subA5, h32']
              refine goP h97 ?_
              simp only [go_sem, FL, subA5, h8']
              simp only [i95, OT, reduceIte, Nat.reduceEqDiff, hRC, if_false, e2, if_true]
            · have h8' : ¬ (8 : Int) < (C : Int) := by omega
              have e2 : (32 < R ∨ 8 < C) = False := eq_false (fun h => h.elim h32 h8)
              simp only [c95, arrX, runes, ints, go_sem, FL, subA5]
              refine goP h66 ?_
              simp only [go_sem, FL, subA5, h2']
              refine goP h68 ?_
              simp only [go_sem, FL, subA5]
              refine goP h23 ?_
              simp only [go_sem, FL, subA5, hz]
              refine goP h96 ?_
              simp only [go_sem, FL, subA5]
              refine goP h97 ?_
              simp only [go_sem, FL, subA5, hRC']
              refine goP h96 ?_
              simp only [go_sem, FL, subA5, h32']
              refine goP h97 ?_
              simp only [go_sem, FL, subA5, h8']
              simp only [i95, OT, reduceIte, Nat.reduceEqDiff, hRC, if_false, e2]
      | false =>
        subst hc
        rw [e1]
        simp only [arrX, runes, ints] at h66 h68 h23 h96 h97
        by_cases hRC : R < C
        · have hRC' : (R : Int) < (C : Int) := by omega
          simp only [c95, arrX, runes, ints, go_sem, FL, subA5]
          refine goP h66 ?_
          simp only [go_sem, FL, subA5, h2']
          refine goP h68 ?_
          simp only [go_sem, FL, subA5]
          refine goP h96 ?_
          simp only [go_sem, FL, subA5]
          refine goP h97 ?_
          simp only [go_sem, FL, subA5, hRC']
          simp only [i95, OT, reduceIte, Nat.reduceEqDiff, hRC, if_true]
        · have hRC' : ¬ (R : Int) < (C : Int) := by omega
          by_cases h32 : 32 < R
          · have h32' : (32 : Int) < (R : Int) := by omega
            have e2 : (32 < R ∨ 8 < C) = True := eq_true (.inl h32)
            simp only [c95, arrX, runes, ints, go_sem, FL, subA5]
            refine goP h66 ?_
            simp only [go_sem, FL, subA5, h2']
            refine goP h68 ?_
            simp only [go_sem, FL, subA5]
            refine goP h96 ?_
            simp only [go_sem, FL, subA5]
            refine goP h97 ?_
            simp only [go_sem, FL, subA5, hRC']
            refine goP h96 ?_
            simp only [go_sem, FL, subA5, h32']
            simp only [i95, OT, reduceIte, Nat.reduceEqDiff, hRC, if_false, e2, if_true]
          · have h32' : ¬ (32 : Int) < (R : Int) := by omega
            by_cases h8 : 8 < C
            · have h8' : (8 : Int) < (C : Int) := by omega
              have e2 : (32 < R ∨ 8 < C) = True := eq_true (.inr h8)
              simp only [c95, arrX, runes, ints, go_sem, FL, subA5]
              refine goP h66 ?_
              simp only [go_sem, FL, subA5, h2']
              refine goP h68 ?_
              simp only [go_sem, FL, subA5]
              refine goP h96 ?_
              simp only [go_sem, FL, subA5]
              refine goP h97 ?_
              simp only [go_sem, FL, subA5, hRC']
              refine goP h96 ?_
              simp only [go_sem, FL, subA5, h32']
              refine goP h97 ?_
              simp only [go_sem, FL, subA5, h8']
              simp only [i95, OT, reduceIte, Nat.reduceEqDiff, hRC, if_false, e2, if_true]
            · have h8' : ¬ (8 : Int) < (C : Int) := by omega
              have e2 : (32 < R ∨ 8 < C) = False := eq_false (fun h => h.elim h32 h8)
              simp only [c95, arrX, runes, ints, go_sem, FL, subA5]
              refine goP h66 ?_
              simp only [go_sem, FL, subA5, h2']
              refine goP h68 ?_
              simp only [go_sem, FL, subA5]
              refine goP h96 ?_
              simp only [go_sem, FL, subA5]
              refine goP h97 ?_
              simp only [go_sem, FL, subA5, hRC']
              refine goP h96 ?_
              simp only [go_sem, FL, subA5, h32']
              refine goP h97 ?_
              simp only [go_sem, FL, subA5, h8']
              simp only [i95, OT, reduceIte, Nat.reduceEqDiff, hRC, if_false, e2]
end Go.Proofs.Ytlejgleocnemoaa.I

namespace Go.Proofs.Ytlejgleocnemoaa.I
open Go Go.V
theorem sumN_split {g : Nat → Rat} {n : Nat} : ∀ {m : Nat}, sumN (n + m) g = sumN n g + sumN m fun i => g (n + i)
  | 0 => by rw [Nat.add_zero, sumN, Rat.add_zero]
  | m + 1 => by rw [← Nat.add_assoc, sumN, sumN, sumN_split (m := m), Rat.add_assoc]
theorem sumN_swap {f : Nat → Nat → Rat} {n : Nat} : ∀ {m : Nat}, sumN n (fun i => sumN m fun l => f i l) = sumN m fun l => sumN n fun i => f i l
  | 0 => by
    rw [sumN]
    exact sumN_zero fun i _ => rfl
  | m + 1 => by
    rw [sumN, ← sumN_swap (m := m), ← sumN_add]
    exact sumN_congr fun i _ => rfl
theorem sumN_neg {g : Nat → Rat} {n : Nat} : sumN n (fun i => -g i) = -sumN n g := by
  rw [show -sumN n g = -1 * sumN n g by grind, ← sumN_mul]
  exact sumN_congr fun i _ => by grind
theorem ans_iff {n m j : Nat} {R : Mx} {X : Nat → Rat} (hj : j < m) : Sol n (n + m) R (ansV n X (n + j)) ↔ ∀ r, r < n → sumN n (fun k => R r k * X k) = R r (n + j) := by
  have e : ∀ r, sumN (n + m) (fun i => R r i * ansV n X (n + j) i) = -sumN n (fun k => R r k * X k) + R r (n + j) := fun r => by
    rw [sumN_split]
    congr 1
    · rw [← sumN_neg]
      exact sumN_congr fun i hi => by
        unfold ansV
        rw [if_pos hi]; grind
    · rw [sumN_one (k := j) hj (fun i hi h => ?_)]
      · unfold ansV
        rw [if_neg (by omega), if_pos rfl, Rat.mul_one]
      · unfold ansV
        rw [if_neg (by omega), if_neg (by omega), Rat.mul_zero]
  constructor
  · intro h r hr
    have := h r hr
    rw [e] at this
    grind
  · intro h r hr
    rw [e, h r hr]
    grind
def Inj (n : Nat) (A : Mx) : Prop := ∀ y : Nat → Rat, (∀ r, r < n → sumN n (fun j => A r j * y j) = 0) → ∀ k, k < n → y k = 0
theorem inj_iff {n m : Nat} {R : Mx} : Inj n R ↔ ¬ Ker n (n + m) R := by
  have e : ∀ (v : Nat → Rat), (∀ k, n ≤ k → v k = 0) → ∀ r, sumN (n + m) (fun j => R r j * v j) = sumN n (fun j => R r j * v j) := fun v hv r => by
    rw [sumN_split, sumN_zero (n := m) (fun i _ => by rw [hv (n + i) (by omega), Rat.mul_zero]), Rat.add_zero]
  constructor
  · rintro h ⟨v, h1, ⟨k, hk, h2⟩, h3⟩
    exact h2 (h v (fun r hr => by rw [← e v h3]; exact h1 r hr) k hk)
  · intro h y hy k hk
    by_cases h0 : y k = 0
    · exact h0
    · exfalso
      refine h ⟨fun i => if i < n then y i else 0, fun r hr => ?_, ⟨k, hk, by simp only [if_pos hk]; exact h0⟩, fun i hi => by simp only [if_neg (show ¬ i < n by omega)]⟩
      rw [e _ (fun i hi => by simp only [if_neg (show ¬ i < n by omega)])]
      rw [← hy r hr]
      exact sumN_congr fun i hi => by simp only [if_pos hi]
theorem Inj.congr {n : Nat} {A B : Mx} (h : ∀ i j, i < n → j < n → A i j = B i j) (hA : Inj n A) : Inj n B := fun y hy k hk =>
  hA y (fun r hr => by rw [← hy r hr]; exact sumN_congr fun j hj => by rw [h r j hr hj]) k hk
def gram (n : Nat) (A B : Mx) : Mx := fun i j => sumN n fun k => A k i * B k j
theorem gram_mul {n m : Nat} {A : Mx} {y : Nat → Rat} {i : Nat} : sumN m (fun j => gram n A A i j * y j) = sumN n fun k => A k i * sumN m fun j => A k j * y j := by
  unfold gram
  have e : sumN m (fun j => (sumN n fun k => A k i * A k j) * y j) = sumN m fun j => sumN n fun k => (A k i * A k j) * y j := sumN_congr fun j _ => by
    rw [Rat.mul_comm, ← sumN_mul]
    exact sumN_congr fun k _ => by grind
  rw [e, sumN_swap]
  refine sumN_congr fun k _ => ?_
  rw [← sumN_mul]
  exact sumN_congr fun j _ => by grind
end Go.Proofs.Ytlejgleocnemoaa.I

namespace Go.Proofs.Ytlejgleocnemoaa.I
open Go Go.V
attribute [local go_sem_proc ↓] reduceIte
attribute [local go_sem_proc] Nat.reduceEqDiff Nat.reduceAdd Nat.reduceMul Nat.reduceLeDiff Nat.reduceLT Int.reduceToNat Int.reduceLT Int.reduceLE reduceCtorEq Nat.reduceBEq
attribute [local go_sem] mNil nat0 beq_self_eq_true mSkip mRet mExit mReg mSeq mCond mTrue mFalse mBlock mLv mCodeE mCodeR mEndN mEndR mEndE mOps mSome mGuard mGtt mGff mGtf mGft mGu mCallP mCallR mCallF mCallO mCallZ mCallG mCallM mCallV loopQ_exit loopQ_ret mO_mov mO_newnil mO_pick mO_alloc mO_box mO_build mO_bsl mO_bslF mO_newnilB mO_bslB mO_lenB mO_appB mO_allocA mO_bslA mO_appA mO_ldb mO_faddrb mRsv mO_ldf mO_ld mO_st mO_sta mO_nilchk mO_bin mO_binb mO_binp mO_bins mO_neg mO_com mO_not mO_conv mO_mk mO_mk0 mO_mkB mO_s2b mO_b2s mO_cpy mO_cut mO_faddr mO_fld mO_iaddr mO_iaddrf mO_sidx mO_len mO_lenf mO_slen mO_scut mO_app mO_ext mO_mx mO_mn mO_mkfn evalOp cutOp argsE ev getE putE cellsOf adopt rowOf binV boolV nilV ar_add ar_sub ar_mul ar_quo ar_rem ar_eq ar_ne ar_lt ar_le ar_gt ar_ge ar_and ar_or ar_xor geto bound finRet finNrm ints List.length_cons List.length_nil List.length_append List.getElem?_cons_zero List.getElem?_cons_succ List.nil_append List.cons_append List.map_cons List.map_nil List.mapM_cons List.mapM_nil Option.map_some Option.map_none Option.bind_some Option.pure_def Option.bind_eq_bind List.drop_zero or_self or_false false_or or_true true_or true_and and_true and_self decide_true decide_false Bool.false_eq_true Bool.true_eq_false Bool.not_true Bool.not_false Nat.le_refl eq_self gt_iff_lt ge_iff_le ne_eq not_true_eq_false not_false_eq_true storeOp apartOf freeze_nil refsL refs List.flatMap_cons List.flatMap_nil List.append_nil List.contains_nil List.set_cons_zero List.set_cons_succ snap snapL fill_nums flat_nums nums_length Go.V.freeze List.mapIdx_cons List.mapIdx_nil List.contains_cons Bool.or_false Bool.false_or Bool.or_true Bool.true_or
def gridM (n : Nat) (L : Nat → List Rat) : List AObj := (List.range n).map (fun i => rO (L i)) ++ [⟨true, 26, 1, 0, n, (List.range n).map fun i => .arr i 0, false⟩]
theorem ownL_rows {M : List AObj} {o n : Nat} {L : Nat → List Rat} (h : NSt M o n L) : ∀ {k a : Nat} {acc : List AObj} {ns : List Nat}, a + k ≤ n → (∀ i, a ≤ i → ns.contains (o + i) = false) →
    ∃ ns', ownL M ((List.range' a k).map fun i => AV.arr (o + i) (L i).length) acc ns = some ((List.range' a k).map fun i => AV.arr (acc.length + (i - a)) 0, acc ++ (List.range' a k).map fun i => rO (L i), ns')
  | 0, a, acc, ns, _, _ => ⟨ns, by simp [ownL]⟩
  | k + 1, a, acc, ns, hk, hn => by
    have hr := h.row a (by omega)
    have e : ownV M (.arr (o + a) (L a).length) acc ns = some (.arr acc.length 0, acc ++ [rO (L a)], (o + a) :: ns) := by
      have hg : geto M (o + a) (L a).length = some ⟨false, 59, 3, (L a).length, (L a).length, rtsC ((L a).map rR), false⟩ := by rw [geto, hr]; simp
      unfold ownV
      simp only [hg]
      rw [if_pos ⟨trivial, trivial, hn a (Nat.le_refl _)⟩]
      rfl
    obtain ⟨ns', ih⟩ := ownL_rows h (k := k) (a := a + 1) (acc := acc ++ [rO (L a)]) (ns := (o + a) :: ns) (by omega) (fun i hi => by
      rw [List.contains_cons, hn i (by omega)]
      simp
      omega)
    refine ⟨ns', ?_⟩
    rw [List.range'_succ, List.map_cons, ownL, e, Option.bind_some, ih]
    simp only [Option.map_some, Nat.sub_self, Nat.add_zero, List.length_append, List.length_cons, List.length_nil, List.map_cons, List.append_assoc, List.cons_append, List.nil_append]
    congr 3
    apply List.map_congr_left
    intro i hi
    have := List.mem_range'_1.1 hi
    congr 1
    omega
theorem own_grid {M : List AObj} {o n : Nat} {L : Nat → List Rat} (h : NSt M o n L) : ownOutB M (.arr (o + n) 0) = some (.arr n 0, gridM n L) := by
  have hg : geto M (o + n) 0 = some ⟨true, 26, 1, 0, n, (List.range n).map fun i => .arr (o + i) (L i).length, false⟩ := by rw [geto, h.box]; simp
  obtain ⟨ns', h2⟩ := ownL_rows h (k := n) (a := 0) (acc := []) (ns := []) (by omega) (fun i _ => rfl)
  rw [← List.range_eq_range'] at h2
  simp only [List.length_nil, Nat.zero_add, Nat.sub_zero, List.nil_append] at h2
  unfold ownOutB
  simp only [hg]
  rw [if_pos ⟨trivial, trivial⟩, h2]
  simp [gridM]
def mxG (G : List (List Rat)) : Mx := fun k i => (G.getD k []).getD i 0
theorem sub_grid {G : List (List Rat)} {k : Nat} (h : k < G.length) : sub false 1 (G.map fun r => AV.sl r.length 3 (rtsC (r.map rR))) (k * 1) = some (.sl (G.getD k []).length 3 (rtsC ((G.getD k []).map rR))) := by
  simp only [sub, List.length_map, Nat.mul_one, Bool.false_eq_true, if_false, if_true]
  rw [if_pos (by omega), List.getElem?_map, List.getElem?_eq_getElem h]
  simp [List.getD, h]
theorem Sz.zero' {i : Nat} (h : 1 ≤ i) : Sz i 0 := ⟨by rw [Rat.num_ofNat]; exact Nat.pow_pos (by omega), Nat.one_lt_two_pow (by omega)⟩
theorem Sz.sum {f : Nat → Rat} {e : Nat} : ∀ {k : Nat}, (∀ i, i < k → Sz e (f i)) → Sz ((e + 1) * k + 1) (sumN k f)
  | 0, _ => Sz.zero' (by omega)
  | k + 1, h => by
    rw [sumN]
    exact ((Sz.sum (k := k) fun i hi => h i (by omega)).add (h k (by omega))).mono (by rw [Nat.mul_add, Nat.mul_one]; omega)
def gridX (W : List (List Rt)) : AV := .sl W.length 1 (W.map fun r => .sl r.length 3 (rtsC r))
structure Rep (W : List (List Rt)) (H : List (List Rat)) : Prop where
  len : W.length = H.length
  row : ∀ k, (W.getD k []).length = (H.getD k []).length
  val : ∀ k j, j < (H.getD k []).length → RV (rtAt (W.getD k []) j) (mxG H k j)
theorem Rep.self {H : List (List Rat)} : Rep (H.map fun r => r.map rR) H := by
  have e : ∀ k, (H.map fun r => r.map rR).getD k [] = (H.getD k []).map rR := fun k => by
    simp only [List.getD, List.getElem?_map]
    cases H[k]? <;> rfl
  refine ⟨by simp, fun k => by rw [e, List.length_map], fun k j hj => ?_⟩
  rw [e]
  unfold rtAt mxG
  generalize H.getD k [] = r at *
  simp only [List.getD, List.getElem?_map, List.getElem?_eq_getElem hj, Option.map_some, Option.getD_some]
  exact RV.self
theorem gridX_self {H : List (List Rat)} : gridX (H.map fun r => r.map rR) = gridG H := by
  simp only [gridX, gridG, List.length_map, List.map_map]
  congr 1
  apply List.map_congr_left
  intro r _
  simp [Function.comp]
theorem sub_gridX {X : List (List Rt)} {k : Nat} (h : k < X.length) : sub false 1 (X.map fun r => AV.sl r.length 3 (rtsC r)) (k * 1) = some (.sl (X.getD k []).length 3 (rtsC (X.getD k []))) := by
  simp only [sub, List.length_map, Nat.mul_one, Bool.false_eq_true, if_false, if_true]
  rw [if_pos (by omega), List.getElem?_map, List.getElem?_eq_getElem h]
  simp [List.getD, h]
section
variable {G H : List (List Rat)} {W : List (List Rt)} {n m e : Nat}
theorem c98_sum (hR : Rep W H) {i j : Nat} {M : List AObj} {env : Env} {Q : X → St → Prop} {ks : List Go.V.Item} (hGH : H.length = G.length) (hG : ∀ r ∈ G, i < r.length) (hH : ∀ r ∈ H, j < r.length) (hGs : ∀ r ∈ G, ∀ a ∈ r, Sz e a) (hHs : ∀ r ∈ H, ∀ a ∈ r, Sz e a) (hK : G.length ≤ 4096) (he : (2 * e + 1) * (G.length + 1) ≤ 30000000)
    (e0 : getE env 0 = gridG G) (e1 : getE env 1 = gridX W) (e3 : getE env 3 = .int .i64 m) (e9 : getE env 9 = .arr (1 + n) 0) (e10 : getE env 10 = .int .i64 i) (e11 : getE env 11 = .int .i64 j) (e12 : getE env 12 = .loc M.length 0 0)
    (e17 : getE env 17 = .int .i64 n) (e18 : getE env 18 = .int .i64 i) (e21 : getE env 21 = .int .i64 m) (e22 : getE env 22 = .int .i64 j) (e27 : getE env 27 = .int .i64 G.length) (e28 : getE env 28 = .int .i64 0)
    (hgo : ∀ z : Rt, (0 < G.length → z = rR (gram G.length (mxG G) (mxG H) i j)) → Mach (Go.V.Call tab E) Q ks .nrm ⟨[(0, gridG G), (1, gridX W), (3, .int .i64 m), (9, .arr (1 + n) 0), (10, .int .i64 i), (11, .int .i64 j), (12, .loc M.length 0 0), (17, .int .i64 n), (18, .int .i64 i), (21, .int .i64 m), (22, .int .i64 j), (27, .int .i64 G.length), (28, .int .i64 G.length), (29, .bool false)], M ++ [⟨true, 59, 3, 0, 1, rtC z, false⟩]⟩) :
    Mach (Go.V.Call tab E) Q (.code (.loop [0, 1, 3, 9, 10, 11, 12, 17, 18, 21, 22, 27, 28] none b98_2) :: .endb 4 :: ks) .nrm ⟨env, M ++ [⟨true, 59, 3, 0, 1, rtC (false, 0, 0), false⟩]⟩ := by
  have sG : ∀ k, k < G.length → (G.getD k []) ∈ G := fun k h => by simp [List.getD, h]
  have sH : ∀ k, k < H.length → (H.getD k []) ∈ H := fun k h => by simp [List.getD, h]
  have gg : ∀ k, k < G.length → Sz e (mxG G k i) := fun k h => by
    have h2 := hG _ (sG k h)
    have : mxG G k i ∈ G.getD k [] := by unfold mxG; generalize G.getD k [] = r at *; simp [List.getD, h2]
    exact hGs _ (sG k h) _ this
  have hh : ∀ k, k < G.length → Sz e (mxG H k j) := fun k h => by
    have h2 := hH _ (sH k (by omega))
    have : mxG H k j ∈ H.getD k [] := by unfold mxG; generalize H.getD k [] = r at *; simp [List.getD, h2]
    exact hHs _ (sH k (by omega)) _ this
  have hmul : ∀ k, k < G.length → Sz (2 * e) (mxG G k i * mxG H k j) := fun k h => ((gg k h).mul (hh k h)).mono (by omega)
  have x1 : ∀ o : AObj, (M ++ [o])[M.length]? = some o := fun o => by rw [List.getElem?_append_right (Nat.le_refl _)]; simp
  have x2 : ∀ o o' : AObj, (M ++ [o]).set M.length o' = M ++ [o'] := fun o o' => by rw [List.set_append_right _ _ (Nat.le_refl _)]; simp
  refine mLoop (fun N st => ∃ (k : Nat) (z : Rt), k ≤ G.length ∧ N = G.length - k ∧ RV z (sumN k fun k => mxG G k i * mxG H k j) ∧ (0 < k → z = rR (sumN k fun k => mxG G k i * mxG H k j)) ∧
    st = ⟨[(0, gridG G), (1, gridX W), (3, .int .i64 m), (9, .arr (1 + n) 0), (10, .int .i64 i), (11, .int .i64 j), (12, .loc M.length 0 0), (17, .int .i64 n), (18, .int .i64 i), (21, .int .i64 m), (22, .int .i64 j), (27, .int .i64 G.length), (28, .int .i64 k)], M ++ [⟨true, 59, 3, 0, 1, rtC z, false⟩]⟩) G.length
    ⟨_, rfl, 0, (false, 0, 0), by omega, by omega, RV.zero, fun h => by omega, by simp only [List.map_cons, List.map_nil, e0, e1, e3, e9, e10, e11, e12, e17, e18, e21, e22, e27, e28]; rfl⟩ ?_
  rintro N s0 ⟨k, z, hk, rfl, hz, hz0, rfl⟩
  by_cases hkG : k < G.length
  · have hk' : (k : Int) < (G.length : Int) := by omega
    have hXl := hR.len
    have hXr := hR.row k
    have hkH : (k : Int) < (W.length : Int) := by omega
    have hk0 : (0 : Int) ≤ (k : Int) := by omega
    have hi0 : (0 : Int) ≤ (i : Int) := by omega
    have hj0 : (0 : Int) ≤ (j : Int) := by omega
    have hk1 : IntKind.i64.wrap ((k : Int) + 1) = ((k + 1 : Nat) : Int) := by rw [wrap_i64 (by omega) (by omega)]; omega
    have g1 := sub_grid hkG
    have g2 := sub_gridX (X := W) (k := k) (by omega)
    have l1 := hG _ (sG k hkG)
    have l2 := hH _ (sH k (by omega))
    have l1' : (i : Int) < ((G.getD k []).length : Int) := by omega
    have l2' : (j : Int) < ((W.getD k []).length : Int) := by omega
    have g3 := sub_rR l1
    have g4 := sub_rts (l := W.getD k []) (i := j) (by omega)
    have h56 := c56_ok (E := I.E) (x := rR (mxG G k i)) (y := rtAt (W.getD k []) j) RV.self (hR.val k j l2) (gg k hkG) (hh k hkG) (by
      have : (2 * e + 1) * 1 ≤ (2 * e + 1) * (G.length + 1) := Nat.mul_le_mul_left _ (by omega)
      omega)
    have hsz := Sz.sum (k := k) (f := fun k => mxG G k i * mxG H k j) (e := 2 * e) (fun q hq => hmul q (by omega))
    have h49 := c49_ok (E := I.E) (x := z) (y := rR (mxG G k i * mxG H k j)) hz RV.self hsz (hmul k hkG) (by
      have : (2 * e + 1) * k ≤ (2 * e + 1) * G.length := Nat.mul_le_mul_left _ (by omega)
      rw [Nat.mul_add] at he
      omega)
    have hsucc : sumN (k + 1) (fun k => mxG G k i * mxG H k j) = sumN k (fun k => mxG G k i * mxG H k j) + mxG G k i * mxG H k j := rfl
    rw [← hsucc] at h49
    have eG : (G.getD k []).getD i 0 = mxG G k i := rfl
    rw [eG] at g3
    have hnz : sub true 3 (rtC z) 0 = some (.agg (rtC z)) := rfl
    have hin : RV (rR (sumN (k + 1) fun k => mxG G k i * mxG H k j)) (sumN (k + 1) fun k => mxG G k i * mxG H k j) := RV.self
    clear hsucc hsz hz hz0 gg hh hmul eG hXl hXr
    generalize hzs : rR (sumN (k + 1) fun k => mxG G k i * mxG H k j) = zs at *
    generalize rR (mxG G k i * mxG H k j) = zp at *
    generalize rR (mxG G k i) = za at *
    generalize rtAt (W.getD k []) j = zb at *
    simp only [rtC3, us32] at h56 h49 g3 g4 hnz
    simp only [b98_2, gridG, gridX, rtC3, us32, go_sem, FL, hk', hkH, hk0, hi0, hj0, x1, g1, g2, g3, g4, hnz, l1', l2', Int.toNat_natCast]
    refine goP h56 ?_
    simp only [go_sem, FL, us32]
    refine goP h49 ?_
    simp only [go_sem, FL, mapIA, us32, x1, x2, hk1]
    exact loopQ_go rfl (G.length - (k + 1)) (by omega) ⟨k + 1, zs, by omega, rfl, hin, fun _ => hzs.symm, rfl⟩
  · obtain rfl : k = G.length := by omega
    have := hgo z hz0
    simp only [b98_2, gridG, gridX, go_sem, Int.lt_irrefl] at this ⊢
    exact this
def nrmR (G H : List (List Rat)) (i j : Nat) : List Rat := (List.range j).map fun q => gram G.length (mxG G) (mxG H) i q
theorem nrmR_len {i j : Nat} : (nrmR G H i j).length = j := by simp [nrmR]
theorem nrmR_succ {i j : Nat} : nrmR G H i (j + 1) = nrmR G H i j ++ [gram G.length (mxG G) (mxG H) i j] := by simp [nrmR, List.range_succ]
def lstN (G H : List (List Rat)) (m i j : Nat) : Nat → List Rat := fun r => if r < i then nrmR G H r m else if r = i then nrmR G H i j else []
theorem x_last {K : List AObj} (o : AObj) : (K ++ [o])[K.length]? = some o := by rw [List.getElem?_append_right (Nat.le_refl _)]; simp
theorem x_put {K : List AObj} (o o' : AObj) : (K ++ [o]).set K.length o' = K ++ [o'] := by rw [List.set_append_right _ _ (Nat.le_refl _)]; simp
theorem c98_loop (hR : Rep W H) {M : List AObj} {env : Env} (hGH : H.length = G.length) (hG : ∀ r ∈ G, n ≤ r.length) (hH : ∀ r ∈ H, m ≤ r.length) (hGs : ∀ r ∈ G, ∀ a ∈ r, Sz e a) (hHs : ∀ r ∈ H, ∀ a ∈ r, Sz e a) (hK : G.length ≤ 4096) (hn0 : 0 < n → 0 < G.length) (hn : n ≤ 4096) (hm : m ≤ 4096) (he : (2 * e + 1) * (G.length + 1) ≤ 30000000)
    (hN : NSt M 1 n fun _ => []) (e0 : getE env 0 = gridG G) (e1 : getE env 1 = gridX W) (e3 : getE env 3 = .int .i64 m) (e9 : getE env 9 = .arr (1 + n) 0) (e17 : getE env 17 = .int .i64 n) (e18 : getE env 18 = .int .i64 0) :
    Mach (Go.V.Call tab E) (Go.V.Fin i98 [] (.arr n 0) (gridM n fun i => nrmR G H i m)) [.code (.loop [0, 1, 3, 9, 17, 18] none b98_0), .endb 0, .code k98_3] .nrm ⟨env, M⟩ := by
  refine mLoop (fun N st => ∃ (i : Nat) (K : List AObj), i ≤ n ∧ N = n - i ∧ NSt K 1 n (lstN G H m i 0) ∧
    st = ⟨[(0, gridG G), (1, gridX W), (3, .int .i64 m), (9, .arr (1 + n) 0), (17, .int .i64 n), (18, .int .i64 i)], K⟩) n ⟨_, rfl, 0, M, by omega, by omega, hN.congr (fun i _ => by simp [lstN, nrmR]), by simp only [List.map_cons, List.map_nil, e0, e1, e3, e9, e17, e18]; rfl⟩ ?_
  rintro N s0 ⟨i, K, hi, rfl, hKN, rfl⟩
  by_cases hin : i < n
  · have hi' : (i : Int) < (n : Int) := by omega
    have hi0 : (0 : Int) ≤ (i : Int) := by omega
    have hi1 : IntKind.i64.wrap ((i : Int) + 1) = ((i + 1 : Nat) : Int) := by rw [wrap_i64 (by omega) (by omega)]; omega
    simp only [b98_0, go_sem, hi']
    refine mLoop (fun N st => ∃ (j : Nat) (K : List AObj), j ≤ m ∧ N = m - j ∧ NSt K 1 n (lstN G H m i j) ∧
      st = ⟨[(0, gridG G), (1, gridX W), (3, .int .i64 m), (9, .arr (1 + n) 0), (10, .int .i64 i), (17, .int .i64 n), (18, .int .i64 i), (21, .int .i64 m), (22, .int .i64 j)], K⟩) m ⟨_, rfl, 0, K, by omega, by omega, hKN, rfl⟩ ?_
    clear hKN K
    rintro N s0 ⟨j, K, hj, rfl, hKN, rfl⟩
    by_cases hjm : j < m
    · have hj' : (j : Int) < (m : Int) := by omega
      have hj1 : IntKind.i64.wrap ((j : Int) + 1) = ((j + 1 : Nat) : Int) := by rw [wrap_i64 (by omega) (by omega)]; omega
      have xl := x_last (K := K)
      have xp := x_put (K := K)
      have hz0 : rtC (false, 0, 0) = [AV.sl 0 1 [], AV.bool false, AV.sl 0 1 []] := by simp only [rtC, ratG, limG_zero, us32]; rfl
      have hsum := fun (env : Env) (ks : List Go.V.Item) (Q : X → St → Prop) => c98_sum (G := G) (H := H) (n := n) (m := m) (e := e) (i := i) (j := j) (M := K) (env := env) (Q := Q) (ks := ks) hR hGH (fun r hr => Nat.lt_of_lt_of_le hin (hG r hr)) (fun r hr => Nat.lt_of_lt_of_le hjm (hH r hr)) hGs hHs hK he
      rw [hz0] at hsum
      simp only [b98_1, gridG, gridX, go_sem, FL, mapIA, hj', xl, xp]
      refine hsum _ _ _ rfl rfl rfl rfl rfl rfl rfl rfl rfl rfl rfl rfl rfl ?_
      intro z hz
      have hz := hz (hn0 (by omega))
      have hK2 := hKN.app (G := [⟨true, 59, 3, 0, 1, rtC z, false⟩])
      have b1 := hK2.box
      have r1 := hK2.row i hin
      have hlt := hK2.lt
      have ell : lstN G H m i j i = nrmR G H i j := by simp [lstN]
      rw [ell, nrmR_len] at r1
      have xl2 : (K ++ [(⟨true, 59, 3, 0, 1, rtC z, false⟩ : AObj)])[K.length]? = some ⟨true, 59, 3, 0, 1, rtC z, false⟩ := x_last _
      have b2 : ∀ o : AObj, ((K ++ [(⟨true, 59, 3, 0, 1, rtC z, false⟩ : AObj)]).set (1 + i) o)[1 + n]? = some ⟨true, 26, 1, 0, n, (List.range n).map fun r => .arr (1 + r) (lstN G H m i j r).length, false⟩ := fun o => by rw [List.getElem?_set_ne (by omega)]; exact b1
      have hcs : sub false 1 ((List.range n).map fun r => AV.arr (1 + r) (lstN G H m i j r).length) (i * 1) = some (.arr (1 + i) j) := by
        simp only [sub, List.length_map, List.length_range, Nat.mul_one, Bool.false_eq_true, if_false, if_true]
        rw [if_pos (by omega)]
        simp [hin, ell, nrmR_len]
      have hfill := fill_one (cs := (List.range n).map fun r => AV.arr (1 + r) (lstN G H m i j r).length) (i := i) (v := .arr (1 + i) (nrmR G H i (j + 1)).length) (by simp; exact hin)
      have hst := hK2.step hin (l := nrmR G H i (j + 1))
      have hst2 := hst.congr (L' := lstN G H m i (j + 1)) (fun r hr => by
        unfold updL lstN
        by_cases hri : r = i
        · subst hri; rw [if_pos rfl, if_neg (by omega), if_pos rfl]
        · rw [if_neg hri, if_neg hri, if_neg hri])
      have hlen1 : i * 1 + 1 ≤ ((List.range n).map fun r => AV.arr (1 + r) (lstN G H m i j r).length).length := by simp; omega
      have happ : rtsC ((nrmR G H i j).map rR) ++ rtC z = rtsC ((nrmR G H i (j + 1)).map rR) := by rw [nrmR_succ, List.map_append, hz]; simp [rtsC]
      have hnz : sub true 3 (rtC z) 0 = some (.agg (rtC z)) := rfl
      rw [nrmR_len] at hst2 hfill
      clear hK2 hst hsum xl xp hz
      generalize hKK : K ++ [(⟨true, 59, 3, 0, 1, rtC z, false⟩ : AObj)] = K2 at *
      generalize (List.range n).map (fun r => AV.arr (1 + r) (lstN G H m i j r).length) = CS at *
      generalize rtsC ((nrmR G H i (j + 1)).map rR) = rows' at *
      have y1 : (j + 1) * 56 ≤ 140737488355328 := by omega
      have y2 : j + 1 ≤ 140737488355328 := by omega
      simp only [rtC3, us32] at happ hnz xl2
      simp only [k98_0, gridG, gridX, go_sem, mapIA, hi', hi0, b1, b2, r1, xl2, hnz, hcs, Int.toNat_natCast, List.flatten_cons, List.flatten_nil, Option.getD_some, y1, y2, happ, hlen1, hfill]
      simp only [k98_1, go_sem, hj1]
      exact loopQ_go rfl (m - (j + 1)) (by omega) ⟨j + 1, _, by omega, rfl, hst2, rfl⟩
    · obtain rfl : j = m := by omega
      simp only [b98_1, k98_2, gridG, gridX, go_sem, Int.lt_irrefl, hi1]
      refine loopQ_go rfl (n - (i + 1)) (by omega) ⟨i + 1, K, by omega, rfl, hKN.congr (fun r hr => ?_), rfl⟩
      unfold lstN
      by_cases h1 : r < i
      · rw [if_pos h1, if_pos (by omega)]
      · rw [if_neg h1]
        by_cases h2 : r = i
        · subst h2; rw [if_pos rfl, if_pos (by omega)]
        · rw [if_neg h2, if_neg (by omega)]
          simp [nrmR]
  · obtain rfl : i = n := by omega
    have hsn := own_grid (hKN.congr (L' := fun i => nrmR G H i m) (fun r hr => by unfold lstN; rw [if_pos hr]))
    simp only [b98_0, k98_3, gridG, gridX, go_sem, Int.lt_irrefl]
    exact ⟨rfl, hsn⟩
theorem c98_X (hR : Rep W H) (hGH : H.length = G.length) (hG : ∀ r ∈ G, n ≤ r.length) (hH : ∀ r ∈ H, m ≤ r.length) (hGs : ∀ r ∈ G, ∀ a ∈ r, Sz e a) (hHs : ∀ r ∈ H, ∀ a ∈ r, Sz e a) (hK : G.length ≤ 4096) (hn0 : 0 < n → 0 < G.length) (hn : n ≤ 4096) (hm : m ≤ 4096) (he : (2 * e + 1) * (G.length + 1) ≤ 30000000) :
    Go.V.Call tab E 98 [gridG G, gridX W, .int .i64 n, .int .i64 m] [] (.arr n 0) (gridM n fun i => nrmR G H i m) := by
  refine Go.V.Call.mach i98 c98 rfl rfl rfl rfl ?_
  have hloop := fun (M : List AObj) (env : Env) => c98_loop (G := G) (H := H) (n := n) (m := m) (e := e) (M := M) (env := env) hR hGH hG hH hGs hHs hK hn0 hn hm he
  have had : ∀ M : List AObj, adopt (List.replicate n (.nilsl 59 3)) M = ((List.range n).map fun i => AV.arr (M.length + i) 0, M ++ List.replicate n ⟨false, 59, 3, 0, 0, [], false⟩) := fun M => adopt_rep
  have z0 : (0 : Int) ≤ (n : Int) := by omega
  have z1 : 24 * n ≤ 140737488355328 := by omega
  have z2 : (n : Int) ≤ 140737488355328 := by omega
  have hnew := NSt.new (M := [⟨true, 26, 1, 0, 0, [], false⟩]) (n := n)
  have key : ∀ env, getE env 0 = gridG G → getE env 1 = gridX W → getE env 3 = .int .i64 m → getE env 9 = .arr (n + 1) 0 → getE env 17 = .int .i64 n → getE env 18 = .int .i64 0 →
      Mach (Go.V.Call tab E) (Go.V.Fin i98 [] (.arr n 0) (gridM n fun i => nrmR G H i m)) [.code (.loop [0, 1, 3, 9, 17, 18] none b98_0), .endb 0, .code k98_3] .nrm
        ⟨env, ⟨true, 26, 1, 0, 0, [], false⟩ :: (List.replicate n ⟨false, 59, 3, 0, 0, [], false⟩ ++ [⟨true, 26, 1, 0, n, (List.range n).map fun i => AV.arr (1 + i) 0, false⟩])⟩ := fun env e0 e1 e3 e9 e17 e18 =>
    hloop _ _ hnew e0 e1 e3 (by rw [e9, Nat.add_comm]) e17 e18
  have hbx : ∀ a : AObj, (a :: (List.replicate n (⟨false, 59, 3, 0, 0, [], false⟩ : AObj) ++ [⟨true, 26, 1, 0, n, (List.range n).map fun i => AV.arr (1 + i) 0, false⟩]))[n + 1]? = some ⟨true, 26, 1, 0, n, (List.range n).map fun i => AV.arr (1 + i) 0, false⟩ := fun a => by
    rw [List.getElem?_cons_succ, List.getElem?_append_right (by simp)]
    simp
  have hlr : (List.replicate n (⟨false, 59, 3, 0, 0, [], false⟩ : AObj)).length = n := List.length_replicate
  clear hloop hnew
  simp only [gridG, gridX] at key
  simp only [c98, gridG, gridX, go_sem, mapIA, had, z0, z1, z2, Int.toNat_natCast, hbx, hlr, Nat.zero_add]
  exact key _ rfl rfl rfl rfl rfl rfl
theorem c98_ok (hGH : H.length = G.length) (hG : ∀ r ∈ G, n ≤ r.length) (hH : ∀ r ∈ H, m ≤ r.length) (hGs : ∀ r ∈ G, ∀ a ∈ r, Sz e a) (hHs : ∀ r ∈ H, ∀ a ∈ r, Sz e a) (hK : G.length ≤ 4096) (hn0 : 0 < n → 0 < G.length) (hn : n ≤ 4096) (hm : m ≤ 4096) (he : (2 * e + 1) * (G.length + 1) ≤ 30000000) :
    Go.V.Call tab E 98 [gridG G, gridG H, .int .i64 n, .int .i64 m] [] (.arr n 0) (gridM n fun i => nrmR G H i m) := by
  have := c98_X (Rep.self (H := H)) hGH hG hH hGs hHs hK hn0 hn hm he
  rwa [gridX_self] at this
end
def bxC (n : Nat) (f : Nat → Nat) : List AV := (List.range n).map fun i => .arr (f i) 0
structure Two (M : List AObj) (n ba bb : Nat) (ia ib : Nat → Nat) (s : Gd × Gd) : Prop where
  bA : M[ba]? = some ⟨true, 26, 1, 0, n, bxC n ia, false⟩
  bB : M[bb]? = some ⟨true, 26, 1, 0, n, bxC n ib, false⟩
  rA : ∀ i, i < n → M[ia i]? = some (rO (s.1 i))
  rB : ∀ i, i < n → M[ib i]? = some (rO (s.2 i))
  iA : ∀ i j, i < n → j < n → ia i = ia j → i = j
  iB : ∀ i j, i < n → j < n → ib i = ib j → i = j
  iAB : ∀ i j, i < n → j < n → ia i ≠ ib j
  bn : ba ≠ bb
section
variable {M : List AObj} {n ba bb : Nat} {ia ib : Nat → Nat} {s : Gd × Gd}
theorem Two.ne_box (h : Two M n ba bb ia ib s) {i : Nat} (hi : i < n) : ia i ≠ ba ∧ ia i ≠ bb ∧ ib i ≠ ba ∧ ib i ≠ bb := by
  have k : ∀ {p q : Nat} {l : List Rat} {f : Nat → Nat}, M[p]? = some (rO l) → M[q]? = some ⟨true, 26, 1, 0, n, bxC n f, false⟩ → p ≠ q := fun h1 h2 e => by
    subst e
    rw [h1] at h2
    have := congrArg AObj.box (Option.some.inj h2)
    simp [rO] at this
  exact ⟨k (h.rA i hi) h.bA, k (h.rA i hi) h.bB, k (h.rB i hi) h.bA, k (h.rB i hi) h.bB⟩
theorem lt_of {α : Type} {l : List α} {i : Nat} {a : α} (h : l[i]? = some a) : i < l.length := (List.getElem?_eq_some_iff.1 h).1
theorem Two.app (h : Two M n ba bb ia ib s) {G : List AObj} : Two (M ++ G) n ba bb ia ib s :=
  ⟨by rw [List.getElem?_append_left (lt_of h.bA)]; exact h.bA, by rw [List.getElem?_append_left (lt_of h.bB)]; exact h.bB,
   fun i hi => by rw [List.getElem?_append_left (lt_of (h.rA i hi))]; exact h.rA i hi, fun i hi => by rw [List.getElem?_append_left (lt_of (h.rB i hi))]; exact h.rB i hi, h.iA, h.iB, h.iAB, h.bn⟩
theorem Two.congr (h : Two M n ba bb ia ib s) {s' : Gd × Gd} (h1 : ∀ i, i < n → s.1 i = s'.1 i) (h2 : ∀ i, i < n → s.2 i = s'.2 i) : Two M n ba bb ia ib s' :=
  ⟨h.bA, h.bB, fun i hi => by rw [← h1 i hi]; exact h.rA i hi, fun i hi => by rw [← h2 i hi]; exact h.rB i hi, h.iA, h.iB, h.iAB, h.bn⟩
theorem Two.setA (h : Two M n ba bb ia ib s) {r : Nat} (hr : r < n) {l : List Rat} : Two (M.set (ia r) (rO l)) n ba bb ia ib (updL s.1 r l, s.2) := by
  obtain ⟨n1, n2, _, _⟩ := h.ne_box hr
  refine ⟨by rw [List.getElem?_set_ne n1]; exact h.bA, by rw [List.getElem?_set_ne n2]; exact h.bB, fun i hi => ?_, fun i hi => ?_, h.iA, h.iB, h.iAB, h.bn⟩
  · by_cases hir : i = r
    · subst hir
      rw [List.getElem?_set_self (lt_of (h.rA i hi))]
      simp [updL]
    · rw [List.getElem?_set_ne (fun e => hir (h.iA i r hi hr e.symm))]
      simp only [updL, if_neg hir]
      exact h.rA i hi
  · rw [List.getElem?_set_ne (h.iAB r i hr hi)]
    exact h.rB i hi
theorem Two.setB (h : Two M n ba bb ia ib s) {r : Nat} (hr : r < n) {l : List Rat} : Two (M.set (ib r) (rO l)) n ba bb ia ib (s.1, updL s.2 r l) := by
  obtain ⟨_, _, n1, n2⟩ := h.ne_box hr
  refine ⟨by rw [List.getElem?_set_ne n1]; exact h.bA, by rw [List.getElem?_set_ne n2]; exact h.bB, fun i hi => ?_, fun i hi => ?_, h.iA, h.iB, h.iAB, h.bn⟩
  · rw [List.getElem?_set_ne (fun e => h.iAB i r hi hr e.symm)]
    exact h.rA i hi
  · by_cases hir : i = r
    · subst hir
      rw [List.getElem?_set_self (lt_of (h.rB i hi))]
      simp [updL]
    · rw [List.getElem?_set_ne (fun e => hir (h.iB i r hi hr e.symm))]
      simp only [updL, if_neg hir]
      exact h.rB i hi
def SameB (d : Nat) (M K : List AObj) : Prop := ∀ k, k < d → K[k]? = M[k]?
theorem SameB.refl {d : Nat} {M : List AObj} : SameB d M M := fun _ _ => rfl
theorem SameB.set {d p : Nat} {M K : List AObj} {o : AObj} (h : SameB d M K) (hp : d ≤ p) : SameB d M (K.set p o) := fun k hk => by rw [List.getElem?_set_ne (by omega)]; exact h k hk
theorem SameB.app {d : Nat} {M K G : List AObj} (h : SameB d M K) (hd : d ≤ K.length) : SameB d M (K ++ G) := fun k hk => by rw [List.getElem?_append_left (by omega)]; exact h k hk
def swI (f : Nat → Nat) (c p : Nat) : Nat → Nat := fun r => if r = c then f p else if r = p then f c else f r
theorem bxC_swap {f : Nat → Nat} {c p : Nat} (hc : c < n) (hp : p < n) : ((bxC n f).set c (.arr (f p) 0)).set p (.arr (f c) 0) = bxC n (swI f c p) := by
  apply List.ext_getElem?
  intro r
  by_cases hr : r < n
  · by_cases h1 : r = p
    · subst h1
      rw [List.getElem?_set_self (by simp [bxC]; exact hr)]
      simp only [bxC, List.getElem?_map, List.getElem?_range hr, Option.map_some, swI]
      by_cases h2 : r = c
      · subst h2; simp only [if_true]
      · simp only [if_neg h2, if_true]
    · rw [List.getElem?_set_ne (fun e => h1 e.symm)]
      by_cases h2 : r = c
      · subst h2
        rw [List.getElem?_set_self (by simp [bxC]; exact hr)]
        simp only [bxC, List.getElem?_map, List.getElem?_range hr, Option.map_some, swI, if_true]
      · rw [List.getElem?_set_ne (fun e => h2 e.symm)]
        simp only [bxC, List.getElem?_map, List.getElem?_range hr, Option.map_some, swI, if_neg h1, if_neg h2]
  · rw [List.getElem?_eq_none (by simp [bxC]; omega), List.getElem?_eq_none (by simp [bxC]; omega)]
theorem swI_inj {f : Nat → Nat} {c p : Nat} (hc : c < n) (hp : p < n) (h : ∀ i j, i < n → j < n → f i = f j → i = j) : ∀ i j, i < n → j < n → swI f c p i = swI f c p j → i = j := fun i j hi hj e => by
  unfold swI at e
  split at e <;> split at e <;> (try split at e) <;> (try split at e) <;> first | omega | (have := h _ _ (by assumption) (by assumption) e; omega)
theorem swI_in {f : Nat → Nat} {c p i : Nat} (hc : c < n) (hp : p < n) (hi : i < n) : ∃ k, k < n ∧ swI f c p i = f k := by
  unfold swI
  split
  · exact ⟨p, hp, rfl⟩
  · split
    · exact ⟨c, hc, rfl⟩
    · exact ⟨i, hi, rfl⟩
theorem Two.swap (h : Two M n ba bb ia ib s) {c p : Nat} (hc : c < n) (hp : p < n) :
    Two ((M.set ba ⟨true, 26, 1, 0, n, bxC n (swI ia c p), false⟩).set bb ⟨true, 26, 1, 0, n, bxC n (swI ib c p), false⟩) n ba bb (swI ia c p) (swI ib c p) (swA s.1 c p, swA s.2 c p) := by
  have kA : ∀ i, i < n → M[swI ia c p i]? = some (rO (swA s.1 c p i)) := fun i hi => by
    unfold swI swA
    split
    · exact h.rA p hp
    · split
      · exact h.rA c hc
      · exact h.rA i hi
  have kB : ∀ i, i < n → M[swI ib c p i]? = some (rO (swA s.2 c p i)) := fun i hi => by
    unfold swI swA
    split
    · exact h.rB p hp
    · split
      · exact h.rB c hc
      · exact h.rB i hi
  refine ⟨?_, ?_, fun i hi => ?_, fun i hi => ?_, swI_inj hc hp h.iA, swI_inj hc hp h.iB, fun i j hi hj => ?_, h.bn⟩
  · rw [List.getElem?_set_ne (fun e => h.bn e.symm), List.getElem?_set_self (lt_of h.bA)]
  · rw [List.getElem?_set_self (by rw [List.length_set]; exact lt_of h.bB)]
  · obtain ⟨k, hk, e⟩ := swI_in (f := ia) hc hp hi
    obtain ⟨n1, n2, _, _⟩ := h.ne_box hk
    rw [List.getElem?_set_ne (by rw [e]; exact fun e => n2 e.symm), List.getElem?_set_ne (by rw [e]; exact fun e => n1 e.symm)]
    exact kA i hi
  · obtain ⟨k, hk, e⟩ := swI_in (f := ib) hc hp hi
    obtain ⟨_, _, n1, n2⟩ := h.ne_box hk
    rw [List.getElem?_set_ne (by rw [e]; exact fun e => n2 e.symm), List.getElem?_set_ne (by rw [e]; exact fun e => n1 e.symm)]
    exact kB i hi
  · obtain ⟨k, hk, e⟩ := swI_in (f := ia) hc hp hi
    obtain ⟨l, hl, e'⟩ := swI_in (f := ib) hc hp hj
    rw [e, e']
    exact h.iAB k l hk hl
theorem sub_bx {f : Nat → Nat} {i : Nat} (hi : i < n) : sub false 1 (bxC n f) (i * 1) = some (.arr (f i) 0) := by
  simp only [sub, bxC, List.length_map, List.length_range, Nat.mul_one, Bool.false_eq_true, if_false, if_true]
  rw [if_pos (by omega)]
  simp [hi]
theorem bxC_len {f : Nat → Nat} : (bxC n f).length = n := by simp [bxC]
theorem c99_piv {c m : Nat} {env : Env} {Q : X → St → Prop} {ks : List Go.V.Item} (h : Two M n ba bb ia ib s) (hl : Lens n m s) (hc : c < n) (hn : n ≤ 4096) {p0 : Nat} (hp0 : p0 ≤ n)
    (e0 : getE env 0 = .arr ba 0) (e1 : getE env 1 = .arr bb 0) (e5 : getE env 5 = .int .i64 c) (e6 : getE env 6 = .int .i64 p0) (e13 : getE env 13 = .int .i64 n) (e14 : getE env 14 = .int .i64 c)
    (hgo : Mach (Go.V.Call tab E) Q ks .nrm ⟨[(0, .arr ba 0), (1, .arr bb 0), (5, .int .i64 c), (6, .int .i64 (pvt s.1 c (n - p0) p0)), (13, .int .i64 n), (14, .int .i64 c), (32, .bool false)], M⟩) :
    Mach (Go.V.Call tab E) Q (.code (.loop [0, 1, 5, 6, 13, 14] none b99_1) :: .endb 2 :: ks) .nrm ⟨env, M⟩ := by
  have hbA := h.bA
  refine mLoop (fun N st => ∃ p : Nat, p ≤ n ∧ N = n - p ∧ pvt s.1 c (n - p) p = pvt s.1 c (n - p0) p0 ∧ st = ⟨[(0, .arr ba 0), (1, .arr bb 0), (5, .int .i64 c), (6, .int .i64 p), (13, .int .i64 n), (14, .int .i64 c)], M⟩) (n - p0)
    ⟨_, rfl, p0, hp0, rfl, rfl, by simp only [List.map_cons, List.map_nil, e0, e1, e5, e6, e13, e14]⟩ ?_
  rintro N s0 ⟨p, hp, rfl, hpv, rfl⟩
  by_cases hpn : p < n
  · have hp' : (p : Int) < (n : Int) := by omega
    have hp00 : (0 : Int) ≤ (p : Int) := by omega
    have hc0 : (0 : Int) ≤ (c : Int) := by omega
    have hp1 : IntKind.i64.wrap ((p : Int) + 1) = ((p + 1 : Nat) : Int) := by rw [wrap_i64 (by omega) (by omega)]; omega
    have hrow := h.rA p hpn
    have hlen := (hl p hpn).1
    have hcl : (c : Int) < ((s.1 p).length : Int) := by omega
    have g1 := sub_bx (n := n) (f := ia) hpn
    have g2 := sub_rR (l := s.1 p) (i := c) (by omega)
    have eE : (s.1 p).getD c 0 = en s.1 p c := rfl
    rw [eE] at g2
    have h129 := c129_ok (r := en s.1 p c)
    have hsg := sgZ_num (r := en s.1 p c)
    have hpvt : pvt s.1 c (n - p) p = if en s.1 p c = 0 then pvt s.1 c (n - (p + 1)) (p + 1) else p := by
      rw [show n - p = (n - (p + 1)) + 1 by omega, pvt]
    simp only [rO_eq] at hrow
    by_cases h0 : en s.1 p c = 0
    · rw [decide_eq_true h0] at hsg
      rw [if_pos h0] at hpvt
      simp only [rtC3, us32] at g2 h129
      simp only [b99_1, go_sem, FL, hbA, hp', hp00, hc0, g1, hrow, hcl, g2, Int.toNat_natCast, us32]
      refine goR h129 rfl ?_
      simp only [go_sem, hsg, hp1]
      exact loopQ_go rfl (n - (p + 1)) (by omega) ⟨p + 1, by omega, rfl, by rw [← hpv, hpvt], rfl⟩
    · rw [decide_eq_false h0] at hsg
      rw [if_neg h0, hpv] at hpvt
      rw [hpvt] at hgo
      simp only [rtC3, us32] at g2 h129
      simp only [b99_1, go_sem, FL, hbA, hp', hp00, hc0, g1, hrow, hcl, g2, Int.toNat_natCast, us32]
      refine goR h129 rfl ?_
      simp only [go_sem, hsg]
      exact hgo
  · obtain rfl : p = n := by omega
    have hpp : pvt s.1 c (p - p0) p0 = p := by rw [← hpv, Nat.sub_self]; rfl
    rw [hpp] at hgo
    simp only [b99_1, go_sem, hbA, Int.lt_irrefl]
    exact hgo
end
end Go.Proofs.Ytlejgleocnemoaa.I
