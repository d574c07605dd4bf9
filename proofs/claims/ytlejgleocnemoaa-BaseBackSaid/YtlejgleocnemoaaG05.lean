/- The texts L01i L01j L01k L01l L01m L01d L01n L01o L01p L01q L03a L07b L07f L06e L03b L06f L06h, one behind the other. Conditions: each text's own. -/
import Derived.Test.YtlejgleocnemoaaG04
import Derived.Lib.Strings
set_option linter.unusedSimpArgs false
set_option linter.unusedVariables false
namespace Go.Proofs.Ytlejgleocnemoaa.I
open Go Go.V
attribute [local go_sem_proc ↓] reduceIte
attribute [local go_sem_proc] Nat.reduceEqDiff Nat.reduceAdd Nat.reduceMul Nat.reduceLeDiff Nat.reduceLT Int.reduceToNat Int.reduceLT Int.reduceLE reduceCtorEq Nat.reduceBEq
attribute [local go_sem] mNil nat0 beq_self_eq_true mSkip mRet mExit mReg mSeq mCond mTrue mFalse mBlock mLv mCodeE mCodeR mEndN mEndR mEndE mOps mSome mGuard mGtt mGff mGtf mGft mGu mCallP mCallR mCallF mCallO mCallZ mCallG mCallM mCallV loopQ_exit loopQ_ret mO_mov mO_newnil mO_pick mO_alloc mO_box mO_build mO_bsl mO_bslF mO_newnilB mO_bslB mO_lenB mO_appB mO_allocA mO_bslA mO_appA mO_ldb mO_faddrb mRsv mO_ldf mO_ld mO_st mO_sta mO_nilchk mO_bin mO_binb mO_binp mO_bins mO_neg mO_com mO_not mO_conv mO_mk mO_mk0 mO_s2b mO_b2s mO_cpy mO_cut mO_faddr mO_fld mO_iaddr mO_iaddrf mO_sidx mO_len mO_lenf mO_slen mO_scut mO_app mO_ext mO_mx mO_mn mO_mkfn evalOp cutOp argsE ev getE putE cellsOf adopt rowOf binV boolV nilV ar_add ar_sub ar_mul ar_quo ar_rem ar_eq ar_ne ar_lt ar_le ar_gt ar_ge ar_and ar_or ar_xor geto bound finRet finNrm ints List.length_cons List.length_nil List.length_append List.getElem?_cons_zero List.getElem?_cons_succ List.nil_append List.cons_append List.map_cons List.map_nil List.mapM_cons List.mapM_nil Option.map_some Option.map_none Option.bind_some Option.pure_def Option.bind_eq_bind List.drop_zero or_self or_false false_or or_true true_or true_and and_true and_self decide_true decide_false Bool.false_eq_true Bool.true_eq_false Bool.not_true Bool.not_false Nat.le_refl eq_self gt_iff_lt ge_iff_le ne_eq not_true_eq_false not_false_eq_true storeOp apartOf freeze_nil refsL refs List.flatMap_cons List.flatMap_nil List.append_nil List.contains_nil List.set_cons_zero List.set_cons_succ snap snapL fill_nums flat_nums nums_length Go.V.freeze List.mapIdx_cons List.mapIdx_nil List.contains_cons Bool.or_false Bool.false_or Bool.or_true Bool.true_or
theorem getD_big {l : List Int} {k : Nat} (h : l.length ≤ k) : l.getD k 0 = 0 := by
  rw [List.getD_eq_getElem?_getD, List.getElem?_eq_none h]; rfl
theorem nval_take_succ' {l : List Int} {k : Nat} : nval (l.take (k + 1)) = nval (l.take k) + 4294967296 ^ k * (l.getD k 0).toNat := by
  by_cases h : k < l.length
  · exact nval_take_succ h
  · rw [getD_big (by omega), List.take_of_length_le (by omega), List.take_of_length_le (by omega)]; simp
section
variable {E : CallRel}
theorem c151_ok {a b : Nat} (ha : (limG a).length ≤ 1000000) (hb : (limG b).length ≤ 1000000) : Go.V.Call tab E 151 [natC a, natC b] [] (natC (a + b)) [] := by
  refine Go.V.Call.mach i151 c151 rfl rfl rfl rfl ?_
  have hRa := R32_limG (n := a)
  have hRb := R32_limG (n := b)
  have ea := nval_limG (n := a)
  have eb := nval_limG (n := b)
  simp only [natC]
  generalize limG a = A at *
  generalize limG b = C at *
  have hsw : ∃ X Y : List Int, Y.length ≤ X.length ∧ X.length ≤ 1000000 ∧ R32 X ∧ R32 Y ∧ nval X + nval Y = a + b ∧ ((A.length < C.length ∧ X = C ∧ Y = A) ∨ (¬ A.length < C.length ∧ X = A ∧ Y = C)) := by
    by_cases h : A.length < C.length
    · exact ⟨C, A, by omega, hb, hRb, hRa, by omega, .inl ⟨h, rfl, rfl⟩⟩
    · exact ⟨A, C, by omega, ha, hRa, hRb, by omega, .inr ⟨h, rfl, rfl⟩⟩
  obtain ⟨X, Y, hYX, hXl, hRX, hRY, hsum, hsw⟩ := hsw
  obtain ⟨m, hm⟩ : ∃ m, m = X.length + 1 := ⟨_, rfl⟩
  have w0 : IntKind.i64.wrap ((X.length : Int) + 1) = (m : Int) := by rw [wrap_i64 (by omega) (by omega)]; omega
  have b1 : (0 : Int) ≤ (m : Int) := by omega
  have b2 : 4 * m ≤ 140737488355328 := by omega
  have b3 : (m : Int) ≤ 140737488355328 := by omega
  rcases hsw with ⟨h, hX, hY⟩ | ⟨h, hX, hY⟩
  all_goals
    first | (have h' : (A.length : Int) < (C.length : Int) := by omega) | (have h' : ¬ (A.length : Int) < (C.length : Int) := by omega)
    rw [hX] at w0
    simp only [c151, us32, go_sem, subB1, subT1, fillAll, fillIn, shiftR, shiftV, List.take_succ_cons, List.take_zero, List.drop_succ_cons, List.drop_zero, List.append_nil, Nat.zero_add, h', w0, b1, b2, b3, Int.toNat_natCast, flat_nums]
    refine mLoop (fun N st => ∃ (i : Nat) (L : List Int) (c : Nat), i ≤ X.length ∧ N = X.length - i ∧ L.length = m ∧ R32 L ∧ c ≤ 1 ∧ (∀ j, i ≤ j → L.getD j 0 = 0) ∧ nval L + 4294967296 ^ i * c = nval (X.take i) + nval (Y.take i) ∧
      st = ⟨[(4, .loc 3 0 0), (5, us32 X), (6, us32 Y), (7, .arr 4 0), (8, .int .u32 c), (27, .int .i64 X.length), (28, .int .i64 i)],
        [⟨true, 55, 1, 0, 1, [us32 A], false⟩, ⟨true, 55, 1, 0, 1, [us32 C], false⟩, ⟨false, 154, 1, 0, 0, [], false⟩, ⟨true, 55, 1, 0, 1, [.arr 2 0], false⟩, ⟨false, 154, 1, 0, m, nums .u32 L, false⟩]⟩) X.length
      ⟨_, rfl, 0, List.replicate m 0, 0, by omega, by omega, by simp, R32_zeros, by omega, fun j _ => zeros_get, by rw [nval_zeros]; simp [nval], by rw [hX, hY]; simp [getE, us32]⟩ ?_
    rintro N s0 ⟨i, L, c, hi, rfl, hL, hR', hc, hz, hv, rfl⟩
    by_cases hiX : i < X.length
    · have hi' : (i : Int) < (X.length : Int) := by omega
      have hi0 : (0 : Int) ≤ (i : Int) := by omega
      have him : (i : Int) < (m : Int) := by omega
      have hi1 : IntKind.i64.wrap ((i : Int) + 1) = ((i + 1 : Nat) : Int) := by rw [wrap_i64 (by omega) (by omega)]; omega
      have hsx := sub_nums (k := .u32) hiX
      have hxr := R32_get hRX i
      have hyr := R32_get hRY i
      have htx := nval_take_succ' (l := X) (k := i)
      have hty := nval_take_succ' (l := Y) (k := i)
      obtain ⟨x, hx⟩ := Int.eq_ofNat_of_zero_le hxr.1
      obtain ⟨y, hy⟩ := Int.eq_ofNat_of_zero_le hyr.1
      rw [hx] at hsx hxr htx
      rw [hy] at hyr hty
      simp only [Int.toNat_natCast] at htx hty
      have h144 := c158_ok (E := E) (x := x) (y := y) (c := c) (by omega) (by omega) hc
      have hdm := Nat.div_add_mod (x + y + c) 4294967296
      have hml := Nat.mod_lt (x + y + c) (show 0 < 4294967296 by omega)
      have hq : (x + y + c) / 4294967296 ≤ 1 := by omega
      have hst : x + y + c = 4294967296 * ((x + y + c) / 4294967296) + (x + y + c) % 4294967296 := hdm.symm
      generalize (x + y + c) / 4294967296 = c' at *
      generalize (x + y + c) % 4294967296 = lo at *
      have t1 : i * 1 + 1 ≤ L.length := by omega
      have p1 := put_nval (l := L) (k := i) (v := (lo : Int)) (by omega)
      rw [hz i (by omega)] at p1
      simp only [Int.toNat_natCast, Int.toNat_zero, Nat.mul_zero, Nat.add_zero] at p1
      have inv : nval (put L i (lo : Int)) + 4294967296 ^ (i + 1) * c' = nval (X.take (i + 1)) + nval (Y.take (i + 1)) := by
        rw [p1, htx, hty, Nat.pow_succ, Nat.mul_assoc]
        generalize 4294967296 ^ i = P at *
        have e1 : P * (x + y + c) = P * (4294967296 * c' + lo) := by rw [hst]
        simp only [Nat.mul_add] at e1
        omega
      have fin : (put L i (lo : Int)).length = m ∧ R32 (put L i (lo : Int)) ∧ (∀ j, i + 1 ≤ j → (put L i (lo : Int)).getD j 0 = 0) := by
        refine ⟨by rw [put_len (by omega), hL], put_R32 hR' (by omega), fun j hj => ?_⟩
        rw [put_get (by omega), if_neg (by omega)]
        exact hz j (by omega)
      obtain ⟨f1, f2, f3⟩ := fin
      by_cases hiY : i < Y.length
      · have hiY' : (i : Int) < (Y.length : Int) := by omega
        have hsy := sub_nums (k := .u32) hiY
        rw [hy] at hsy
        simp only [b151_0, us32, go_sem, subB1, hi', hi0, hiY', hsx, hsy, Int.toNat_natCast]
        refine goP h144 ?_
        simp only [us32, go_sem, hi0, him, Int.toNat_natCast, t1, hi1]
        exact loopQ_go rfl (X.length - (i + 1)) (by omega) ⟨i + 1, put L i (lo : Int), c', by omega, rfl, f1, f2, hq, f3, inv, rfl⟩
      · have hiY' : ¬ (i : Int) < (Y.length : Int) := by omega
        have hy0 : y = 0 := by
          have := getD_big (l := Y) (k := i) (by omega)
          omega
        subst hy0
        simp only [b151_0, us32, go_sem, subB1, hi', hi0, hiY', hsx, Int.toNat_natCast]
        refine goP h144 ?_
        simp only [us32, go_sem, hi0, him, Int.toNat_natCast, t1, hi1]
        exact loopQ_go rfl (X.length - (i + 1)) (by omega) ⟨i + 1, put L i (lo : Int), c', by omega, rfl, f1, f2, hq, f3, inv, rfl⟩
    · have hn' : ¬ (i : Int) < (X.length : Int) := by omega
      obtain rfl : i = X.length := by omega
      have hn0 : (0 : Int) ≤ (X.length : Int) := by omega
      have him : (X.length : Int) < (m : Int) := by omega
      have t1 : X.length * 1 + 1 ≤ L.length := by omega
      have p1 := put_nval (l := L) (k := X.length) (v := (c : Int)) (by omega)
      rw [hz X.length (by omega)] at p1
      simp only [Int.toNat_natCast, Int.toNat_zero, Nat.mul_zero, Nat.add_zero] at p1
      rw [List.take_length, List.take_of_length_le hYX, hsum] at hv
      have hR2 := put_R32 (l := L) (k := X.length) (v := (c : Int)) hR' (by omega)
      have hl2 : m = (put L X.length (c : Int)).length := by rw [put_len (by omega), hL]
      have h114 := c139_ok (E := E) (l := put L X.length (c : Int)) (by omega)
      rw [trimL_limG hR2, p1, hv] at h114
      simp only [b151_0, k151_0, us32, go_sem, hn', hn0, him, t1, Int.toNat_natCast]
      rw [hl2]
      refine goF h114 ?_
      simp only [us32, go_sem, fillAll, fillIn, shiftR, shiftV, List.take_succ_cons, List.take_zero, List.drop_succ_cons, List.drop_zero, List.append_nil, Nat.zero_add]
      simp only [i151, Out, resAll, geto, ints, List.getElem?_cons_zero, List.getElem?_cons_succ, resOf, outOf, snap, snapL, ev, getE, List.mapM_cons, List.mapM_nil, Option.bind_some, Option.pure_def, Option.bind_eq_bind, Option.map_some, reduceIte, Nat.reduceEqDiff, true_and, and_true, sub, fillAll, fillIn, shiftR, shiftV, List.take_succ_cons, List.take_zero, List.drop_succ_cons, List.drop_zero, List.append_nil, Nat.zero_add, List.length_cons, List.length_nil, Nat.le_refl, us32]
theorem c137_ok {a b : Nat} (ha : (limG a).length ≤ 1000000) (hb : (limG b).length ≤ 1000000) : Go.V.Call tab E 137 [natC a, natC b] [] (natC (a * b)) [] := by
  refine Go.V.Call.mach i137 c137 rfl rfl rfl rfl ?_
  have hRa := R32_limG (n := a)
  have hRb := R32_limG (n := b)
  have ea := nval_limG (n := a)
  have eb := nval_limG (n := b)
  simp only [natC]
  generalize limG a = A at *
  generalize limG b = C at *
  obtain ⟨m, hm⟩ : ∃ m, m = A.length + C.length := ⟨_, rfl⟩
  have w0 : IntKind.i64.wrap ((A.length : Int) + (C.length : Int)) = (m : Int) := by rw [wrap_i64 (by omega) (by omega)]; omega
  have b1 : (0 : Int) ≤ (m : Int) := by omega
  have b2 : 4 * m ≤ 140737488355328 := by omega
  have b3 : (m : Int) ≤ 140737488355328 := by omega
  simp only [c137, us32, go_sem, subB1, subT1, fillAll, fillIn, shiftR, shiftV, List.take_succ_cons, List.take_zero, List.drop_succ_cons, List.drop_zero, List.append_nil, Nat.zero_add, w0, b1, b2, b3, Int.toNat_natCast, flat_nums]
  refine mLoop (fun N st => ∃ (i : Nat) (L : List Int), i ≤ A.length ∧ N = A.length - i ∧ L.length = m ∧ R32 L ∧ (∀ j, i + C.length ≤ j → L.getD j 0 = 0) ∧ nval L = nval (A.take i) * b ∧
    st = ⟨[(3, .loc 1 0 0), (4, .loc 3 0 0), (5, .arr 4 0), (21, us32 A), (22, .int .i64 A.length), (23, .int .i64 i)],
      [⟨true, 55, 1, 0, 1, [us32 A], false⟩, ⟨true, 55, 1, 0, 1, [us32 C], false⟩, ⟨false, 154, 1, 0, 0, [], false⟩, ⟨true, 55, 1, 0, 1, [.arr 2 0], false⟩, ⟨false, 154, 1, 0, m, nums .u32 L, false⟩]⟩) A.length
    ⟨_, rfl, 0, List.replicate m 0, by omega, by omega, by simp, R32_zeros, fun j _ => zeros_get, by rw [nval_zeros]; simp [nval], by simp [getE, us32]⟩ ?_
  rintro N s0 ⟨i, L, hi, rfl, hL, hR', hz, hv, rfl⟩
  by_cases hiA : i < A.length
  · have hi' : (i : Int) < (A.length : Int) := by omega
    have hi0 : (0 : Int) ≤ (i : Int) := by omega
    have hi1 : IntKind.i64.wrap ((i : Int) + 1) = ((i + 1 : Nat) : Int) := by rw [wrap_i64 (by omega) (by omega)]; omega
    have hsx := sub_nums (k := .u32) hiA
    have hxr := R32_get hRa i
    have htx := nval_take_succ' (l := A) (k := i)
    obtain ⟨x, hx⟩ := Int.eq_ofNat_of_zero_le hxr.1
    rw [hx] at hsx hxr htx
    rw [Int.toNat_natCast] at htx
    have hxl : x < 4294967296 := by omega
    have wx : IntKind.u64.wrap (x : Int) = (x : Int) := wrap_u64 (by omega) (by omega)
    simp only [b137_0, us32, go_sem, subB1, hi', hi0, hsx, Int.toNat_natCast]
    refine mLoop (fun N st => ∃ (j : Nat) (L' : List Int) (c : Nat), j ≤ C.length ∧ N = C.length - j ∧ L'.length = m ∧ R32 L' ∧ c < 4294967296 ∧ (∀ p, i + C.length ≤ p → L'.getD p 0 = 0) ∧ nval L' + 4294967296 ^ (i + j) * c = nval L + 4294967296 ^ i * (x * nval (C.take j)) ∧
      st = ⟨[(3, .loc 1 0 0), (4, .loc 3 0 0), (5, .arr 4 0), (6, .int .i64 i), (7, .int .u32 x), (8, .int .u64 c), (21, us32 A), (22, .int .i64 A.length), (23, .int .i64 i), (29, us32 C), (30, .int .i64 C.length), (31, .int .i64 j)],
        [⟨true, 55, 1, 0, 1, [us32 A], false⟩, ⟨true, 55, 1, 0, 1, [us32 C], false⟩, ⟨false, 154, 1, 0, 0, [], false⟩, ⟨true, 55, 1, 0, 1, [.arr 2 0], false⟩, ⟨false, 154, 1, 0, m, nums .u32 L', false⟩]⟩) C.length
      ⟨_, rfl, 0, L, 0, by omega, by omega, hL, hR', by omega, hz, by simp [nval], by simp [getE, us32]⟩ ?_
    rintro N s0 ⟨j, L', c, hj, rfl, hL', hR2, hc, hz', hv', rfl⟩
    by_cases hjC : j < C.length
    · have hj' : (j : Int) < (C.length : Int) := by omega
      have hj0 : (0 : Int) ≤ (j : Int) := by omega
      have hj1 : IntKind.i64.wrap ((j : Int) + 1) = ((j + 1 : Nat) : Int) := by rw [wrap_i64 (by omega) (by omega)]; omega
      have hij : IntKind.i64.wrap ((i : Int) + (j : Int)) = ((i + j : Nat) : Int) := by rw [wrap_i64 (by omega) (by omega)]; omega
      have hij0 : (0 : Int) ≤ ((i + j : Nat) : Int) := by omega
      have hijm : ((i + j : Nat) : Int) < (m : Int) := by omega
      have hsy := sub_nums (k := .u32) hjC
      have hso := sub_nums (k := .u32) (l := L') (i := i + j) (by omega)
      have hyr := R32_get hRb j
      have hor := R32_get hR2 (i + j)
      have hty := nval_take_succ' (l := C) (k := j)
      have p1 := fun v => put_nval (l := L') (k := i + j) (v := v) (by omega)
      obtain ⟨y, hy⟩ := Int.eq_ofNat_of_zero_le hyr.1
      obtain ⟨o, ho⟩ := Int.eq_ofNat_of_zero_le hor.1
      rw [hy] at hsy hyr hty
      rw [ho] at hso hor p1
      rw [Int.toNat_natCast] at hty
      have hyl : y < 4294967296 := by omega
      have hol : o < 4294967296 := by omega
      have wy : IntKind.u64.wrap (y : Int) = (y : Int) := wrap_u64 (by omega) (by omega)
      have wo : IntKind.u64.wrap (o : Int) = (o : Int) := wrap_u64 (by omega) (by omega)
      have hxy : x * y ≤ 4294967295 * 4294967295 := Nat.mul_le_mul (by omega) (by omega)
      have u1 : IntKind.u64.wrap ((x : Int) * (y : Int)) = ((x * y : Nat) : Int) := by
        rw [← Int.natCast_mul]
        exact wrap_u64 (by omega) (by omega)
      have u2 : IntKind.u64.wrap (((x * y : Nat) : Int) + (o : Int)) = ((x * y + o : Nat) : Int) := by rw [wrap_u64 (by omega) (by omega)]; omega
      have u3 : IntKind.u64.wrap (((x * y + o : Nat) : Int) + (c : Int)) = ((x * y + o + c : Nat) : Int) := by rw [wrap_u64 (by omega) (by omega)]; omega
      have hT : ∀ P : Nat, P * (x * y + o + c) = P * (x * y) + P * o + P * c := fun P => by rw [Nat.mul_add, Nat.mul_add]
      have hTl : x * y + o + c < 4294967296 * 4294967296 := by omega
      have hcc : 4294967296 ^ i * (x * nval (C.take (j + 1))) = 4294967296 ^ i * (x * nval (C.take j)) + 4294967296 ^ (i + j) * (x * y) := by
        rw [hty, Nat.mul_add, Nat.mul_add, Nat.pow_add]
        congr 1
        rw [Nat.mul_left_comm x, Nat.mul_assoc]
      generalize x * y + o + c = T at *
      have w2 : IntKind.u32.wrap (T : Int) = ((T % 4294967296 : Nat) : Int) := by rw [wrap_u32]; omega
      have w3 := shr32 (x := T)
      have hdm := Nat.div_add_mod T 4294967296
      have hq : T / 4294967296 < 4294967296 := by omega
      have hml : T % 4294967296 < 4294967296 := by omega
      generalize T / 4294967296 = c' at *
      generalize T % 4294967296 = lo at *
      have t1 : (i + j) * 1 + 1 ≤ L'.length := by omega
      have p2 := p1 (lo : Int)
      rw [Int.toNat_natCast, Int.toNat_natCast] at p2
      have inv : nval (put L' (i + j) (lo : Int)) + 4294967296 ^ (i + (j + 1)) * c' = nval L + 4294967296 ^ i * (x * nval (C.take (j + 1))) := by
        have e0 : 4294967296 ^ (i + (j + 1)) * c' = 4294967296 ^ (i + j) * (4294967296 * c') := by rw [← Nat.add_assoc, Nat.pow_succ, Nat.mul_assoc]
        rw [e0, hcc]
        have e1 := hT (4294967296 ^ (i + j))
        rw [← hdm, Nat.mul_add] at e1
        clear hT hcc hty htx p1
        generalize 4294967296 ^ (i + j) * (4294967296 * c') = Z1 at *
        generalize 4294967296 ^ (i + j) * lo = Z2 at *
        generalize 4294967296 ^ (i + j) * o = Z3 at *
        generalize 4294967296 ^ (i + j) * c = Z4 at *
        generalize 4294967296 ^ (i + j) * (x * y) = Z5 at *
        omega
      simp only [b137_1, us32, go_sem, subB1, hj', hj0, hj1, hij, hij0, hijm, hsy, hso, wx, wy, wo, u1, u2, u3, w2, w3, t1, Int.toNat_natCast]
      refine loopQ_go rfl (C.length - (j + 1)) (by omega) ⟨j + 1, put L' (i + j) (lo : Int), c', by omega, rfl, ?_, put_R32 hR2 (by omega), hq, ?_, inv, rfl⟩
      · rw [put_len (by omega), hL']
      · intro p hp
        rw [put_get (by omega), if_neg (by omega)]
        exact hz' p hp
    · have hj' : ¬ (j : Int) < (C.length : Int) := by omega
      obtain rfl : j = C.length := by omega
      have hij : IntKind.i64.wrap ((i : Int) + (C.length : Int)) = ((i + C.length : Nat) : Int) := by rw [wrap_i64 (by omega) (by omega)]; omega
      have hij0 : (0 : Int) ≤ ((i + C.length : Nat) : Int) := by omega
      have hijm : ((i + C.length : Nat) : Int) < (m : Int) := by omega
      have w2 : IntKind.u32.wrap (c : Int) = (c : Int) := by rw [wrap_u32]; omega
      have t1 : (i + C.length) * 1 + 1 ≤ L'.length := by omega
      have p1 := put_nval (l := L') (k := i + C.length) (v := (c : Int)) (by omega)
      rw [hz' _ (Nat.le_refl _), Int.toNat_zero, Int.toNat_natCast, Nat.mul_zero, Nat.add_zero] at p1
      rw [List.take_length, eb] at hv'
      have inv : nval (put L' (i + C.length) (c : Int)) = nval (A.take (i + 1)) * b := by
        rw [p1, hv', htx, Nat.add_mul, hv, Nat.mul_assoc]
      simp only [b137_1, k137_0, k137_1, us32, go_sem, subB1, hj', hi1, hij, hij0, hijm, w2, t1, Int.toNat_natCast]
      refine loopQ_go rfl (A.length - (i + 1)) (by omega) ⟨i + 1, put L' (i + C.length) (c : Int), by omega, rfl, ?_, put_R32 hR2 (by omega), ?_, inv, rfl⟩
      · rw [put_len (by omega), hL']
      · intro p hp
        rw [put_get (by omega), if_neg (by omega)]
        exact hz' p (by omega)
  · have hn' : ¬ (i : Int) < (A.length : Int) := by omega
    obtain rfl : i = A.length := by omega
    have h114 := c139_ok (E := E) (l := L) (by omega)
    rw [List.take_length, ea] at hv
    rw [trimL_limG hR', hv] at h114
    have hm2 : m = L.length := hL.symm
    simp only [b137_0, k137_2, us32, go_sem, hn', hm2]
    refine goF h114 ?_
    simp only [us32, go_sem, fillAll, fillIn, shiftR, shiftV, List.take_succ_cons, List.take_zero, List.drop_succ_cons, List.drop_zero, List.append_nil, Nat.zero_add]
    simp only [i137, Out, resAll, geto, ints, List.getElem?_cons_zero, List.getElem?_cons_succ, resOf, outOf, snap, snapL, ev, getE, List.mapM_cons, List.mapM_nil, Option.bind_some, Option.pure_def, Option.bind_eq_bind, Option.map_some, reduceIte, Nat.reduceEqDiff, true_and, and_true, sub, fillAll, fillIn, shiftR, shiftV, List.take_succ_cons, List.take_zero, List.drop_succ_cons, List.drop_zero, List.append_nil, Nat.zero_add, List.length_cons, List.length_nil, Nat.le_refl, us32]
end
theorem put_drop {l : List Int} {j i : Nat} {v : Int} (h : j + i ≤ l.length) : (put l (j + i) v).drop j = put (l.drop j) i v := by
  simp only [put]
  rw [List.drop_append_of_le_length (by rw [List.length_take]; omega), List.drop_take, List.drop_drop, Nat.add_sub_cancel_left, Nat.add_assoc]
theorem getD_dropD {l : List Int} {j i : Nat} : (l.drop j).getD i 0 = l.getD (j + i) 0 := by
  rw [List.getD_eq_getElem?_getD, List.getD_eq_getElem?_getD, List.getElem?_drop]
theorem nval_allzero : ∀ {l : List Int}, (∀ p, l.getD p 0 = 0) → nval l = 0
  | [], _ => rfl
  | x :: l, h => by
    have h0 : x = 0 := h 0
    rw [nval, nval_allzero (l := l) (fun p => h (p + 1)), h0]; rfl
theorem nval_short {l : List Int} {k : Nat} (hR : R32 l) (h : ∀ p, k ≤ p → l.getD p 0 = 0) : nval l < 4294967296 ^ k := by
  have h2 := nval_lt (R32_take hR k)
  by_cases hk : k ≤ l.length
  · have h1 := nval_split k hk
    rw [nval_allzero (l := l.drop k) (fun p => by rw [getD_dropD]; exact h _ (by omega)), Nat.mul_zero, Nat.add_zero] at h1
    rw [List.length_take, Nat.min_eq_left hk] at h2
    omega
  · have h1 := nval_lt hR
    exact Nat.lt_of_lt_of_le h1 (Nat.pow_le_pow_right (by omega) (by omega))
theorem short_nval {l : List Int} {k : Nat} (hR : R32 l) (h : nval l < 4294967296 ^ k) : ∀ p, k ≤ p → l.getD p 0 = 0 := by
  intro p hp
  by_cases hpl : p < l.length
  · have h1 := nval_drop hR p
    have h2 : 4294967296 ^ k ≤ 4294967296 ^ p := Nat.pow_le_pow_right (by omega) hp
    rw [Nat.div_eq_of_lt (by omega), getD_drop hpl, nval] at h1
    have := (R32_get hR p).1
    omega
  · exact getD_big (by omega)
theorem sub_nums2 {k : IntKind} {l : List Int} {j i : Nat} (h : j + i < l.length) : sub false 1 (nums k l) (j * 1 + i * 1) = some (.int k (l.getD (j + i) 0)) := by
  have := sub_nums (k := k) h
  rwa [Nat.add_mul] at this
theorem fill_nums2 {k : IntKind} {l : List Int} {j i : Nat} {v : Int} : fillIn (nums k l) (j * 1 + i * 1) [.int k v] = nums k (put l (j + i) v) := by
  have := fill_nums (k := k) (l := l) (i := j + i) (v := v)
  rw [Nat.add_mul] at this
  exact this
def longM (A C : List Int) (nu nq : Nat) (U Q : List Int) : List AObj :=
  [⟨true, 55, 1, 0, 1, [us32 A], false⟩, ⟨true, 55, 1, 0, 1, [us32 C], false⟩, ⟨false, 154, 1, 0, 0, [], false⟩, ⟨true, 55, 1, 0, 1, [.arr 2 0], false⟩, ⟨false, 154, 1, 0, 0, [], false⟩, ⟨true, 55, 1, 0, 1, [.arr 4 0], false⟩,
    ⟨false, 154, 1, 0, nu, nums .u32 U, false⟩, ⟨false, 154, 1, 0, nq, nums .u32 Q, false⟩]
section
variable {E : CallRel}
theorem c161_ok {A C U Q V : List Int} {nu nq j g : Nat} (hU : R32 U) (hV : R32 V) (hg : g < 4294967296) (hj : j + V.length < U.length) (hl : U.length ≤ 10000000) :
    ∃ (U' : List Int) (b : Nat), U'.length = U.length ∧ R32 U' ∧ b ≤ 1 ∧ (∀ p, p < j ∨ j + V.length < p → U'.getD p 0 = U.getD p 0) ∧
      nval (U'.drop j) + g * nval V = nval (U.drop j) + 4294967296 ^ (V.length + 1) * b ∧
      Go.V.Call tab E 161 [.msl 6 0 j (V.length + 1), us32 V, .int .u64 g] (longM A C nu nq U Q) (.bool ((b : Int) == 1)) (longM A C nu nq U' Q) := by
  suffices h : Mach (Go.V.Call tab E) (fun x st => ∃ (U' : List Int) (b : Nat), (U'.length = U.length ∧ R32 U' ∧ b ≤ 1 ∧ (∀ p, p < j ∨ j + V.length < p → U'.getD p 0 = U.getD p 0) ∧
      nval (U'.drop j) + g * nval V = nval (U.drop j) + 4294967296 ^ (V.length + 1) * b) ∧ Fin i161 (longM A C nu nq U Q) (.bool ((b : Int) == 1)) (longM A C nu nq U' Q) x st)
      [.code c161] .nrm ⟨argsE 0 [.msl 6 0 j (V.length + 1), us32 V, .int .u64 g], longM A C nu nq U Q⟩ by
    obtain ⟨x, st, h1, h4⟩ := wp_exec h
    rw [mNil] at h4
    obtain ⟨U', b, ⟨h5, h6, h7, h8, h9⟩, h10⟩ := h4
    exact ⟨U', b, h5, h6, h7, h8, h9, Go.V.Call.go i161 c161 rfl rfl rfl rfl (exec_wp h1 h10)⟩
  simp only [c161, us32, longM, go_sem]
  refine mLoop (fun N st => ∃ (i : Nat) (U' : List Int) (c b : Nat), i ≤ V.length ∧ N = V.length - i ∧ U'.length = U.length ∧ R32 U' ∧ c < 4294967296 ∧ b ≤ 1 ∧ (∀ p, p < j ∨ j + i ≤ p → U'.getD p 0 = U.getD p 0) ∧
      nval (U'.drop j) + g * nval (V.take i) = nval (U.drop j) + 4294967296 ^ i * (c + b) ∧
      st = ⟨[(0, .msl 6 0 j (V.length + 1)), (1, us32 V), (2, .int .u64 g), (7, .int .u64 c), (8, .int .u32 b), (12, us32 V), (13, .int .i64 V.length), (14, .int .i64 i)], longM A C nu nq U' Q⟩) V.length
    ⟨_, rfl, 0, U, 0, 0, by omega, by omega, rfl, hU, by omega, by omega, fun p _ => rfl, by simp [nval], by simp [getE, us32, longM]⟩ ?_
  rintro N s0 ⟨i, U', c, b, hi, rfl, hL, hR, hc, hb, hk, hv, rfl⟩
  have cin : ∀ q : Nat, q ≤ V.length → IntKind.i64.wrap ((q : Int)) = (q : Int) := fun q hq => wrap_i64 (by omega) (by omega)
  by_cases hiV : i < V.length
  · have hi' : (i : Int) < (V.length : Int) := by omega
    have hi2 : (i : Int) < ((V.length + 1 : Nat) : Int) := by omega
    have hi0 : (0 : Int) ≤ (i : Int) := by omega
    have hi1 : IntKind.i64.wrap ((i : Int) + 1) = ((i + 1 : Nat) : Int) := by rw [wrap_i64 (by omega) (by omega)]; omega
    have hsv := sub_nums (k := .u32) hiV
    have hsu := sub_nums2 (k := .u32) (l := U') (j := j) (i := i) (by omega)
    have hxr := R32_get hV i
    have hur := R32_get hR (j + i)
    have htv := nval_take_succ' (l := V) (k := i)
    have p1 := fun v => put_nval (l := U'.drop j) (k := i) (v := v) (by rw [List.length_drop]; omega)
    have pd := fun v => put_drop (l := U') (j := j) (i := i) (v := v) (by omega)
    have gd : (U'.drop j).getD i 0 = U'.getD (j + i) 0 := getD_dropD
    obtain ⟨x, hx⟩ := Int.eq_ofNat_of_zero_le hxr.1
    obtain ⟨u, hu⟩ := Int.eq_ofNat_of_zero_le hur.1
    rw [hx] at hsv hxr htv
    rw [hu] at hsu hur gd
    rw [Int.toNat_natCast] at htv
    rw [gd] at p1
    have hxl : x < 4294967296 := by omega
    have hul : u < 4294967296 := by omega
    have hgx : g * x ≤ 4294967295 * 4294967295 := Nat.mul_le_mul (by omega) (by omega)
    have wx : IntKind.u64.wrap (x : Int) = (x : Int) := wrap_u64 (by omega) (by omega)
    have u1 : IntKind.u64.wrap ((g : Int) * (x : Int)) = ((g * x : Nat) : Int) := by
      rw [← Int.natCast_mul]
      exact wrap_u64 (by omega) (by omega)
    have u2 : IntKind.u64.wrap (((g * x : Nat) : Int) + (c : Int)) = ((g * x + c : Nat) : Int) := by rw [wrap_u64 (by omega) (by omega)]; omega
    have hT : 4294967296 ^ i * (g * x + c) = 4294967296 ^ i * (g * x) + 4294967296 ^ i * c := Nat.mul_add _ _ _
    have hg2 : g * nval (V.take (i + 1)) = g * nval (V.take i) + 4294967296 ^ i * (g * x) := by
      rw [htv, Nat.mul_add, Nat.mul_left_comm]
    have hTl : g * x + c < 4294967296 * 4294967296 := by omega
    generalize g * x + c = T at *
    have w2 : IntKind.u32.wrap (T : Int) = ((T % 4294967296 : Nat) : Int) := by rw [wrap_u32]; omega
    have w3 := shr32 (x := T)
    have hdm := Nat.div_add_mod T 4294967296
    have hq : T / 4294967296 < 4294967296 := by omega
    have hml : T % 4294967296 < 4294967296 := by omega
    generalize T / 4294967296 = c' at *
    generalize T % 4294967296 = lo at *
    have h155 := c157_ok (E := E) hul hml hb
    have hbr : (u + 4294967296 - lo + 4294967296 - b) % 4294967296 + lo + b = u + 4294967296 * (if u < lo + b then 1 else 0) := by split <;> omega
    have hrl : (u + 4294967296 - lo + 4294967296 - b) % 4294967296 < 4294967296 := Nat.mod_lt _ (by omega)
    have hb' : (if u < lo + b then 1 else 0 : Nat) ≤ 1 := by split <;> omega
    generalize (u + 4294967296 - lo + 4294967296 - b) % 4294967296 = r at *
    generalize (if u < lo + b then 1 else 0 : Nat) = b' at *
    have p2 := p1 (r : Int)
    rw [← pd, Int.toNat_natCast, Int.toNat_natCast] at p2
    have t1 : j * 1 + i * 1 + 1 ≤ U'.length := by omega
    have inv : nval ((put U' (j + i) (r : Int)).drop j) + g * nval (V.take (i + 1)) = nval (U.drop j) + 4294967296 ^ (i + 1) * (c' + b') := by
      have e0 : 4294967296 ^ (i + 1) * (c' + b') = 4294967296 ^ i * (4294967296 * c') + 4294967296 ^ i * (4294967296 * b') := by rw [Nat.pow_succ, Nat.mul_assoc, Nat.mul_add, Nat.mul_add]
      have e1 : 4294967296 ^ i * (r + lo + b) = 4294967296 ^ i * (u + 4294967296 * b') := by rw [hbr]
      have e2 : 4294967296 ^ i * T = 4294967296 ^ i * (4294967296 * c') + 4294967296 ^ i * lo := by rw [← Nat.mul_add, hdm]
      rw [Nat.mul_add, Nat.mul_add, Nat.mul_add] at e1
      rw [Nat.mul_add] at hv
      rw [e0, hg2]
      rw [e2] at hT
      clear e0 e2 p1 pd hg2 htv hbr hdm
      generalize 4294967296 ^ i * (4294967296 * c') = Z1 at *
      generalize 4294967296 ^ i * (4294967296 * b') = Z2 at *
      generalize 4294967296 ^ i * (g * x) = Z3 at *
      generalize 4294967296 ^ i * u = Z4 at *
      generalize 4294967296 ^ i * r = Z5 at *
      generalize 4294967296 ^ i * lo = Z6 at *
      generalize 4294967296 ^ i * b = Z7 at *
      generalize 4294967296 ^ i * c = Z8 at *
      omega
    simp only [b161_0, us32, longM, go_sem, hi', hi0, hi2, hsv, hsu, wx, u1, u2, w2, w3, Int.toNat_natCast]
    refine goR h155 rfl ?_
    simp only [us32, go_sem, hi0, hi2, hi1, fill_nums2, t1, Int.toNat_natCast]
    refine loopQ_go rfl (V.length - (i + 1)) (by omega) ⟨i + 1, put U' (j + i) (r : Int), c', b', by omega, rfl, ?_, put_R32 hR (by omega), hq, hb', ?_, inv, rfl⟩
    · rw [put_len (by omega), hL]
    · intro p hp
      rw [put_get (by omega), if_neg (by omega)]
      exact hk p (by omega)
  · have hi' : ¬ (i : Int) < (V.length : Int) := by omega
    obtain rfl : i = V.length := by omega
    have hi2 : (V.length : Int) < ((V.length + 1 : Nat) : Int) := by omega
    have hi0 : (0 : Int) ≤ (V.length : Int) := by omega
    have hsu := sub_nums2 (k := .u32) (l := U') (j := j) (i := V.length) (by omega)
    have hur := R32_get hR (j + V.length)
    have p1 := fun v => put_nval (l := U'.drop j) (k := V.length) (v := v) (by rw [List.length_drop]; omega)
    have pd := fun v => put_drop (l := U') (j := j) (i := V.length) (v := v) (by omega)
    have gd : (U'.drop j).getD V.length 0 = U'.getD (j + V.length) 0 := getD_dropD
    obtain ⟨u, hu⟩ := Int.eq_ofNat_of_zero_le hur.1
    rw [hu] at hsu hur gd
    rw [gd] at p1
    rw [List.take_length] at hv
    have hul : u < 4294967296 := by omega
    have w2 : IntKind.u32.wrap (c : Int) = (c : Int) := by rw [wrap_u32]; omega
    have h155 := c157_ok (E := E) hul hc hb
    have hbr : (u + 4294967296 - c + 4294967296 - b) % 4294967296 + c + b = u + 4294967296 * (if u < c + b then 1 else 0) := by split <;> omega
    have hrl : (u + 4294967296 - c + 4294967296 - b) % 4294967296 < 4294967296 := Nat.mod_lt _ (by omega)
    have hb' : (if u < c + b then 1 else 0 : Nat) ≤ 1 := by split <;> omega
    generalize (u + 4294967296 - c + 4294967296 - b) % 4294967296 = r at *
    generalize (if u < c + b then 1 else 0 : Nat) = b' at *
    have p2 := p1 (r : Int)
    rw [← pd, Int.toNat_natCast, Int.toNat_natCast] at p2
    have t1 : j * 1 + V.length * 1 + 1 ≤ U'.length := by omega
    have inv : nval ((put U' (j + V.length) (r : Int)).drop j) + g * nval V = nval (U.drop j) + 4294967296 ^ (V.length + 1) * b' := by
      have e0 : 4294967296 ^ (V.length + 1) * b' = 4294967296 ^ V.length * (4294967296 * b') := by rw [Nat.pow_succ, Nat.mul_assoc]
      have e1 : 4294967296 ^ V.length * (r + c + b) = 4294967296 ^ V.length * (u + 4294967296 * b') := by rw [hbr]
      rw [Nat.mul_add, Nat.mul_add, Nat.mul_add] at e1
      rw [Nat.mul_add] at hv
      rw [e0]
      clear e0 p1 pd hbr
      generalize 4294967296 ^ V.length * (4294967296 * b') = Z2 at *
      generalize 4294967296 ^ V.length * u = Z4 at *
      generalize 4294967296 ^ V.length * r = Z5 at *
      generalize 4294967296 ^ V.length * b = Z7 at *
      generalize 4294967296 ^ V.length * c = Z8 at *
      omega
    simp only [b161_0, k161_0, us32, longM, go_sem, hi', hi0, hi2, hsu, w2, Int.toNat_natCast]
    refine goR h155 rfl ?_
    simp only [us32, go_sem, hi0, hi2, fill_nums2, t1, Int.toNat_natCast]
    refine ⟨put U' (j + V.length) (r : Int), b', ⟨?_, put_R32 hR (by omega), hb', ?_, inv⟩, ?_⟩
    · rw [put_len (by omega), hL]
    · intro p hp
      rw [put_get (by omega), if_neg (by omega)]
      exact hk p (by omega)
    · simp only [i161, Out, resAll, geto, ints, List.getElem?_cons_zero, List.getElem?_cons_succ, resOf, outOf, snap, snapL, ev, getE, List.mapM_cons, List.mapM_nil, Option.bind_some, Option.pure_def, Option.bind_eq_bind, Option.map_some, reduceIte, Nat.reduceEqDiff, true_and, and_true]
theorem c162_ok {A C U Q V : List Int} {nu nq j : Nat} (hU : R32 U) (hV : R32 V) (hj : j + V.length < U.length) (hl : U.length ≤ 10000000) :
    ∃ (U' : List Int) (k : Nat), U'.length = U.length ∧ R32 U' ∧ k ≤ 1 ∧ (∀ p, p < j ∨ j + V.length < p → U'.getD p 0 = U.getD p 0) ∧
      nval (U'.drop j) + 4294967296 ^ (V.length + 1) * k = nval (U.drop j) + nval V ∧
      Go.V.Call tab E 162 [.msl 6 0 j (V.length + 1), us32 V] (longM A C nu nq U Q) (.tup []) (longM A C nu nq U' Q) := by
  suffices h : Mach (Go.V.Call tab E) (fun x st => ∃ (U' : List Int) (k : Nat), (U'.length = U.length ∧ R32 U' ∧ k ≤ 1 ∧ (∀ p, p < j ∨ j + V.length < p → U'.getD p 0 = U.getD p 0) ∧
      nval (U'.drop j) + 4294967296 ^ (V.length + 1) * k = nval (U.drop j) + nval V) ∧ Fin i162 (longM A C nu nq U Q) (.tup []) (longM A C nu nq U' Q) x st)
      [.code c162] .nrm ⟨argsE 0 [.msl 6 0 j (V.length + 1), us32 V], longM A C nu nq U Q⟩ by
    obtain ⟨x, st, h1, h4⟩ := wp_exec h
    rw [mNil] at h4
    obtain ⟨U', b, ⟨h5, h6, h7, h8, h9⟩, h10⟩ := h4
    exact ⟨U', b, h5, h6, h7, h8, h9, Go.V.Call.go i162 c162 rfl rfl rfl rfl (exec_wp h1 h10)⟩
  simp only [c162, us32, longM, go_sem]
  refine mLoop (fun N st => ∃ (i : Nat) (U' : List Int) (c : Nat), i ≤ V.length ∧ N = V.length - i ∧ U'.length = U.length ∧ R32 U' ∧ c ≤ 1 ∧ (∀ p, p < j ∨ j + i ≤ p → U'.getD p 0 = U.getD p 0) ∧
      nval (U'.drop j) + 4294967296 ^ i * c = nval (U.drop j) + nval (V.take i) ∧
      st = ⟨[(0, .msl 6 0 j (V.length + 1)), (1, us32 V), (4, .int .u32 c), (7, us32 V), (8, .int .i64 V.length), (9, .int .i64 i)], longM A C nu nq U' Q⟩) V.length
    ⟨_, rfl, 0, U, 0, by omega, by omega, rfl, hU, by omega, fun p _ => rfl, by simp [nval], by simp [getE, us32, longM]⟩ ?_
  rintro N s0 ⟨i, U', c, hi, rfl, hL, hR, hc, hk, hv, rfl⟩
  by_cases hiV : i < V.length
  · have hi' : (i : Int) < (V.length : Int) := by omega
    have hi2 : (i : Int) < ((V.length + 1 : Nat) : Int) := by omega
    have hi0 : (0 : Int) ≤ (i : Int) := by omega
    have hi1 : IntKind.i64.wrap ((i : Int) + 1) = ((i + 1 : Nat) : Int) := by rw [wrap_i64 (by omega) (by omega)]; omega
    have hsv := sub_nums (k := .u32) hiV
    have hsu := sub_nums2 (k := .u32) (l := U') (j := j) (i := i) (by omega)
    have hxr := R32_get hV i
    have hur := R32_get hR (j + i)
    have htv := nval_take_succ' (l := V) (k := i)
    have p1 := fun v => put_nval (l := U'.drop j) (k := i) (v := v) (by rw [List.length_drop]; omega)
    have pd := fun v => put_drop (l := U') (j := j) (i := i) (v := v) (by omega)
    have gd : (U'.drop j).getD i 0 = U'.getD (j + i) 0 := getD_dropD
    obtain ⟨x, hx⟩ := Int.eq_ofNat_of_zero_le hxr.1
    obtain ⟨u, hu⟩ := Int.eq_ofNat_of_zero_le hur.1
    rw [hx] at hsv hxr htv
    rw [hu] at hsu hur gd
    rw [Int.toNat_natCast] at htv
    rw [gd] at p1
    have hxl : x < 4294967296 := by omega
    have hul : u < 4294967296 := by omega
    have h144 := c158_ok (E := E) hul hxl hc
    have hdm := Nat.div_add_mod (u + x + c) 4294967296
    have hml : (u + x + c) % 4294967296 < 4294967296 := Nat.mod_lt _ (by omega)
    have hq : (u + x + c) / 4294967296 ≤ 1 := by omega
    generalize (u + x + c) / 4294967296 = c' at *
    generalize (u + x + c) % 4294967296 = r at *
    have p2 := p1 (r : Int)
    rw [← pd, Int.toNat_natCast, Int.toNat_natCast] at p2
    have t1 : j * 1 + i * 1 + 1 ≤ U'.length := by omega
    have inv : nval ((put U' (j + i) (r : Int)).drop j) + 4294967296 ^ (i + 1) * c' = nval (U.drop j) + nval (V.take (i + 1)) := by
      have e0 : 4294967296 ^ (i + 1) * c' = 4294967296 ^ i * (4294967296 * c') := by rw [Nat.pow_succ, Nat.mul_assoc]
      have e1 : 4294967296 ^ i * (4294967296 * c' + r) = 4294967296 ^ i * (u + x + c) := by rw [hdm]
      rw [Nat.mul_add, Nat.mul_add, Nat.mul_add] at e1
      rw [e0, htv]
      clear e0 p1 pd htv hdm
      generalize 4294967296 ^ i * (4294967296 * c') = Z1 at *
      generalize 4294967296 ^ i * u = Z4 at *
      generalize 4294967296 ^ i * r = Z5 at *
      generalize 4294967296 ^ i * x = Z6 at *
      generalize 4294967296 ^ i * c = Z8 at *
      omega
    simp only [b162_0, us32, longM, go_sem, hi', hi0, hi2, hsv, hsu, Int.toNat_natCast]
    refine goR h144 rfl ?_
    simp only [us32, go_sem, hi0, hi2, hi1, fill_nums2, t1, Int.toNat_natCast]
    refine loopQ_go rfl (V.length - (i + 1)) (by omega) ⟨i + 1, put U' (j + i) (r : Int), c', by omega, rfl, ?_, put_R32 hR (by omega), hq, ?_, inv, rfl⟩
    · rw [put_len (by omega), hL]
    · intro p hp
      rw [put_get (by omega), if_neg (by omega)]
      exact hk p (by omega)
  · have hi' : ¬ (i : Int) < (V.length : Int) := by omega
    obtain rfl : i = V.length := by omega
    have hi2 : (V.length : Int) < ((V.length + 1 : Nat) : Int) := by omega
    have hi0 : (0 : Int) ≤ (V.length : Int) := by omega
    have hsu := sub_nums2 (k := .u32) (l := U') (j := j) (i := V.length) (by omega)
    have hur := R32_get hR (j + V.length)
    have p1 := fun v => put_nval (l := U'.drop j) (k := V.length) (v := v) (by rw [List.length_drop]; omega)
    have pd := fun v => put_drop (l := U') (j := j) (i := V.length) (v := v) (by omega)
    have gd : (U'.drop j).getD V.length 0 = U'.getD (j + V.length) 0 := getD_dropD
    obtain ⟨u, hu⟩ := Int.eq_ofNat_of_zero_le hur.1
    rw [hu] at hsu hur gd
    rw [gd] at p1
    rw [List.take_length] at hv
    have hul : u < 4294967296 := by omega
    have w2 : IntKind.u32.wrap ((u : Int) + (c : Int)) = (((u + c) % 4294967296 : Nat) : Int) := by rw [wrap_u32]; omega
    have hdm := Nat.div_add_mod (u + c) 4294967296
    have hml : (u + c) % 4294967296 < 4294967296 := Nat.mod_lt _ (by omega)
    have hq : (u + c) / 4294967296 ≤ 1 := by omega
    generalize (u + c) / 4294967296 = c' at *
    generalize (u + c) % 4294967296 = r at *
    have p2 := p1 (r : Int)
    rw [← pd, Int.toNat_natCast, Int.toNat_natCast] at p2
    have t1 : j * 1 + V.length * 1 + 1 ≤ U'.length := by omega
    have inv : nval ((put U' (j + V.length) (r : Int)).drop j) + 4294967296 ^ (V.length + 1) * c' = nval (U.drop j) + nval V := by
      have e0 : 4294967296 ^ (V.length + 1) * c' = 4294967296 ^ V.length * (4294967296 * c') := by rw [Nat.pow_succ, Nat.mul_assoc]
      have e1 : 4294967296 ^ V.length * (4294967296 * c' + r) = 4294967296 ^ V.length * (u + c) := by rw [hdm]
      rw [Nat.mul_add, Nat.mul_add] at e1
      rw [e0]
      clear e0 p1 pd hdm
      generalize 4294967296 ^ V.length * (4294967296 * c') = Z1 at *
      generalize 4294967296 ^ V.length * u = Z4 at *
      generalize 4294967296 ^ V.length * r = Z5 at *
      generalize 4294967296 ^ V.length * c = Z8 at *
      omega
    simp only [b162_0, k162_0, us32, longM, go_sem, hi', hi0, hi2, hsu, w2, fill_nums2, t1, Int.toNat_natCast]
    refine ⟨put U' (j + V.length) (r : Int), c', ⟨?_, put_R32 hR (by omega), hq, ?_, inv⟩, ?_⟩
    · rw [put_len (by omega), hL]
    · intro p hp
      rw [put_get (by omega), if_neg (by omega)]
      exact hk p (by omega)
    · simp only [i162, Out, resAll, geto, ints, List.getElem?_cons_zero, List.getElem?_cons_succ, resOf, outOf, snap, snapL, ev, getE, List.mapM_cons, List.mapM_nil, Option.bind_some, Option.pure_def, Option.bind_eq_bind, Option.map_some, reduceIte, Nat.reduceEqDiff, true_and, and_true]
end
end Go.Proofs.Ytlejgleocnemoaa.I

namespace Go.Proofs.Ytlejgleocnemoaa.I
open Go Go.V
attribute [local go_sem] mNil nat0 beq_self_eq_true mSkip mRet mExit mReg mSeq mCond mTrue mFalse mBlock mLv mCodeE mCodeR mEndN mEndR mEndE mOps mSome mGuard mGtt mGff mGtf mGft mGu mCallP mCallR mCallF mCallO mCallZ mCallG mCallM mCallV loopQ_exit loopQ_ret mO_mov mO_newnil mO_pick mO_alloc mO_box mO_build mO_bsl mO_bslF mO_newnilB mO_bslB mO_lenB mO_appB mO_allocA mO_bslA mO_appA mO_ldb mO_faddrb mRsv mO_ldf mO_ld mO_st mO_sta mO_nilchk mO_bin mO_binb mO_binp mO_bins mO_neg mO_com mO_not mO_conv mO_mk mO_mk0 mO_s2b mO_b2s mO_cpy mO_cut mO_faddr mO_fld mO_iaddr mO_iaddrf mO_sidx mO_len mO_lenf mO_slen mO_scut mO_app mO_ext mO_mx mO_mn mO_mkfn evalOp cutOp argsE ev getE putE cellsOf adopt rowOf binV boolV nilV ar_add ar_sub ar_mul ar_quo ar_rem ar_eq ar_ne ar_lt ar_le ar_gt ar_ge ar_and ar_or ar_xor geto bound finRet finNrm ints List.length_cons List.length_nil List.length_append List.getElem?_cons_zero List.getElem?_cons_succ List.nil_append List.cons_append List.map_cons List.map_nil List.mapM_cons List.mapM_nil Option.map_some Option.map_none Option.bind_some Option.pure_def Option.bind_eq_bind List.drop_zero or_self or_false false_or or_true true_or true_and and_true and_self decide_true decide_false Bool.false_eq_true Bool.true_eq_false Bool.not_true Bool.not_false Nat.le_refl eq_self gt_iff_lt ge_iff_le ne_eq not_true_eq_false not_false_eq_true storeOp apartOf freeze_nil refsL refs List.flatMap_cons List.flatMap_nil List.append_nil List.contains_nil List.set_cons_zero List.set_cons_succ snap snapL fill_nums flat_nums nums_length Go.V.freeze List.mapIdx_cons List.mapIdx_nil List.contains_cons Bool.or_false Bool.false_or Bool.or_true Bool.true_or
structure Heads (Vn w top next head u2 K vl low : Nat) : Prop where
  hV : Vn = (top * 4294967296 + next) * K + vl
  hvl : vl < K
  hw : w = (head * 4294967296 + u2) * K + low
  hlow : low < K
  hwV : w < 4294967296 * Vn
  htop : 1 ≤ top
  hnext : next < 4294967296
  hu2 : u2 < 4294967296
variable {Vn w top next head u2 K vl low g rest : Nat}
theorem Heads.pos (h : Heads Vn w top next head u2 K vl low) : 0 < Vn := by
  rcases Nat.eq_zero_or_pos Vn with h0 | h0
  · have := h.hwV; rw [h0] at this; omega
  · exact h0
theorem Heads.wlt (h : Heads Vn w top next head u2 K vl low) : w < (head * 4294967296 + u2 + 1) * K := by
  rw [h.hw, Nat.add_mul (head * 4294967296 + u2) 1, Nat.one_mul]
  have := h.hlow
  omega
theorem Heads.vle (h : Heads Vn w top next head u2 K vl low) : (top * 4294967296 + next) * K ≤ Vn := by rw [h.hV]; omega
theorem Heads.vlt (h : Heads Vn w top next head u2 K vl low) : Vn < (top * 4294967296 + next + 1) * K := by
  rw [h.hV, Nat.add_mul (top * 4294967296 + next) 1, Nat.one_mul]
  have := h.hvl
  omega
theorem Heads.dec (h : Heads Vn w top next head u2 K vl low) (h1 : g * top + rest = head) (h2 : rest * 4294967296 + u2 < g * next) : w < g * Vn := by
  have e1 : head * 4294967296 + u2 + 1 ≤ g * (top * 4294967296 + next) := by
    rw [Nat.mul_add, ← Nat.mul_assoc]
    omega
  have e2 := Nat.mul_le_mul_right K e1
  have e3 := Nat.mul_le_mul_left g h.vle
  rw [← Nat.mul_assoc] at e3
  have := h.wlt
  omega
theorem Heads.big (h : Heads Vn w top next head u2 K vl low) (hg : 4294967296 ≤ g) : w < g * Vn :=
  Nat.lt_of_lt_of_le h.hwV (Nat.mul_le_mul_right _ hg)
theorem Heads.ok (h : Heads Vn w top next head u2 K vl low) (h1 : g * top + rest = head) (h2 : g * next ≤ rest * 4294967296 + u2) (hg : g < 4294967296) : g * Vn < w + Vn := by
  have e1 : g * (top * 4294967296 + next) ≤ head * 4294967296 + u2 := by
    rw [Nat.mul_add, ← Nat.mul_assoc]
    omega
  have e2 := Nat.mul_le_mul_right K e1
  have e4 : g * Vn = g * (top * 4294967296 + next) * K + g * vl := by rw [h.hV, Nat.mul_add, Nat.mul_assoc]
  have e5 : g * vl < Vn := by
    have f1 : g * vl ≤ 4294967295 * vl := Nat.mul_le_mul_right _ (by omega)
    have f2 : 4294967296 * K ≤ (top * 4294967296 + next) * K := Nat.mul_le_mul_right _ (by have := h.htop; omega)
    have := h.vle
    have := h.hvl
    omega
  have := h.hw
  omega
theorem Heads.headlt (h : Heads Vn w top next head u2 K vl low) : head < 4294967296 * (top + 1) := by
  have e1 : head * 4294967296 * K ≤ w := by
    rw [h.hw]
    have : head * 4294967296 * K ≤ (head * 4294967296 + u2) * K := Nat.mul_le_mul_right _ (by omega)
    omega
  have e2 : Vn ≤ (top + 1) * 4294967296 * K := by
    have f := h.vlt
    have : (top * 4294967296 + next + 1) * K ≤ (top + 1) * 4294967296 * K := Nat.mul_le_mul_right _ (by have := h.hnext; omega)
    omega
  have e3 : head * 4294967296 * K < 4294967296 * ((top + 1) * 4294967296 * K) := by
    have := h.hwV
    omega
  rcases Nat.lt_or_ge head (4294967296 * (top + 1)) with h1 | h1
  · exact h1
  · have f1 : 4294967296 * (top + 1) * 4294967296 * K ≤ head * 4294967296 * K := Nat.mul_le_mul_right _ (Nat.mul_le_mul_right _ h1)
    have f2 : 4294967296 * (top + 1) * 4294967296 * K = 4294967296 * ((top + 1) * 4294967296 * K) := by rw [Nat.mul_assoc, Nat.mul_assoc, Nat.mul_assoc]
    omega
theorem Heads.brk (h : Heads Vn w top next head u2 K vl low) (h1 : g * top + rest = head) (h3 : 4294967296 ≤ rest) : g < 4294967296 ∧ g * Vn < w + Vn := by
  have hg : g < 4294967296 := by
    rcases Nat.lt_or_ge g 4294967296 with h2 | h2
    · exact h2
    · have f := Nat.mul_le_mul_right top h2
      have := h.headlt
      have := h.htop
      omega
  refine ⟨hg, h.ok h1 ?_ hg⟩
  have f1 : g * next ≤ 4294967295 * 4294967295 := Nat.mul_le_mul (by omega) (by have := h.hnext; omega)
  omega
theorem Heads.first (h : Heads Vn w top next head u2 K vl low) : w / Vn ≤ head / top := by
  have hlt : w < (head / top + 1) * Vn := by
    have e0 : head + 1 ≤ (head / top + 1) * top := by
      have := Nat.div_add_mod head top
      have := Nat.mod_lt head h.htop
      rw [Nat.add_mul, Nat.one_mul, Nat.mul_comm]
      omega
    have e1 : head * 4294967296 + u2 + 1 ≤ (head / top + 1) * (top * 4294967296 + next) := by
      rw [Nat.mul_add, ← Nat.mul_assoc]
      have := Nat.mul_le_mul_right 4294967296 e0
      have := h.hu2
      have : 0 ≤ (head / top + 1) * next := Nat.zero_le _
      omega
    have e2 := Nat.mul_le_mul_right K e1
    have e3 := Nat.mul_le_mul_left (head / top + 1) h.vle
    rw [← Nat.mul_assoc] at e3
    have := h.wlt
    omega
  have := (Nat.div_lt_iff_lt_mul h.pos).2 hlt
  omega
theorem Heads.less (h : Heads Vn w top next head u2 K vl low) (h1 : w < g * Vn) : w / Vn ≤ g - 1 ∧ 1 ≤ g := by
  have := (Nat.div_lt_iff_lt_mul h.pos).2 h1
  exact ⟨Nat.le_sub_one_of_lt this, Nat.lt_of_le_of_lt (Nat.zero_le _) this⟩
theorem Heads.near (h : Heads Vn w top next head u2 K vl low) (h1 : w / Vn ≤ g) (h2 : g * Vn < w + Vn) : g = w / Vn ∨ g = w / Vn + 1 := by
  have e1 := Nat.div_add_mod w Vn
  have e2 := Nat.mod_lt w h.pos
  have e3 : g * Vn < (w / Vn + 2) * Vn := by
    rw [Nat.add_mul, Nat.mul_comm (w / Vn)]
    omega
  have := Nat.lt_of_mul_lt_mul_right e3
  omega
theorem take_off {W' P b : Nat} (hV : 0 < Vn) (hb : b ≤ 1) (hP : W' < P) (hVP : Vn ≤ P) (hg : g = w / Vn ∨ g = w / Vn + 1) (h : W' + g * Vn = w + P * b) : (b = 0 → g = w / Vn ∧ W' = w % Vn) ∧ (b = 1 → g = w / Vn + 1 ∧ W' + Vn = P + w % Vn) := by
  have e1 := Nat.div_add_mod w Vn
  have e2 := Nat.mod_lt w hV
  rw [Nat.mul_comm] at e1
  have e3 : (w / Vn + 1) * Vn = w / Vn * Vn + Vn := by rw [Nat.add_mul, Nat.one_mul]
  rcases hg with rfl | rfl
  · refine ⟨fun hb0 => ?_, fun hb1 => ?_⟩
    · subst hb0; exact ⟨rfl, by omega⟩
    · subst hb1; omega
  · rw [e3] at h
    refine ⟨fun hb0 => ?_, fun hb1 => ?_⟩
    · subst hb0; omega
    · subst hb1; exact ⟨rfl, by omega⟩
theorem put_back {W' W'' P k : Nat} (hV : 0 < Vn) (hk : k ≤ 1) (hP : W'' < P) (h1 : W' + Vn = P + w % Vn) (h : W'' + P * k = W' + Vn) : W'' = w % Vn := by
  rcases Nat.eq_zero_or_pos k with rfl | h0
  · omega
  · obtain rfl : k = 1 := by omega
    omega
theorem long_step {u0 qs r d B : Nat} (h : d = qs * Vn + r) : u0 + B * d = (((u0 + B * r) / Vn) + B * qs) * Vn + (u0 + B * r) % Vn := by
  have e1 := Nat.div_add_mod (u0 + B * r) Vn
  rw [h, Nat.add_mul, Nat.mul_add, Nat.mul_assoc B]
  rw [Nat.mul_comm] at e1
  omega
theorem nval_heads {l : List Int} (hR : R32 l) {n : Nat} (hn : 2 ≤ n) (hs : ∀ p, n < p → l.getD p 0 = 0) (hl : n < l.length) :
    ∃ low, low < 4294967296 ^ (n - 2) ∧ nval l = (((l.getD n 0).toNat * 4294967296 + (l.getD (n - 1) 0).toNat) * 4294967296 + (l.getD (n - 2) 0).toNat) * 4294967296 ^ (n - 2) + low := by
  obtain ⟨k, rfl⟩ : ∃ k, n = k + 1 + 1 := ⟨n - 2, by omega⟩
  refine ⟨nval (l.take k), ?_, ?_⟩
  · have := nval_lt (R32_take hR k)
    rw [List.length_take, Nat.min_eq_left (by omega)] at this
    exact this
  · have h1 := nval_split (l := l) k (by omega)
    have h2 : nval (l.drop k) = (l.getD k 0).toNat + 4294967296 * ((l.getD (k + 1) 0).toNat + 4294967296 * (l.getD (k + 1 + 1) 0).toNat) := by
      rw [getD_drop (by omega), nval, getD_drop (by omega), nval, getD_drop (by omega), nval, nval_allzero (l := l.drop (k + 1 + 1 + 1)) (fun p => by rw [getD_dropD]; exact hs _ (by omega))]
      omega
    rw [h1, h2, show k + 1 + 1 - 1 = k + 1 by omega, show k + 1 + 1 - 2 = k by omega, Nat.mul_comm (4294967296 ^ k)]
    have : (l.getD k 0).toNat + 4294967296 * ((l.getD (k + 1) 0).toNat + 4294967296 * (l.getD (k + 1 + 1) 0).toNat) = ((l.getD (k + 1 + 1) 0).toNat * 4294967296 + (l.getD (k + 1) 0).toNat) * 4294967296 + (l.getD k 0).toNat := by omega
    rw [this]
    omega
theorem nval_heads2 {l : List Int} (hR : R32 l) (hl : 2 ≤ l.length) :
    ∃ low, low < 4294967296 ^ (l.length - 2) ∧ nval l = ((l.getD (l.length - 1) 0).toNat * 4294967296 + (l.getD (l.length - 2) 0).toNat) * 4294967296 ^ (l.length - 2) + low := by
  obtain ⟨k, hk⟩ : ∃ k, l.length = k + 2 := ⟨l.length - 2, by omega⟩
  refine ⟨nval (l.take k), ?_, ?_⟩
  · have := nval_lt (R32_take hR k)
    rw [List.length_take, Nat.min_eq_left (by omega)] at this
    rw [hk]
    exact this
  · have h1 := nval_split (l := l) k (by omega)
    have h2 : nval (l.drop k) = (l.getD k 0).toNat + 4294967296 * (l.getD (k + 1) 0).toNat := by
      rw [getD_drop (by omega), nval, getD_drop (by omega), nval, nval_allzero (l := l.drop (k + 1 + 1)) (fun p => by rw [getD_dropD]; exact getD_big (by omega))]
      omega
    rw [hk, h1, h2, show k + 2 - 1 = k + 1 by omega, show k + 2 - 2 = k by omega, Nat.mul_comm (4294967296 ^ k)]
    have : (l.getD k 0).toNat + 4294967296 * (l.getD (k + 1) 0).toNat = (l.getD (k + 1) 0).toNat * 4294967296 + (l.getD k 0).toNat := by omega
    rw [this]
    omega
end Go.Proofs.Ytlejgleocnemoaa.I

namespace Go.Proofs.Ytlejgleocnemoaa.I
open Go Go.V
attribute [local go_sem_proc ↓] reduceIte
attribute [local go_sem_proc] Nat.reduceEqDiff Nat.reduceAdd Nat.reduceMul Nat.reduceLeDiff Nat.reduceLT Int.reduceToNat Int.reduceLT Int.reduceLE reduceCtorEq Nat.reduceBEq
attribute [local go_sem] mNil nat0 beq_self_eq_true mSkip mRet mExit mReg mSeq mCond mTrue mFalse mBlock mLv mCodeE mCodeR mEndN mEndR mEndE mOps mSome mGuard mGtt mGff mGtf mGft mGu mCallP mCallR mCallF mCallO mCallZ mCallG mCallM mCallV loopQ_exit loopQ_ret mO_mov mO_newnil mO_pick mO_alloc mO_box mO_build mO_bsl mO_bslF mO_newnilB mO_bslB mO_lenB mO_appB mO_allocA mO_bslA mO_appA mO_ldb mO_faddrb mRsv mO_ldf mO_ld mO_st mO_sta mO_nilchk mO_bin mO_binb mO_binp mO_bins mO_neg mO_com mO_not mO_conv mO_mk mO_mk0 mO_s2b mO_b2s mO_cpy mO_cut mO_faddr mO_fld mO_iaddr mO_iaddrf mO_sidx mO_len mO_lenf mO_slen mO_scut mO_app mO_ext mO_mx mO_mn mO_mkfn evalOp cutOp argsE ev getE putE cellsOf adopt rowOf binV boolV nilV ar_add ar_sub ar_mul ar_quo ar_rem ar_eq ar_ne ar_lt ar_le ar_gt ar_ge geto bound finRet finNrm ints List.length_cons List.length_nil List.length_append List.getElem?_cons_zero List.getElem?_cons_succ List.nil_append List.cons_append List.map_cons List.map_nil List.mapM_cons List.mapM_nil Option.map_some Option.map_none Option.bind_some Option.pure_def Option.bind_eq_bind List.drop_zero or_self or_false false_or or_true true_or true_and and_true and_self decide_true decide_false Bool.false_eq_true Bool.true_eq_false Bool.not_true Bool.not_false Nat.le_refl eq_self gt_iff_lt ge_iff_le ne_eq not_true_eq_false not_false_eq_true storeOp apartOf freeze_nil refsL refs List.flatMap_cons List.flatMap_nil List.append_nil List.contains_nil List.set_cons_zero List.set_cons_succ snap snapL fill_nums flat_nums nums_length Go.V.freeze List.mapIdx_cons List.mapIdx_nil List.contains_cons Bool.or_false Bool.false_or Bool.or_true Bool.true_or
theorem mCut1 {C : CallRel} {Q : X → St → Prop} {c : IR} {k : List V.Item} {s : St} {R : X → St → Prop} (h : Mach C R [.code c] .nrm s) (h2 : ∀ (x : X) (s' : St), R x s' → Mach C Q k x s') : Mach C Q (.code c :: k) .nrm s := by
  simp only [Mach] at h ⊢
  exact Go.V.wp_mono (fun x s' hx => h2 x s' hx) h
theorem fill0 {k : IntKind} {a b : List Int} (h : a.length ≤ b.length) : fillIn (nums k b) 0 (nums k a) = nums k (a ++ b.drop a.length) := by
  simp [fillIn, nums]
theorem or_shl' {a b : Nat} (ha : a < 4294967296) (hb : b < 4294967296) : arith .or .u64 ((b : Int) * 4294967296) (a : Int) = some (.int .u64 ((b * 4294967296 + a : Nat) : Int)) := by
  have h : IntKind.u64.wrap (((BitVec.ofInt IntKind.u64.bits ((b : Int) * 4294967296) ||| BitVec.ofInt IntKind.u64.bits (a : Int)).toNat : Nat) : Int) = (b : Int) * 4294967296 + a := shl_or ha hb
  rw [ar_or, h]
  congr 2
theorem put_drop0 {l : List Int} {k : Nat} {v : Int} (h : k < l.length) : (put l k v).drop k = v :: l.drop (k + 1) := by
  simp only [put]
  rw [List.drop_append_of_le_length (by rw [List.length_take]; omega), List.drop_eq_nil_of_le (by rw [List.length_take]; omega)]
  rfl
section
variable {E : CallRel}
set_option maxHeartbeats 3200000 in
set_option maxRecDepth 4000 in
theorem c153_ok {a b : Nat} (hb2 : 2 ≤ (limG b).length) (hab : b ≤ a) (ha : (limG a).length ≤ 1000000) : Go.V.Call tab E 153 [natC a, natC b] [] (.tup [natC (a / b), natC (a % b)]) [] := by
  refine Go.V.Call.mach i153 c153 rfl rfl rfl rfl ?_
  have hRa := R32_limG (n := a)
  have hRb := R32_limG (n := b)
  have ea := nval_limG (n := a)
  have eb := nval_limG (n := b)
  have hmono := limG_mono hab
  have hb0 : b ≠ 0 := by
    rintro rfl
    rw [limG_zero] at hb2
    simp at hb2
  obtain ⟨bl, d, hbd, hd1, hd2⟩ := limG_last hb0
  have hd0 : (limG b).getD ((limG b).length - 1) 0 = d := by
    rw [hbd]; simp
  obtain ⟨d', rfl⟩ := Int.eq_ofNat_of_zero_le (show 0 ≤ d by omega)
  obtain ⟨s, hs32, hs1, hs2, h148⟩ := c159_ok (E := E) (x := d') (by omega) (by omega)
  have hps : 0 < 2 ^ s := Nat.pow_pos (by omega)
  have hblen : bl.length + 1 = (limG b).length := by rw [hbd]; simp
  have hbv : b = nval bl + 4294967296 ^ bl.length * d' := by
    have := nval_append (a := bl) (b := [(d' : Int)])
    rw [← hbd, eb] at this
    simpa [nval] using this
  have hbl := nval_lt (l := bl) (fun x hx => hRb x (by rw [hbd]; simp [hx]))
  have hVlo : 4294967296 ^ bl.length * 2147483648 ≤ b * 2 ^ s := by
    have e1 : 4294967296 ^ bl.length * (d' * 2 ^ s) ≤ b * 2 ^ s := by
      rw [← Nat.mul_assoc]
      exact Nat.mul_le_mul_right _ (by omega)
    have e2 : 4294967296 ^ bl.length * 2147483648 ≤ 4294967296 ^ bl.length * (d' * 2 ^ s) := Nat.mul_le_mul_left _ hs1
    omega
  have hVhi : b * 2 ^ s < 4294967296 ^ (limG b).length := by
    have hpp : 2 ^ s * 2 ^ (32 - s) = 4294967296 := by rw [← Nat.pow_add, show s + (32 - s) = 32 by omega]
    have e1 : (d' + 1) * 2 ^ s ≤ 4294967296 := by
      have f : d' < 2 ^ (32 - s) := by
        rw [← hpp, Nat.mul_comm (2 ^ s)] at hs2
        exact Nat.lt_of_mul_lt_mul_right hs2
      have := Nat.mul_le_mul_right (2 ^ s) (show d' + 1 ≤ 2 ^ (32 - s) from f)
      rw [Nat.mul_comm (2 ^ (32 - s)), hpp] at this
      exact this
    have e2 : b < 4294967296 ^ bl.length * (d' + 1) := by rw [Nat.mul_add]; omega
    have e3 : b * 2 ^ s < 4294967296 ^ bl.length * (d' + 1) * 2 ^ s := (Nat.mul_lt_mul_right hps).2 e2
    have e4 : 4294967296 ^ bl.length * (d' + 1) * 2 ^ s ≤ 4294967296 ^ bl.length * 4294967296 := by
      rw [Nat.mul_assoc]
      exact Nat.mul_le_mul_left _ e1
    rw [← hblen, Nat.pow_succ]
    omega
  have h149b := c160_ok (E := E) (n := b) hs32 (by omega)
  have h149a := c160_ok (E := E) (n := a) hs32 ha
  have hVl : (limG (b * 2 ^ s)).length = (limG b).length := by
    have h1 := limG_len hVhi
    have h2 := limG_mono (show b ≤ b * 2 ^ s from Nat.le_mul_of_pos_right _ hps)
    omega
  have hSl : (limG (a * 2 ^ s)).length ≤ (limG a).length + 1 := by
    refine limG_len ?_
    rw [Nat.pow_succ]
    have h1 := limG_lt a
    have h2 : 2 ^ s ≤ 2 ^ 32 := Nat.pow_le_pow_right (by omega) (by omega)
    exact Nat.mul_lt_mul'' h1 (by
      have : 2 ^ s < 2 ^ 32 := Nat.pow_lt_pow_right (by omega) hs32
      omega)
  have hRV := R32_limG (n := b * 2 ^ s)
  have hRS := R32_limG (n := a * 2 ^ s)
  have eV := nval_limG (n := b * 2 ^ s)
  have eS := nval_limG (n := a * 2 ^ s)
  have hUtop : a * 2 ^ s < 4294967296 ^ (limG a).length * 2 ^ s := (Nat.mul_lt_mul_right hps).2 (limG_lt a)
  simp only [natC] at h149b h149a ⊢
  have hq := Nat.mul_div_mul_right a b hps
  have hr := Nat.mul_mod_mul_right (2 ^ s) a b
  have hVn0 : 0 < b * 2 ^ s := Nat.mul_pos (by omega) hps
  generalize limG a = A at *
  generalize limG b = C at *
  generalize limG (a * 2 ^ s) = S at *
  generalize limG (b * 2 ^ s) = V at *
  obtain ⟨m, hm⟩ : ∃ m, A.length = C.length + m := ⟨A.length - C.length, by omega⟩
  obtain ⟨U0, hU0⟩ : ∃ U0, U0 = S ++ (List.replicate (A.length + 1) (0 : Int)).drop S.length := ⟨_, rfl⟩
  have hU0l : U0.length = A.length + 1 := by rw [hU0]; simp; omega
  have hU0R : R32 U0 := by rw [hU0]; exact R32_app hRS (R32_drop R32_zeros _)
  have hU0v : nval U0 = a * 2 ^ s := by
    rw [hU0, nval_append, nval_allzero (l := List.drop _ _) (fun p => by rw [getD_dropD]; exact zeros_get), eS]
    omega
  have hfill := fill0 (k := .u32) (a := S) (b := List.replicate (A.length + 1) 0) (by simpa using hSl)
  rw [← hU0] at hfill
  have hbl2 : C.length - 1 = bl.length := by omega
  have w0 : IntKind.i64.wrap ((C.length : Int) - 1) = ((C.length - 1 : Nat) : Int) := by rw [wrap_i64 (by omega) (by omega)]; omega
  have g0 : (0 : Int) ≤ ((C.length - 1 : Nat) : Int) := by omega
  have g1 : ((C.length - 1 : Nat) : Int) < (C.length : Int) := by omega
  have hsd := sub_nums (k := .u32) (l := C) (i := C.length - 1) (by omega)
  rw [hd0] at hsd
  have w1 : IntKind.i64.wrap ((A.length : Int) + 1) = ((A.length + 1 : Nat) : Int) := by rw [wrap_i64 (by omega) (by omega)]; omega
  have b1 : (0 : Int) ≤ ((A.length + 1 : Nat) : Int) := by omega
  have b2 : 4 * (A.length + 1) ≤ 140737488355328 := by omega
  have b3 : ((A.length + 1 : Nat) : Int) ≤ 140737488355328 := by omega
  have w2 : IntKind.i64.wrap ((A.length : Int) - (C.length : Int)) = (m : Int) := by rw [wrap_i64 (by omega) (by omega)]; omega
  have w3 : IntKind.i64.wrap ((m : Int) + 1) = ((m + 1 : Nat) : Int) := by rw [wrap_i64 (by omega) (by omega)]; omega
  have b4 : (0 : Int) ≤ ((m + 1 : Nat) : Int) := by omega
  have b5 : 4 * (m + 1) ≤ 140737488355328 := by omega
  have b6 : ((m + 1 : Nat) : Int) ≤ 140737488355328 := by omega
  have hV2 : 2 ≤ V.length := by omega
  have w4 : IntKind.i64.wrap ((V.length : Int) - 1) = ((V.length - 1 : Nat) : Int) := by rw [wrap_i64 (by omega) (by omega)]; omega
  have w5 : IntKind.i64.wrap ((V.length : Int) - 2) = ((V.length - 2 : Nat) : Int) := by rw [wrap_i64 (by omega) (by omega)]; omega
  have g2 : (0 : Int) ≤ ((V.length - 1 : Nat) : Int) := by omega
  have g3 : ((V.length - 1 : Nat) : Int) < (V.length : Int) := by omega
  have g4 : (0 : Int) ≤ ((V.length - 2 : Nat) : Int) := by omega
  have g5 : ((V.length - 2 : Nat) : Int) < (V.length : Int) := by omega
  have hst := sub_nums (k := .u32) (l := V) (i := V.length - 1) (by omega)
  have hsn := sub_nums (k := .u32) (l := V) (i := V.length - 2) (by omega)
  have htr := R32_get hRV (V.length - 1)
  have hnr := R32_get hRV (V.length - 2)
  obtain ⟨vl, hvl, hVV⟩ := nval_heads2 hRV hV2
  obtain ⟨top, htop⟩ := Int.eq_ofNat_of_zero_le htr.1
  obtain ⟨next, hnext⟩ := Int.eq_ofNat_of_zero_le hnr.1
  rw [htop] at hst htr hVV
  rw [hnext] at hsn hnr hVV
  rw [Int.toNat_natCast, Int.toNat_natCast] at hVV
  have htl : top < 4294967296 := by omega
  have hnl : next < 4294967296 := by omega
  have htop1 : 1 ≤ top := by
    rcases Nat.eq_zero_or_pos top with h0 | h0
    · exfalso
      have hz : ∀ p, V.length - 1 ≤ p → V.getD p 0 = 0 := fun p hp => by
        by_cases h : p = V.length - 1
        · rw [h, htop, h0]; rfl
        · exact getD_big (by omega)
      have h1 := nval_short hRV hz
      rw [eV, show V.length - 1 = bl.length by omega] at h1
      omega
    · exact h0
  have wt : IntKind.u64.wrap (top : Int) = (top : Int) := wrap_u64 (by omega) (by omega)
  have wn : IntKind.u64.wrap (next : Int) = (next : Int) := wrap_u64 (by omega) (by omega)
  have hcp : S.length ≤ A.length + 1 := hSl
  simp only [c153, us32, go_sem, subB1, subT1, fillAll, fillIn, shiftR, shiftV, List.take_succ_cons, List.take_zero, List.drop_succ_cons, List.drop_zero, List.append_nil, Nat.zero_add, w0, g0, g1, hsd, Int.toNat_natCast]
  refine goP h148 ?_
  simp only [us32, go_sem, subB1, subT1, fillAll, fillIn, shiftR, shiftV, List.take_succ_cons, List.take_zero, List.drop_succ_cons, List.drop_zero, List.append_nil, Nat.zero_add]
  refine goP h149b ?_
  simp only [us32, go_sem, subB1, subT1, fillAll, fillIn, shiftR, shiftV, List.take_succ_cons, List.take_zero, List.drop_succ_cons, List.drop_zero, List.append_nil, Nat.zero_add, w1, b1, b2, b3, Int.toNat_natCast, flat_nums]
  refine goP h149a ?_
  simp only [us32, go_sem, subB1, subT1, hcp, hfill, w2, w3, b4, b5, b6, w4, w5, g2, g3, g4, g5, hst, hsn, wt, wn, Int.toNat_natCast, flat_nums]
  refine mLoop (fun N st => ∃ (j : Nat) (jj : Int) (U Q : List Int), j ≤ m + 1 ∧ N = j ∧ jj = (j : Int) - 1 ∧ U.length = A.length + 1 ∧ R32 U ∧ Q.length = m + 1 ∧ R32 Q ∧ (∀ p, p < j → U.getD p 0 = U0.getD p 0) ∧
      nval (U.drop j) < b * 2 ^ s ∧ nval (U0.drop j) = nval (Q.drop j) * (b * 2 ^ s) + nval (U.drop j) ∧
      st = ⟨[(4, .loc 3 0 0), (5, .loc 5 0 0), (6, .int .i64 s), (7, us32 V), (8, .arr 6 0), (9, .int .i64 V.length), (11, .arr 7 0), (12, .int .u64 top), (13, .int .u64 next), (14, .int .i64 jj)], longM A C (A.length + 1) (m + 1) U Q⟩) (m + 1)
    ⟨_, rfl, m + 1, (m : Int), U0, List.replicate (m + 1) 0, by omega, rfl, by omega, hU0l, hU0R, by simp, R32_zeros, fun p _ => rfl, ?_, ?_, by simp [getE, us32, longM]⟩ ?_
  · rw [nval_drop hU0R, hU0v]
    refine Nat.div_lt_of_lt_mul ?_
    have e1 : 4294967296 ^ A.length * 2 ^ s ≤ 4294967296 ^ (m + 1) * (4294967296 ^ bl.length * 2147483648) := by
      rw [show A.length = (m + 1) + bl.length by omega, Nat.pow_add, Nat.mul_assoc]
      refine Nat.mul_le_mul_left _ (Nat.mul_le_mul_left _ ?_)
      have : 2 ^ s ≤ 2 ^ 31 := Nat.pow_le_pow_right (by omega) (by omega)
      omega
    have e2 : 4294967296 ^ (m + 1) * (4294967296 ^ bl.length * 2147483648) ≤ 4294967296 ^ (m + 1) * (b * 2 ^ s) := Nat.mul_le_mul_left _ hVlo
    omega
  · have : (List.replicate (m + 1) (0 : Int)).drop (m + 1) = [] := List.drop_eq_nil_of_le (by simp)
    rw [this]
    simp [nval]
  rintro N s0 ⟨j, jj, U, Q, hj, rfl, hjj, hUl, hUR, hQl, hQR, hUk, hUv, hinv, rfl⟩
  cases N with
  | zero =>
    have hn : ¬ 0 ≤ jj := by omega
    rw [List.drop_zero] at hUv
    rw [List.drop_zero, List.drop_zero, List.drop_zero, hU0v] at hinv
    have q1 : nval Q = a / b := by
      rw [← hq, hinv, Nat.mul_comm, Nat.mul_add_div hVn0, Nat.div_eq_of_lt hUv, Nat.add_zero]
    have q2 : nval U = (a % b) * 2 ^ s := by
      rw [← hr, hinv, Nat.mul_comm, Nat.mul_add_mod, Nat.mod_eq_of_lt hUv]
    have h114q := c139_ok (E := E) (l := Q) (by omega)
    rw [trimL_limG hQR, q1] at h114q
    have h114u := c139_ok (E := E) (l := U) (by omega)
    rw [trimL_limG hUR, q2] at h114u
    have hlen : (limG (a % b * 2 ^ s)).length ≤ 1000000 := by
      have h1 : a % b * 2 ^ s < b * 2 ^ s := (Nat.mul_lt_mul_right hps).2 (Nat.mod_lt _ (by omega))
      have h2 := limG_len (Nat.lt_trans h1 hVhi)
      omega
    have h152 := c163_ok (E := E) (n := a % b * 2 ^ s) hs32 hlen
    rw [Nat.mul_div_cancel _ hps] at h152
    have hQl2 : m + 1 = Q.length := hQl.symm
    have hUl2 : A.length + 1 = U.length := hUl.symm
    simp only [natC] at h152
    simp only [b153_0, k153_2, us32, longM, go_sem, hn, hQl2, hUl2]
    refine goF h114q ?_
    simp only [us32, go_sem]
    refine goF h114u ?_
    simp only [us32, go_sem]
    refine goP h152 ?_
    simp only [us32, go_sem, fillAll, fillIn, shiftR, shiftV, List.take_succ_cons, List.take_zero, List.drop_succ_cons, List.drop_zero, List.append_nil, Nat.zero_add]
    simp only [i153, Out, resAll, geto, ints, List.getElem?_cons_zero, List.getElem?_cons_succ, resOf, outOf, snap, snapL, ev, getE, List.mapM_cons, List.mapM_nil, Option.bind_some, Option.pure_def, Option.bind_eq_bind, Option.map_some, reduceIte, Nat.reduceEqDiff, true_and, and_true, sub, fillAll, fillIn, shiftR, shiftV, List.take_succ_cons, List.take_zero, List.drop_succ_cons, List.drop_zero, List.append_nil, Nat.zero_add, List.length_cons, List.length_nil, Nat.le_refl, us32]
  | succ k =>
    obtain rfl : jj = (k : Int) := by omega
    have hk0 : (0 : Int) ≤ (k : Int) := by omega
    have hk1 : IntKind.i64.wrap ((k : Int) - 1) = (k : Int) - 1 := wrap_i64 (by omega) (by omega)
    have hkn : k + V.length < U.length := by omega
    -- the window
    have hrB : b * 2 ^ s < 4294967296 ^ V.length := by rw [hVl]; exact hVhi
    have hz1 := short_nval (R32_drop hUR (k + 1)) (Nat.lt_trans hUv hrB)
    have hzU : ∀ p, k + V.length < p → U.getD p 0 = 0 := fun p hp => by
      have := hz1 (p - (k + 1)) (by omega)
      rwa [getD_dropD, show k + 1 + (p - (k + 1)) = p by omega] at this
    obtain ⟨low, hlow, hW⟩ := nval_heads (R32_drop hUR k) hV2 (fun p hp => by rw [getD_dropD]; exact hzU _ (by omega)) (by rw [List.length_drop]; omega)
    rw [getD_dropD, getD_dropD, getD_dropD, show k + (V.length - 1) = k + V.length - 1 by omega, show k + (V.length - 2) = k + V.length - 2 by omega] at hW
    have h0r := R32_get hUR (k + V.length)
    have h1r := R32_get hUR (k + V.length - 1)
    have h2r := R32_get hUR (k + V.length - 2)
    have hs0 := sub_nums (k := .u32) (l := U) (i := k + V.length) (by omega)
    have hs1' := sub_nums (k := .u32) (l := U) (i := k + V.length - 1) (by omega)
    have hs2' := sub_nums (k := .u32) (l := U) (i := k + V.length - 2) (by omega)
    obtain ⟨u0, hu0⟩ := Int.eq_ofNat_of_zero_le h0r.1
    obtain ⟨u1, hu1⟩ := Int.eq_ofNat_of_zero_le h1r.1
    obtain ⟨u2, hu2⟩ := Int.eq_ofNat_of_zero_le h2r.1
    rw [hu0] at hs0 h0r hW
    rw [hu1] at hs1' h1r hW
    rw [hu2] at hs2' h2r hW
    simp only [Int.toNat_natCast] at hW
    have hu0l : u0 < 4294967296 := by omega
    have hu1l : u1 < 4294967296 := by omega
    have hu2l : u2 < 4294967296 := by omega
    have hUkk := hUk k (by omega)
    have hkr := R32_get hUR k
    have hWr : nval (U.drop k) = (U.getD k 0).toNat + 4294967296 * nval (U.drop (k + 1)) := by
      rw [getD_drop (by omega), nval]
    have hWr0 : nval (U0.drop k) = (U.getD k 0).toNat + 4294967296 * nval (U0.drop (k + 1)) := by
      rw [getD_drop (by omega), nval, hUkk]
    have hstep := long_step (u0 := (U.getD k 0).toNat) (B := 4294967296) hinv
    rw [← hWr0, ← hWr] at hstep
    have hWlt : nval (U.drop k) < 4294967296 * (b * 2 ^ s) := by omega
    generalize hw : nval (U.drop k) = w at *
    obtain ⟨head, hhd⟩ : ∃ head, head = u0 * 4294967296 + u1 := ⟨_, rfl⟩
    have H : Heads (b * 2 ^ s) w top next head u2 (4294967296 ^ (V.length - 2)) vl low :=
      ⟨by rw [← hVV, eV], hvl, by rw [hhd]; exact hW, hlow, hWlt, htop1, hnl, hu2l⟩
    have hfirst := H.first
    have x1 : IntKind.i64.wrap ((k : Int) + (V.length : Int)) = ((k + V.length : Nat) : Int) := by rw [wrap_i64 (by omega) (by omega)]; omega
    have x2 : IntKind.i64.wrap (((k + V.length : Nat) : Int) - 1) = ((k + V.length - 1 : Nat) : Int) := by rw [wrap_i64 (by omega) (by omega)]; omega
    have x3 : IntKind.i64.wrap (((k + V.length : Nat) : Int) - 2) = ((k + V.length - 2 : Nat) : Int) := by rw [wrap_i64 (by omega) (by omega)]; omega
    have x4 : (0 : Int) ≤ ((k + V.length : Nat) : Int) := by omega
    have x5 : (0 : Int) ≤ ((k + V.length - 1 : Nat) : Int) := by omega
    have x6 : (0 : Int) ≤ ((k + V.length - 2 : Nat) : Int) := by omega
    have x7 : ((k + V.length : Nat) : Int) < ((A.length + 1 : Nat) : Int) := by omega
    have x8 : ((k + V.length - 1 : Nat) : Int) < ((A.length + 1 : Nat) : Int) := by omega
    have x9 : ((k + V.length - 2 : Nat) : Int) < ((A.length + 1 : Nat) : Int) := by omega
    have y0 : IntKind.u64.wrap (u0 : Int) = (u0 : Int) := wrap_u64 (by omega) (by omega)
    have y1 : IntKind.u64.wrap (u1 : Int) = (u1 : Int) := wrap_u64 (by omega) (by omega)
    have y2 : IntKind.u64.wrap (u2 : Int) = (u2 : Int) := wrap_u64 (by omega) (by omega)
    have y3 := shl32 hu0l
    have y4 : arith .or .u64 ((u0 : Int) * 4294967296) (u1 : Int) = some (.int .u64 (head : Int)) := by rw [hhd]; exact or_shl' hu1l hu0l
    have hhead : head < 18446744073709551616 := by omega
    have hdm := Nat.div_add_mod head top
    have hml := Nat.mod_lt head htop1
    rw [Nat.mul_comm] at hdm
    have ht0 : ¬ (top : Int) = 0 := by omega
    clear hhd hW
    have y5 : Int.tdiv (head : Int) (top : Int) = ((head / top : Nat) : Int) := by
      rw [Int.tdiv_eq_ediv_of_nonneg (by omega), ← Int.natCast_ediv]
    have y6 : Int.tmod (head : Int) (top : Int) = ((head % top : Nat) : Int) := by
      rw [Int.tmod_eq_emod_of_nonneg (by omega), ← Int.natCast_emod]
    have y7 : head / top ≤ head := Nat.div_le_self _ _
    generalize head / top = gg at *
    generalize head % top = rr at *
    have y8 : IntKind.u64.wrap (gg : Int) = (gg : Int) := wrap_u64 (by omega) (by omega)
    simp only [b153_0, us32, longM, go_sem, hk0, x1, x2, x4, x5, x7, x8, hs0, hs1', y0, y1, y3, y4, y5, y6, y8, ht0, Int.toNat_natCast]
    refine mCut1 (R := fun x st => ∃ (g : Nat) (env : Env), x = .exit 2 ∧ w / (b * 2 ^ s) ≤ g ∧ g < 4294967296 ∧ g * (b * 2 ^ s) < w + b * 2 ^ s ∧
      getE env 4 = .loc 3 0 0 ∧ getE env 5 = .loc 5 0 0 ∧ getE env 6 = .int .i64 s ∧ getE env 7 = us32 V ∧ getE env 8 = .arr 6 0 ∧ getE env 9 = .int .i64 V.length ∧ getE env 11 = .arr 7 0 ∧ getE env 12 = .int .u64 top ∧ getE env 13 = .int .u64 next ∧ getE env 14 = .int .i64 k ∧ getE env 16 = .int .u64 g ∧
      st = ⟨env, longM A C (A.length + 1) (m + 1) U Q⟩) ?_ ?_
    · refine mLoop (fun N st => ∃ (g rest : Nat), N = g ∧ g * top + rest = head ∧ w / (b * 2 ^ s) ≤ g ∧ rest < 4294967296 ∧ g < 18446744073709551616 ∧
        st = ⟨[(4, .loc 3 0 0), (5, .loc 5 0 0), (6, .int .i64 s), (7, us32 V), (8, .arr 6 0), (9, .int .i64 V.length), (11, .arr 7 0), (12, .int .u64 top), (13, .int .u64 next), (14, .int .i64 k), (16, .int .u64 g), (17, .int .u64 rest)], longM A C (A.length + 1) (m + 1) U Q⟩) gg
        ⟨_, rfl, gg, rr, rfl, hdm, hfirst, by omega, by omega, by simp [getE, us32, longM]⟩ ?_
      rintro N s0 ⟨g, rest, rfl, h1, h2, h3, h4, rfl⟩
      have step : w < N * (b * 2 ^ s) → 1 ≤ N ∧ w / (b * 2 ^ s) ≤ N - 1 ∧ (N - 1) * top + (rest + top) = head := fun h => by
        obtain ⟨f1, f2⟩ := H.less h
        refine ⟨f2, f1, ?_⟩
        rw [Nat.sub_mul, Nat.one_mul]
        have : 1 * top ≤ N * top := Nat.mul_le_mul_right _ f2
        omega
      have z1 : IntKind.u64.wrap ((rest : Int) + (top : Int)) = ((rest + top : Nat) : Int) := by rw [wrap_u64 (by omega) (by omega)]; omega
      by_cases hbig : 4294967296 ≤ N
      · have hbig' : (4294967296 : Int) ≤ (N : Int) := by omega
        obtain ⟨f1, f2, f3⟩ := step (H.big hbig)
        have z2 : IntKind.u64.wrap ((N : Int) - 1) = ((N - 1 : Nat) : Int) := by rw [wrap_u64 (by omega) (by omega)]; omega
        by_cases hbrk : 4294967296 ≤ rest + top
        · have hbrk' : (4294967296 : Int) ≤ ((rest + top : Nat) : Int) := by omega
          obtain ⟨f4, f5⟩ := H.brk f3 hbrk
          simp only [b153_1, us32, longM, go_sem, hbig', z1, z2, hbrk']
          exact ⟨N - 1, _, f2, f4, f5, rfl, rfl, rfl, rfl, rfl, rfl, rfl, rfl, rfl, rfl, rfl, rfl⟩
        · have hbrk' : ¬ (4294967296 : Int) ≤ ((rest + top : Nat) : Int) := by omega
          simp only [b153_1, us32, longM, go_sem, hbig', z1, z2, hbrk']
          exact loopQ_go rfl (N - 1) (by omega) ⟨N - 1, rest + top, rfl, f3, f2, by omega, by omega, rfl⟩
      · have hbig' : ¬ (4294967296 : Int) ≤ (N : Int) := by omega
        have hgn : N * next ≤ 4294967295 * 4294967295 := Nat.mul_le_mul (by omega) (by omega)
        have z3 : IntKind.u64.wrap ((N : Int) * (next : Int)) = ((N * next : Nat) : Int) := by
          rw [← Int.natCast_mul]
          exact wrap_u64 (by omega) (by omega)
        have z4 := shl32 h3
        have z5 := or_shl' hu2l h3
        by_cases hcmp : rest * 4294967296 + u2 < N * next
        · have hcmp' : ((rest * 4294967296 + u2 : Nat) : Int) < ((N * next : Nat) : Int) := by omega
          obtain ⟨f1, f2, f3⟩ := step (H.dec h1 hcmp)
          have z2 : IntKind.u64.wrap ((N : Int) - 1) = ((N - 1 : Nat) : Int) := by rw [wrap_u64 (by omega) (by omega)]; omega
          by_cases hbrk : 4294967296 ≤ rest + top
          · have hbrk' : (4294967296 : Int) ≤ ((rest + top : Nat) : Int) := by omega
            obtain ⟨f4, f5⟩ := H.brk f3 hbrk
            simp only [b153_1, us32, longM, go_sem, hbig', z1, z2, z3, z4, z5, x1, x3, x6, x9, hs2', y2, hcmp', hbrk', Int.toNat_natCast]
            exact ⟨N - 1, _, f2, f4, f5, rfl, rfl, rfl, rfl, rfl, rfl, rfl, rfl, rfl, rfl, rfl, rfl⟩
          · have hbrk' : ¬ (4294967296 : Int) ≤ ((rest + top : Nat) : Int) := by omega
            simp only [b153_1, us32, longM, go_sem, hbig', z1, z2, z3, z4, z5, x1, x3, x6, x9, hs2', y2, hcmp', hbrk', Int.toNat_natCast]
            exact loopQ_go rfl (N - 1) (by omega) ⟨N - 1, rest + top, rfl, f3, f2, by omega, by omega, rfl⟩
        · have hcmp' : ¬ ((rest * 4294967296 + u2 : Nat) : Int) < ((N * next : Nat) : Int) := by omega
          have f5 := H.ok h1 (by omega) (by omega)
          simp only [b153_1, us32, longM, go_sem, hbig', z3, z4, z5, x1, x3, x6, x9, hs2', y2, hcmp', Int.toNat_natCast]
          exact ⟨N, _, h2, by omega, f5, rfl, rfl, rfl, rfl, rfl, rfl, rfl, rfl, rfl, rfl, rfl, rfl⟩
    · rintro x st ⟨g, env, rfl, hg1, hg2, hg3, e4, e5, e6, e7, e8, e9, e11, e12, e13, e14, e16, rfl⟩
      simp only [us32] at e7
      have hnear := H.near hg1 hg3
      obtain ⟨U', bb, hU'l, hU'R, hbb, hU'k, hU'v, h150⟩ := c161_ok (E := E) (A := A) (C := C) (U := U) (Q := Q) (V := V) (nu := A.length + 1) (nq := m + 1) (j := k) (g := g) hUR hRV hg2 (by omega) (by omega)
      rw [eV, hw] at hU'v
      have hPV : b * 2 ^ s ≤ 4294967296 ^ (V.length + 1) := by
        rw [Nat.pow_succ]
        omega
      have hU's := nval_short (k := V.length + 1) (R32_drop hU'R k) (fun p hp => by rw [getD_dropD, hU'k _ (by omega)]; exact hzU _ (by omega))
      obtain ⟨t0, t1⟩ := take_off hVn0 hbb hU's hPV hnear hU'v
      have v1 : IntKind.i64.wrap (((k + V.length : Nat) : Int) + 1) = ((k + V.length + 1 : Nat) : Int) := by rw [wrap_i64 (by omega) (by omega)]; omega
      have v2 : (0 : Int) ≤ ((k + V.length + 1 : Nat) : Int) := by omega
      have v3 : ((k + V.length + 1 : Nat) : Int) ≤ ((A.length + 1 : Nat) : Int) := by omega
      have v4 : (k : Int) ≤ ((k + V.length + 1 : Nat) : Int) := by omega
      have v5 : k + V.length + 1 - k = V.length + 1 := by omega
      have v6 : (k : Int) < ((m + 1 : Nat) : Int) := by omega
      have v7 : k * 1 + 1 ≤ Q.length := by omega
      have hqd : w / (b * 2 ^ s) < 4294967296 := Nat.lt_of_le_of_lt hg1 hg2
      have hqI : 0 ≤ ((w / (b * 2 ^ s) : Nat) : Int) ∧ ((w / (b * 2 ^ s) : Nat) : Int) < 4294967296 := by
        revert hqd
        generalize w / (b * 2 ^ s) = qd
        intro hqd
        omega
      have fin : ∀ U'' : List Int, U''.length = U.length → R32 U'' → (∀ p, p < k ∨ k + V.length < p → U''.getD p 0 = U.getD p 0) → nval (U''.drop k) = w % (b * 2 ^ s) →
          ∃ (j : Nat) (jj : Int) (U1 Q1 : List Int), j ≤ m + 1 ∧ k = j ∧ jj = (j : Int) - 1 ∧ U1.length = A.length + 1 ∧ R32 U1 ∧ Q1.length = m + 1 ∧ R32 Q1 ∧ (∀ p, p < j → U1.getD p 0 = U0.getD p 0) ∧
            nval (U1.drop j) < b * 2 ^ s ∧ nval (U0.drop j) = nval (Q1.drop j) * (b * 2 ^ s) + nval (U1.drop j) ∧ U1 = U'' ∧ Q1 = put Q k ((w / (b * 2 ^ s) : Nat) : Int) ∧ jj = (k : Int) - 1 := fun U'' g1 g2 g3 g4 => by
        refine ⟨k, (k : Int) - 1, U'', _, by omega, rfl, rfl, by omega, g2, by rw [put_len (by omega), hQl], put_R32 hQR hqI, fun p hp => ?_, ?_, ?_, rfl, rfl, rfl⟩
        · rw [g3 p (by omega)]
          exact hUk p (by omega)
        · rw [g4]
          exact Nat.mod_lt _ hVn0
        · rw [put_drop0 (by omega), nval, Int.toNat_natCast, g4]
          exact hstep
      generalize hqq : w / (b * 2 ^ s) = qd at *
      have wq : IntKind.u32.wrap (qd : Int) = (qd : Int) := by rw [wrap_u32]; omega
      rcases Nat.eq_zero_or_pos bb with rfl | hb1
      · obtain ⟨rfl, t2⟩ := t0 rfl
        obtain ⟨j1, jj1, U1, Q1, r1, r2, r3, r4, r5, r6, r7, r8, r9, r10, rfl, rfl, r11⟩ := fin U' hU'l hU'R hU'k t2
        simp only [longM] at h150
        simp only [k153_0, k153_1, us32, longM, go_sem, e4, e5, e6, e7, e8, e9, e11, e12, e13, e14, e16, hk0, x1, v1, v2, v3, v4, v5, Int.toNat_natCast]
        refine goM h150 ?_
        simp only [us32, longM, go_sem, e4, e5, e6, e7, e8, e9, e11, e12, e13, e14, e16, hk0, hk1, v6, v7, wq, show ((0 : Int) == 1) = false from rfl, Int.toNat_natCast]
        exact loopQ_go rfl k (by omega) ⟨j1, jj1, U1, _, r1, r2, r3, r4, r5, r6, r7, r8, r9, r10, by rw [r11]; rfl⟩
      · obtain rfl : bb = 1 := by omega
        obtain ⟨rfl, t2⟩ := t1 rfl
        obtain ⟨U2, kk, hU2l, hU2R, hkk, hU2k, hU2v, h151⟩ := c162_ok (E := E) (A := A) (C := C) (U := U') (Q := Q) (V := V) (nu := A.length + 1) (nq := m + 1) (j := k) hU'R hRV (by omega) (by omega)
        rw [eV] at hU2v
        have hU2k' : ∀ p, p < k ∨ k + V.length < p → U2.getD p 0 = U.getD p 0 := fun p hp => by rw [hU2k p hp, hU'k p hp]
        have hU2s := nval_short (k := V.length + 1) (R32_drop hU2R k) (fun p hp => by rw [getD_dropD, hU2k' _ (by omega)]; exact hzU _ (by omega))
        have t3 := put_back hVn0 hkk hU2s t2 hU2v
        obtain ⟨j1, jj1, U1, Q1, r1, r2, r3, r4, r5, r6, r7, r8, r9, r10, rfl, rfl, r11⟩ := fin U2 (by omega) hU2R hU2k' t3
        have z2 : IntKind.u64.wrap (((qd + 1 : Nat) : Int) - 1) = (qd : Int) := by rw [wrap_u64 (by omega) (by omega)]; omega
        simp only [longM] at h150 h151
        simp only [k153_0, k153_1, us32, longM, go_sem, e4, e5, e6, e7, e8, e9, e11, e12, e13, e14, e16, hk0, x1, v1, v2, v3, v4, v5, Int.toNat_natCast]
        refine goM h150 ?_
        simp only [us32, longM, go_sem, e4, e5, e6, e7, e8, e9, e11, e12, e13, e14, e16, hk0, x1, v1, v2, v3, v4, v5, z2, show (((1 : Nat) : Int) == 1) = true from rfl, show ((1 : Int) == 1) = true from rfl, Int.toNat_natCast]
        refine goM h151 ?_
        simp only [us32, longM, go_sem, e4, e5, e6, e7, e8, e9, e11, e12, e13, e14, e16, hk0, hk1, v6, v7, wq, Int.toNat_natCast]
        exact loopQ_go rfl k (by omega) ⟨j1, jj1, U1, _, r1, r2, r3, r4, r5, r6, r7, r8, r9, r10, by rw [r11]; rfl⟩
end
end Go.Proofs.Ytlejgleocnemoaa.I

namespace Go.Proofs.Ytlejgleocnemoaa.I
open Go Go.V
attribute [local go_sem_proc ↓] reduceIte
attribute [local go_sem_proc] Nat.reduceEqDiff Nat.reduceAdd Nat.reduceMul Nat.reduceLeDiff Nat.reduceLT Int.reduceToNat Int.reduceLT Int.reduceLE reduceCtorEq Nat.reduceBEq
attribute [local go_sem] mNil nat0 beq_self_eq_true mSkip mRet mExit mReg mSeq mCond mTrue mFalse mBlock mLv mCodeE mCodeR mEndN mEndR mEndE mOps mSome mGuard mGtt mGff mGtf mGft mGu mCallP mCallR mCallF mCallO mCallZ mCallG mCallM mCallV loopQ_exit loopQ_ret mO_mov mO_newnil mO_pick mO_alloc mO_box mO_build mO_bsl mO_bslF mO_newnilB mO_bslB mO_lenB mO_appB mO_allocA mO_bslA mO_appA mO_ldb mO_faddrb mRsv mO_ldf mO_ld mO_st mO_sta mO_nilchk mO_bin mO_binb mO_binp mO_bins mO_neg mO_com mO_not mO_conv mO_mk mO_mk0 mO_s2b mO_b2s mO_cpy mO_cut mO_faddr mO_fld mO_iaddr mO_iaddrf mO_sidx mO_len mO_lenf mO_slen mO_scut mO_app mO_ext mO_mx mO_mn mO_mkfn evalOp cutOp argsE ev getE putE cellsOf adopt rowOf binV boolV nilV ar_add ar_sub ar_mul ar_quo ar_rem ar_eq ar_ne ar_lt ar_le ar_gt ar_ge ar_and ar_or ar_xor geto bound finRet finNrm ints List.length_cons List.length_nil List.length_append List.getElem?_cons_zero List.getElem?_cons_succ List.nil_append List.cons_append List.map_cons List.map_nil List.mapM_cons List.mapM_nil Option.map_some Option.map_none Option.bind_some Option.pure_def Option.bind_eq_bind List.drop_zero or_self or_false false_or or_true true_or true_and and_true and_self decide_true decide_false Bool.false_eq_true Bool.true_eq_false Bool.not_true Bool.not_false Nat.le_refl eq_self gt_iff_lt ge_iff_le ne_eq not_true_eq_false not_false_eq_true storeOp apartOf freeze_nil refsL refs List.flatMap_cons List.flatMap_nil List.append_nil List.contains_nil List.set_cons_zero List.set_cons_succ snap snapL fill_nums flat_nums nums_length Go.V.freeze List.mapIdx_cons List.mapIdx_nil List.contains_cons Bool.or_false Bool.false_or Bool.or_true Bool.true_or
section
variable {E : CallRel}
theorem c152_nat {n : Nat} (h : n < 18446744073709551616) : Go.V.Call tab E 152 [natC n] [] (.tup [.int .u64 n, .bool true]) [] := by
  have := c152_ok (E := E) h
  rw [lim_limG h] at this
  exact this
theorem c114_nat {n : Nat} (h : n < 18446744073709551616) : Go.V.Call tab E 114 [.int .u64 n] [] (natC n) [] := by
  have := c114_ok (E := E) h
  rw [lim_limG h] at this
  exact this
theorem limG_one {d : Nat} (h : d ≠ 0) (h2 : d < 4294967296) : limG d = [(d : Int)] := by
  rw [limG_pos h, Nat.mod_eq_of_lt h2, Nat.div_eq_of_lt h2, limG_zero]
theorem limG_len0 {n : Nat} (h : (limG n).length = 0) : n = 0 := by
  by_cases h0 : n = 0
  · exact h0
  · rw [limG_pos h0] at h; simp at h
theorem limG_len1 {n : Nat} (h : (limG n).length = 1) : n ≠ 0 ∧ n < 4294967296 := by
  refine ⟨?_, ?_⟩
  · rintro rfl; rw [limG_zero] at h; simp at h
  · have := limG_lt n
    rw [h] at this
    omega
theorem c135_ok {a b : Nat} (ha : (limG a).length ≤ 1000000) (hb : (limG b).length ≤ 1000000) (hb0 : b ≠ 0) : Go.V.Call tab E 135 [natC a, natC b] [] (.tup [natC (a / b), natC (a % b), .bool true]) [] := by
  refine Go.V.Call.mach i135 c135 rfl rfl rfl rfl ?_
  have h142 := c145_ok (E := E) ha hb
  have q0 : (((limG b).length : Int) == 0) = false := by
    rw [beq_eq_false_iff_ne]
    intro h
    exact hb0 (limG_len0 (by omega))
  simp only [natC] at h142
  simp only [c135, natC, us32, go_sem, List.all_cons, List.all_nil, Nat.reduceBNe, Bool.and_true, subB1, subT1, fillAll, fillIn, shiftR, shiftV, List.take_succ_cons, List.take_zero, List.drop_succ_cons, List.drop_zero, List.append_nil, Nat.zero_add, q0]
  refine goP h142 ?_
  by_cases hlt : a < b
  · have h1 : cmpZ a b = -1 := by rw [cmpZ, if_pos hlt]
    simp only [us32, go_sem, List.all_cons, List.all_nil, Nat.reduceBNe, Bool.and_true, subB1, subT1, fillAll, fillIn, shiftR, shiftV, List.take_succ_cons, List.take_zero, List.drop_succ_cons, List.drop_zero, List.append_nil, Nat.zero_add, h1]
    simp only [i135, Out, resAll, geto, ints, List.getElem?_cons_zero, List.getElem?_cons_succ, resOf, outOf, snap, snapL, ev, getE, List.mapM_cons, List.mapM_nil, Option.bind_some, Option.pure_def, Option.bind_eq_bind, Option.map_some, reduceIte, Nat.reduceEqDiff, true_and, and_true, sub, fillAll, fillIn, shiftR, shiftV, List.take_succ_cons, List.take_zero, List.drop_succ_cons, List.drop_zero, List.append_nil, Nat.zero_add, List.length_cons, List.length_nil, Nat.le_refl, us32, Nat.div_eq_of_lt hlt, Nat.mod_eq_of_lt hlt, limG_zero]
    rfl
  · have h1 : ¬ cmpZ a b < 0 := by
      rw [cmpZ, if_neg hlt]
      split <;> omega
    by_cases hl1 : (limG b).length = 1
    · obtain ⟨h2, h3⟩ := limG_len1 hl1
      have q1 : (((limG b).length : Int) == 1) = true := by rw [beq_iff_eq]; omega
      have e1 := limG_one h2 h3
      have hsd : sub false 1 (nums .u32 (limG b)) (0 * 1) = some (.int .u32 (b : Int)) := by rw [e1]; rfl
      have hsd' : sub false 1 (nums .u32 (limG b)) 0 = some (.int .u32 (b : Int)) := by rw [e1]; rfl
      have g1 : (0 : Int) < ((limG b).length : Int) := by omega
      have h125 := c124_ok (E := E) (l := limG a) (d := b) R32_limG (by omega) (by omega)
      rw [nval_limG] at h125
      have hrl : a % b < 4294967296 := by
        have := Nat.mod_lt a (show 0 < b by omega)
        omega
      have h90 := c114_nat (E := E) (n := a % b) (by omega)
      have w1 : IntKind.u64.wrap ((a % b : Nat) : Int) = ((a % b : Nat) : Int) := wrap_u64 (by omega) (by omega)
      simp only [natC] at h90
      simp only [us32, go_sem, List.all_cons, List.all_nil, Nat.reduceBNe, Bool.and_true, subB1, subT1, fillAll, fillIn, shiftR, shiftV, List.take_succ_cons, List.take_zero, List.drop_succ_cons, List.drop_zero, List.append_nil, Nat.zero_add, h1, q1, hsd, hsd', g1]
      refine goP h125 ?_
      simp only [us32, go_sem, List.all_cons, List.all_nil, Nat.reduceBNe, Bool.and_true, subB1, subT1, fillAll, fillIn, shiftR, shiftV, List.take_succ_cons, List.take_zero, List.drop_succ_cons, List.drop_zero, List.append_nil, Nat.zero_add, w1]
      refine goP h90 ?_
      simp only [us32, go_sem, List.all_cons, List.all_nil, Nat.reduceBNe, Bool.and_true, subB1, subT1, fillAll, fillIn, shiftR, shiftV, List.take_succ_cons, List.take_zero, List.drop_succ_cons, List.drop_zero, List.append_nil, Nat.zero_add]
      simp only [i135, Out, resAll, geto, ints, List.getElem?_cons_zero, List.getElem?_cons_succ, resOf, outOf, snap, snapL, ev, getE, List.mapM_cons, List.mapM_nil, Option.bind_some, Option.pure_def, Option.bind_eq_bind, Option.map_some, reduceIte, Nat.reduceEqDiff, true_and, and_true, sub, fillAll, fillIn, shiftR, shiftV, List.take_succ_cons, List.take_zero, List.drop_succ_cons, List.drop_zero, List.append_nil, Nat.zero_add, List.length_cons, List.length_nil, Nat.le_refl, us32]
    · have q1 : (((limG b).length : Int) == 1) = false := by rw [beq_eq_false_iff_ne]; omega
      have h145 := c153_ok (E := E) (a := a) (b := b) (by
        have : (limG b).length ≠ 0 := fun h => hb0 (limG_len0 h)
        omega) (by omega) ha
      simp only [natC] at h145
      simp only [us32, go_sem, List.all_cons, List.all_nil, Nat.reduceBNe, Bool.and_true, subB1, subT1, fillAll, fillIn, shiftR, shiftV, List.take_succ_cons, List.take_zero, List.drop_succ_cons, List.drop_zero, List.append_nil, Nat.zero_add, h1, q1]
      refine goP h145 ?_
      simp only [us32, go_sem, List.all_cons, List.all_nil, Nat.reduceBNe, Bool.and_true, subB1, subT1, fillAll, fillIn, shiftR, shiftV, List.take_succ_cons, List.take_zero, List.drop_succ_cons, List.drop_zero, List.append_nil, Nat.zero_add]
      simp only [i135, Out, resAll, geto, ints, List.getElem?_cons_zero, List.getElem?_cons_succ, resOf, outOf, snap, snapL, ev, getE, List.mapM_cons, List.mapM_nil, Option.bind_some, Option.pure_def, Option.bind_eq_bind, Option.map_some, reduceIte, Nat.reduceEqDiff, true_and, and_true, sub, fillAll, fillIn, shiftR, shiftV, List.take_succ_cons, List.take_zero, List.drop_succ_cons, List.drop_zero, List.append_nil, Nat.zero_add, List.length_cons, List.length_nil, Nat.le_refl, us32]
theorem c133_ok {a b : Nat} (ha : (limG a).length ≤ 1000000) (hb : (limG b).length ≤ 1000000) : Go.V.Call tab E 133 [natC a, natC b] [] (natC (Nat.gcd a b)) [] := by
  refine Go.V.Call.mach i133 c133 rfl rfl rfl rfl ?_
  simp only [c133, natC, us32, go_sem, List.all_cons, List.all_nil, Nat.reduceBNe, Bool.and_true, subB1, subT1, fillAll, fillIn, shiftR, shiftV, List.take_succ_cons, List.take_zero, List.drop_succ_cons, List.drop_zero, List.append_nil, Nat.zero_add]
  refine mLoop (fun N st => ∃ (x y : Nat), N = y ∧ Nat.gcd x y = Nat.gcd a b ∧ (limG x).length ≤ 1000000 ∧ (limG y).length ≤ 1000000 ∧
    st = ⟨[(2, .loc 0 0 0), (3, .loc 1 0 0), (4, .loc 3 0 0)], [⟨true, 55, 1, 0, 1, [us32 (limG x)], false⟩, ⟨true, 55, 1, 0, 1, [us32 (limG y)], false⟩, ⟨false, 154, 1, 0, 0, [], false⟩, ⟨true, 55, 1, 0, 1, [.arr 2 0], false⟩]⟩) b
    ⟨_, rfl, a, b, rfl, rfl, ha, hb, by simp [getE, us32]⟩ ?_
  rintro N s0 ⟨x, y, rfl, hg, hx, hy, rfl⟩
  have h124 := c123_ok (E := E) (l := limG N)
  simp only [us32] at h124
  by_cases hN : N = 0
  · subst hN
    rw [Nat.gcd_zero_right] at hg
    subst hg
    have q0 : (((limG 0).length : Int) == 0) = true := by rw [limG_zero]; rfl
    rw [q0] at h124
    simp only [b133_0, k133_2, us32, go_sem, List.all_cons, List.all_nil, Nat.reduceBNe, Bool.and_true, subB1, subT1, fillAll, fillIn, shiftR, shiftV, List.take_succ_cons, List.take_zero, List.drop_succ_cons, List.drop_zero, List.append_nil, Nat.zero_add]
    refine goR h124 rfl ?_
    simp only [us32, go_sem, List.all_cons, List.all_nil, Nat.reduceBNe, Bool.and_true, subB1, subT1, fillAll, fillIn, shiftR, shiftV, List.take_succ_cons, List.take_zero, List.drop_succ_cons, List.drop_zero, List.append_nil, Nat.zero_add]
    simp only [i133, Out, resAll, geto, ints, List.getElem?_cons_zero, List.getElem?_cons_succ, resOf, outOf, snap, snapL, ev, getE, List.mapM_cons, List.mapM_nil, Option.bind_some, Option.pure_def, Option.bind_eq_bind, Option.map_some, reduceIte, Nat.reduceEqDiff, true_and, and_true, sub, fillAll, fillIn, shiftR, shiftV, List.take_succ_cons, List.take_zero, List.drop_succ_cons, List.drop_zero, List.append_nil, Nat.zero_add, List.length_cons, List.length_nil, Nat.le_refl, us32]
  · have q0 : (((limG N).length : Int) == 0) = false := by
      rw [beq_eq_false_iff_ne]
      intro h
      exact hN (limG_len0 (by omega))
    rw [q0] at h124
    have h137 := c135_ok (E := E) hx hy hN
    have hml := Nat.mod_lt x (Nat.pos_of_ne_zero hN)
    have hrl : (limG (x % N)).length ≤ 1000000 := by
      have := limG_mono (Nat.le_of_lt hml)
      omega
    have hg2 : Nat.gcd N (x % N) = Nat.gcd a b := by rw [← hg, Nat.gcd_comm N, ← Nat.gcd_rec, Nat.gcd_comm]
    simp only [natC, us32] at h137
    by_cases hx64 : x < 18446744073709551616
    · have h131x := c152_nat (E := E) hx64
      simp only [natC, us32] at h131x
      by_cases hy64 : N < 18446744073709551616
      · have h131y := c152_nat (E := E) hy64
        simp only [natC, us32] at h131y
        simp only [b133_0, k133_0, k133_1, us32, go_sem, List.all_cons, List.all_nil, Nat.reduceBNe, Bool.and_true, subB1, subT1, fillAll, fillIn, shiftR, shiftV, List.take_succ_cons, List.take_zero, List.drop_succ_cons, List.drop_zero, List.append_nil, Nat.zero_add]
        refine goR h124 rfl ?_
        simp only [us32, go_sem, List.all_cons, List.all_nil, Nat.reduceBNe, Bool.and_true, subB1, subT1, fillAll, fillIn, shiftR, shiftV, List.take_succ_cons, List.take_zero, List.drop_succ_cons, List.drop_zero, List.append_nil, Nat.zero_add]
        refine goR h131x rfl ?_
        simp only [us32, go_sem, List.all_cons, List.all_nil, Nat.reduceBNe, Bool.and_true, subB1, subT1, fillAll, fillIn, shiftR, shiftV, List.take_succ_cons, List.take_zero, List.drop_succ_cons, List.drop_zero, List.append_nil, Nat.zero_add]
        refine goR h131y rfl ?_
        simp only [us32, go_sem, List.all_cons, List.all_nil, Nat.reduceBNe, Bool.and_true, subB1, subT1, fillAll, fillIn, shiftR, shiftV, List.take_succ_cons, List.take_zero, List.drop_succ_cons, List.drop_zero, List.append_nil, Nat.zero_add]
        refine mLoop (fun N' st => ∃ (p q : Nat), N' = q ∧ Nat.gcd p q = Nat.gcd a b ∧ p < 18446744073709551616 ∧ q < 18446744073709551616 ∧
          st = ⟨[(4, .loc 3 0 0), (5, .int .u64 p), (7, .int .u64 q)], [⟨true, 55, 1, 0, 1, [us32 (limG x)], false⟩, ⟨true, 55, 1, 0, 1, [us32 (limG N)], false⟩, ⟨false, 154, 1, 0, 0, [], false⟩, ⟨true, 55, 1, 0, 1, [.arr 2 0], false⟩]⟩) N
          ⟨_, rfl, x, N, rfl, hg, hx64, hy64, by simp [getE, us32]⟩ ?_
        rintro N' s0 ⟨p, q, rfl, hpq, hp, hq, rfl⟩
        by_cases hq0 : N' = 0
        · subst hq0
          rw [Nat.gcd_zero_right] at hpq
          have h90 := c114_nat (E := E) hp
          rw [hpq] at h90 hp
          simp only [natC, us32] at h90
          simp only [b133_1, us32, go_sem, List.all_cons, List.all_nil, Nat.reduceBNe, Bool.and_true, subB1, subT1, fillAll, fillIn, shiftR, shiftV, List.take_succ_cons, List.take_zero, List.drop_succ_cons, List.drop_zero, List.append_nil, Nat.zero_add, hpq, show ((0 : Int) != 0) = false from rfl]
          refine goP h90 ?_
          simp only [us32, go_sem, List.all_cons, List.all_nil, Nat.reduceBNe, Bool.and_true, subB1, subT1, fillAll, fillIn, shiftR, shiftV, List.take_succ_cons, List.take_zero, List.drop_succ_cons, List.drop_zero, List.append_nil, Nat.zero_add]
          simp only [i133, Out, resAll, geto, ints, List.getElem?_cons_zero, List.getElem?_cons_succ, resOf, outOf, snap, snapL, ev, getE, List.mapM_cons, List.mapM_nil, Option.bind_some, Option.pure_def, Option.bind_eq_bind, Option.map_some, reduceIte, Nat.reduceEqDiff, true_and, and_true, sub, fillAll, fillIn, shiftR, shiftV, List.take_succ_cons, List.take_zero, List.drop_succ_cons, List.drop_zero, List.append_nil, Nat.zero_add, List.length_cons, List.length_nil, Nat.le_refl, us32]
        · have q1 : ((N' : Int) != 0) = true := by rw [bne_iff_ne]; omega
          have q2 : ¬ (N' : Int) = 0 := by omega
          have q3 : Int.tmod (p : Int) (N' : Int) = ((p % N' : Nat) : Int) := by
            rw [Int.tmod_eq_emod_of_nonneg (by omega), ← Int.natCast_emod]
          have hml2 := Nat.mod_lt p (Nat.pos_of_ne_zero hq0)
          have hpq2 : Nat.gcd N' (p % N') = Nat.gcd a b := by rw [← hpq, Nat.gcd_comm N', ← Nat.gcd_rec, Nat.gcd_comm]
          generalize p % N' = r at *
          simp only [b133_1, us32, go_sem, List.all_cons, List.all_nil, Nat.reduceBNe, Bool.and_true, subB1, subT1, fillAll, fillIn, shiftR, shiftV, List.take_succ_cons, List.take_zero, List.drop_succ_cons, List.drop_zero, List.append_nil, Nat.zero_add, q1, q2, q3]
          exact loopQ_go rfl r (by omega) ⟨N', r, rfl, hpq2, hq, by omega, rfl⟩
      · have h131y := c152_big (E := E) (n := N) (by omega)
        simp only [natC, us32] at h131y
        generalize x % N = r at *
        simp only [b133_0, k133_0, k133_1, us32, go_sem, List.all_cons, List.all_nil, Nat.reduceBNe, Bool.and_true, subB1, subT1, fillAll, fillIn, shiftR, shiftV, List.take_succ_cons, List.take_zero, List.drop_succ_cons, List.drop_zero, List.append_nil, Nat.zero_add]
        refine goR h124 rfl ?_
        simp only [us32, go_sem, List.all_cons, List.all_nil, Nat.reduceBNe, Bool.and_true, subB1, subT1, fillAll, fillIn, shiftR, shiftV, List.take_succ_cons, List.take_zero, List.drop_succ_cons, List.drop_zero, List.append_nil, Nat.zero_add]
        refine goR h131x rfl ?_
        simp only [us32, go_sem, List.all_cons, List.all_nil, Nat.reduceBNe, Bool.and_true, subB1, subT1, fillAll, fillIn, shiftR, shiftV, List.take_succ_cons, List.take_zero, List.drop_succ_cons, List.drop_zero, List.append_nil, Nat.zero_add]
        refine goR h131y rfl ?_
        simp only [us32, go_sem, List.all_cons, List.all_nil, Nat.reduceBNe, Bool.and_true, subB1, subT1, fillAll, fillIn, shiftR, shiftV, List.take_succ_cons, List.take_zero, List.drop_succ_cons, List.drop_zero, List.append_nil, Nat.zero_add]
        refine goF h137 ?_
        simp only [us32, go_sem, List.all_cons, List.all_nil, Nat.reduceBNe, Bool.and_true, subB1, subT1, fillAll, fillIn, shiftR, shiftV, List.take_succ_cons, List.take_zero, List.drop_succ_cons, List.drop_zero, List.append_nil, Nat.zero_add]
        exact loopQ_go rfl r (by omega) ⟨N, r, rfl, hg2, hy, hrl, rfl⟩
    · have h131x := c152_big (E := E) (n := x) (by omega)
      simp only [natC, us32] at h131x
      have h131y : ∃ n2 t2, Go.V.Call tab E 152 [.agg [us32 (limG N)]] [] (.tup [.int .u64 n2, .bool t2]) [] := by
        by_cases hy64 : N < 18446744073709551616
        · exact ⟨_, _, c152_nat hy64⟩
        · exact ⟨_, _, c152_big (by omega)⟩
      obtain ⟨n2, t2, h131y⟩ := h131y
      simp only [us32] at h131y
      generalize x % N = r at *
      simp only [b133_0, k133_0, k133_1, us32, go_sem, List.all_cons, List.all_nil, Nat.reduceBNe, Bool.and_true, subB1, subT1, fillAll, fillIn, shiftR, shiftV, List.take_succ_cons, List.take_zero, List.drop_succ_cons, List.drop_zero, List.append_nil, Nat.zero_add]
      refine goR h124 rfl ?_
      simp only [us32, go_sem, List.all_cons, List.all_nil, Nat.reduceBNe, Bool.and_true, subB1, subT1, fillAll, fillIn, shiftR, shiftV, List.take_succ_cons, List.take_zero, List.drop_succ_cons, List.drop_zero, List.append_nil, Nat.zero_add]
      refine goR h131x rfl ?_
      simp only [us32, go_sem, List.all_cons, List.all_nil, Nat.reduceBNe, Bool.and_true, subB1, subT1, fillAll, fillIn, shiftR, shiftV, List.take_succ_cons, List.take_zero, List.drop_succ_cons, List.drop_zero, List.append_nil, Nat.zero_add]
      refine goR h131y rfl ?_
      simp only [us32, go_sem, List.all_cons, List.all_nil, Nat.reduceBNe, Bool.and_true, subB1, subT1, fillAll, fillIn, shiftR, shiftV, List.take_succ_cons, List.take_zero, List.drop_succ_cons, List.drop_zero, List.append_nil, Nat.zero_add]
      refine goF h137 ?_
      simp only [us32, go_sem, List.all_cons, List.all_nil, Nat.reduceBNe, Bool.and_true, subB1, subT1, fillAll, fillIn, shiftR, shiftV, List.take_succ_cons, List.take_zero, List.drop_succ_cons, List.drop_zero, List.append_nil, Nat.zero_add]
      exact loopQ_go rfl r (by omega) ⟨N, r, rfl, hg2, hy, hrl, rfl⟩
end
section
variable {E : CallRel}
theorem c142_one {x : Int} : Go.V.Call tab E 142 [.str (bs [x])] [] (.str (bs [x])) [] := by
  refine Go.V.Call.mach i142 c142 rfl rfl rfl rfl ?_
  have h1 : ¬ (1 : Int) < (((bs [x]).size : Nat) : Int) := by rw [bs_size]; simp
  simp only [c142, go_sem]
  refine mLoop (fun N st => N = 0 ∧ st = ⟨[(0, .str (bs [x]))], []⟩) 0 ⟨_, rfl, rfl, rfl⟩ ?_
  rintro N s0 ⟨rfl, rfl⟩
  simp only [b142_0, k142_0, go_sem, h1]
  simp only [i142, Out, resAll, geto, ints, List.getElem?_cons_zero, List.getElem?_cons_succ, resOf, outOf, snap, snapL, ev, getE, List.mapM_cons, List.mapM_nil, Option.bind_some, Option.pure_def, Option.bind_eq_bind, Option.map_some, reduceIte, Nat.reduceEqDiff, true_and, and_true]
theorem c142_ok {x : Int} {l : List Int} (hx : 49 ≤ x ∧ x ≤ 57) : Go.V.Call tab E 142 [.str (bs (x :: l))] [] (.str (bs (x :: l))) [] := by
  cases l with
  | nil => exact c142_one
  | cons y l =>
    refine Go.V.Call.mach i142 c142 rfl rfl rfl rfl ?_
    have h1 : (1 : Int) < (((bs (x :: y :: l)).size : Nat) : Int) := by rw [bs_size]; simp; omega
    have h2 : (((UInt8.ofNat x.toNat).toNat : Nat) : Int) = x := by simp; omega
    have h3 : (x == 48) = false := by rw [beq_eq_false_iff_ne]; omega
    have h4 : (bs (x :: y :: l))[0]? = some (UInt8.ofNat x.toNat) := rfl
    simp only [c142, go_sem]
    refine mLoop (fun N st => N = 0 ∧ st = ⟨[(0, .str (bs (x :: y :: l)))], []⟩) 0 ⟨_, rfl, rfl, rfl⟩ ?_
    rintro N s0 ⟨rfl, rfl⟩
    simp only [b142_0, k142_0, go_sem, h1, h4, h2, h3]
    simp only [i142, Out, resAll, geto, ints, List.getElem?_cons_zero, List.getElem?_cons_succ, resOf, outOf, snap, snapL, ev, getE, List.mapM_cons, List.mapM_nil, Option.bind_some, Option.pure_def, Option.bind_eq_bind, Option.map_some, reduceIte, Nat.reduceEqDiff, true_and, and_true]
theorem c154_ok {l : List Int} {d : Int} (hl : (l.length : Int) ≤ 1000000000) (hr : ∀ x ∈ l, 0 ≤ x ∧ x ≤ 9) (hd : 1 ≤ d ∧ d ≤ 9) : Go.V.Call tab E 154 [ints (l ++ [d])] [] (.str (bs (asc (l ++ [d])).reverse)) [] := by
  refine Go.V.Call.mach i154 c154 rfl rfl rfl rfl ?_
  have hrr : ∀ x ∈ l ++ [d], 0 ≤ x ∧ x ≤ 9 := fun x hx => by
    rcases List.mem_append.1 hx with hx | hx
    · exact hr x hx
    · simp at hx; omega
  have hL : (l ++ [d]).length = l.length + 1 := by simp
  have htrim : Go.V.Call tab E 142 [.str (bs (asc (l ++ [d])).reverse)] [] (.str (bs (asc (l ++ [d])).reverse)) [] := by
    have : (asc (l ++ [d])).reverse = (48 + d) :: (asc l).reverse := by simp [asc]
    rw [this]
    exact c142_ok (by omega)
  generalize hLL : l ++ [d] = L at *
  have w1 : IntKind.i64.wrap ((L.length : Int) + 1) = ((L.length + 1 : Nat) : Int) := by rw [wrap_i64 (by omega) (by omega)]; omega
  have w2 : IntKind.i64.wrap ((L.length : Int) - 1) = (L.length : Int) - 1 := wrap_i64 (by omega) (by omega)
  have b1 : (0 : Int) ≤ ((L.length + 1 : Nat) : Int) := by omega
  have b2 : 1 * (L.length + 1) ≤ 140737488355328 := by omega
  have b3 : ((L.length + 1 : Nat) : Int) ≤ 140737488355328 := by omega
  simp only [c154, go_sem, w1, w2, b1, b2, b3, Int.toNat_natCast]
  refine mLoop (fun N st => ∃ (j : Nat) (jj : Int), j ≤ L.length ∧ N = j ∧ jj = (j : Int) - 1 ∧
    st = ⟨[(0, ints L), (3, .arr 0 (L.length - j)), (4, .int .i64 jj)], [⟨false, 5, 1, L.length - j, L.length - j, nums .u8 (asc (L.drop j)).reverse, false⟩]⟩) L.length
    ⟨_, rfl, L.length, _, by omega, rfl, rfl, by rw [List.drop_length, Nat.sub_self]; rfl⟩ ?_
  rintro N s0 ⟨j, jj, hj, rfl, hjj, rfl⟩
  cases N with
  | zero =>
    have hn : ¬ 0 ≤ jj := by omega
    have hz : ((L.length : Int) == 0) = false := by rw [beq_eq_false_iff_ne]; omega
    simp only [b154_0, k154_0, go_sem, hn, Nat.sub_zero, List.drop_zero, hz, bytesOf_nums]
    refine goP htrim ?_
    simp only [go_sem]
    simp only [i154, Out, resAll, geto, ints, List.getElem?_cons_zero, List.getElem?_cons_succ, resOf, outOf, snap, snapL, ev, getE, List.mapM_cons, List.mapM_nil, Option.bind_some, Option.pure_def, Option.bind_eq_bind, Option.map_some, reduceIte, Nat.reduceEqDiff, true_and, and_true]
  | succ k =>
    obtain rfl : jj = (k : Int) := by omega
    have hlt : k < L.length := by omega
    have hlt' : (k : Int) < (L.length : Int) := by omega
    have hk0 : (0 : Int) ≤ (k : Int) := by omega
    have hk1 : IntKind.i64.wrap ((k : Int) - 1) = (k : Int) - 1 := wrap_i64 (by omega) (by omega)
    have hsub := sub_nums (k := .i64) hlt
    have hx := hrr (L.getD k 0) (by simp [List.getD, hlt])
    have hdr := getD_drop hlt
    generalize L.getD k 0 = x at *
    have t3 : IntKind.i64.wrap (48 + x) = 48 + x := wrap_i64 (by omega) (by omega)
    have t4 : IntKind.u8.wrap (48 + x) = 48 + x := by
      simp only [IntKind.wrap, IntKind.bits, IntKind.signed]
      simp
      omega
    have e0 : L.length - k = L.length - (k + 1) + 1 := by omega
    have e3 : (L.length - (k + 1) + 1) * 1 ≤ 140737488355328 := by omega
    have e4 : L.length - (k + 1) + 1 ≤ 140737488355328 := by omega
    have hasc : nums .u8 (asc (L.drop k)).reverse = nums .u8 (asc (L.drop (k + 1))).reverse ++ [.int .u8 (48 + x)] := by rw [hdr]; simp [nums, asc]
    simp only [b154_0, go_sem, hk0, hlt', Int.toNat_natCast, hsub, t3, t4, e3, e4, hk1, List.flatten_cons, List.flatten_nil, Option.getD_some]
    refine loopQ_go rfl k (by omega) ⟨k, _, by omega, rfl, rfl, ?_⟩
    rw [hasc, e0]
    rfl
theorem c140_ok {n : Nat} (hn : n < 18446744073709551616) : Go.V.Call tab E 140 [.int .u64 n] [] (.str (dec n)) [] := by
  refine Go.V.Call.mach i140 c140 rfl rfl rfl rfl ?_
  by_cases h0 : n = 0
  · subst h0
    simp only [c140, go_sem, show ((((0 : Nat) : Int)) == 0) = true from rfl]
    simp only [i140, Out, resAll, geto, ints, List.getElem?_cons_zero, List.getElem?_cons_succ, resOf, outOf, snap, snapL, ev, getE, List.mapM_cons, List.mapM_nil, Option.bind_some, Option.pure_def, Option.bind_eq_bind, Option.map_some, reduceIte, Nat.reduceEqDiff, true_and, and_true, dec]
  · have h0' : ((n : Int) == 0) = false := by rw [beq_eq_false_iff_ne]; omega
    simp only [c140, go_sem, h0']
    refine mLoop (fun N st => ∃ (i m : Nat) (o : List Int), i ≤ 20 ∧ N = 20 - i ∧ o.length = i ∧ m < 10 ^ (20 - i) ∧ m < 18446744073709551616 ∧ dgs n = o ++ dgs m ∧
      st = ⟨[(0, .int .u64 m), (3, .arr 0 i), (4, .int .i64 i)], [⟨false, 3, 1, i, i, nums .i64 o, false⟩]⟩) 20 ⟨_, rfl, 0, n, [], by omega, by omega, rfl, by omega, by omega, by simp, by simp [getE, nums]⟩ ?_
    rintro N s0 ⟨i, m, o, hi, rfl, hol, hm, hm64, hd, rfl⟩
    by_cases hm0 : m = 0
    · subst hm0
      rw [dgs_zero, List.append_nil] at hd
      obtain ⟨l, d, e1, e2, e3⟩ := dgs_last h0
      have hr := dgs_range (n := n)
      rw [hd] at e1 hr
      have hw := c154_ok (E := E) (l := l) (d := d) (by
        have : o.length = l.length + 1 := by rw [e1]; simp
        omega) (fun x hx => hr x (by rw [e1]; simp [hx])) ⟨e2, e3⟩
      rw [← e1, ints, hol] at hw
      have hdec : dec n = bs (asc o).reverse := by rw [dec, if_neg h0, hd]
      rw [← hdec] at hw
      have z : ¬ (0 : Int) < ((0 : Nat) : Int) := by omega
      by_cases hi20 : i < 20
      · have hi' : (i : Int) < 20 := by omega
        simp only [b140_0, k140_0, go_sem, hi', z]
        refine goR hw rfl ?_
        simp only [go_sem]
        simp only [i140, Out, resAll, geto, ints, List.getElem?_cons_zero, List.getElem?_cons_succ, resOf, outOf, snap, snapL, ev, getE, List.mapM_cons, List.mapM_nil, Option.bind_some, Option.pure_def, Option.bind_eq_bind, Option.map_some, reduceIte, Nat.reduceEqDiff, true_and, and_true]
      · have hi' : ¬ (i : Int) < 20 := by omega
        simp only [b140_0, k140_0, go_sem, hi', z]
        refine goR hw rfl ?_
        simp only [go_sem]
        simp only [i140, Out, resAll, geto, ints, List.getElem?_cons_zero, List.getElem?_cons_succ, resOf, outOf, snap, snapL, ev, getE, List.mapM_cons, List.mapM_nil, Option.bind_some, Option.pure_def, Option.bind_eq_bind, Option.map_some, reduceIte, Nat.reduceEqDiff, true_and, and_true]
    · have hi20 : i < 20 := by
        rcases Nat.lt_or_ge i 20 with h | h
        · exact h
        · have : i = 20 := by omega
          subst this
          simp at hm
          omega
      have hi' : (i : Int) < 20 := by omega
      have hp : 10 ^ (20 - i) = 10 * 10 ^ (20 - (i + 1)) := by rw [show 20 - i = (20 - (i + 1)) + 1 by omega, Nat.pow_succ, Nat.mul_comm]
      rw [hp] at hm
      have z : (0 : Int) < (m : Int) := by omega
      have t0 : ¬ (10 : Int) = 0 := by omega
      have t1 : Int.tmod (m : Int) 10 = ((m % 10 : Nat) : Int) := by rw [Int.tmod_eq_emod_of_nonneg (by omega)]; omega
      have t2 : IntKind.u64.wrap (Int.tdiv (m : Int) 10) = ((m / 10 : Nat) : Int) := by rw [Int.tdiv_eq_ediv_of_nonneg (by omega), wrap_u64 (by omega) (by omega)]; omega
      have t3 : IntKind.i64.wrap ((m % 10 : Nat) : Int) = ((m % 10 : Nat) : Int) := wrap_i64 (by omega) (by omega)
      have hi1 : IntKind.i64.wrap ((i : Int) + 1) = ((i + 1 : Nat) : Int) := by rw [wrap_i64 (by omega) (by omega)]; omega
      have e3 : (i + 1) * 8 ≤ 140737488355328 := by omega
      have e4 : i + 1 ≤ 140737488355328 := by omega
      simp only [b140_0, go_sem, hi', z, t0, t1, t2, t3, hi1, e3, e4, List.flatten_cons, List.flatten_nil, Option.getD_some]
      refine loopQ_go rfl (20 - (i + 1)) (by omega) ⟨i + 1, m / 10, o ++ [((m % 10 : Nat) : Int)], by omega, rfl, by simp [hol], by omega, by omega, ?_, ?_⟩
      · rw [hd, dgs_pos hm0]; simp
      · rw [nums_app]; rfl
theorem c115_ok {z : Int} (hz : In64 z) : Go.V.Call tab E 115 [.int .i64 z] [] (.agg [.bool (decide (z < 0)), .str (dec z.natAbs)]) [] := by
  obtain ⟨hz1, hz2⟩ := hz
  refine Go.V.Call.mach i115 c115 rfl rfl rfl rfl ?_
  by_cases h0 : z < 0
  · have e1 : IntKind.i64.wrap (z + 1) = z + 1 := wrap_i64 (by omega) (by omega)
    have e2 : IntKind.i64.wrap (0 - (z + 1)) = -(z + 1) := by rw [wrap_i64 (by omega) (by omega)]; omega
    have e3 : IntKind.u64.wrap (-(z + 1)) = -(z + 1) := wrap_u64 (by omega) (by omega)
    have e4 : IntKind.u64.wrap (-(z + 1) + 1) = (z.natAbs : Int) := by rw [wrap_u64 (by omega) (by omega)]; omega
    simp only [c115, go_sem, h0, e1, e2, e3, e4]
    refine goP (c140_ok (by omega)) ?_
    simp only [go_sem, fillAll, fillIn, shiftR, shiftV, List.take_succ_cons, List.take_zero, List.drop_succ_cons, List.drop_zero, List.append_nil, Nat.zero_add]
    simp only [i115, Out, resAll, geto, ints, List.getElem?_cons_zero, List.getElem?_cons_succ, resOf, outOf, snap, snapL, ev, getE, List.mapM_cons, List.mapM_nil, Option.bind_some, Option.pure_def, Option.bind_eq_bind, Option.map_some, reduceIte, Nat.reduceEqDiff, true_and, and_true, sub, fillAll, fillIn, shiftR, shiftV, List.take_succ_cons, List.take_zero, List.drop_succ_cons, List.drop_zero, List.append_nil, Nat.zero_add, List.length_cons, List.length_nil, Nat.le_refl]
  · have e1 : IntKind.u64.wrap z = (z.natAbs : Int) := by rw [wrap_u64 (by omega) (by omega)]; omega
    simp only [c115, go_sem, h0, e1]
    refine goP (c140_ok (by omega)) ?_
    simp only [go_sem, fillAll, fillIn, shiftR, shiftV, List.take_succ_cons, List.take_zero, List.drop_succ_cons, List.drop_zero, List.append_nil, Nat.zero_add]
    simp only [i115, Out, resAll, geto, ints, List.getElem?_cons_zero, List.getElem?_cons_succ, resOf, outOf, snap, snapL, ev, getE, List.mapM_cons, List.mapM_nil, Option.bind_some, Option.pure_def, Option.bind_eq_bind, Option.map_some, reduceIte, Nat.reduceEqDiff, true_and, and_true, sub, fillAll, fillIn, shiftR, shiftV, List.take_succ_cons, List.take_zero, List.drop_succ_cons, List.drop_zero, List.append_nil, Nat.zero_add, List.length_cons, List.length_nil, Nat.le_refl]
def numC (z : Int) : List AV := [.bool (decide (z < 0)), .str (dec z.natAbs), .str ⟨#[49]⟩]
theorem c58_ok {z : Int} (hz : In64 z) : Go.V.Call tab E 58 [.int .i64 z] [] (.agg (numC z)) [] := by
  refine Go.V.Call.mach i58 c58 rfl rfl rfl rfl ?_
  simp only [c58, go_sem]
  refine goP (c115_ok hz) ?_
  simp only [go_sem, sub, fillAll, fillIn, shiftR, shiftV, List.take_succ_cons, List.take_zero, List.drop_succ_cons, List.drop_zero, List.append_nil, Nat.zero_add]
  simp only [i58, Out, resAll, geto, ints, List.getElem?_cons_zero, List.getElem?_cons_succ, resOf, outOf, snap, snapL, ev, getE, List.mapM_cons, List.mapM_nil, Option.bind_some, Option.pure_def, Option.bind_eq_bind, Option.map_some, reduceIte, Nat.reduceEqDiff, true_and, and_true, sub, fillAll, fillIn, shiftR, shiftV, List.take_succ_cons, List.take_zero, List.drop_succ_cons, List.drop_zero, List.append_nil, Nat.zero_add, List.length_cons, List.length_nil, Nat.le_refl, numC]
end
end Go.Proofs.Ytlejgleocnemoaa.I

namespace Go.Proofs.Ytlejgleocnemoaa.I
open Go Go.V
attribute [local go_sem] mNil nat0 beq_self_eq_true mSkip mRet mExit mReg mSeq mCond mTrue mFalse mBlock mLv mCodeE mCodeR mEndN mEndR mEndE mOps mSome mGuard mGtt mGff mGtf mGft mGu mCallP mCallR mCallF mCallO mCallZ mCallG mCallM mCallV loopQ_exit loopQ_ret mO_mov mO_newnil mO_pick mO_alloc mO_box mO_build mO_bsl mO_bslF mO_newnilB mO_bslB mO_lenB mO_appB mO_allocA mO_bslA mO_appA mO_ldb mO_faddrb mRsv mO_ldf mO_ld mO_st mO_sta mO_nilchk mO_bin mO_binb mO_binp mO_bins mO_neg mO_com mO_not mO_conv mO_mk mO_mk0 mO_s2b mO_b2s mO_cpy mO_cut mO_faddr mO_fld mO_iaddr mO_iaddrf mO_sidx mO_len mO_lenf mO_slen mO_scut mO_app mO_ext mO_mx mO_mn mO_mkfn evalOp cutOp argsE ev getE putE cellsOf adopt rowOf binV boolV nilV ar_add ar_sub ar_mul ar_quo ar_rem ar_eq ar_ne ar_lt ar_le ar_gt ar_ge ar_and ar_or ar_xor geto bound finRet finNrm ints List.length_cons List.length_nil List.length_append List.getElem?_cons_zero List.getElem?_cons_succ List.nil_append List.cons_append List.map_cons List.map_nil List.mapM_cons List.mapM_nil Option.map_some Option.map_none Option.bind_some Option.pure_def Option.bind_eq_bind List.drop_zero or_self or_false false_or or_true true_or true_and and_true and_self decide_true decide_false Bool.false_eq_true Bool.true_eq_false Bool.not_true Bool.not_false Nat.le_refl eq_self gt_iff_lt ge_iff_le ne_eq not_true_eq_false not_false_eq_true storeOp apartOf freeze_nil refsL refs List.flatMap_cons List.flatMap_nil List.append_nil List.contains_nil List.set_cons_zero List.set_cons_succ snap snapL fill_nums flat_nums nums_length Go.V.freeze List.mapIdx_cons List.mapIdx_nil List.contains_cons Bool.or_false Bool.false_or Bool.or_true Bool.true_or
def U8 (l : List Int) : Prop := ∀ x ∈ l, 0 ≤ x ∧ x < 256
def Dig (l : List Int) : Prop := ∀ x ∈ l, 48 ≤ x ∧ x ≤ 57
def u8l (l : List Int) : List UInt8 := l.map fun n => UInt8.ofNat n.toNat
theorem Dig.u8 {l : List Int} (h : Dig l) : U8 l := fun x hx => by have := h x hx; omega
theorem U8_cons {x : Int} {l : List Int} : U8 (x :: l) ↔ (0 ≤ x ∧ x < 256) ∧ U8 l := by simp [U8]
theorem u8n {x : Int} (h : 0 ≤ x ∧ x < 256) : (((UInt8.ofNat x.toNat).toNat : Nat) : Int) = x := by simp; omega
theorem u8_inj {x y : Int} (hx : 0 ≤ x ∧ x < 256) (hy : 0 ≤ y ∧ y < 256) (h : UInt8.ofNat x.toNat = UInt8.ofNat y.toNat) : x = y := by
  rw [← u8n hx, ← u8n hy, h]
theorem u8l_inj : ∀ {a b : List Int}, U8 a → U8 b → u8l a = u8l b → a = b
  | [], [], _, _, _ => rfl
  | [], _ :: _, _, _, h => by simp [u8l] at h
  | _ :: _, [], _, _, h => by simp [u8l] at h
  | x :: a, y :: b, ha, hb, h => by
    rw [U8_cons] at ha hb
    simp only [u8l, List.map_cons, List.cons.injEq] at h
    rw [u8_inj ha.1 hb.1 h.1, u8l_inj ha.2 hb.2 h.2]
def sval (l : List Int) : Nat := l.foldl (fun a x => 10 * a + (x - 48).toNat) 0
theorem sval_snoc {l : List Int} {x : Int} : sval (l ++ [x]) = 10 * sval l + (x - 48).toNat := by simp [sval]
theorem sval_nil : sval [] = 0 := rfl
def decL (n : Nat) : List Int := if n = 0 then [48] else (asc (dgs n)).reverse
theorem dec_eq {n : Nat} : dec n = bs (decL n) := by
  unfold dec decL
  split <;> rfl
theorem decL_digit {d : Nat} (h : d < 10) : decL d = [48 + (d : Int)] := by
  unfold decL
  split
  · rename_i h0; subst h0; rfl
  · rename_i h0
    rw [dgs_pos h0, show d / 10 = 0 by omega, dgs_zero, show d % 10 = d by omega]
    rfl
theorem decL_ten {v d : Nat} (hv : v ≠ 0) (hd : d < 10) : decL (10 * v + d) = decL v ++ [48 + (d : Int)] := by
  unfold decL
  rw [if_neg (by omega), if_neg hv, dgs_pos (by omega), show (10 * v + d) / 10 = v by omega, show (10 * v + d) % 10 = d by omega]
  simp [asc]
theorem decL_dig (n : Nat) : Dig (decL n) := by
  unfold decL
  split
  · intro x hx; simp at hx; omega
  · intro x hx
    simp only [asc, List.mem_reverse, List.mem_map] at hx
    obtain ⟨d, hd, rfl⟩ := hx
    have := dgs_range d hd
    omega
theorem decL_ne (n : Nat) : decL n ≠ [] := by
  unfold decL
  split
  · simp
  · rename_i h
    rw [dgs_pos h]
    simp [asc]
def Canon (l : List Int) : Prop := l ≠ [] ∧ (2 ≤ l.length → l.getD 0 0 ≠ 48)
def trimS : List Int → List Int
  | x :: y :: l => if x = 48 then trimS (y :: l) else x :: y :: l
  | l => l
theorem decL_len {n : Nat} (h : n ≠ 0) : 10 ^ ((decL n).length - 1) ≤ n := by
  induction n using Nat.strongRecOn with
  | _ n ih =>
    by_cases hn : n < 10
    · rw [decL_digit hn]; simp; omega
    · have e : n = 10 * (n / 10) + n % 10 := by omega
      have := ih (n / 10) (by omega) (by omega)
      have hne : 1 ≤ (decL (n / 10)).length := by
        have := decL_ne (n / 10)
        rcases h : decL (n / 10) with _ | ⟨a, b⟩
        · exact absurd h this
        · simp
      rw [e, decL_ten (by omega) (by omega), List.length_append, List.length_singleton, Nat.add_sub_cancel]
      have e2 : 10 ^ (decL (n / 10)).length = 10 ^ ((decL (n / 10)).length - 1) * 10 := by rw [← Nat.pow_succ]; congr 1; omega
      rw [e2]
      omega
def RightS (l : List Int) : Prop := Dig l ∧ 1 ≤ l.length ∧ l.length ≤ 2000
def dval : List Int → Nat
  | [] => 0
  | x :: l => x.toNat + 10 * dval l
section
variable {E : CallRel}
end
section
variable {E : CallRel}
def powN (b n : Nat) : Nat := b ^ n
theorem powN_lt {b j n : Nat} (hb : 1 < b) (h : b ^ j < powN b n) : j < n := (Nat.pow_lt_pow_iff_right hb).1 h
def lim2000 : Nat := powN 10 2000
def lim2000sq : Nat := powN 2 13288
theorem pow_lim10 {j x : Nat} (h1 : 10 ^ j ≤ x) (h2 : x < lim2000) : j < 2000 := powN_lt (n := 2000) (by omega) (Nat.lt_of_le_of_lt h1 h2)
theorem lim2000_len {x : Nat} (h : x < lim2000) : (decL x).length ≤ 2000 := by
  by_cases hx0 : x = 0
  · subst hx0
    have : (decL 0).length = 1 := rfl
    omega
  · have h1 := pow_lim10 (decL_len hx0) h
    omega
end
theorem lim2000_limbs {x : Nat} (h : x < lim2000) : (limG x).length ≤ 208 := by
  refine limG_len (Nat.lt_of_lt_of_le h ?_)
  show lim2000 ≤ 4294967296 ^ 208
  exact of_decide_eq_true (by kernel_rfl)
theorem powN_le {b n m : Nat} (hb : 0 < b) (h : n ≤ m) : b ^ n ≤ powN b m := Nat.pow_le_pow_right hb h
theorem pow10_le {n : Nat} (h : n ≤ 2000) : 10 ^ n ≤ lim2000 := powN_le (by omega) h
section
variable {E : CallRel}
end
end Go.Proofs.Ytlejgleocnemoaa.I

namespace Go.Proofs.Ytlejgleocnemoaa.I
open Go Go.V
attribute [local go_sem_proc ↓] reduceIte
attribute [local go_sem_proc] Nat.reduceEqDiff Nat.reduceAdd Nat.reduceMul Nat.reduceLeDiff Nat.reduceLT Int.reduceToNat Int.reduceLT Int.reduceLE reduceCtorEq Nat.reduceBEq
attribute [local go_sem] mNil nat0 beq_self_eq_true mSkip mRet mExit mReg mSeq mCond mTrue mFalse mBlock mLv mCodeE mCodeR mEndN mEndR mEndE mOps mSome mGuard mGtt mGff mGtf mGft mGu mCallP mCallR mCallF mCallO mCallZ mCallG mCallM mCallV loopQ_exit loopQ_ret mO_mov mO_newnil mO_pick mO_alloc mO_box mO_build mO_bsl mO_bslF mO_newnilB mO_bslB mO_lenB mO_appB mO_allocA mO_bslA mO_appA mO_ldb mO_faddrb mRsv mO_ldf mO_ld mO_st mO_sta mO_nilchk mO_bin mO_binb mO_binp mO_bins mO_neg mO_com mO_not mO_conv mO_mk mO_mk0 mO_s2b mO_b2s mO_cpy mO_cut mO_faddr mO_fld mO_iaddr mO_iaddrf mO_sidx mO_len mO_lenf mO_slen mO_scut mO_app mO_ext mO_mx mO_mn mO_mkfn evalOp cutOp argsE ev getE putE cellsOf adopt rowOf binV boolV nilV ar_add ar_sub ar_mul ar_quo ar_rem ar_eq ar_ne ar_lt ar_le ar_gt ar_ge ar_and ar_or ar_xor geto bound finRet finNrm ints List.length_cons List.length_nil List.length_append List.getElem?_cons_zero List.getElem?_cons_succ List.nil_append List.cons_append List.map_cons List.map_nil List.mapM_cons List.mapM_nil Option.map_some Option.map_none Option.bind_some Option.pure_def Option.bind_eq_bind List.drop_zero or_self or_false false_or or_true true_or true_and and_true and_self decide_true decide_false Bool.false_eq_true Bool.true_eq_false Bool.not_true Bool.not_false Nat.le_refl eq_self gt_iff_lt ge_iff_le ne_eq not_true_eq_false not_false_eq_true storeOp apartOf freeze_nil refsL refs List.flatMap_cons List.flatMap_nil List.append_nil List.contains_nil List.set_cons_zero List.set_cons_succ snap snapL fill_nums flat_nums nums_length Go.V.freeze List.mapIdx_cons List.mapIdx_nil List.contains_cons Bool.or_false Bool.false_or Bool.or_true Bool.true_or
def ratG (n : Bool) (p q : Nat) : List AV := [us32 (limG p), .bool n, us32 (limG q)]
def numG (n : Bool) (p q : Nat) : List AV := [.bool n, .str (dec p), .str (dec q)]
def dn (q : Nat) : Nat := if q = 0 then 1 else q
section
variable {E : CallRel}
theorem c123_nat {n : Nat} : Go.V.Call tab E 123 [natC n] [] (.bool (decide (n = 0))) [] := by
  have h := c123_ok (E := E) (l := limG n)
  by_cases h0 : n = 0
  · subst h0
    rw [limG_zero] at h
    rw [natC, limG_zero, decide_eq_true rfl]
    exact h
  · have : (((limG n).length : Int) == 0) = false := by
      rw [beq_eq_false_iff_ne]
      intro h1
      exact h0 (limG_len0 (by omega))
    rw [this] at h
    rw [decide_eq_false h0]
    exact h
theorem c77_gen {n : Bool} {p : Nat} : Go.V.Call tab E 77 [.agg [us32 (limG p), .bool n]] [] (.bool n) [] := by
  refine Go.V.Call.mach i77 c77 rfl rfl rfl rfl ?_
  simp only [c77, us32, go_sem, sub, fillAll, fillIn, shiftR, shiftV, List.take_succ_cons, List.take_zero, List.drop_succ_cons, List.drop_zero, List.append_nil, Nat.zero_add]
  simp only [i77, Out, resAll, geto, ints, List.getElem?_cons_zero, List.getElem?_cons_succ, resOf, outOf, snap, snapL, ev, getE, List.mapM_cons, List.mapM_nil, Option.bind_some, Option.pure_def, Option.bind_eq_bind, Option.map_some, reduceIte, Nat.reduceEqDiff, true_and, and_true]
theorem c134_gen {n : Bool} {p : Nat} : Go.V.Call tab E 134 [.agg [us32 (limG p), .bool n]] [] (natC p) [] := by
  refine Go.V.Call.mach i134 c134 rfl rfl rfl rfl ?_
  simp only [c134, natC, us32, go_sem, sub, fillAll, fillIn, shiftR, shiftV, List.take_succ_cons, List.take_zero, List.drop_succ_cons, List.drop_zero, List.append_nil, Nat.zero_add]
  simp only [i134, Out, resAll, geto, ints, List.getElem?_cons_zero, List.getElem?_cons_succ, resOf, outOf, snap, snapL, ev, getE, List.mapM_cons, List.mapM_nil, Option.bind_some, Option.pure_def, Option.bind_eq_bind, Option.map_some, reduceIte, Nat.reduceEqDiff, true_and, and_true, sub, fillAll, fillIn, shiftR, shiftV, List.take_succ_cons, List.take_zero, List.drop_succ_cons, List.drop_zero, List.append_nil, Nat.zero_add, List.length_cons, List.length_nil, Nat.le_refl, us32]
theorem c79_gen {n : Bool} {p q : Nat} : Go.V.Call tab E 79 [.agg (ratG n p q)] [] (natC (dn q)) [] := by
  refine Go.V.Call.mach i79 c79 rfl rfl rfl rfl ?_
  have h124 := c123_nat (E := E) (n := q)
  simp only [natC, us32] at h124
  simp only [c79, natC, ratG, us32, go_sem, sub, fillAll, fillIn, shiftR, shiftV, List.take_succ_cons, List.take_zero, List.drop_succ_cons, List.drop_zero, List.append_nil, Nat.zero_add]
  refine goP h124 ?_
  by_cases h : q = 0
  · subst h
    have h90 := c114_nat (E := E) (n := 1) (by omega)
    simp only [natC, us32] at h90
    simp only [dn, us32, go_sem, sub, fillAll, fillIn, shiftR, shiftV, List.take_succ_cons, List.take_zero, List.drop_succ_cons, List.drop_zero, List.append_nil, Nat.zero_add]
    refine goP h90 ?_
    simp only [us32, go_sem, sub, fillAll, fillIn, shiftR, shiftV, List.take_succ_cons, List.take_zero, List.drop_succ_cons, List.drop_zero, List.append_nil, Nat.zero_add]
    simp only [i79, Out, resAll, geto, ints, List.getElem?_cons_zero, List.getElem?_cons_succ, resOf, outOf, snap, snapL, ev, getE, List.mapM_cons, List.mapM_nil, Option.bind_some, Option.pure_def, Option.bind_eq_bind, Option.map_some, reduceIte, Nat.reduceEqDiff, true_and, and_true, sub, fillAll, fillIn, shiftR, shiftV, List.take_succ_cons, List.take_zero, List.drop_succ_cons, List.drop_zero, List.append_nil, Nat.zero_add, List.length_cons, List.length_nil, Nat.le_refl, us32]
  · simp only [dn, us32, go_sem, sub, fillAll, fillIn, shiftR, shiftV, List.take_succ_cons, List.take_zero, List.drop_succ_cons, List.drop_zero, List.append_nil, Nat.zero_add, h]
    simp only [i79, Out, resAll, geto, ints, List.getElem?_cons_zero, List.getElem?_cons_succ, resOf, outOf, snap, snapL, ev, getE, List.mapM_cons, List.mapM_nil, Option.bind_some, Option.pure_def, Option.bind_eq_bind, Option.map_some, reduceIte, Nat.reduceEqDiff, true_and, and_true, sub, fillAll, fillIn, shiftR, shiftV, List.take_succ_cons, List.take_zero, List.drop_succ_cons, List.drop_zero, List.append_nil, Nat.zero_add, List.length_cons, List.length_nil, Nat.le_refl, us32]
theorem dgs_small {n : Nat} (h : n < lim2000) : (dgs n).length ≤ 1000000 := by
  by_cases h0 : n = 0
  · subst h0; rw [dgs_zero]; simp
  · have := lim2000_len h
    unfold decL at this
    rw [if_neg h0, List.length_reverse, asc_len] at this
    omega
theorem c78_lim {n : Nat} (h : n < lim2000) : Go.V.Call tab E 78 [natC n] [] (.str (dec n)) [] :=
  c78_ok (Nat.le_trans (lim2000_limbs h) (by omega)) (dgs_small h)
theorem c26_gen {n : Bool} {p q : Nat} (hp : p < lim2000) (hq : dn q < lim2000) : Go.V.Call tab E 26 [.agg (ratG n p q)] [] (.agg (numG n p (dn q))) [] := by
  have h99 := c78_lim (E := E) hp
  have h991 := c78_lim (E := E) hq
  have h98 := c77_gen (E := E) (n := n) (p := p)
  have h100 := c79_gen (E := E) (n := n) (p := p) (q := q)
  simp only [natC, us32, ratG] at h99 h991 h98 h100
  refine Go.V.Call.mach i26 c26 rfl rfl rfl rfl ?_
  simp only [c26, ratG, us32, go_sem, sub, fillAll, fillIn, shiftR, shiftV, List.take_succ_cons, List.take_zero, List.drop_succ_cons, List.drop_zero, List.append_nil, Nat.zero_add]
  refine goP h98 ?_
  simp only [us32, go_sem, sub, fillAll, fillIn, shiftR, shiftV, List.take_succ_cons, List.take_zero, List.drop_succ_cons, List.drop_zero, List.append_nil, Nat.zero_add]
  refine goP h99 ?_
  simp only [us32, go_sem, sub, fillAll, fillIn, shiftR, shiftV, List.take_succ_cons, List.take_zero, List.drop_succ_cons, List.drop_zero, List.append_nil, Nat.zero_add]
  refine goP h100 ?_
  simp only [us32, go_sem, sub, fillAll, fillIn, shiftR, shiftV, List.take_succ_cons, List.take_zero, List.drop_succ_cons, List.drop_zero, List.append_nil, Nat.zero_add]
  refine goP h991 ?_
  simp only [us32, go_sem, sub, fillAll, fillIn, shiftR, shiftV, List.take_succ_cons, List.take_zero, List.drop_succ_cons, List.drop_zero, List.append_nil, Nat.zero_add]
  simp only [i26, Out, resAll, geto, ints, List.getElem?_cons_zero, List.getElem?_cons_succ, resOf, outOf, snap, snapL, ev, getE, List.mapM_cons, List.mapM_nil, Option.bind_some, Option.pure_def, Option.bind_eq_bind, Option.map_some, reduceIte, Nat.reduceEqDiff, true_and, and_true, sub, fillAll, fillIn, shiftR, shiftV, List.take_succ_cons, List.take_zero, List.drop_succ_cons, List.drop_zero, List.append_nil, Nat.zero_add, List.length_cons, List.length_nil, Nat.le_refl, numG]
theorem c136_ok {n : Bool} {p : Nat} : Go.V.Call tab E 136 [.bool n, natC p] [] (.agg [us32 (limG p), .bool (n && decide (p ≠ 0))]) [] := by
  refine Go.V.Call.mach i136 c136 rfl rfl rfl rfl ?_
  have h124 := c123_nat (E := E) (n := p)
  simp only [natC, us32] at h124
  cases n with
  | false =>
    simp only [c136, natC, us32, go_sem, sub, fillAll, fillIn, shiftR, shiftV, List.take_succ_cons, List.take_zero, List.drop_succ_cons, List.drop_zero, List.append_nil, Nat.zero_add]
    simp only [i136, Out, resAll, geto, ints, List.getElem?_cons_zero, List.getElem?_cons_succ, resOf, outOf, snap, snapL, ev, getE, List.mapM_cons, List.mapM_nil, Option.bind_some, Option.pure_def, Option.bind_eq_bind, Option.map_some, reduceIte, Nat.reduceEqDiff, true_and, and_true, sub, fillAll, fillIn, shiftR, shiftV, List.take_succ_cons, List.take_zero, List.drop_succ_cons, List.drop_zero, List.append_nil, Nat.zero_add, List.length_cons, List.length_nil, Nat.le_refl, us32, Bool.false_and]
  | true =>
    simp only [c136, natC, us32, go_sem, sub, fillAll, fillIn, shiftR, shiftV, List.take_succ_cons, List.take_zero, List.drop_succ_cons, List.drop_zero, List.append_nil, Nat.zero_add]
    refine goP h124 ?_
    by_cases h : p = 0
    · subst h
      simp only [us32, go_sem, sub, fillAll, fillIn, shiftR, shiftV, List.take_succ_cons, List.take_zero, List.drop_succ_cons, List.drop_zero, List.append_nil, Nat.zero_add]
      simp only [i136, Out, resAll, geto, ints, List.getElem?_cons_zero, List.getElem?_cons_succ, resOf, outOf, snap, snapL, ev, getE, List.mapM_cons, List.mapM_nil, Option.bind_some, Option.pure_def, Option.bind_eq_bind, Option.map_some, reduceIte, Nat.reduceEqDiff, true_and, and_true, sub, fillAll, fillIn, shiftR, shiftV, List.take_succ_cons, List.take_zero, List.drop_succ_cons, List.drop_zero, List.append_nil, Nat.zero_add, List.length_cons, List.length_nil, Nat.le_refl, us32, Bool.true_and, decide_false, not_true_eq_false, ne_eq]
    · simp only [us32, go_sem, sub, fillAll, fillIn, shiftR, shiftV, List.take_succ_cons, List.take_zero, List.drop_succ_cons, List.drop_zero, List.append_nil, Nat.zero_add, h]
      simp only [i136, Out, resAll, geto, ints, List.getElem?_cons_zero, List.getElem?_cons_succ, resOf, outOf, snap, snapL, ev, getE, List.mapM_cons, List.mapM_nil, Option.bind_some, Option.pure_def, Option.bind_eq_bind, Option.map_some, reduceIte, Nat.reduceEqDiff, true_and, and_true, sub, fillAll, fillIn, shiftR, shiftV, List.take_succ_cons, List.take_zero, List.drop_succ_cons, List.drop_zero, List.append_nil, Nat.zero_add, List.length_cons, List.length_nil, Nat.le_refl, us32, Bool.true_and, decide_true, h, not_false_eq_true, ne_eq]
theorem c107_ok {n1 n2 : Bool} {p q : Nat} (hq : q ≠ 0) (hpl : (limG p).length ≤ 1000000) (hql : (limG q).length ≤ 1000000) :
    Go.V.Call tab E 107 [.agg [us32 (limG p), .bool n1], .agg [us32 (limG q), .bool n2]] [] (.tup [.agg (ratG ((n1 != n2) && decide (p / Nat.gcd p q ≠ 0)) (p / Nat.gcd p q) (q / Nat.gcd p q)), .bool true]) [] := by
  refine Go.V.Call.mach i107 c107 rfl rfl rfl rfl ?_
  have h124 := c123_nat (E := E) (n := q)
  rw [decide_eq_false hq] at h124
  have h136 := c134_gen (E := E) (n := n2) (p := q)
  have h135 := c133_ok (E := E) hpl hql
  have hg0 : Nat.gcd p q ≠ 0 := fun h => hq (Nat.eq_zero_of_gcd_eq_zero_right h)
  have hgl : (limG (Nat.gcd p q)).length ≤ 1000000 := by
    have := limG_mono (Nat.gcd_le_right p (Nat.pos_of_ne_zero hq))
    omega
  have h137p := c135_ok (E := E) hpl hgl hg0
  have h137q := c135_ok (E := E) hql hgl hg0
  generalize Nat.gcd p q = g at *
  have h981 := c77_gen (E := E) (n := n1) (p := p)
  have h982 := c77_gen (E := E) (n := n2) (p := q)
  have h118 := c136_ok (E := E) (n := n1 != n2) (p := p / g)
  generalize p / g = x at *
  generalize q / g = y at *
  simp only [natC, us32] at h124 h136 h135 h137p h137q h981 h982 h118
  have hb : boolV .ne (.bool n1) (.bool n2) = some (.bool (n1 != n2)) := by cases n1 <;> cases n2 <;> rfl
  simp only [c107, natC, us32, go_sem, sub, fillAll, fillIn, shiftR, shiftV, List.take_succ_cons, List.take_zero, List.drop_succ_cons, List.drop_zero, List.append_nil, Nat.zero_add]
  refine goP h124 ?_
  simp only [us32, go_sem, sub, fillAll, fillIn, shiftR, shiftV, List.take_succ_cons, List.take_zero, List.drop_succ_cons, List.drop_zero, List.append_nil, Nat.zero_add]
  refine goP h136 ?_
  simp only [us32, go_sem, sub, fillAll, fillIn, shiftR, shiftV, List.take_succ_cons, List.take_zero, List.drop_succ_cons, List.drop_zero, List.append_nil, Nat.zero_add]
  refine goP h135 ?_
  simp only [us32, go_sem, sub, fillAll, fillIn, shiftR, shiftV, List.take_succ_cons, List.take_zero, List.drop_succ_cons, List.drop_zero, List.append_nil, Nat.zero_add]
  refine goF h137p ?_
  simp only [us32, go_sem, sub, fillAll, fillIn, shiftR, shiftV, List.take_succ_cons, List.take_zero, List.drop_succ_cons, List.drop_zero, List.append_nil, Nat.zero_add]
  refine goF h137q ?_
  simp only [us32, go_sem, sub, fillAll, fillIn, shiftR, shiftV, List.take_succ_cons, List.take_zero, List.drop_succ_cons, List.drop_zero, List.append_nil, Nat.zero_add]
  refine goP h981 ?_
  simp only [us32, go_sem, sub, fillAll, fillIn, shiftR, shiftV, List.take_succ_cons, List.take_zero, List.drop_succ_cons, List.drop_zero, List.append_nil, Nat.zero_add]
  refine goP h982 ?_
  simp only [us32, go_sem, sub, fillAll, fillIn, shiftR, shiftV, List.take_succ_cons, List.take_zero, List.drop_succ_cons, List.drop_zero, List.append_nil, Nat.zero_add, hb]
  refine goF h118 ?_
  simp only [us32, go_sem, sub, fillAll, fillIn, shiftR, shiftV, List.take_succ_cons, List.take_zero, List.drop_succ_cons, List.drop_zero, List.append_nil, Nat.zero_add]
  simp only [i107, Out, resAll, geto, ints, List.getElem?_cons_zero, List.getElem?_cons_succ, resOf, outOf, snap, snapL, ev, getE, List.mapM_cons, List.mapM_nil, Option.bind_some, Option.pure_def, Option.bind_eq_bind, Option.map_some, reduceIte, Nat.reduceEqDiff, true_and, and_true, sub, fillAll, fillIn, shiftR, shiftV, List.take_succ_cons, List.take_zero, List.drop_succ_cons, List.drop_zero, List.append_nil, Nat.zero_add, List.length_cons, List.length_nil, Nat.le_refl, ratG, us32]
theorem c107_zero {n1 n2 : Bool} {p : Nat} : Go.V.Call tab E 107 [.agg [us32 (limG p), .bool n1], .agg [us32 (limG 0), .bool n2]] [] (.tup [.agg (ratG false 0 0), .bool false]) [] := by
  have h124 := c123_nat (E := E) (n := 0)
  rw [decide_eq_true rfl] at h124
  simp only [natC, us32, limG_zero] at h124
  simp only [ratG, us32, limG_zero]
  refine Go.V.Call.mach i107 c107 rfl rfl rfl rfl ?_
  simp only [c107, natC, us32, go_sem, sub, fillAll, fillIn, shiftR, shiftV, List.take_succ_cons, List.take_zero, List.drop_succ_cons, List.drop_zero, List.append_nil, Nat.zero_add]
  refine goP h124 ?_
  simp only [us32, go_sem, sub, fillAll, fillIn, shiftR, shiftV, List.take_succ_cons, List.take_zero, List.drop_succ_cons, List.drop_zero, List.append_nil, Nat.zero_add]
  simp only [i107, Out, resAll, geto, ints, List.getElem?_cons_zero, List.getElem?_cons_succ, resOf, outOf, snap, snapL, ev, getE, List.mapM_cons, List.mapM_nil, Option.bind_some, Option.pure_def, Option.bind_eq_bind, Option.map_some, reduceIte, Nat.reduceEqDiff, true_and, and_true, sub, fillAll, fillIn, shiftR, shiftV, List.take_succ_cons, List.take_zero, List.drop_succ_cons, List.drop_zero, List.append_nil, Nat.zero_add, List.length_cons, List.length_nil, Nat.le_refl, ratG, us32]
  rfl
def RightN (n : Bool) (a b : List Int) : Prop := RightS a ∧ RightS b ∧ trimS a = a ∧ trimS b = b ∧ b ≠ [48] ∧ Nat.gcd (sval a) (sval b) = 1 ∧ ¬ (n = true ∧ a = [48])
end
end Go.Proofs.Ytlejgleocnemoaa.I

namespace Go.Proofs.Ytlejgleocnemoaa.I
open Go Go.V
section
variable {E : CallRel}
theorem max1 {d : Int} : max 1 d = if 1 ≤ d then d else 1 := by rw [Int.max_def]
end
end Go.Proofs.Ytlejgleocnemoaa.I

namespace Go.Proofs.Ytlejgleocnemoaa.I
open Go Go.V
section
variable {E : CallRel}
theorem c85_ok {s t : List Int} (hs : (s.length : Int) ≤ 1000000000000000) (ht : (t.length : Int) ≤ 1000000000000000) : Go.V.Call tab E 85 [ints s, ints t] [] (.bool (decide (s = t))) [] := by
  refine Go.V.Call.mach i85 c85 rfl rfl rfl rfl ?_
  by_cases hl : s.length = t.length
  · have hl' : (s.length : Int) = (t.length : Int) := by omega
    simp only [c85, mNil, nat0, beq_self_eq_true, mSkip, mRet, mExit, mReg, mSeq, mCond, mTrue, mFalse, mBlock, mLv, mCodeE, mCodeR, mEndN, mEndR, mEndE, mOps, mSome, mGuard, mGtt, mGff, mGtf, mGft, mGu, mCallP, mCallR, mCallF, mCallO, mCallZ, mCallG, mCallM, mCallV, loopQ_exit, loopQ_ret, mO_mov, mO_newnil, mO_pick, mO_alloc, mO_box, mO_build, mO_bsl, mO_bslF, mO_newnilB, mO_bslB, mO_lenB, mO_appB, mO_allocA, mO_bslA, mO_appA, mO_ldb, mO_faddrb, mRsv, mO_ldf, mO_ld, mO_st, mO_sta, mO_nilchk, mO_bin, mO_binb, mO_binp, mO_bins, mO_neg, mO_com, mO_not, mO_conv, mO_mk, mO_mk0, mO_s2b, mO_b2s, mO_cpy, mO_cut, mO_faddr, mO_fld, mO_iaddr, mO_iaddrf, mO_sidx, mO_len, mO_lenf, mO_slen, mO_scut, mO_app, mO_ext, mO_mx, mO_mn, mO_mkfn, evalOp, cutOp, argsE, ev, getE, putE, cellsOf, adopt, rowOf, binV, boolV, nilV, ar_add, ar_sub, ar_mul, ar_quo, ar_rem, ar_eq, ar_ne, ar_lt, ar_le, ar_gt, ar_ge, ar_and, ar_or, ar_xor, geto, bound, finRet, finNrm, ints, List.length_cons, List.length_nil, List.length_append, List.getElem?_cons_zero, List.getElem?_cons_succ, List.nil_append, List.cons_append, List.map_cons, List.map_nil, List.mapM_cons, List.mapM_nil, Option.map_some, Option.map_none, Option.bind_some, Option.pure_def, Option.bind_eq_bind, List.drop_zero, ↓reduceIte, Nat.reduceEqDiff, Nat.reduceAdd, Nat.reduceMul, Nat.reduceLeDiff, Nat.reduceLT, Int.reduceToNat, Int.reduceLT, Int.reduceLE, reduceCtorEq, or_self, or_false, false_or, or_true, true_or, true_and, and_true, and_self, decide_true, decide_false, Bool.false_eq_true, Bool.true_eq_false, Bool.not_true, Bool.not_false, Nat.le_refl, eq_self, gt_iff_lt, ge_iff_le, ne_eq, not_true_eq_false, not_false_eq_true, hl', bne_self_eq_false]
    refine mLoop (fun N st => ∃ (k : Nat), k ≤ s.length ∧ N = s.length - k ∧ s.take k = t.take k ∧
      st = ⟨[(0, ints s), (1, ints t), (5, .int .i64 k)], []⟩) s.length ⟨_, rfl, 0, by omega, by omega, by simp, rfl⟩ ?_
    rintro N s0 ⟨k, hk, rfl, hp, rfl⟩
    by_cases hlt : k < s.length
    · have hlt' : (k : Int) < (t.length : Int) := by omega
      have hlt2 : k < t.length := by omega
      have hk0 : (0 : Int) ≤ (k : Int) := by omega
      have hk1 : IntKind.i64.wrap ((k : Int) + 1) = ((k + 1 : Nat) : Int) := by rw [wrap_i64 (by omega) (by omega)]; omega
      have hsub := sub_nums (k := .i64) hlt
      have hsub2 := sub_nums (k := .i64) hlt2
      by_cases he : s.getD k 0 = t.getD k 0
      · simp only [b85_0, mNil, nat0, beq_self_eq_true, mSkip, mRet, mExit, mReg, mSeq, mCond, mTrue, mFalse, mBlock, mLv, mCodeE, mCodeR, mEndN, mEndR, mEndE, mOps, mSome, mGuard, mGtt, mGff, mGtf, mGft, mGu, mCallP, mCallR, mCallF, mCallO, mCallZ, mCallG, mCallM, mCallV, loopQ_exit, loopQ_ret, mO_mov, mO_newnil, mO_pick, mO_alloc, mO_box, mO_build, mO_bsl, mO_bslF, mO_newnilB, mO_bslB, mO_lenB, mO_appB, mO_allocA, mO_bslA, mO_appA, mO_ldb, mO_faddrb, mRsv, mO_ldf, mO_ld, mO_st, mO_sta, mO_nilchk, mO_bin, mO_binb, mO_binp, mO_bins, mO_neg, mO_com, mO_not, mO_conv, mO_mk, mO_mk0, mO_s2b, mO_b2s, mO_cpy, mO_cut, mO_faddr, mO_fld, mO_iaddr, mO_iaddrf, mO_sidx, mO_len, mO_lenf, mO_slen, mO_scut, mO_app, mO_ext, mO_mx, mO_mn, mO_mkfn, evalOp, cutOp, argsE, ev, getE, putE, cellsOf, adopt, rowOf, binV, boolV, nilV, ar_add, ar_sub, ar_mul, ar_quo, ar_rem, ar_eq, ar_ne, ar_lt, ar_le, ar_gt, ar_ge, ar_and, ar_or, ar_xor, geto, bound, finRet, finNrm, ints, List.length_cons, List.length_nil, List.length_append, List.getElem?_cons_zero, List.getElem?_cons_succ, List.nil_append, List.cons_append, List.map_cons, List.map_nil, List.mapM_cons, List.mapM_nil, Option.map_some, Option.map_none, Option.bind_some, Option.pure_def, Option.bind_eq_bind, List.drop_zero, ↓reduceIte, Nat.reduceEqDiff, Nat.reduceAdd, Nat.reduceMul, Nat.reduceLeDiff, Nat.reduceLT, Int.reduceToNat, Int.reduceLT, Int.reduceLE, reduceCtorEq, or_self, or_false, false_or, or_true, true_or, true_and, and_true, and_self, decide_true, decide_false, Bool.false_eq_true, Bool.true_eq_false, Bool.not_true, Bool.not_false, Nat.le_refl, eq_self, gt_iff_lt, ge_iff_le, ne_eq, not_true_eq_false, not_false_eq_true, hl', hlt', hk0, Int.toNat_natCast, hsub, hsub2, he, bne_self_eq_false, hk1]
        refine loopQ_go (rfl) (s.length - (k + 1)) (by omega) ⟨k + 1, by omega, rfl, ?_, rfl⟩
        rw [List.take_add_one, List.take_add_one, hp]
        congr 1
        have h1 : s[k]? = some (s.getD k 0) := by simp [List.getD, hlt]
        have h2 : t[k]? = some (t.getD k 0) := by simp [List.getD, hlt2]
        rw [h1, h2, he]
      · have he' : (s.getD k 0 != t.getD k 0) = true := by simpa using he
        have hne : s ≠ t := fun h => he (by rw [h])
        simp only [b85_0, mNil, nat0, beq_self_eq_true, mSkip, mRet, mExit, mReg, mSeq, mCond, mTrue, mFalse, mBlock, mLv, mCodeE, mCodeR, mEndN, mEndR, mEndE, mOps, mSome, mGuard, mGtt, mGff, mGtf, mGft, mGu, mCallP, mCallR, mCallF, mCallO, mCallZ, mCallG, mCallM, mCallV, loopQ_exit, loopQ_ret, mO_mov, mO_newnil, mO_pick, mO_alloc, mO_box, mO_build, mO_bsl, mO_bslF, mO_newnilB, mO_bslB, mO_lenB, mO_appB, mO_allocA, mO_bslA, mO_appA, mO_ldb, mO_faddrb, mRsv, mO_ldf, mO_ld, mO_st, mO_sta, mO_nilchk, mO_bin, mO_binb, mO_binp, mO_bins, mO_neg, mO_com, mO_not, mO_conv, mO_mk, mO_mk0, mO_s2b, mO_b2s, mO_cpy, mO_cut, mO_faddr, mO_fld, mO_iaddr, mO_iaddrf, mO_sidx, mO_len, mO_lenf, mO_slen, mO_scut, mO_app, mO_ext, mO_mx, mO_mn, mO_mkfn, evalOp, cutOp, argsE, ev, getE, putE, cellsOf, adopt, rowOf, binV, boolV, nilV, ar_add, ar_sub, ar_mul, ar_quo, ar_rem, ar_eq, ar_ne, ar_lt, ar_le, ar_gt, ar_ge, ar_and, ar_or, ar_xor, geto, bound, finRet, finNrm, ints, List.length_cons, List.length_nil, List.length_append, List.getElem?_cons_zero, List.getElem?_cons_succ, List.nil_append, List.cons_append, List.map_cons, List.map_nil, List.mapM_cons, List.mapM_nil, Option.map_some, Option.map_none, Option.bind_some, Option.pure_def, Option.bind_eq_bind, List.drop_zero, ↓reduceIte, Nat.reduceEqDiff, Nat.reduceAdd, Nat.reduceMul, Nat.reduceLeDiff, Nat.reduceLT, Int.reduceToNat, Int.reduceLT, Int.reduceLE, reduceCtorEq, or_self, or_false, false_or, or_true, true_or, true_and, and_true, and_self, decide_true, decide_false, Bool.false_eq_true, Bool.true_eq_false, Bool.not_true, Bool.not_false, Nat.le_refl, eq_self, gt_iff_lt, ge_iff_le, ne_eq, not_true_eq_false, not_false_eq_true, hl', hlt', hk0, Int.toNat_natCast, hsub, hsub2, he']
        simp only [i85, Out, resAll, geto, ints, List.getElem?_cons_zero, List.getElem?_cons_succ, resOf, outOf, snap, snapL, ev, getE, List.mapM_cons, List.mapM_nil, Option.bind_some, Option.pure_def, Option.bind_eq_bind, Option.map_some, reduceIte, Nat.reduceEqDiff, true_and, and_true, hne, decide_false]
    · have hlt' : ¬ (k : Int) < (t.length : Int) := by omega
      have heq : s = t := by
        rw [List.take_of_length_le (by omega), List.take_of_length_le (by omega)] at hp
        exact hp
      simp only [b85_0, k85_0, mNil, nat0, beq_self_eq_true, mSkip, mRet, mExit, mReg, mSeq, mCond, mTrue, mFalse, mBlock, mLv, mCodeE, mCodeR, mEndN, mEndR, mEndE, mOps, mSome, mGuard, mGtt, mGff, mGtf, mGft, mGu, mCallP, mCallR, mCallF, mCallO, mCallZ, mCallG, mCallM, mCallV, loopQ_exit, loopQ_ret, mO_mov, mO_newnil, mO_pick, mO_alloc, mO_box, mO_build, mO_bsl, mO_bslF, mO_newnilB, mO_bslB, mO_lenB, mO_appB, mO_allocA, mO_bslA, mO_appA, mO_ldb, mO_faddrb, mRsv, mO_ldf, mO_ld, mO_st, mO_sta, mO_nilchk, mO_bin, mO_binb, mO_binp, mO_bins, mO_neg, mO_com, mO_not, mO_conv, mO_mk, mO_mk0, mO_s2b, mO_b2s, mO_cpy, mO_cut, mO_faddr, mO_fld, mO_iaddr, mO_iaddrf, mO_sidx, mO_len, mO_lenf, mO_slen, mO_scut, mO_app, mO_ext, mO_mx, mO_mn, mO_mkfn, evalOp, cutOp, argsE, ev, getE, putE, cellsOf, adopt, rowOf, binV, boolV, nilV, ar_add, ar_sub, ar_mul, ar_quo, ar_rem, ar_eq, ar_ne, ar_lt, ar_le, ar_gt, ar_ge, ar_and, ar_or, ar_xor, geto, bound, finRet, finNrm, ints, List.length_cons, List.length_nil, List.length_append, List.getElem?_cons_zero, List.getElem?_cons_succ, List.nil_append, List.cons_append, List.map_cons, List.map_nil, List.mapM_cons, List.mapM_nil, Option.map_some, Option.map_none, Option.bind_some, Option.pure_def, Option.bind_eq_bind, List.drop_zero, ↓reduceIte, Nat.reduceEqDiff, Nat.reduceAdd, Nat.reduceMul, Nat.reduceLeDiff, Nat.reduceLT, Int.reduceToNat, Int.reduceLT, Int.reduceLE, reduceCtorEq, or_self, or_false, false_or, or_true, true_or, true_and, and_true, and_self, decide_true, decide_false, Bool.false_eq_true, Bool.true_eq_false, Bool.not_true, Bool.not_false, Nat.le_refl, eq_self, gt_iff_lt, ge_iff_le, ne_eq, not_true_eq_false, not_false_eq_true, hl', hlt']
      simp only [i85, Out, resAll, geto, ints, List.getElem?_cons_zero, List.getElem?_cons_succ, resOf, outOf, snap, snapL, ev, getE, List.mapM_cons, List.mapM_nil, Option.bind_some, Option.pure_def, Option.bind_eq_bind, Option.map_some, reduceIte, Nat.reduceEqDiff, true_and, and_true, heq, decide_true]
  · have hl' : ((s.length : Int) != (t.length : Int)) = true := by simp; omega
    have hne : s ≠ t := fun h => hl (by rw [h])
    simp only [c85, mNil, nat0, beq_self_eq_true, mSkip, mRet, mExit, mReg, mSeq, mCond, mTrue, mFalse, mBlock, mLv, mCodeE, mCodeR, mEndN, mEndR, mEndE, mOps, mSome, mGuard, mGtt, mGff, mGtf, mGft, mGu, mCallP, mCallR, mCallF, mCallO, mCallZ, mCallG, mCallM, mCallV, loopQ_exit, loopQ_ret, mO_mov, mO_newnil, mO_pick, mO_alloc, mO_box, mO_build, mO_bsl, mO_bslF, mO_newnilB, mO_bslB, mO_lenB, mO_appB, mO_allocA, mO_bslA, mO_appA, mO_ldb, mO_faddrb, mRsv, mO_ldf, mO_ld, mO_st, mO_sta, mO_nilchk, mO_bin, mO_binb, mO_binp, mO_bins, mO_neg, mO_com, mO_not, mO_conv, mO_mk, mO_mk0, mO_s2b, mO_b2s, mO_cpy, mO_cut, mO_faddr, mO_fld, mO_iaddr, mO_iaddrf, mO_sidx, mO_len, mO_lenf, mO_slen, mO_scut, mO_app, mO_ext, mO_mx, mO_mn, mO_mkfn, evalOp, cutOp, argsE, ev, getE, putE, cellsOf, adopt, rowOf, binV, boolV, nilV, ar_add, ar_sub, ar_mul, ar_quo, ar_rem, ar_eq, ar_ne, ar_lt, ar_le, ar_gt, ar_ge, ar_and, ar_or, ar_xor, geto, bound, finRet, finNrm, ints, List.length_cons, List.length_nil, List.length_append, List.getElem?_cons_zero, List.getElem?_cons_succ, List.nil_append, List.cons_append, List.map_cons, List.map_nil, List.mapM_cons, List.mapM_nil, Option.map_some, Option.map_none, Option.bind_some, Option.pure_def, Option.bind_eq_bind, List.drop_zero, ↓reduceIte, Nat.reduceEqDiff, Nat.reduceAdd, Nat.reduceMul, Nat.reduceLeDiff, Nat.reduceLT, Int.reduceToNat, Int.reduceLT, Int.reduceLE, reduceCtorEq, or_self, or_false, false_or, or_true, true_or, true_and, and_true, and_self, decide_true, decide_false, Bool.false_eq_true, Bool.true_eq_false, Bool.not_true, Bool.not_false, Nat.le_refl, eq_self, gt_iff_lt, ge_iff_le, ne_eq, not_true_eq_false, not_false_eq_true, hl']
    simp only [i85, Out, resAll, geto, ints, List.getElem?_cons_zero, List.getElem?_cons_succ, resOf, outOf, snap, snapL, ev, getE, List.mapM_cons, List.mapM_nil, Option.bind_some, Option.pure_def, Option.bind_eq_bind, Option.map_some, reduceIte, Nat.reduceEqDiff, true_and, and_true, hne, decide_false]
end
end Go.Proofs.Ytlejgleocnemoaa.I

namespace Go.Proofs.Ytlejgleocnemoaa.I
open Go Go.V
attribute [local go_sem] mNil nat0 beq_self_eq_true mSkip mRet mExit mReg mSeq mCond mTrue mFalse mBlock mLv mCodeE mCodeR mEndN mEndR mEndE mOps mSome mGuard mGtt mGff mGtf mGft mGu mCallP mCallR mCallF mCallO mCallZ mCallG mCallM mCallV loopQ_exit loopQ_ret mO_mov mO_newnil mO_pick mO_alloc mO_box mO_build mO_bsl mO_bslF mO_newnilB mO_bslB mO_lenB mO_appB mO_allocA mO_bslA mO_appA mO_ldb mO_faddrb mRsv mO_ldf mO_ld mO_st mO_sta mO_nilchk mO_bin mO_binb mO_binp mO_bins mO_neg mO_com mO_not mO_conv mO_mk mO_mk0 mO_s2b mO_b2s mO_cpy mO_cut mO_faddr mO_fld mO_iaddr mO_iaddrf mO_sidx mO_len mO_lenf mO_slen mO_scut mO_app mO_ext mO_mx mO_mn mO_mkfn evalOp cutOp argsE ev getE putE cellsOf adopt rowOf binV boolV nilV ar_add ar_sub ar_mul ar_quo ar_rem ar_eq ar_ne ar_lt ar_le ar_gt ar_ge ar_and ar_or ar_xor geto bound finRet finNrm ints List.length_cons List.length_nil List.length_append List.getElem?_cons_zero List.getElem?_cons_succ List.nil_append List.cons_append List.map_cons List.map_nil List.mapM_cons List.mapM_nil Option.map_some Option.map_none Option.bind_some Option.pure_def Option.bind_eq_bind List.drop_zero or_self or_false false_or or_true true_or true_and and_true and_self decide_true decide_false Bool.false_eq_true Bool.true_eq_false Bool.not_true Bool.not_false Nat.le_refl eq_self gt_iff_lt ge_iff_le ne_eq not_true_eq_false not_false_eq_true storeOp apartOf freeze_nil refsL refs List.flatMap_cons List.flatMap_nil List.append_nil List.contains_nil List.set_cons_zero List.set_cons_succ snap snapL fill_nums flat_nums nums_length Go.V.freeze List.mapIdx_cons List.mapIdx_nil List.contains_cons Bool.or_false Bool.false_or Bool.or_true Bool.true_or
def runes (t : List Int) : AV := .sl t.length 1 (nums .i32 t)
def arrG (s : List Int) (ch : Bool) (t l : List Int) : List AV := [ints s, .bool ch, runes t, .sl l.length 3 (ratsC l), .bool true]
def numsC (l : List Int) : List AV := l.flatMap numC
def plG (s : List Int) (ch : Bool) (t l : List Int) : List AV := [ints s, .bool ch, runes t, .sl l.length 3 (numsC l)]
def noA : List AV := [.sl 0 1 [], .bool false, .sl 0 1 [], .sl 0 3 [], .bool false]
theorem numsC_snoc {l : List Int} {z : Int} : numsC (l ++ [z]) = numsC l ++ numC z := by simp [numsC]
theorem beqBA {a : ByteArray} : (a == a) = true := by
  obtain ⟨⟨l⟩⟩ := a
  show ((⟨l⟩ : Array UInt8) == ⟨l⟩) = true
  simp
section
variable {E : CallRel}
end
theorem beq_bs {a b : List Int} (ha : U8 a) (hb : U8 b) : (bs a == bs b) = decide (a = b) := by
  by_cases h : a = b
  · subst h
    rw [beqBA, decide_eq_true rfl]
  · rw [decide_eq_false h]
    have h2 : u8l a ≠ u8l b := fun e => h (u8l_inj ha hb e)
    show (((u8l a).toArray : Array UInt8) == (u8l b).toArray) = false
    simpa using h2
theorem num_same {n m : Bool} {a b c d : List Int} (ha : U8 a) (hb : U8 b) (hc : U8 c) (hd : U8 d) :
    structV .eq [0, 2, 2] (.agg [.bool n, .str (bs a), .str (bs b)]) (.agg [.bool m, .str (bs c), .str (bs d)]) = some (.bool (decide (n = m ∧ a = c ∧ b = d))) := by
  have h1 : ([AV.bool n, AV.str (bs a), AV.str (bs b)]).map kindOf = [0, 2, 2] := rfl
  have h2 : ([AV.bool m, AV.str (bs c), AV.str (bs d)]).map kindOf = [0, 2, 2] := rfl
  simp only [structV, h1, h2, and_self, if_true, scalarsEq, scalEq, beq_bs ha hc, beq_bs hb hd]
  by_cases e1 : n = m
  · have : (n == m) = true := by rw [e1]; cases m <;> rfl
    rw [this]
    by_cases e2 : a = c
    · rw [decide_eq_true e2]
      by_cases e3 : b = d
      · rw [decide_eq_true e3]; simp [e1, e2, e3]
      · rw [decide_eq_false e3]; simp [e3]
    · rw [decide_eq_false e2]; simp [e2]
  · have : (n == m) = false := by revert e1; cases n <;> cases m <;> simp
    rw [this]; simp [e1]
section
variable {E : CallRel}
end
end Go.Proofs.Ytlejgleocnemoaa.I

namespace Go.Proofs.Ytlejgleocnemoaa.I
open Go Go.V
attribute [local go_sem_proc ↓] reduceIte
attribute [local go_sem_proc] Nat.reduceEqDiff Nat.reduceAdd Nat.reduceMul Nat.reduceLeDiff Nat.reduceLT Int.reduceToNat Int.reduceLT Int.reduceLE reduceCtorEq Nat.reduceBEq
attribute [local go_sem] mNil nat0 beq_self_eq_true mSkip mRet mExit mReg mSeq mCond mTrue mFalse mBlock mLv mCodeE mCodeR mEndN mEndR mEndE mOps mSome mGuard mGtt mGff mGtf mGft mGu mCallP mCallR mCallF mCallO mCallZ mCallG mCallM mCallV loopQ_exit loopQ_ret mO_mov mO_newnil mO_pick mO_alloc mO_box mO_build mO_bsl mO_bslF mO_newnilB mO_bslB mO_lenB mO_appB mO_allocA mO_bslA mO_appA mO_ldb mO_faddrb mRsv mO_ldf mO_ld mO_st mO_sta mO_nilchk mO_bin mO_binb mO_binp mO_bins mO_neg mO_com mO_not mO_conv mO_mk mO_mk0 mO_s2b mO_b2s mO_cpy mO_cut mO_faddr mO_fld mO_iaddr mO_iaddrf mO_sidx mO_len mO_lenf mO_slen mO_scut mO_app mO_ext mO_mx mO_mn mO_mkfn evalOp cutOp argsE ev getE putE cellsOf adopt rowOf binV boolV nilV ar_add ar_sub ar_mul ar_quo ar_rem ar_eq ar_ne ar_lt ar_le ar_gt ar_ge ar_and ar_or ar_xor geto bound finRet finNrm ints List.length_cons List.length_nil List.length_append List.getElem?_cons_zero List.getElem?_cons_succ List.nil_append List.cons_append List.map_cons List.map_nil List.mapM_cons List.mapM_nil Option.map_some Option.map_none Option.bind_some Option.pure_def Option.bind_eq_bind List.drop_zero or_self or_false false_or or_true true_or true_and and_true and_self decide_true decide_false Bool.false_eq_true Bool.true_eq_false Bool.not_true Bool.not_false Nat.le_refl eq_self gt_iff_lt ge_iff_le ne_eq not_true_eq_false not_false_eq_true storeOp apartOf freeze_nil refsL refs List.flatMap_cons List.flatMap_nil List.append_nil List.contains_nil List.set_cons_zero List.set_cons_succ snap snapL fill_nums flat_nums nums_length Go.V.freeze List.mapIdx_cons List.mapIdx_nil List.contains_cons Bool.or_false Bool.false_or Bool.or_true Bool.true_or
theorem c118_ok {t : List Int} (ht : (t.length : Int) ≤ 1000000000000) : Go.V.Call tab E 118 [runes t] [] (.arr 0 0) [⟨false, 21, 1, 0, t.length, nums .i32 t, false⟩] := by
  refine ⟨0, ?_⟩
  have h1 : t.length * 4 ≤ 140737488355328 := by omega
  have h2 : t.length ≤ 140737488355328 := by omega
  simp only [CallN, E, ext, cloneOf, runes, h1, h2, and_self, if_true]
section
variable {E : CallRel}
end
theorem subP4 {a b c d : AV} : sub true 4 [a, b, c, d] 0 = some (.agg [a, b, c, d]) := rfl
theorem subP3 {a b c d : AV} : sub false 1 [a, b, c, d] (0 + 3) = some d := rfl
theorem subP3' {a b c d : AV} : sub false 1 [a, b, c, d] 3 = some d := rfl
def fits (s : List Int) (n : Nat) : Bool := decide (count s = some (n : Int))
section
variable {E : CallRel}
theorem c57_ok {z : Int} : Go.V.Call tab E 57 [.agg (numC z)] [] (.agg (plG [] false [] [z])) [] := by
  refine Go.V.Call.mach i57 c57 rfl rfl rfl rfl ?_
  simp only [c57, numC, go_sem, sub, fillAll, fillIn, shiftR, shiftV, List.take_succ_cons, List.take_zero, List.drop_succ_cons, List.drop_zero, List.append_nil, Nat.zero_add, List.flatten_cons, List.flatten_nil, Option.getD_some]
  simp only [i57, Out, resAll, geto, ints, List.getElem?_cons_zero, List.getElem?_cons_succ, resOf, outOf, snap, snapL, ev, getE, List.mapM_cons, List.mapM_nil, Option.bind_some, Option.pure_def, Option.bind_eq_bind, Option.map_some, reduceIte, Nat.reduceEqDiff, true_and, and_true, subP4, plG, runes]
  rfl
theorem c15_ok {z : Int} (hz : In64 z) : Go.V.Call tab E 15 [.int .i64 z] [] (.agg (plG [] false [] [z])) [] := by
  refine Go.V.Call.mach i15 c15 rfl rfl rfl rfl ?_
  simp only [c15, go_sem]
  refine goP (c58_ok hz) ?_
  simp only [go_sem, numC]
  refine goP (c57_ok (z := z)) ?_
  simp only [go_sem, plG, runes, fillAll, fillIn, shiftR, shiftV, List.take_succ_cons, List.take_zero, List.drop_succ_cons, List.drop_zero, List.append_nil, Nat.zero_add]
  simp only [i15, Out, resAll, geto, ints, List.getElem?_cons_zero, List.getElem?_cons_succ, resOf, outOf, snap, snapL, ev, getE, List.mapM_cons, List.mapM_nil, Option.bind_some, Option.pure_def, Option.bind_eq_bind, Option.map_some, reduceIte, Nat.reduceEqDiff, true_and, and_true, subP4, plG, runes]
theorem c41_ok {l : List Int} (hl : (l.length : Int) ≤ 1000000000000) (hz : ∀ z ∈ l, In64 z) : Go.V.Call tab E 41 [ints l] [] (.agg (plG [(l.length : Int)] false [] l)) [] := by
  refine Go.V.Call.mach i41 c41 rfl rfl rfl rfl ?_
  simp only [c41, go_sem, fillAll, fillIn, shiftR, shiftV, List.take_succ_cons, List.take_zero, List.drop_succ_cons, List.drop_zero, List.append_nil, Nat.zero_add, List.flatten_cons, List.flatten_nil, Option.getD_some]
  refine mLoop (fun N st => ∃ (i : Nat), i ≤ l.length ∧ N = l.length - i ∧
    st = ⟨[(0, ints l), (2, .loc 3 0 0), (3, .loc 8 0 0), (4, .int .i64 i)],
      [⟨false, 3, 1, 0, 0, [], false⟩, ⟨false, 21, 1, 0, 0, [], false⟩, ⟨false, 52, 3, 0, 0, [], false⟩, ⟨true, 37, 4, 0, 1, [.arr 0 0, .bool false, .arr 1 0, .arr 2 0], false⟩,
       ⟨false, 3, 1, 0, 1, [.int .i64 l.length], false⟩, ⟨false, 3, 1, 0, 0, [], false⟩, ⟨false, 21, 1, 0, 0, [], false⟩, ⟨false, 52, 3, 0, 0, [], false⟩, ⟨true, 37, 4, 0, 1, [.arr 4 0, .bool false, .arr 9 0, .arr 10 i], false⟩,
       ⟨false, 21, 1, 0, 0, [], false⟩, ⟨false, 52, 3, i, i, numsC (l.take i), false⟩]⟩) l.length
    ⟨_, rfl, 0, by omega, by omega, by simp [getE, ints, numsC]⟩ ?_
  rintro N s0 ⟨i, hi, rfl, rfl⟩
  by_cases hlt : i < l.length
  · have hlt' : (i : Int) < (l.length : Int) := by omega
    have hi0 : (0 : Int) ≤ (i : Int) := by omega
    have hi1 : IntKind.i64.wrap ((i : Int) + 1) = ((i + 1 : Nat) : Int) := by rw [wrap_i64 (by omega) (by omega)]; omega
    have hsub := sub_nums (k := .i64) hlt
    have hzi : In64 (l.getD i 0) := hz _ (by simp [List.getD, hlt])
    have htk := take_snoc hlt
    have e1 : (i + 1) * 40 ≤ 140737488355328 := by omega
    have e2 : i + 1 ≤ 140737488355328 := by omega
    simp only [b41_0, go_sem, hlt', hi0, Int.toNat_natCast, hsub, subP3, subP3']
    refine goP (c58_ok hzi) ?_
    simp only [go_sem, fillAll, fillIn, shiftR, shiftV, List.take_succ_cons, List.take_zero, List.drop_succ_cons, List.drop_zero, List.append_nil, Nat.zero_add, hi1, e1, e2, numC, List.flatten_cons, List.flatten_nil, Option.getD_some]
    refine loopQ_go rfl (l.length - (i + 1)) (by omega) ⟨i + 1, by omega, rfl, ?_⟩
    rw [htk, numsC_snoc]
    rfl
  · have hlt' : ¬ (i : Int) < (l.length : Int) := by omega
    obtain rfl : i = l.length := by omega
    simp only [b41_0, k41_0, go_sem, hlt', List.take_length, subP4, fillAll, fillIn, shiftR, shiftV, List.take_succ_cons, List.take_zero, List.drop_succ_cons, List.drop_zero, List.append_nil, Nat.zero_add]
    simp only [i41, Out, resAll, geto, ints, List.getElem?_cons_zero, List.getElem?_cons_succ, resOf, outOf, snap, snapL, ev, getE, List.mapM_cons, List.mapM_nil, Option.bind_some, Option.pure_def, Option.bind_eq_bind, Option.map_some, reduceIte, Nat.reduceEqDiff, true_and, and_true, plG, runes, subP4, nums, List.map_cons, List.map_nil, List.length_cons, List.length_nil]
end
abbrev Nm := Bool × List Int × List Int
abbrev Rt := Bool × Nat × Nat
def nmC (x : Nm) : List AV := [.bool x.1, .str (bs x.2.1), .str (bs x.2.2)]
def rtC (x : Rt) : List AV := ratG x.1 x.2.1 x.2.2
def nmsC (l : List Nm) : List AV := l.flatMap nmC
def rtsC (l : List Rt) : List AV := l.flatMap rtC
def nmAt (l : List Nm) (i : Nat) : Nm := l.getD i (false, [], [])
def rtAt (l : List Rt) (i : Nat) : Rt := l.getD i (false, 0, 0)
def arrX (s : List Int) (ch : Bool) (t : List Int) (l : List Rt) : List AV := [ints s, .bool ch, runes t, .sl l.length 3 (rtsC l), .bool true]
def plX (s : List Int) (ch : Bool) (t : List Int) (l : List Nm) : List AV := [ints s, .bool ch, runes t, .sl l.length 3 (nmsC l)]
def toNm (x : Rt) : Nm := (x.1, decL x.2.1, decL (dn x.2.2))
def toRt (x : Nm) : Rt := (x.1, sval x.2.1, sval x.2.2)
theorem flat_len {α : Type} {f : α → List AV} (hf : ∀ x, (f x).length = 3) : ∀ {l : List α}, (l.flatMap f).length = l.length * 3
  | [] => rfl
  | z :: l => by rw [List.flatMap_cons, List.length_append, hf, flat_len hf, List.length_cons]; omega
theorem flat_get {α : Type} {f : α → List AV} (hf : ∀ x, (f x).length = 3) {d : α} : ∀ {l : List α} {i : Nat}, i < l.length → ((l.flatMap f).drop (i * 3)).take 3 = f (l.getD i d)
  | [], i, h => by simp at h
  | z :: l, 0, _ => by
    rw [List.flatMap_cons, Nat.zero_mul, List.drop_zero, List.take_append_of_le_length (by rw [hf]; omega), List.take_of_length_le (by rw [hf]; omega)]
    rfl
  | z :: l, i + 1, h => by
    rw [List.flatMap_cons, Nat.succ_mul, List.drop_append, List.drop_eq_nil_of_le (by rw [hf]; omega), hf, Nat.add_sub_cancel, List.nil_append, flat_get hf (d := d) (by simpa using h)]
    simp
theorem sub_flat {α : Type} {f : α → List AV} (hf : ∀ x, (f x).length = 3) {d : α} {l : List α} {i : Nat} (h : i < l.length) : sub true 3 (l.flatMap f) (i * 3) = some (.agg (f (l.getD i d))) := by
  simp only [sub, flat_len hf, if_true]
  rw [if_pos (by omega), flat_get hf h]
theorem sub_nms {l : List Nm} {i : Nat} (h : i < l.length) : sub true 3 (nmsC l) (i * 3) = some (.agg (nmC (nmAt l i))) := sub_flat (fun _ => rfl) h
theorem sub_rts {l : List Rt} {i : Nat} (h : i < l.length) : sub true 3 (rtsC l) (i * 3) = some (.agg (rtC (rtAt l i))) := sub_flat (fun _ => rfl) h
theorem takeAt {α : Type} {l : List α} {i : Nat} {d : α} (h : i < l.length) : l.take (i + 1) = l.take i ++ [l.getD i d] := by
  rw [List.take_add_one, List.getElem?_eq_getElem h]
  simp [List.getD, h]
theorem nmsC_snoc {l : List Nm} {x : Nm} : nmsC (l ++ [x]) = nmsC l ++ nmC x := by simp [nmsC]
theorem nmC_dec {x : Rt} : numG x.1 x.2.1 (dn x.2.2) = nmC (toNm x) := by
  simp only [numG, nmC, toNm, dec_eq]
theorem subX1 {a b c d e : AV} : sub false 1 [a, b, c, d, e] 1 = some b := rfl
theorem c23_X {s t : List Int} {l : List Rt} {ch : Bool} (ht : (t.length : Int) ≤ 1000000000000) (hl : (l.length : Int) ≤ 1000000000000) : Go.V.Call tab E 23 [.agg (arrX s ch t l)] [] (.int .i64 ((t.length + l.length : Nat) : Int)) [] := by
  refine Go.V.Call.mach i23 c23 rfl rfl rfl rfl ?_
  have w : IntKind.i64.wrap ((t.length : Int) + (l.length : Int)) = ((t.length + l.length : Nat) : Int) := by rw [wrap_i64 (by omega) (by omega)]; omega
  simp only [c23, arrX, runes, go_sem, sub, fillAll, fillIn, shiftR, shiftV, List.take_succ_cons, List.take_zero, List.drop_succ_cons, List.drop_zero, List.append_nil, Nat.zero_add, w]
  simp only [i23, Out, resAll, geto, ints, List.getElem?_cons_zero, List.getElem?_cons_succ, resOf, outOf, snap, snapL, ev, getE, List.mapM_cons, List.mapM_nil, Option.bind_some, Option.pure_def, Option.bind_eq_bind, Option.map_some, reduceIte, Nat.reduceEqDiff, true_and, and_true]
theorem c44_X {s t : List Int} {l : List Rt} {ch : Bool} (hs : (s.length : Int) ≤ 1000000000000) : Go.V.Call tab E 44 [.agg (arrX s ch t l)] [] (ints s) [] := by
  refine Go.V.Call.mach i44 c44 rfl rfl rfl rfl ?_
  simp only [c44, arrX, runes, go_sem, sub, fillAll, fillIn, shiftR, shiftV, List.take_succ_cons, List.take_zero, List.drop_succ_cons, List.drop_zero, List.append_nil, Nat.zero_add]
  refine goO (c102_ok hs) rfl rfl ?_
  simp only [go_sem, fillAll, fillIn, shiftR, shiftV, List.take_succ_cons, List.take_zero, List.drop_succ_cons, List.drop_zero, List.append_nil, Nat.zero_add]
  simp only [i44, Out, resAll, geto, ints, List.getElem?_cons_zero, List.getElem?_cons_succ, resOf, outOf, snap, snapL, ev, getE, List.mapM_cons, List.mapM_nil, Option.bind_some, Option.pure_def, Option.bind_eq_bind, Option.map_some, reduceIte, Nat.reduceEqDiff, true_and, and_true]
theorem c69_X {s t : List Int} {l : List Rt} {ch : Bool} (ht : (t.length : Int) ≤ 1000000000000) : Go.V.Call tab E 69 [.agg (arrX s ch t l)] [] (.arr 0 0) [⟨false, 21, 1, 0, t.length, nums .i32 t, false⟩] := by
  refine Go.V.Call.mach i69 c69 rfl rfl rfl rfl ?_
  simp only [c69, arrX, runes, go_sem, sub, fillAll, fillIn, shiftR, shiftV, List.take_succ_cons, List.take_zero, List.drop_succ_cons, List.drop_zero, List.append_nil, Nat.zero_add]
  refine goO (c118_ok ht) rfl rfl ?_
  simp only [go_sem, fillAll, fillIn, shiftR, shiftV, List.take_succ_cons, List.take_zero, List.drop_succ_cons, List.drop_zero, List.append_nil, Nat.zero_add]
  simp only [i69, Out, resAll, geto, ints, List.getElem?_cons_zero, List.getElem?_cons_succ, resOf, outOf, snap, snapL, ev, getE, List.mapM_cons, List.mapM_nil, Option.bind_some, Option.pure_def, Option.bind_eq_bind, Option.map_some, reduceIte, Nat.reduceEqDiff, true_and, and_true, ownOut, ownL, ownV, scalar, List.contains_nil, List.length_nil, List.length_cons, List.nil_append, List.cons_append, storeOp, apartOf, freeze_nil, refsL, refs, List.flatMap_cons, List.flatMap_nil, List.append_nil, List.contains_nil, List.set_cons_zero, List.set_cons_succ, snap, snapL, fill_nums, flat_nums, nums_length, reduceCtorEq, Bool.false_eq_true, and_self, not_false_eq_true, beq_self_eq_true, Nat.zero_add]
def pickR (l : List Rt) (k : Int) : Rt := if 0 ≤ k ∧ k < l.length then rtAt l k.toNat else (false, 0, 0)
theorem c25_ok {s t : List Int} {l : List Rt} {ch : Bool} {k : Int} (hl : (l.length : Int) ≤ 1000000000000) : Go.V.Call tab E 25 [.agg (arrX s ch t l), .int .i64 k] [] (.agg (rtC (pickR l k))) [] := by
  have hz : rtC (false, 0, 0) = [.sl 0 1 [], .bool false, .sl 0 1 []] := by
    simp only [rtC, ratG, limG_zero, us32]; rfl
  by_cases h1 : k < 0
  · have hp : pickR l k = (false, 0, 0) := by rw [pickR, if_neg (by omega)]
    rw [hp, hz]
    refine Go.V.Call.mach i25 c25 rfl rfl rfl rfl ?_
    simp only [c25, arrX, runes, go_sem, sub, fillAll, fillIn, shiftR, shiftV, List.take_succ_cons, List.take_zero, List.drop_succ_cons, List.drop_zero, List.append_nil, Nat.zero_add, h1]
    simp only [i25, Out, resAll, geto, ints, List.getElem?_cons_zero, List.getElem?_cons_succ, resOf, outOf, snap, snapL, ev, getE, List.mapM_cons, List.mapM_nil, Option.bind_some, Option.pure_def, Option.bind_eq_bind, Option.map_some, reduceIte, Nat.reduceEqDiff, true_and, and_true, sub, fillAll, fillIn, shiftR, shiftV, List.take_succ_cons, List.take_zero, List.drop_succ_cons, List.drop_zero, List.append_nil, Nat.zero_add, List.length_cons, List.length_nil, Nat.le_refl]
  · by_cases h2 : (l.length : Int) ≤ k
    · have hp : pickR l k = (false, 0, 0) := by rw [pickR, if_neg (by omega)]
      rw [hp, hz]
      refine Go.V.Call.mach i25 c25 rfl rfl rfl rfl ?_
      simp only [c25, arrX, runes, go_sem, sub, fillAll, fillIn, shiftR, shiftV, List.take_succ_cons, List.take_zero, List.drop_succ_cons, List.drop_zero, List.append_nil, Nat.zero_add, h1, h2]
      simp only [i25, Out, resAll, geto, ints, List.getElem?_cons_zero, List.getElem?_cons_succ, resOf, outOf, snap, snapL, ev, getE, List.mapM_cons, List.mapM_nil, Option.bind_some, Option.pure_def, Option.bind_eq_bind, Option.map_some, reduceIte, Nat.reduceEqDiff, true_and, and_true, sub, fillAll, fillIn, shiftR, shiftV, List.take_succ_cons, List.take_zero, List.drop_succ_cons, List.drop_zero, List.append_nil, Nat.zero_add, List.length_cons, List.length_nil, Nat.le_refl]
    · have hp : pickR l k = rtAt l k.toNat := by rw [pickR, if_pos (by omega)]
      rw [hp]
      obtain ⟨j, rfl⟩ := Int.eq_ofNat_of_zero_le (show 0 ≤ k by omega)
      rw [Int.toNat_natCast]
      have hsub := sub_rts (l := l) (i := j) (by omega)
      have h3 : (0 : Int) ≤ (j : Int) := by omega
      have h4 : (j : Int) < (l.length : Int) := by omega
      have subA3' : ∀ {a b c d e : AV}, sub false 1 [a, b, c, d, e] (0 + 3) = some d := fun {a b c d e} => rfl
      refine Go.V.Call.mach i25 c25 rfl rfl rfl rfl ?_
      simp only [c25, arrX, runes, go_sem, subA3, subA3', fillAll, fillIn, shiftR, shiftV, List.take_succ_cons, List.take_zero, List.drop_succ_cons, List.drop_zero, List.append_nil, Nat.zero_add, h1, h2, h3, h4, Int.toNat_natCast, hsub, rtC, ratG, us32]
      simp only [i25, Out, resAll, geto, ints, List.getElem?_cons_zero, List.getElem?_cons_succ, resOf, outOf, snap, snapL, ev, getE, List.mapM_cons, List.mapM_nil, Option.bind_some, Option.pure_def, Option.bind_eq_bind, Option.map_some, reduceIte, Nat.reduceEqDiff, true_and, and_true, sub, fillAll, fillIn, shiftR, shiftV, List.take_succ_cons, List.take_zero, List.drop_succ_cons, List.drop_zero, List.append_nil, Nat.zero_add, List.length_cons, List.length_nil, Nat.le_refl, us32]
def RtOk (x : Rt) : Prop := x.2.1 < lim2000 ∧ dn x.2.2 < lim2000
theorem c35_X {s t : List Int} {l : List Rt} {ch : Bool} (hs : (s.length : Int) ≤ 1000000000000) (ht : (t.length : Int) ≤ 1000000000000) (hl : (l.length : Int) ≤ 1000000000000) (hz : ∀ z ∈ l, RtOk z) : Go.V.Call tab E 35 [.agg (arrX s ch t l)] [] (.agg (plX s ch t (l.map toNm))) [] := by
  refine Go.V.Call.mach i35 c35 rfl rfl rfl rfl ?_
  have h69 := c44_X (s := s) (t := t) (l := l) (ch := ch) hs
  have h76 := c69_X (s := s) (t := t) (l := l) (ch := ch) ht
  simp only [arrX, runes, ints] at h69 h76
  simp only [c35, arrX, runes, go_sem, subA5, subX1, subA3, fillAll, fillIn, shiftR, shiftV, List.take_succ_cons, List.take_zero, List.drop_succ_cons, List.drop_zero, List.append_nil, Nat.zero_add]
  refine goP h69 ?_
  simp only [go_sem, subA5, subX1, subA3, fillAll, fillIn, shiftR, shiftV, List.take_succ_cons, List.take_zero, List.drop_succ_cons, List.drop_zero, List.append_nil, Nat.zero_add]
  refine goZ (r' := runes t) h76 rfl ?_
  simp only [runes, go_sem, subA5, subX1, subA3, fillAll, fillIn, shiftR, shiftV, List.take_succ_cons, List.take_zero, List.drop_succ_cons, List.drop_zero, List.append_nil, Nat.zero_add]
  refine mLoop (fun N st => ∃ (i : Nat), i ≤ l.length ∧ N = l.length - i ∧
    st = ⟨[(2, .loc 4 0 0), (3, .loc 8 0 0), (14, .sl l.length 3 (rtsC l)), (15, .int .i64 l.length), (16, .int .i64 i)],
      [⟨true, 28, 5, 0, 1, arrX s ch t l, false⟩, ⟨false, 3, 1, 0, 0, [], false⟩, ⟨false, 21, 1, 0, 0, [], false⟩, ⟨false, 52, 3, 0, 0, [], false⟩, ⟨true, 37, 4, 0, 1, [.arr 1 0, .bool false, .arr 2 0, .arr 3 0], false⟩,
       ⟨false, 3, 1, 0, 0, [], false⟩, ⟨false, 21, 1, 0, 0, [], false⟩, ⟨false, 52, 3, 0, 0, [], false⟩, ⟨true, 37, 4, 0, 1, [ints s, .bool ch, runes t, .arr 9 i], false⟩, ⟨false, 52, 3, i, i, nmsC ((l.take i).map toNm), false⟩]⟩) l.length
    ⟨_, rfl, 0, by omega, by omega, by simp [getE, ints, runes, arrX, nmsC]⟩ ?_
  rintro N s0 ⟨i, hi, rfl, rfl⟩
  by_cases hlt : i < l.length
  · have hlt' : (i : Int) < (l.length : Int) := by omega
    have hi0 : (0 : Int) ≤ (i : Int) := by omega
    have hi1 : IntKind.i64.wrap ((i : Int) + 1) = ((i + 1 : Nat) : Int) := by rw [wrap_i64 (by omega) (by omega)]; omega
    have hsub := sub_rts hlt
    obtain ⟨hz1, hz2⟩ : RtOk (rtAt l i) := hz _ (by simp [rtAt, List.getD, hlt])
    have htk : l.take (i + 1) = l.take i ++ [rtAt l i] := takeAt hlt
    have hmt : nmsC ((l.take (i + 1)).map toNm) = nmsC ((l.take i).map toNm) ++ nmC (toNm (rtAt l i)) := by rw [htk, List.map_append, List.map_cons, List.map_nil, nmsC_snoc]
    have e1 : (i + 1) * 40 ≤ 140737488355328 := by omega
    have e2 : i + 1 ≤ 140737488355328 := by omega
    have h74 := c26_gen (E := E) (n := (rtAt l i).1) hz1 hz2
    rw [nmC_dec] at h74
    generalize rtAt l i = x at *
    simp only [ratG, us32, nmC] at h74
    simp only [b35_0, arrX, runes, go_sem, hlt', hi0, Int.toNat_natCast, hsub, rtC, ratG, us32, subT3, subP3, subP3', fillAll, fillIn, shiftR, shiftV, List.take_succ_cons, List.take_zero, List.drop_succ_cons, List.drop_zero, List.append_nil, Nat.zero_add]
    refine goR h74 rfl ?_
    simp only [go_sem, fillAll, fillIn, shiftR, shiftV, List.take_succ_cons, List.take_zero, List.drop_succ_cons, List.drop_zero, List.append_nil, Nat.zero_add, hi1, e1, e2, List.flatten_cons, List.flatten_nil, Option.getD_some, subP3, subP3']
    refine loopQ_go rfl (l.length - (i + 1)) (by omega) ⟨i + 1, by omega, rfl, ?_⟩
    rw [hmt]
    rfl
  · have hlt' : ¬ (i : Int) < (l.length : Int) := by omega
    obtain rfl : i = l.length := by omega
    simp only [b35_0, k35_0, arrX, runes, go_sem, hlt', List.take_length, subP4, fillAll, fillIn, shiftR, shiftV, List.take_succ_cons, List.take_zero, List.drop_succ_cons, List.drop_zero, List.append_nil, Nat.zero_add]
    simp only [i35, Out, resAll, geto, ints, List.getElem?_cons_zero, List.getElem?_cons_succ, resOf, outOf, snap, snapL, ev, getE, List.mapM_cons, List.mapM_nil, Option.bind_some, Option.pure_def, Option.bind_eq_bind, Option.map_some, reduceIte, Nat.reduceEqDiff, true_and, and_true, plX, runes, subP4, List.length_map]
theorem c86_gen {t u : List Int} (ht : (t.length : Int) ≤ 1000000000000) (hu : (u.length : Int) ≤ 1000000000000) : Go.V.Call tab E 86 [runes t, runes u] [] (.bool (decide (t = u))) [] := by
  refine Go.V.Call.mach i86 c86 rfl rfl rfl rfl ?_
  by_cases hl : t.length = u.length
  · have q : ((t.length : Int) != (u.length : Int)) = false := by rw [bne_eq_false_iff_eq]; omega
    simp only [c86, runes, go_sem, q]
    refine mLoop (fun N st => ∃ (k : Nat), k ≤ t.length ∧ N = t.length - k ∧ t.take k = u.take k ∧
      st = ⟨[(0, runes t), (1, runes u), (5, .int .i64 k)], []⟩) t.length ⟨_, rfl, 0, by omega, by omega, rfl, rfl⟩ ?_
    rintro N s0 ⟨k, hk, rfl, htu, rfl⟩
    by_cases hlt : k < t.length
    · have hlt' : (k : Int) < (t.length : Int) := by omega
      have hlt2 : (k : Int) < (u.length : Int) := by omega
      have hk0 : (0 : Int) ≤ (k : Int) := by omega
      have hk1 : IntKind.i64.wrap ((k : Int) + 1) = ((k + 1 : Nat) : Int) := by rw [wrap_i64 (by omega) (by omega)]; omega
      have hsub := sub_nums (k := .i32) hlt
      have hsub2 := sub_nums (k := .i32) (l := u) (i := k) (by omega)
      have h1 := take_snoc hlt
      have h2 := take_snoc (l := u) (m := k) (by omega)
      by_cases hxy : t.getD k 0 = u.getD k 0
      · have q2 : (t.getD k 0 != u.getD k 0) = false := by rw [bne_eq_false_iff_eq]; exact hxy
        simp only [b86_0, runes, go_sem, hlt', hlt2, hk0, Int.toNat_natCast, hsub, hsub2, q2, hk1]
        exact loopQ_go rfl (t.length - (k + 1)) (by omega) ⟨k + 1, by omega, rfl, by rw [h1, h2, htu, hxy], rfl⟩
      · have q2 : (t.getD k 0 != u.getD k 0) = true := by rw [bne_iff_ne]; exact hxy
        have hne : ¬ t = u := fun h => hxy (by rw [h])
        simp only [b86_0, runes, go_sem, hlt', hlt2, hk0, Int.toNat_natCast, hsub, hsub2, q2]
        simp only [i86, Out, resAll, geto, ints, List.getElem?_cons_zero, List.getElem?_cons_succ, resOf, outOf, snap, snapL, ev, getE, List.mapM_cons, List.mapM_nil, Option.bind_some, Option.pure_def, Option.bind_eq_bind, Option.map_some, reduceIte, Nat.reduceEqDiff, true_and, and_true, decide_eq_false hne]
    · have hlt' : ¬ (k : Int) < (t.length : Int) := by omega
      have he : t = u := by
        rw [List.take_of_length_le (by omega), List.take_of_length_le (by omega)] at htu
        exact htu
      subst he
      simp only [b86_0, k86_0, runes, go_sem, hlt']
      simp only [i86, Out, resAll, geto, ints, List.getElem?_cons_zero, List.getElem?_cons_succ, resOf, outOf, snap, snapL, ev, getE, List.mapM_cons, List.mapM_nil, Option.bind_some, Option.pure_def, Option.bind_eq_bind, Option.map_some, reduceIte, Nat.reduceEqDiff, true_and, and_true, decide_true]
  · have q : ((t.length : Int) != (u.length : Int)) = true := by rw [bne_iff_ne]; omega
    have hne : ¬ t = u := fun h => hl (by rw [h])
    simp only [c86, runes, go_sem, q]
    simp only [i86, Out, resAll, geto, ints, List.getElem?_cons_zero, List.getElem?_cons_succ, resOf, outOf, snap, snapL, ev, getE, List.mapM_cons, List.mapM_nil, Option.bind_some, Option.pure_def, Option.bind_eq_bind, Option.map_some, reduceIte, Nat.reduceEqDiff, true_and, and_true, decide_eq_false hne]
end Go.Proofs.Ytlejgleocnemoaa.I
