/- The texts L01l L01m L01d L01n L01o L01p L01q L03a L07b L07f L06e L03b L06f L06h L06i L06j L06k L06l L06a L06m L07c L07d L07h L07g L07i L07j L07k L07n L06n L01r L03c L06o LRat, one behind the other. Conditions: each text's own. -/
import Derived.Test.YtlejgleocnemoaaG04
import Derived.Lib.Strings
set_option linter.unusedSimpArgs false
set_option linter.unusedVariables false
namespace Go.Proofs.Ytlejgleocnemoaa.I
open Go Go.V
attribute [local go_sem_proc ↓] reduceIte
attribute [local go_sem_proc] Nat.reduceEqDiff Nat.reduceAdd Nat.reduceMul Nat.reduceLeDiff Nat.reduceLT Int.reduceToNat Int.reduceLT Int.reduceLE reduceCtorEq Nat.reduceBEq
attribute [local go_sem] mNil nat0 beq_self_eq_true mSkip mRet mExit mReg mSeq mCond mTrue mFalse mBlock mLv mCodeE mCodeR mEndN mEndR mEndE mOps mSome mGuard mGtt mGff mGtf mGft mGu mCallP mCallR mCallF mCallO mCallZ mCallG mCallM mCallV loopQ_exit loopQ_ret mO_mov mO_newnil mO_pick mO_alloc mO_box mO_build mO_bsl mO_bslF mO_newnilB mO_bslB mO_lenB mO_appB mO_allocA mO_bslA mO_appA mO_ldb mO_faddrb mRsv mO_ldf mO_ld mO_st mO_sta mO_nilchk mO_bin mO_binb mO_binp mO_bins mO_neg mO_com mO_not mO_conv mO_mk mO_mk0 mO_mkB mO_s2b mO_b2s mO_cpy mO_cut mO_faddr mO_fld mO_iaddr mO_iaddrf mO_sidx mO_len mO_lenf mO_slen mO_scut mO_app mO_ext mO_mx mO_mn mO_mkfn evalOp cutOp argsE ev getE putE cellsOf adopt rowOf binV boolV nilV ar_add ar_sub ar_mul ar_quo ar_rem ar_eq ar_ne ar_lt ar_le ar_gt ar_ge geto bound finRet finNrm ints List.length_cons List.length_nil List.length_append List.getElem?_cons_zero List.getElem?_cons_succ List.nil_append List.cons_append List.map_cons List.map_nil List.mapM_cons List.mapM_nil Option.map_some Option.map_none Option.bind_some Option.pure_def Option.bind_eq_bind List.drop_zero or_self or_false false_or or_true true_or true_and and_true and_self decide_true decide_false Bool.false_eq_true Bool.true_eq_false Bool.not_true Bool.not_false Nat.le_refl eq_self gt_iff_lt ge_iff_le ne_eq not_true_eq_false not_false_eq_true storeOp apartOf freeze_nil refsL refs List.flatMap_cons List.flatMap_nil List.append_nil List.contains_nil List.set_cons_zero List.set_cons_succ snap snapL fill_nums flat_nums nums_length Go.V.freeze List.mapIdx_cons List.mapIdx_nil List.contains_cons Bool.or_false Bool.false_or Bool.or_true Bool.true_or
theorem mCut1 {C : CallRel} {Q : X → St → Prop} {c : IR} {k : List V.Item} {s : St} {R : X → St → Prop} (h : Mach C R [.code c] .nrm s) (h2 : ∀ (x : X) (s' : St), R x s' → Mach C Q k x s') : Mach C Q (.code c :: k) .nrm s := by
  simp only [Mach] at h ⊢
  exact Go.V.wp_mono (fun x s' hx => h2 x s' hx) h
theorem fill0 {k : IntKind} {a b : List Int} (h : a.length ≤ b.length) : fillIn (nums k b) 0 (nums k a) = nums k (a ++ b.drop a.length) := by
  simp [fillIn, nums]
theorem or_shl' {a b : Nat} (ha : a < 4294967296) (hb : b < 4294967296) : arith .or .u64 ((b : Int) * 4294967296) (a : Int) = some (.int .u64 ((b * 4294967296 + a : Nat) : Int)) := by
  have h : IntKind.u64.wrap (((BitVec.ofInt IntKind.u64.bits ((b : Int) * 4294967296) ||| BitVec.ofInt IntKind.u64.bits (a : Int)).toNat : Nat) : Int) = (b : Int) * 4294967296 + a := shl_or ha hb
  rw [ar_or, h]
  congr 2
theorem put_drop0 {l : List Int} {k : Nat} {v : Int} (h : k < l.length) : (put l k v).drop k = v :: l.drop (k + 1) := by
  simp only [put]
  rw [List.drop_append_of_le_length (by rw [List.length_take]; omega), List.drop_eq_nil_of_le (by rw [List.length_take]; omega)]
  rfl
section
variable {E : CallRel}
set_option maxHeartbeats 3200000 in
set_option maxRecDepth 4000 in
theorem c153_ok {a b : Nat} (hb2 : 2 ≤ (limG b).length) (hab : b ≤ a) (ha : (limG a).length ≤ 1000000) : Go.V.Call tab E 153 [natC a, natC b] [] (.tup [natC (a / b), natC (a % b)]) [] := by
  refine Go.V.Call.mach i153 c153 rfl rfl rfl rfl ?_
  have hRa := R32_limG (n := a)
  have hRb := R32_limG (n := b)
  have ea := nval_limG (n := a)
  have eb := nval_limG (n := b)
  have hmono := limG_mono hab
  have hb0 : b ≠ 0 := by
    rintro rfl
    rw [limG_zero] at hb2
    simp at hb2
  obtain ⟨bl, d, hbd, hd1, hd2⟩ := limG_last hb0
  have hd0 : (limG b).getD ((limG b).length - 1) 0 = d := by
    rw [hbd]; simp
  obtain ⟨d', rfl⟩ := Int.eq_ofNat_of_zero_le (show 0 ≤ d by omega)
  obtain ⟨s, hs32, hs1, hs2, h148⟩ := c159_ok (E := E) (x := d') (by omega) (by omega)
  have hps : 0 < 2 ^ s := Nat.pow_pos (by omega)
  have hblen : bl.length + 1 = (limG b).length := by rw [hbd]; simp
  have hbv : b = nval bl + 4294967296 ^ bl.length * d' := by
    have := nval_append (a := bl) (b := [(d' : Int)])
    rw [← hbd, eb] at this
    simpa [nval] using this
  have hbl := nval_lt (l := bl) (fun x hx => hRb x (by rw [hbd]; simp [hx]))
  have hVlo : 4294967296 ^ bl.length * 2147483648 ≤ b * 2 ^ s := by
    have e1 : 4294967296 ^ bl.length * (d' * 2 ^ s) ≤ b * 2 ^ s := by
      rw [← Nat.mul_assoc]
      exact Nat.mul_le_mul_right _ (by omega)
    have e2 : 4294967296 ^ bl.length * 2147483648 ≤ 4294967296 ^ bl.length * (d' * 2 ^ s) := Nat.mul_le_mul_left _ hs1
    omega
  have hVhi : b * 2 ^ s < 4294967296 ^ (limG b).length := by
    have hpp : 2 ^ s * 2 ^ (32 - s) = 4294967296 := by rw [← Nat.pow_add, show s + (32 - s) = 32 by omega]
    have e1 : (d' + 1) * 2 ^ s ≤ 4294967296 := by
      have f : d' < 2 ^ (32 - s) := by
        rw [← hpp, Nat.mul_comm (2 ^ s)] at hs2
        exact Nat.lt_of_mul_lt_mul_right hs2
      have := Nat.mul_le_mul_right (2 ^ s) (show d' + 1 ≤ 2 ^ (32 - s) from f)
      rw [Nat.mul_comm (2 ^ (32 - s)), hpp] at this
      exact this
    have e2 : b < 4294967296 ^ bl.length * (d' + 1) := by rw [Nat.mul_add]; omega
    have e3 : b * 2 ^ s < 4294967296 ^ bl.length * (d' + 1) * 2 ^ s := (Nat.mul_lt_mul_right hps).2 e2
    have e4 : 4294967296 ^ bl.length * (d' + 1) * 2 ^ s ≤ 4294967296 ^ bl.length * 4294967296 := by
      rw [Nat.mul_assoc]
      exact Nat.mul_le_mul_left _ e1
    rw [← hblen, Nat.pow_succ]
    omega
  have h149b := c160_ok (E := E) (n := b) hs32 (by omega)
  have h149a := c160_ok (E := E) (n := a) hs32 ha
  have hVl : (limG (b * 2 ^ s)).length = (limG b).length := by
    have h1 := limG_len hVhi
    have h2 := limG_mono (show b ≤ b * 2 ^ s from Nat.le_mul_of_pos_right _ hps)
    omega
  have hSl : (limG (a * 2 ^ s)).length ≤ (limG a).length + 1 := by
    refine limG_len ?_
    rw [Nat.pow_succ]
    have h1 := limG_lt a
    have h2 : 2 ^ s ≤ 2 ^ 32 := Nat.pow_le_pow_right (by omega) (by omega)
    exact Nat.mul_lt_mul'' h1 (by
      have : 2 ^ s < 2 ^ 32 := Nat.pow_lt_pow_right (by omega) hs32
      omega)
  have hRV := R32_limG (n := b * 2 ^ s)
  have hRS := R32_limG (n := a * 2 ^ s)
  have eV := nval_limG (n := b * 2 ^ s)
  have eS := nval_limG (n := a * 2 ^ s)
  have hUtop : a * 2 ^ s < 4294967296 ^ (limG a).length * 2 ^ s := (Nat.mul_lt_mul_right hps).2 (limG_lt a)
  simp only [natC] at h149b h149a ⊢
  have hq := Nat.mul_div_mul_right a b hps
  have hr := Nat.mul_mod_mul_right (2 ^ s) a b
  have hVn0 : 0 < b * 2 ^ s := Nat.mul_pos (by omega) hps
  generalize limG a = A at *
  generalize limG b = C at *
  generalize limG (a * 2 ^ s) = S at *
  generalize limG (b * 2 ^ s) = V at *
  obtain ⟨m, hm⟩ : ∃ m, A.length = C.length + m := ⟨A.length - C.length, by omega⟩
  obtain ⟨U0, hU0⟩ : ∃ U0, U0 = S ++ (List.replicate (A.length + 1) (0 : Int)).drop S.length := ⟨_, rfl⟩
  have hU0l : U0.length = A.length + 1 := by rw [hU0]; simp; omega
  have hU0R : R32 U0 := by rw [hU0]; exact R32_app hRS (R32_drop R32_zeros _)
  have hU0v : nval U0 = a * 2 ^ s := by
    rw [hU0, nval_append, nval_allzero (l := List.drop _ _) (fun p => by rw [getD_dropD]; exact zeros_get), eS]
    omega
  have hfill := fill0 (k := .u32) (a := S) (b := List.replicate (A.length + 1) 0) (by simpa using hSl)
  rw [← hU0] at hfill
  have hbl2 : C.length - 1 = bl.length := by omega
  have w0 : IntKind.i64.wrap ((C.length : Int) - 1) = ((C.length - 1 : Nat) : Int) := by rw [wrap_i64 (by omega) (by omega)]; omega
  have g0 : (0 : Int) ≤ ((C.length - 1 : Nat) : Int) := by omega
  have g1 : ((C.length - 1 : Nat) : Int) < (C.length : Int) := by omega
  have hsd := sub_nums (k := .u32) (l := C) (i := C.length - 1) (by omega)
  rw [hd0] at hsd
  have w1 : IntKind.i64.wrap ((A.length : Int) + 1) = ((A.length + 1 : Nat) : Int) := by rw [wrap_i64 (by omega) (by omega)]; omega
  have b1 : (0 : Int) ≤ ((A.length + 1 : Nat) : Int) := by omega
  have b2 : 4 * (A.length + 1) ≤ 140737488355328 := by omega
  have b3 : ((A.length + 1 : Nat) : Int) ≤ 140737488355328 := by omega
  have w2 : IntKind.i64.wrap ((A.length : Int) - (C.length : Int)) = (m : Int) := by rw [wrap_i64 (by omega) (by omega)]; omega
  have w3 : IntKind.i64.wrap ((m : Int) + 1) = ((m + 1 : Nat) : Int) := by rw [wrap_i64 (by omega) (by omega)]; omega
  have b4 : (0 : Int) ≤ ((m + 1 : Nat) : Int) := by omega
  have b5 : 4 * (m + 1) ≤ 140737488355328 := by omega
  have b6 : ((m + 1 : Nat) : Int) ≤ 140737488355328 := by omega
  have hV2 : 2 ≤ V.length := by omega
  have w4 : IntKind.i64.wrap ((V.length : Int) - 1) = ((V.length - 1 : Nat) : Int) := by rw [wrap_i64 (by omega) (by omega)]; omega
  have w5 : IntKind.i64.wrap ((V.length : Int) - 2) = ((V.length - 2 : Nat) : Int) := by rw [wrap_i64 (by omega) (by omega)]; omega
  have g2 : (0 : Int) ≤ ((V.length - 1 : Nat) : Int) := by omega
  have g3 : ((V.length - 1 : Nat) : Int) < (V.length : Int) := by omega
  have g4 : (0 : Int) ≤ ((V.length - 2 : Nat) : Int) := by omega
  have g5 : ((V.length - 2 : Nat) : Int) < (V.length : Int) := by omega
  have hst := sub_nums (k := .u32) (l := V) (i := V.length - 1) (by omega)
  have hsn := sub_nums (k := .u32) (l := V) (i := V.length - 2) (by omega)
  have htr := R32_get hRV (V.length - 1)
  have hnr := R32_get hRV (V.length - 2)
  obtain ⟨vl, hvl, hVV⟩ := nval_heads2 hRV hV2
  obtain ⟨top, htop⟩ := Int.eq_ofNat_of_zero_le htr.1
  obtain ⟨next, hnext⟩ := Int.eq_ofNat_of_zero_le hnr.1
  rw [htop] at hst htr hVV
  rw [hnext] at hsn hnr hVV
  rw [Int.toNat_natCast, Int.toNat_natCast] at hVV
  have htl : top < 4294967296 := by omega
  have hnl : next < 4294967296 := by omega
  have htop1 : 1 ≤ top := by
    rcases Nat.eq_zero_or_pos top with h0 | h0
    · exfalso
      have hz : ∀ p, V.length - 1 ≤ p → V.getD p 0 = 0 := fun p hp => by
        by_cases h : p = V.length - 1
        · rw [h, htop, h0]; rfl
        · exact getD_big (by omega)
      have h1 := nval_short hRV hz
      rw [eV, show V.length - 1 = bl.length by omega] at h1
      omega
    · exact h0
  have wt : IntKind.u64.wrap (top : Int) = (top : Int) := wrap_u64 (by omega) (by omega)
  have wn : IntKind.u64.wrap (next : Int) = (next : Int) := wrap_u64 (by omega) (by omega)
  have hcp : S.length ≤ A.length + 1 := hSl
  simp only [c153, us32, go_sem, subB1, subT1, FL, w0, g0, g1, hsd, Int.toNat_natCast]
  refine goP h148 ?_
  simp only [us32, go_sem, subB1, subT1, FL]
  refine goP h149b ?_
  simp only [us32, go_sem, subB1, subT1, FL, w1, b1, b2, b3, Int.toNat_natCast, flat_nums]
  refine goP h149a ?_
  simp only [us32, go_sem, subB1, subT1, hcp, hfill, w2, w3, b4, b5, b6, w4, w5, g2, g3, g4, g5, hst, hsn, wt, wn, Int.toNat_natCast, flat_nums]
  refine mLoop (fun N st => ∃ (j : Nat) (jj : Int) (U Q : List Int), j ≤ m + 1 ∧ N = j ∧ jj = (j : Int) - 1 ∧ U.length = A.length + 1 ∧ R32 U ∧ Q.length = m + 1 ∧ R32 Q ∧ (∀ p, p < j → U.getD p 0 = U0.getD p 0) ∧
      nval (U.drop j) < b * 2 ^ s ∧ nval (U0.drop j) = nval (Q.drop j) * (b * 2 ^ s) + nval (U.drop j) ∧
      st = ⟨[(4, .loc 3 0 0), (5, .loc 5 0 0), (6, .int .i64 s), (7, us32 V), (8, .arr 6 0), (9, .int .i64 V.length), (11, .arr 7 0), (12, .int .u64 top), (13, .int .u64 next), (14, .int .i64 jj)], longM A C (A.length + 1) (m + 1) U Q⟩) (m + 1)
    ⟨_, rfl, m + 1, (m : Int), U0, List.replicate (m + 1) 0, by omega, rfl, by omega, hU0l, hU0R, by simp, R32_zeros, fun p _ => rfl, ?_, ?_, by simp [getE, us32, longM]⟩ ?_
  · rw [nval_drop hU0R, hU0v]
    refine Nat.div_lt_of_lt_mul ?_
    have e1 : 4294967296 ^ A.length * 2 ^ s ≤ 4294967296 ^ (m + 1) * (4294967296 ^ bl.length * 2147483648) := by
      rw [show A.length = (m + 1) + bl.length by omega, Nat.pow_add, Nat.mul_assoc]
      refine Nat.mul_le_mul_left _ (Nat.mul_le_mul_left _ ?_)
      have : 2 ^ s ≤ 2 ^ 31 := Nat.pow_le_pow_right (by omega) (by omega)
      omega
    have e2 : 4294967296 ^ (m + 1) * (4294967296 ^ bl.length * 2147483648) ≤ 4294967296 ^ (m + 1) * (b * 2 ^ s) := Nat.mul_le_mul_left _ hVlo
    omega
  · have : (List.replicate (m + 1) (0 : Int)).drop (m + 1) = [] := List.drop_eq_nil_of_le (by simp)
    rw [this]
    simp [nval]
  rintro N s0 ⟨j, jj, U, Q, hj, rfl, hjj, hUl, hUR, hQl, hQR, hUk, hUv, hinv, rfl⟩
  cases N with
  | zero =>
    have hn : ¬ 0 ≤ jj := by omega
    rw [List.drop_zero] at hUv
    rw [List.drop_zero, List.drop_zero, List.drop_zero, hU0v] at hinv
    have q1 : nval Q = a / b := by
      rw [← hq, hinv, Nat.mul_comm, Nat.mul_add_div hVn0, Nat.div_eq_of_lt hUv, Nat.add_zero]
    have q2 : nval U = (a % b) * 2 ^ s := by
      rw [← hr, hinv, Nat.mul_comm, Nat.mul_add_mod, Nat.mod_eq_of_lt hUv]
    have h114q := c139_ok (E := E) (l := Q) (by omega)
    rw [trimL_limG hQR, q1] at h114q
    have h114u := c139_ok (E := E) (l := U) (by omega)
    rw [trimL_limG hUR, q2] at h114u
    have hlen : (limG (a % b * 2 ^ s)).length ≤ 1000000 := by
      have h1 : a % b * 2 ^ s < b * 2 ^ s := (Nat.mul_lt_mul_right hps).2 (Nat.mod_lt _ (by omega))
      have h2 := limG_len (Nat.lt_trans h1 hVhi)
      omega
    have h152 := c163_ok (E := E) (n := a % b * 2 ^ s) hs32 hlen
    rw [Nat.mul_div_cancel _ hps] at h152
    have hQl2 : m + 1 = Q.length := hQl.symm
    have hUl2 : A.length + 1 = U.length := hUl.symm
    simp only [natC] at h152
    simp only [b153_0, k153_2, us32, longM, go_sem, hn, hQl2, hUl2]
    refine goF h114q ?_
    simp only [us32, go_sem]
    refine goF h114u ?_
    simp only [us32, go_sem]
    refine goP h152 ?_
    simp only [us32, go_sem, FL]
    simp only [i153, OT, reduceIte, Nat.reduceEqDiff, sub, FL, List.length_cons, List.length_nil, Nat.le_refl, us32]
  | succ k =>
    obtain rfl : jj = (k : Int) := by omega
    have hk0 : (0 : Int) ≤ (k : Int) := by omega
    have hk1 : IntKind.i64.wrap ((k : Int) - 1) = (k : Int) - 1 := wrap_i64 (by omega) (by omega)
    have hkn : k + V.length < U.length := by omega
    -- the window
    have hrB : b * 2 ^ s < 4294967296 ^ V.length := by rw [hVl]; exact hVhi
    have hz1 := short_nval (R32_drop hUR (k + 1)) (Nat.lt_trans hUv hrB)
    have hzU : ∀ p, k + V.length < p → U.getD p 0 = 0 := fun p hp => by
      have := hz1 (p - (k + 1)) (by omega)
      rwa [getD_dropD, show k + 1 + (p - (k + 1)) = p by omega] at this
    obtain ⟨low, hlow, hW⟩ := nval_heads (R32_drop hUR k) hV2 (fun p hp => by rw [getD_dropD]; exact hzU _ (by omega)) (by rw [List.length_drop]; omega)
    rw [getD_dropD, getD_dropD, getD_dropD, show k + (V.length - 1) = k + V.length - 1 by omega, show k + (V.length - 2) = k + V.length - 2 by omega] at hW
    have h0r := R32_get hUR (k + V.length)
    have h1r := R32_get hUR (k + V.length - 1)
    have h2r := R32_get hUR (k + V.length - 2)
    have hs0 := sub_nums (k := .u32) (l := U) (i := k + V.length) (by omega)
    have hs1' := sub_nums (k := .u32) (l := U) (i := k + V.length - 1) (by omega)
    have hs2' := sub_nums (k := .u32) (l := U) (i := k + V.length - 2) (by omega)
    obtain ⟨u0, hu0⟩ := Int.eq_ofNat_of_zero_le h0r.1
    obtain ⟨u1, hu1⟩ := Int.eq_ofNat_of_zero_le h1r.1
    obtain ⟨u2, hu2⟩ := Int.eq_ofNat_of_zero_le h2r.1
    rw [hu0] at hs0 h0r hW
    rw [hu1] at hs1' h1r hW
    rw [hu2] at hs2' h2r hW
    simp only [Int.toNat_natCast] at hW
    have hu0l : u0 < 4294967296 := by omega
    have hu1l : u1 < 4294967296 := by omega
    have hu2l : u2 < 4294967296 := by omega
    have hUkk := hUk k (by omega)
    have hkr := R32_get hUR k
    have hWr : nval (U.drop k) = (U.getD k 0).toNat + 4294967296 * nval (U.drop (k + 1)) := by
      rw [getD_drop (by omega), nval]
    have hWr0 : nval (U0.drop k) = (U.getD k 0).toNat + 4294967296 * nval (U0.drop (k + 1)) := by
      rw [getD_drop (by omega), nval, hUkk]
    have hstep := long_step (u0 := (U.getD k 0).toNat) (B := 4294967296) hinv
    rw [← hWr0, ← hWr] at hstep
    have hWlt : nval (U.drop k) < 4294967296 * (b * 2 ^ s) := by omega
    generalize hw : nval (U.drop k) = w at *
    obtain ⟨head, hhd⟩ : ∃ head, head = u0 * 4294967296 + u1 := ⟨_, rfl⟩
    have H : Heads (b * 2 ^ s) w top next head u2 (4294967296 ^ (V.length - 2)) vl low :=
      ⟨by rw [← hVV, eV], hvl, by rw [hhd]; exact hW, hlow, hWlt, htop1, hnl, hu2l⟩
    have hfirst := H.first
    have x1 : IntKind.i64.wrap ((k : Int) + (V.length : Int)) = ((k + V.length : Nat) : Int) := by rw [wrap_i64 (by omega) (by omega)]; omega
    have x2 : IntKind.i64.wrap (((k + V.length : Nat) : Int) - 1) = ((k + V.length - 1 : Nat) : Int) := by rw [wrap_i64 (by omega) (by omega)]; omega
    have x3 : IntKind.i64.wrap (((k + V.length : Nat) : Int) - 2) = ((k + V.length - 2 : Nat) : Int) := by rw [wrap_i64 (by omega) (by omega)]; omega
    have x4 : (0 : Int) ≤ ((k + V.length : Nat) : Int) := by omega
    have x5 : (0 : Int) ≤ ((k + V.length - 1 : Nat) : Int) := by omega
    have x6 : (0 : Int) ≤ ((k + V.length - 2 : Nat) : Int) := by omega
    have x7 : ((k + V.length : Nat) : Int) < ((A.length + 1 : Nat) : Int) := by omega
    have x8 : ((k + V.length - 1 : Nat) : Int) < ((A.length + 1 : Nat) : Int) := by omega
    have x9 : ((k + V.length - 2 : Nat) : Int) < ((A.length + 1 : Nat) : Int) := by omega
    have y0 : IntKind.u64.wrap (u0 : Int) = (u0 : Int) := wrap_u64 (by omega) (by omega)
    have y1 : IntKind.u64.wrap (u1 : Int) = (u1 : Int) := wrap_u64 (by omega) (by omega)
    have y2 : IntKind.u64.wrap (u2 : Int) = (u2 : Int) := wrap_u64 (by omega) (by omega)
    have y3 := shl32 hu0l
    have y4 : arith .or .u64 ((u0 : Int) * 4294967296) (u1 : Int) = some (.int .u64 (head : Int)) := by rw [hhd]; exact or_shl' hu1l hu0l
    have hhead : head < 18446744073709551616 := by omega
    have hdm := Nat.div_add_mod head top
    have hml := Nat.mod_lt head htop1
    rw [Nat.mul_comm] at hdm
    have ht0 : ¬ (top : Int) = 0 := by omega
    clear hhd hW
    have y5 : Int.tdiv (head : Int) (top : Int) = ((head / top : Nat) : Int) := by
      rw [Int.tdiv_eq_ediv_of_nonneg (by omega), ← Int.natCast_ediv]
    have y6 : Int.tmod (head : Int) (top : Int) = ((head % top : Nat) : Int) := by
      rw [Int.tmod_eq_emod_of_nonneg (by omega), ← Int.natCast_emod]
    have y7 : head / top ≤ head := Nat.div_le_self _ _
    generalize head / top = gg at *
    generalize head % top = rr at *
    have y8 : IntKind.u64.wrap (gg : Int) = (gg : Int) := wrap_u64 (by omega) (by omega)
    simp only [b153_0, us32, longM, go_sem, hk0, x1, x2, x4, x5, x7, x8, hs0, hs1', y0, y1, y3, y4, y5, y6, y8, ht0, Int.toNat_natCast]
    refine mCut1 (R := fun x st => ∃ (g : Nat) (env : Env), x = .exit 2 ∧ w / (b * 2 ^ s) ≤ g ∧ g < 4294967296 ∧ g * (b * 2 ^ s) < w + b * 2 ^ s ∧
      getE env 4 = .loc 3 0 0 ∧ getE env 5 = .loc 5 0 0 ∧ getE env 6 = .int .i64 s ∧ getE env 7 = us32 V ∧ getE env 8 = .arr 6 0 ∧ getE env 9 = .int .i64 V.length ∧ getE env 11 = .arr 7 0 ∧ getE env 12 = .int .u64 top ∧ getE env 13 = .int .u64 next ∧ getE env 14 = .int .i64 k ∧ getE env 16 = .int .u64 g ∧
      st = ⟨env, longM A C (A.length + 1) (m + 1) U Q⟩) ?_ ?_
    · refine mLoop (fun N st => ∃ (g rest : Nat), N = g ∧ g * top + rest = head ∧ w / (b * 2 ^ s) ≤ g ∧ rest < 4294967296 ∧ g < 18446744073709551616 ∧
        st = ⟨[(4, .loc 3 0 0), (5, .loc 5 0 0), (6, .int .i64 s), (7, us32 V), (8, .arr 6 0), (9, .int .i64 V.length), (11, .arr 7 0), (12, .int .u64 top), (13, .int .u64 next), (14, .int .i64 k), (16, .int .u64 g), (17, .int .u64 rest)], longM A C (A.length + 1) (m + 1) U Q⟩) gg
        ⟨_, rfl, gg, rr, rfl, hdm, hfirst, by omega, by omega, by simp [getE, us32, longM]⟩ ?_
      rintro N s0 ⟨g, rest, rfl, h1, h2, h3, h4, rfl⟩
      have step : w < N * (b * 2 ^ s) → 1 ≤ N ∧ w / (b * 2 ^ s) ≤ N - 1 ∧ (N - 1) * top + (rest + top) = head := fun h => by
        obtain ⟨f1, f2⟩ := H.less h
        refine ⟨f2, f1, ?_⟩
        rw [Nat.sub_mul, Nat.one_mul]
        have : 1 * top ≤ N * top := Nat.mul_le_mul_right _ f2
        omega
      have z1 : IntKind.u64.wrap ((rest : Int) + (top : Int)) = ((rest + top : Nat) : Int) := by rw [wrap_u64 (by omega) (by omega)]; omega
      by_cases hbig : 4294967296 ≤ N
      · have hbig' : (4294967296 : Int) ≤ (N : Int) := by omega
        obtain ⟨f1, f2, f3⟩ := step (H.big hbig)
        have z2 : IntKind.u64.wrap ((N : Int) - 1) = ((N - 1 : Nat) : Int) := by rw [wrap_u64 (by omega) (by omega)]; omega
        by_cases hbrk : 4294967296 ≤ rest + top
        · have hbrk' : (4294967296 : Int) ≤ ((rest + top : Nat) : Int) := by omega
          obtain ⟨f4, f5⟩ := H.brk f3 hbrk
          simp only [b153_1, us32, longM, go_sem, hbig', z1, z2, hbrk']
          exact ⟨N - 1, _, f2, f4, f5, rfl, rfl, rfl, rfl, rfl, rfl, rfl, rfl, rfl, rfl, rfl, rfl⟩
        · have hbrk' : ¬ (4294967296 : Int) ≤ ((rest + top : Nat) : Int) := by omega
          simp only [b153_1, us32, longM, go_sem, hbig', z1, z2, hbrk']
          exact loopQ_go rfl (N - 1) (by omega) ⟨N - 1, rest + top, rfl, f3, f2, by omega, by omega, rfl⟩
      · have hbig' : ¬ (4294967296 : Int) ≤ (N : Int) := by omega
        have hgn : N * next ≤ 4294967295 * 4294967295 := Nat.mul_le_mul (by omega) (by omega)
        have z3 : IntKind.u64.wrap ((N : Int) * (next : Int)) = ((N * next : Nat) : Int) := by
          rw [← Int.natCast_mul]
          exact wrap_u64 (by omega) (by omega)
        have z4 := shl32 h3
        have z5 := or_shl' hu2l h3
        by_cases hcmp : rest * 4294967296 + u2 < N * next
        · have hcmp' : ((rest * 4294967296 + u2 : Nat) : Int) < ((N * next : Nat) : Int) := by omega
          obtain ⟨f1, f2, f3⟩ := step (H.dec h1 hcmp)
          have z2 : IntKind.u64.wrap ((N : Int) - 1) = ((N - 1 : Nat) : Int) := by rw [wrap_u64 (by omega) (by omega)]; omega
          by_cases hbrk : 4294967296 ≤ rest + top
          · have hbrk' : (4294967296 : Int) ≤ ((rest + top : Nat) : Int) := by omega
            obtain ⟨f4, f5⟩ := H.brk f3 hbrk
            simp only [b153_1, us32, longM, go_sem, hbig', z1, z2, z3, z4, z5, x1, x3, x6, x9, hs2', y2, hcmp', hbrk', Int.toNat_natCast]
            exact ⟨N - 1, _, f2, f4, f5, rfl, rfl, rfl, rfl, rfl, rfl, rfl, rfl, rfl, rfl, rfl, rfl⟩
          · have hbrk' : ¬ (4294967296 : Int) ≤ ((rest + top : Nat) : Int) := by omega
            simp only [b153_1, us32, longM, go_sem, hbig', z1, z2, z3, z4, z5, x1, x3, x6, x9, hs2', y2, hcmp', hbrk', Int.toNat_natCast]
            exact loopQ_go rfl (N - 1) (by omega) ⟨N - 1, rest + top, rfl, f3, f2, by omega, by omega, rfl⟩
        · have hcmp' : ¬ ((rest * 4294967296 + u2 : Nat) : Int) < ((N * next : Nat) : Int) := by omega
          have f5 := H.ok h1 (by omega) (by omega)
          simp only [b153_1, us32, longM, go_sem, hbig', z3, z4, z5, x1, x3, x6, x9, hs2', y2, hcmp', Int.toNat_natCast]
          exact ⟨N, _, h2, by omega, f5, rfl, rfl, rfl, rfl, rfl, rfl, rfl, rfl, rfl, rfl, rfl, rfl⟩
    · rintro x st ⟨g, env, rfl, hg1, hg2, hg3, e4, e5, e6, e7, e8, e9, e11, e12, e13, e14, e16, rfl⟩
      simp only [us32] at e7
      have hnear := H.near hg1 hg3
      obtain ⟨U', bb, hU'l, hU'R, hbb, hU'k, hU'v, h150⟩ := c161_ok (E := E) (A := A) (C := C) (U := U) (Q := Q) (V := V) (nu := A.length + 1) (nq := m + 1) (j := k) (g := g) hUR hRV hg2 (by omega) (by omega)
      rw [eV, hw] at hU'v
      have hPV : b * 2 ^ s ≤ 4294967296 ^ (V.length + 1) := by
        rw [Nat.pow_succ]
        omega
      have hU's := nval_short (k := V.length + 1) (R32_drop hU'R k) (fun p hp => by rw [getD_dropD, hU'k _ (by omega)]; exact hzU _ (by omega))
      obtain ⟨t0, t1⟩ := take_off hVn0 hbb hU's hPV hnear hU'v
      have v1 : IntKind.i64.wrap (((k + V.length : Nat) : Int) + 1) = ((k + V.length + 1 : Nat) : Int) := by rw [wrap_i64 (by omega) (by omega)]; omega
      have v2 : (0 : Int) ≤ ((k + V.length + 1 : Nat) : Int) := by omega
      have v3 : ((k + V.length + 1 : Nat) : Int) ≤ ((A.length + 1 : Nat) : Int) := by omega
      have v4 : (k : Int) ≤ ((k + V.length + 1 : Nat) : Int) := by omega
      have v5 : k + V.length + 1 - k = V.length + 1 := by omega
      have v6 : (k : Int) < ((m + 1 : Nat) : Int) := by omega
      have v7 : k * 1 + 1 ≤ Q.length := by omega
      have hqd : w / (b * 2 ^ s) < 4294967296 := Nat.lt_of_le_of_lt hg1 hg2
      have hqI : 0 ≤ ((w / (b * 2 ^ s) : Nat) : Int) ∧ ((w / (b * 2 ^ s) : Nat) : Int) < 4294967296 := by
        revert hqd
        generalize w / (b * 2 ^ s) = qd
        intro hqd
        omega
      have fin : ∀ U'' : List Int, U''.length = U.length → R32 U'' → (∀ p, p < k ∨ k + V.length < p → U''.getD p 0 = U.getD p 0) → nval (U''.drop k) = w % (b * 2 ^ s) →
          ∃ (j : Nat) (jj : Int) (U1 Q1 : List Int), j ≤ m + 1 ∧ k = j ∧ jj = (j : Int) - 1 ∧ U1.length = A.length + 1 ∧ R32 U1 ∧ Q1.length = m + 1 ∧ R32 Q1 ∧ (∀ p, p < j → U1.getD p 0 = U0.getD p 0) ∧
            nval (U1.drop j) < b * 2 ^ s ∧ nval (U0.drop j) = nval (Q1.drop j) * (b * 2 ^ s) + nval (U1.drop j) ∧ U1 = U'' ∧ Q1 = put Q k ((w / (b * 2 ^ s) : Nat) : Int) ∧ jj = (k : Int) - 1 := fun U'' g1 g2 g3 g4 => by
        refine ⟨k, (k : Int) - 1, U'', _, by omega, rfl, rfl, by omega, g2, by rw [put_len (by omega), hQl], put_R32 hQR hqI, fun p hp => ?_, ?_, ?_, rfl, rfl, rfl⟩
        · rw [g3 p (by omega)]
          exact hUk p (by omega)
        · rw [g4]
          exact Nat.mod_lt _ hVn0
        · rw [put_drop0 (by omega), nval, Int.toNat_natCast, g4]
          exact hstep
      generalize hqq : w / (b * 2 ^ s) = qd at *
      have wq : IntKind.u32.wrap (qd : Int) = (qd : Int) := by rw [wrap_u32]; omega
      rcases Nat.eq_zero_or_pos bb with rfl | hb1
      · obtain ⟨rfl, t2⟩ := t0 rfl
        obtain ⟨j1, jj1, U1, Q1, r1, r2, r3, r4, r5, r6, r7, r8, r9, r10, rfl, rfl, r11⟩ := fin U' hU'l hU'R hU'k t2
        simp only [longM] at h150
        simp only [k153_0, k153_1, us32, longM, go_sem, e4, e5, e6, e7, e8, e9, e11, e12, e13, e14, e16, hk0, x1, v1, v2, v3, v4, v5, Int.toNat_natCast]
        refine goM h150 ?_
        simp only [us32, longM, go_sem, e4, e5, e6, e7, e8, e9, e11, e12, e13, e14, e16, hk0, hk1, v6, v7, wq, show ((0 : Int) == 1) = false from rfl, Int.toNat_natCast]
        exact loopQ_go rfl k (by omega) ⟨j1, jj1, U1, _, r1, r2, r3, r4, r5, r6, r7, r8, r9, r10, by rw [r11]; rfl⟩
      · obtain rfl : bb = 1 := by omega
        obtain ⟨rfl, t2⟩ := t1 rfl
        obtain ⟨U2, kk, hU2l, hU2R, hkk, hU2k, hU2v, h151⟩ := c162_ok (E := E) (A := A) (C := C) (U := U') (Q := Q) (V := V) (nu := A.length + 1) (nq := m + 1) (j := k) hU'R hRV (by omega) (by omega)
        rw [eV] at hU2v
        have hU2k' : ∀ p, p < k ∨ k + V.length < p → U2.getD p 0 = U.getD p 0 := fun p hp => by rw [hU2k p hp, hU'k p hp]
        have hU2s := nval_short (k := V.length + 1) (R32_drop hU2R k) (fun p hp => by rw [getD_dropD, hU2k' _ (by omega)]; exact hzU _ (by omega))
        have t3 := put_back hVn0 hkk hU2s t2 hU2v
        obtain ⟨j1, jj1, U1, Q1, r1, r2, r3, r4, r5, r6, r7, r8, r9, r10, rfl, rfl, r11⟩ := fin U2 (by omega) hU2R hU2k' t3
        have z2 : IntKind.u64.wrap (((qd + 1 : Nat) : Int) - 1) = (qd : Int) := by rw [wrap_u64 (by omega) (by omega)]; omega
        simp only [longM] at h150 h151
        simp only [k153_0, k153_1, us32, longM, go_sem, e4, e5, e6, e7, e8, e9, e11, e12, e13, e14, e16, hk0, x1, v1, v2, v3, v4, v5, Int.toNat_natCast]
        refine goM h150 ?_
        simp only [us32, longM, go_sem, e4, e5, e6, e7, e8, e9, e11, e12, e13, e14, e16, hk0, x1, v1, v2, v3, v4, v5, z2, show (((1 : Nat) : Int) == 1) = true from rfl, show ((1 : Int) == 1) = true from rfl, Int.toNat_natCast]
        refine goM h151 ?_
        simp only [us32, longM, go_sem, e4, e5, e6, e7, e8, e9, e11, e12, e13, e14, e16, hk0, hk1, v6, v7, wq, Int.toNat_natCast]
        exact loopQ_go rfl k (by omega) ⟨j1, jj1, U1, _, r1, r2, r3, r4, r5, r6, r7, r8, r9, r10, by rw [r11]; rfl⟩
end
end Go.Proofs.Ytlejgleocnemoaa.I

namespace Go.Proofs.Ytlejgleocnemoaa.I
open Go Go.V
attribute [local go_sem_proc ↓] reduceIte
attribute [local go_sem_proc] Nat.reduceEqDiff Nat.reduceAdd Nat.reduceMul Nat.reduceLeDiff Nat.reduceLT Int.reduceToNat Int.reduceLT Int.reduceLE reduceCtorEq Nat.reduceBEq
attribute [local go_sem] mNil nat0 beq_self_eq_true mSkip mRet mExit mReg mSeq mCond mTrue mFalse mBlock mLv mCodeE mCodeR mEndN mEndR mEndE mOps mSome mGuard mGtt mGff mGtf mGft mGu mCallP mCallR mCallF mCallO mCallZ mCallG mCallM mCallV loopQ_exit loopQ_ret mO_mov mO_newnil mO_pick mO_alloc mO_box mO_build mO_bsl mO_bslF mO_newnilB mO_bslB mO_lenB mO_appB mO_allocA mO_bslA mO_appA mO_ldb mO_faddrb mRsv mO_ldf mO_ld mO_st mO_sta mO_nilchk mO_bin mO_binb mO_binp mO_bins mO_neg mO_com mO_not mO_conv mO_mk mO_mk0 mO_mkB mO_s2b mO_b2s mO_cpy mO_cut mO_faddr mO_fld mO_iaddr mO_iaddrf mO_sidx mO_len mO_lenf mO_slen mO_scut mO_app mO_ext mO_mx mO_mn mO_mkfn evalOp cutOp argsE ev getE putE cellsOf adopt rowOf binV boolV nilV ar_add ar_sub ar_mul ar_quo ar_rem ar_eq ar_ne ar_lt ar_le ar_gt ar_ge ar_and ar_or ar_xor geto bound finRet finNrm ints List.length_cons List.length_nil List.length_append List.getElem?_cons_zero List.getElem?_cons_succ List.nil_append List.cons_append List.map_cons List.map_nil List.mapM_cons List.mapM_nil Option.map_some Option.map_none Option.bind_some Option.pure_def Option.bind_eq_bind List.drop_zero or_self or_false false_or or_true true_or true_and and_true and_self decide_true decide_false Bool.false_eq_true Bool.true_eq_false Bool.not_true Bool.not_false Nat.le_refl eq_self gt_iff_lt ge_iff_le ne_eq not_true_eq_false not_false_eq_true storeOp apartOf freeze_nil refsL refs List.flatMap_cons List.flatMap_nil List.append_nil List.contains_nil List.set_cons_zero List.set_cons_succ snap snapL fill_nums flat_nums nums_length Go.V.freeze List.mapIdx_cons List.mapIdx_nil List.contains_cons Bool.or_false Bool.false_or Bool.or_true Bool.true_or
section
variable {E : CallRel}
theorem c152_nat {n : Nat} (h : n < 18446744073709551616) : Go.V.Call tab E 152 [natC n] [] (.tup [.int .u64 n, .bool true]) [] := by
  have := c152_ok (E := E) h
  rw [lim_limG h] at this
  exact this
theorem c114_nat {n : Nat} (h : n < 18446744073709551616) : Go.V.Call tab E 114 [.int .u64 n] [] (natC n) [] := by
  have := c114_ok (E := E) h
  rw [lim_limG h] at this
  exact this
theorem limG_one {d : Nat} (h : d ≠ 0) (h2 : d < 4294967296) : limG d = [(d : Int)] := by
  rw [limG_pos h, Nat.mod_eq_of_lt h2, Nat.div_eq_of_lt h2, limG_zero]
theorem limG_len0 {n : Nat} (h : (limG n).length = 0) : n = 0 := by
  by_cases h0 : n = 0
  · exact h0
  · rw [limG_pos h0] at h; simp at h
theorem limG_len1 {n : Nat} (h : (limG n).length = 1) : n ≠ 0 ∧ n < 4294967296 := by
  refine ⟨?_, ?_⟩
  · rintro rfl; rw [limG_zero] at h; simp at h
  · have := limG_lt n
    rw [h] at this
    omega
theorem c135_ok {a b : Nat} (ha : (limG a).length ≤ 1000000) (hb : (limG b).length ≤ 1000000) (hb0 : b ≠ 0) : Go.V.Call tab E 135 [natC a, natC b] [] (.tup [natC (a / b), natC (a % b), .bool true]) [] := by
  refine Go.V.Call.mach i135 c135 rfl rfl rfl rfl ?_
  have h142 := c145_ok (E := E) ha hb
  have q0 : (((limG b).length : Int) == 0) = false := by
    rw [beq_eq_false_iff_ne]
    intro h
    exact hb0 (limG_len0 (by omega))
  simp only [natC] at h142
  simp only [c135, natC, us32, go_sem, List.all_cons, List.all_nil, Nat.reduceBNe, Bool.and_true, subB1, subT1, FL, q0]
  refine goP h142 ?_
  by_cases hlt : a < b
  · have h1 : cmpZ a b = -1 := by rw [cmpZ, if_pos hlt]
    simp only [us32, go_sem, List.all_cons, List.all_nil, Nat.reduceBNe, Bool.and_true, subB1, subT1, FL, h1]
    simp only [i135, OT, reduceIte, Nat.reduceEqDiff, sub, FL, List.length_cons, List.length_nil, Nat.le_refl, us32, Nat.div_eq_of_lt hlt, Nat.mod_eq_of_lt hlt, limG_zero]
    rfl
  · have h1 : ¬ cmpZ a b < 0 := by
      rw [cmpZ, if_neg hlt]
      split <;> omega
    by_cases hl1 : (limG b).length = 1
    · obtain ⟨h2, h3⟩ := limG_len1 hl1
      have q1 : (((limG b).length : Int) == 1) = true := by rw [beq_iff_eq]; omega
      have e1 := limG_one h2 h3
      have hsd : sub false 1 (nums .u32 (limG b)) (0 * 1) = some (.int .u32 (b : Int)) := by rw [e1]; rfl
      have hsd' : sub false 1 (nums .u32 (limG b)) 0 = some (.int .u32 (b : Int)) := by rw [e1]; rfl
      have g1 : (0 : Int) < ((limG b).length : Int) := by omega
      have h125 := c124_ok (E := E) (l := limG a) (d := b) R32_limG (by omega) (by omega)
      rw [nval_limG] at h125
      have hrl : a % b < 4294967296 := by
        have := Nat.mod_lt a (show 0 < b by omega)
        omega
      have h90 := c114_nat (E := E) (n := a % b) (by omega)
      have w1 : IntKind.u64.wrap ((a % b : Nat) : Int) = ((a % b : Nat) : Int) := wrap_u64 (by omega) (by omega)
      simp only [natC] at h90
      simp only [us32, go_sem, List.all_cons, List.all_nil, Nat.reduceBNe, Bool.and_true, subB1, subT1, FL, h1, q1, hsd, hsd', g1]
      refine goP h125 ?_
      simp only [us32, go_sem, List.all_cons, List.all_nil, Nat.reduceBNe, Bool.and_true, subB1, subT1, FL, w1]
      refine goP h90 ?_
      simp only [us32, go_sem, List.all_cons, List.all_nil, Nat.reduceBNe, Bool.and_true, subB1, subT1, FL]
      simp only [i135, OT, reduceIte, Nat.reduceEqDiff, sub, FL, List.length_cons, List.length_nil, Nat.le_refl, us32]
    · have q1 : (((limG b).length : Int) == 1) = false := by rw [beq_eq_false_iff_ne]; omega
      have h145 := c153_ok (E := E) (a := a) (b := b) (by
        have : (limG b).length ≠ 0 := fun h => hb0 (limG_len0 h)
        omega) (by omega) ha
      simp only [natC] at h145
      simp only [us32, go_sem, List.all_cons, List.all_nil, Nat.reduceBNe, Bool.and_true, subB1, subT1, FL, h1, q1]
      refine goP h145 ?_
      simp only [us32, go_sem, List.all_cons, List.all_nil, Nat.reduceBNe, Bool.and_true, subB1, subT1, FL]
      simp only [i135, OT, reduceIte, Nat.reduceEqDiff, sub, FL, List.length_cons, List.length_nil, Nat.le_refl, us32]
theorem c133_ok {a b : Nat} (ha : (limG a).length ≤ 1000000) (hb : (limG b).length ≤ 1000000) : Go.V.Call tab E 133 [natC a, natC b] [] (natC (Nat.gcd a b)) [] := by
  refine Go.V.Call.mach i133 c133 rfl rfl rfl rfl ?_
  simp only [c133, natC, us32, go_sem, List.all_cons, List.all_nil, Nat.reduceBNe, Bool.and_true, subB1, subT1, FL]
  refine mLoop (fun N st => ∃ (x y : Nat), N = y ∧ Nat.gcd x y = Nat.gcd a b ∧ (limG x).length ≤ 1000000 ∧ (limG y).length ≤ 1000000 ∧
    st = ⟨[(2, .loc 0 0 0), (3, .loc 1 0 0), (4, .loc 3 0 0)], [⟨true, 55, 1, 0, 1, [us32 (limG x)], false⟩, ⟨true, 55, 1, 0, 1, [us32 (limG y)], false⟩, ⟨false, 154, 1, 0, 0, [], false⟩, ⟨true, 55, 1, 0, 1, [.arr 2 0], false⟩]⟩) b
    ⟨_, rfl, a, b, rfl, rfl, ha, hb, by simp [getE, us32]⟩ ?_
  rintro N s0 ⟨x, y, rfl, hg, hx, hy, rfl⟩
  have h124 := c123_ok (E := E) (l := limG N)
  simp only [us32] at h124
  by_cases hN : N = 0
  · subst hN
    rw [Nat.gcd_zero_right] at hg
    subst hg
    have q0 : (((limG 0).length : Int) == 0) = true := by rw [limG_zero]; rfl
    rw [q0] at h124
    simp only [b133_0, k133_2, us32, go_sem, List.all_cons, List.all_nil, Nat.reduceBNe, Bool.and_true, subB1, subT1, FL]
    refine goR h124 rfl ?_
    simp only [us32, go_sem, List.all_cons, List.all_nil, Nat.reduceBNe, Bool.and_true, subB1, subT1, FL]
    simp only [i133, OT, reduceIte, Nat.reduceEqDiff, sub, FL, List.length_cons, List.length_nil, Nat.le_refl, us32]
  · have q0 : (((limG N).length : Int) == 0) = false := by
      rw [beq_eq_false_iff_ne]
      intro h
      exact hN (limG_len0 (by omega))
    rw [q0] at h124
    have h137 := c135_ok (E := E) hx hy hN
    have hml := Nat.mod_lt x (Nat.pos_of_ne_zero hN)
    have hrl : (limG (x % N)).length ≤ 1000000 := by
      have := limG_mono (Nat.le_of_lt hml)
      omega
    have hg2 : Nat.gcd N (x % N) = Nat.gcd a b := by rw [← hg, Nat.gcd_comm N, ← Nat.gcd_rec, Nat.gcd_comm]
    simp only [natC, us32] at h137
    by_cases hx64 : x < 18446744073709551616
    · have h131x := c152_nat (E := E) hx64
      simp only [natC, us32] at h131x
      by_cases hy64 : N < 18446744073709551616
      · have h131y := c152_nat (E := E) hy64
        simp only [natC, us32] at h131y
        simp only [b133_0, k133_0, k133_1, us32, go_sem, List.all_cons, List.all_nil, Nat.reduceBNe, Bool.and_true, subB1, subT1, FL]
        refine goR h124 rfl ?_
        simp only [us32, go_sem, List.all_cons, List.all_nil, Nat.reduceBNe, Bool.and_true, subB1, subT1, FL]
        refine goR h131x rfl ?_
        simp only [us32, go_sem, List.all_cons, List.all_nil, Nat.reduceBNe, Bool.and_true, subB1, subT1, FL]
        refine goR h131y rfl ?_
        simp only [us32, go_sem, List.all_cons, List.all_nil, Nat.reduceBNe, Bool.and_true, subB1, subT1, FL]
        refine mLoop (fun N' st => ∃ (p q : Nat), N' = q ∧ Nat.gcd p q = Nat.gcd a b ∧ p < 18446744073709551616 ∧ q < 18446744073709551616 ∧
          st = ⟨[(4, .loc 3 0 0), (5, .int .u64 p), (7, .int .u64 q)], [⟨true, 55, 1, 0, 1, [us32 (limG x)], false⟩, ⟨true, 55, 1, 0, 1, [us32 (limG N)], false⟩, ⟨false, 154, 1, 0, 0, [], false⟩, ⟨true, 55, 1, 0, 1, [.arr 2 0], false⟩]⟩) N
          ⟨_, rfl, x, N, rfl, hg, hx64, hy64, by simp [getE, us32]⟩ ?_
        rintro N' s0 ⟨p, q, rfl, hpq, hp, hq, rfl⟩
        by_cases hq0 : N' = 0
        · subst hq0
          rw [Nat.gcd_zero_right] at hpq
          have h90 := c114_nat (E := E) hp
          rw [hpq] at h90 hp
          simp only [natC, us32] at h90
          simp only [b133_1, us32, go_sem, List.all_cons, List.all_nil, Nat.reduceBNe, Bool.and_true, subB1, subT1, FL, hpq, show ((0 : Int) != 0) = false from rfl]
          refine goP h90 ?_
          simp only [us32, go_sem, List.all_cons, List.all_nil, Nat.reduceBNe, Bool.and_true, subB1, subT1, FL]
          simp only [i133, OT, reduceIte, Nat.reduceEqDiff, sub, FL, List.length_cons, List.length_nil, Nat.le_refl, us32]
        · have q1 : ((N' : Int) != 0) = true := by rw [bne_iff_ne]; omega
          have q2 : ¬ (N' : Int) = 0 := by omega
          have q3 : Int.tmod (p : Int) (N' : Int) = ((p % N' : Nat) : Int) := by
            rw [Int.tmod_eq_emod_of_nonneg (by omega), ← Int.natCast_emod]
          have hml2 := Nat.mod_lt p (Nat.pos_of_ne_zero hq0)
          have hpq2 : Nat.gcd N' (p % N') = Nat.gcd a b := by rw [← hpq, Nat.gcd_comm N', ← Nat.gcd_rec, Nat.gcd_comm]
          generalize p % N' = r at *
          simp only [b133_1, us32, go_sem, List.all_cons, List.all_nil, Nat.reduceBNe, Bool.and_true, subB1, subT1, FL, q1, q2, q3]
          exact loopQ_go rfl r (by omega) ⟨N', r, rfl, hpq2, hq, by omega, rfl⟩
      · have h131y := c152_big (E := E) (n := N) (by omega)
        simp only [natC, us32] at h131y
        generalize x % N = r at *
        simp only [b133_0, k133_0, k133_1, us32, go_sem, List.all_cons, List.all_nil, Nat.reduceBNe, Bool.and_true, subB1, subT1, FL]
        refine goR h124 rfl ?_
        simp only [us32, go_sem, List.all_cons, List.all_nil, Nat.reduceBNe, Bool.and_true, subB1, subT1, FL]
        refine goR h131x rfl ?_
        simp only [us32, go_sem, List.all_cons, List.all_nil, Nat.reduceBNe, Bool.and_true, subB1, subT1, FL]
        refine goR h131y rfl ?_
        simp only [us32, go_sem, List.all_cons, List.all_nil, Nat.reduceBNe, Bool.and_true, subB1, subT1, FL]
        refine goF h137 ?_
        simp only [us32, go_sem, List.all_cons, List.all_nil, Nat.reduceBNe, Bool.and_true, subB1, subT1, FL]
        exact loopQ_go rfl r (by omega) ⟨N, r, rfl, hg2, hy, hrl, rfl⟩
    · have h131x := c152_big (E := E) (n := x) (by omega)
      simp only [natC, us32] at h131x
      have h131y : ∃ n2 t2, Go.V.Call tab E 152 [.agg [us32 (limG N)]] [] (.tup [.int .u64 n2, .bool t2]) [] := by
        by_cases hy64 : N < 18446744073709551616
        · exact ⟨_, _, c152_nat hy64⟩
        · exact ⟨_, _, c152_big (by omega)⟩
      obtain ⟨n2, t2, h131y⟩ := h131y
      simp only [us32] at h131y
      generalize x % N = r at *
      simp only [b133_0, k133_0, k133_1, us32, go_sem, List.all_cons, List.all_nil, Nat.reduceBNe, Bool.and_true, subB1, subT1, FL]
      refine goR h124 rfl ?_
      simp only [us32, go_sem, List.all_cons, List.all_nil, Nat.reduceBNe, Bool.and_true, subB1, subT1, FL]
      refine goR h131x rfl ?_
      simp only [us32, go_sem, List.all_cons, List.all_nil, Nat.reduceBNe, Bool.and_true, subB1, subT1, FL]
      refine goR h131y rfl ?_
      simp only [us32, go_sem, List.all_cons, List.all_nil, Nat.reduceBNe, Bool.and_true, subB1, subT1, FL]
      refine goF h137 ?_
      simp only [us32, go_sem, List.all_cons, List.all_nil, Nat.reduceBNe, Bool.and_true, subB1, subT1, FL]
      exact loopQ_go rfl r (by omega) ⟨N, r, rfl, hg2, hy, hrl, rfl⟩
end
section
variable {E : CallRel}
theorem c142_one {x : Int} : Go.V.Call tab E 142 [.str (bs [x])] [] (.str (bs [x])) [] := by
  refine Go.V.Call.mach i142 c142 rfl rfl rfl rfl ?_
  have h1 : ¬ (1 : Int) < (((bs [x]).size : Nat) : Int) := by rw [bs_size]; simp
  simp only [c142, go_sem]
  refine mLoop (fun N st => N = 0 ∧ st = ⟨[(0, .str (bs [x]))], []⟩) 0 ⟨_, rfl, rfl, rfl⟩ ?_
  rintro N s0 ⟨rfl, rfl⟩
  simp only [b142_0, k142_0, go_sem, h1]
  simp only [i142, OT, reduceIte, Nat.reduceEqDiff]
theorem c142_ok {x : Int} {l : List Int} (hx : 49 ≤ x ∧ x ≤ 57) : Go.V.Call tab E 142 [.str (bs (x :: l))] [] (.str (bs (x :: l))) [] := by
  cases l with
  | nil => exact c142_one
  | cons y l =>
    refine Go.V.Call.mach i142 c142 rfl rfl rfl rfl ?_
    have h1 : (1 : Int) < (((bs (x :: y :: l)).size : Nat) : Int) := by rw [bs_size]; simp; omega
    have h2 : (((UInt8.ofNat x.toNat).toNat : Nat) : Int) = x := by simp; omega
    have h3 : (x == 48) = false := by rw [beq_eq_false_iff_ne]; omega
    have h4 : (bs (x :: y :: l))[0]? = some (UInt8.ofNat x.toNat) := rfl
    simp only [c142, go_sem]
    refine mLoop (fun N st => N = 0 ∧ st = ⟨[(0, .str (bs (x :: y :: l)))], []⟩) 0 ⟨_, rfl, rfl, rfl⟩ ?_
    rintro N s0 ⟨rfl, rfl⟩
    simp only [b142_0, k142_0, go_sem, h1, h4, h2, h3]
    simp only [i142, OT, reduceIte, Nat.reduceEqDiff]
theorem c154_ok {l : List Int} {d : Int} (hl : (l.length : Int) ≤ 1000000000) (hr : ∀ x ∈ l, 0 ≤ x ∧ x ≤ 9) (hd : 1 ≤ d ∧ d ≤ 9) : Go.V.Call tab E 154 [ints (l ++ [d])] [] (.str (bs (asc (l ++ [d])).reverse)) [] := by
  refine Go.V.Call.mach i154 c154 rfl rfl rfl rfl ?_
  have hrr : ∀ x ∈ l ++ [d], 0 ≤ x ∧ x ≤ 9 := fun x hx => by
    rcases List.mem_append.1 hx with hx | hx
    · exact hr x hx
    · simp at hx; omega
  have hL : (l ++ [d]).length = l.length + 1 := by simp
  have htrim : Go.V.Call tab E 142 [.str (bs (asc (l ++ [d])).reverse)] [] (.str (bs (asc (l ++ [d])).reverse)) [] := by
    have : (asc (l ++ [d])).reverse = (48 + d) :: (asc l).reverse := by simp [asc]
    rw [this]
    exact c142_ok (by omega)
  generalize hLL : l ++ [d] = L at *
  have w1 : IntKind.i64.wrap ((L.length : Int) + 1) = ((L.length + 1 : Nat) : Int) := by rw [wrap_i64 (by omega) (by omega)]; omega
  have w2 : IntKind.i64.wrap ((L.length : Int) - 1) = (L.length : Int) - 1 := wrap_i64 (by omega) (by omega)
  have b1 : (0 : Int) ≤ ((L.length + 1 : Nat) : Int) := by omega
  have b2 : 1 * (L.length + 1) ≤ 140737488355328 := by omega
  have b3 : ((L.length + 1 : Nat) : Int) ≤ 140737488355328 := by omega
  simp only [c154, go_sem, w1, w2, b1, b2, b3, Int.toNat_natCast]
  refine mLoop (fun N st => ∃ (j : Nat) (jj : Int), j ≤ L.length ∧ N = j ∧ jj = (j : Int) - 1 ∧
    st = ⟨[(0, ints L), (3, .arr 0 (L.length - j)), (4, .int .i64 jj)], [⟨false, 5, 1, L.length - j, L.length - j, nums .u8 (asc (L.drop j)).reverse, false⟩]⟩) L.length
    ⟨_, rfl, L.length, _, by omega, rfl, rfl, by rw [List.drop_length, Nat.sub_self]; rfl⟩ ?_
  rintro N s0 ⟨j, jj, hj, rfl, hjj, rfl⟩
  cases N with
  | zero =>
    have hn : ¬ 0 ≤ jj := by omega
    have hz : ((L.length : Int) == 0) = false := by rw [beq_eq_false_iff_ne]; omega
    simp only [b154_0, k154_0, go_sem, hn, Nat.sub_zero, List.drop_zero, hz, bytesOf_nums]
    refine goP htrim ?_
    simp only [go_sem]
    simp only [i154, OT, reduceIte, Nat.reduceEqDiff]
  | succ k =>
    obtain rfl : jj = (k : Int) := by omega
    have hlt : k < L.length := by omega
    have hlt' : (k : Int) < (L.length : Int) := by omega
    have hk0 : (0 : Int) ≤ (k : Int) := by omega
    have hk1 : IntKind.i64.wrap ((k : Int) - 1) = (k : Int) - 1 := wrap_i64 (by omega) (by omega)
    have hsub := sub_nums (k := .i64) hlt
    have hx := hrr (L.getD k 0) (by simp [List.getD, hlt])
    have hdr := getD_drop hlt
    generalize L.getD k 0 = x at *
    have t3 : IntKind.i64.wrap (48 + x) = 48 + x := wrap_i64 (by omega) (by omega)
    have t4 : IntKind.u8.wrap (48 + x) = 48 + x := by
      simp only [IntKind.wrap, IntKind.bits, IntKind.signed]
      simp
      omega
    have e0 : L.length - k = L.length - (k + 1) + 1 := by omega
    have e3 : (L.length - (k + 1) + 1) * 1 ≤ 140737488355328 := by omega
    have e4 : L.length - (k + 1) + 1 ≤ 140737488355328 := by omega
    have hasc : nums .u8 (asc (L.drop k)).reverse = nums .u8 (asc (L.drop (k + 1))).reverse ++ [.int .u8 (48 + x)] := by rw [hdr]; simp [nums, asc]
    simp only [b154_0, go_sem, hk0, hlt', Int.toNat_natCast, hsub, t3, t4, e3, e4, hk1, List.flatten_cons, List.flatten_nil, Option.getD_some]
    refine loopQ_go rfl k (by omega) ⟨k, _, by omega, rfl, rfl, ?_⟩
    rw [hasc, e0]
    rfl
theorem c140_ok {n : Nat} (hn : n < 18446744073709551616) : Go.V.Call tab E 140 [.int .u64 n] [] (.str (dec n)) [] := by
  refine Go.V.Call.mach i140 c140 rfl rfl rfl rfl ?_
  by_cases h0 : n = 0
  · subst h0
    simp only [c140, go_sem, show ((((0 : Nat) : Int)) == 0) = true from rfl]
    simp only [i140, OT, reduceIte, Nat.reduceEqDiff, dec]
  · have h0' : ((n : Int) == 0) = false := by rw [beq_eq_false_iff_ne]; omega
    simp only [c140, go_sem, h0']
    refine mLoop (fun N st => ∃ (i m : Nat) (o : List Int), i ≤ 20 ∧ N = 20 - i ∧ o.length = i ∧ m < 10 ^ (20 - i) ∧ m < 18446744073709551616 ∧ dgs n = o ++ dgs m ∧
      st = ⟨[(0, .int .u64 m), (3, .arr 0 i), (4, .int .i64 i)], [⟨false, 3, 1, i, i, nums .i64 o, false⟩]⟩) 20 ⟨_, rfl, 0, n, [], by omega, by omega, rfl, by omega, by omega, by simp, by simp [getE, nums]⟩ ?_
    rintro N s0 ⟨i, m, o, hi, rfl, hol, hm, hm64, hd, rfl⟩
    by_cases hm0 : m = 0
    · subst hm0
      rw [dgs_zero, List.append_nil] at hd
      obtain ⟨l, d, e1, e2, e3⟩ := dgs_last h0
      have hr := dgs_range (n := n)
      rw [hd] at e1 hr
      have hw := c154_ok (E := E) (l := l) (d := d) (by
        have : o.length = l.length + 1 := by rw [e1]; simp
        omega) (fun x hx => hr x (by rw [e1]; simp [hx])) ⟨e2, e3⟩
      rw [← e1, ints, hol] at hw
      have hdec : dec n = bs (asc o).reverse := by rw [dec, if_neg h0, hd]
      rw [← hdec] at hw
      have z : ¬ (0 : Int) < ((0 : Nat) : Int) := by omega
      by_cases hi20 : i < 20
      · have hi' : (i : Int) < 20 := by omega
        simp only [b140_0, k140_0, go_sem, hi', z]
        refine goR hw rfl ?_
        simp only [go_sem]
        simp only [i140, OT, reduceIte, Nat.reduceEqDiff]
      · have hi' : ¬ (i : Int) < 20 := by omega
        simp only [b140_0, k140_0, go_sem, hi', z]
        refine goR hw rfl ?_
        simp only [go_sem]
        simp only [i140, OT, reduceIte, Nat.reduceEqDiff]
    · have hi20 : i < 20 := by
        rcases Nat.lt_or_ge i 20 with h | h
        · exact h
        · have : i = 20 := by omega
          subst this
          simp at hm
          omega
      have hi' : (i : Int) < 20 := by omega
      have hp : 10 ^ (20 - i) = 10 * 10 ^ (20 - (i + 1)) := by rw [show 20 - i = (20 - (i + 1)) + 1 by omega, Nat.pow_succ, Nat.mul_comm]
      rw [hp] at hm
      have z : (0 : Int) < (m : Int) := by omega
      have t0 : ¬ (10 : Int) = 0 := by omega
      have t1 : Int.tmod (m : Int) 10 = ((m % 10 : Nat) : Int) := by rw [Int.tmod_eq_emod_of_nonneg (by omega)]; omega
      have t2 : IntKind.u64.wrap (Int.tdiv (m : Int) 10) = ((m / 10 : Nat) : Int) := by rw [Int.tdiv_eq_ediv_of_nonneg (by omega), wrap_u64 (by omega) (by omega)]; omega
      have t3 : IntKind.i64.wrap ((m % 10 : Nat) : Int) = ((m % 10 : Nat) : Int) := wrap_i64 (by omega) (by omega)
      have hi1 : IntKind.i64.wrap ((i : Int) + 1) = ((i + 1 : Nat) : Int) := by rw [wrap_i64 (by omega) (by omega)]; omega
      have e3 : (i + 1) * 8 ≤ 140737488355328 := by omega
      have e4 : i + 1 ≤ 140737488355328 := by omega
      simp only [b140_0, go_sem, hi', z, t0, t1, t2, t3, hi1, e3, e4, List.flatten_cons, List.flatten_nil, Option.getD_some]
      refine loopQ_go rfl (20 - (i + 1)) (by omega) ⟨i + 1, m / 10, o ++ [((m % 10 : Nat) : Int)], by omega, rfl, by simp [hol], by omega, by omega, ?_, ?_⟩
      · rw [hd, dgs_pos hm0]; simp
      · rw [nums_app]; rfl
theorem c115_ok {z : Int} (hz : In64 z) : Go.V.Call tab E 115 [.int .i64 z] [] (.agg [.bool (decide (z < 0)), .str (dec z.natAbs)]) [] := by
  obtain ⟨hz1, hz2⟩ := hz
  refine Go.V.Call.mach i115 c115 rfl rfl rfl rfl ?_
  by_cases h0 : z < 0
  · have e1 : IntKind.i64.wrap (z + 1) = z + 1 := wrap_i64 (by omega) (by omega)
    have e2 : IntKind.i64.wrap (0 - (z + 1)) = -(z + 1) := by rw [wrap_i64 (by omega) (by omega)]; omega
    have e3 : IntKind.u64.wrap (-(z + 1)) = -(z + 1) := wrap_u64 (by omega) (by omega)
    have e4 : IntKind.u64.wrap (-(z + 1) + 1) = (z.natAbs : Int) := by rw [wrap_u64 (by omega) (by omega)]; omega
    simp only [c115, go_sem, h0, e1, e2, e3, e4]
    refine goP (c140_ok (by omega)) ?_
    simp only [go_sem, FL]
    simp only [i115, OT, reduceIte, Nat.reduceEqDiff, sub, FL, List.length_cons, List.length_nil, Nat.le_refl]
  · have e1 : IntKind.u64.wrap z = (z.natAbs : Int) := by rw [wrap_u64 (by omega) (by omega)]; omega
    simp only [c115, go_sem, h0, e1]
    refine goP (c140_ok (by omega)) ?_
    simp only [go_sem, FL]
    simp only [i115, OT, reduceIte, Nat.reduceEqDiff, sub, FL, List.length_cons, List.length_nil, Nat.le_refl]
def numC (z : Int) : List AV := [.bool (decide (z < 0)), .str (dec z.natAbs), .str ⟨#[49]⟩]
theorem c58_ok {z : Int} (hz : In64 z) : Go.V.Call tab E 58 [.int .i64 z] [] (.agg (numC z)) [] := by
  refine Go.V.Call.mach i58 c58 rfl rfl rfl rfl ?_
  simp only [c58, go_sem]
  refine goP (c115_ok hz) ?_
  simp only [go_sem, sub, FL]
  simp only [i58, OT, reduceIte, Nat.reduceEqDiff, sub, FL, List.length_cons, List.length_nil, Nat.le_refl, numC]
end
end Go.Proofs.Ytlejgleocnemoaa.I

namespace Go.Proofs.Ytlejgleocnemoaa.I
open Go Go.V
attribute [local go_sem] mNil nat0 beq_self_eq_true mSkip mRet mExit mReg mSeq mCond mTrue mFalse mBlock mLv mCodeE mCodeR mEndN mEndR mEndE mOps mSome mGuard mGtt mGff mGtf mGft mGu mCallP mCallR mCallF mCallO mCallZ mCallG mCallM mCallV loopQ_exit loopQ_ret mO_mov mO_newnil mO_pick mO_alloc mO_box mO_build mO_bsl mO_bslF mO_newnilB mO_bslB mO_lenB mO_appB mO_allocA mO_bslA mO_appA mO_ldb mO_faddrb mRsv mO_ldf mO_ld mO_st mO_sta mO_nilchk mO_bin mO_binb mO_binp mO_bins mO_neg mO_com mO_not mO_conv mO_mk mO_mk0 mO_mkB mO_s2b mO_b2s mO_cpy mO_cut mO_faddr mO_fld mO_iaddr mO_iaddrf mO_sidx mO_len mO_lenf mO_slen mO_scut mO_app mO_ext mO_mx mO_mn mO_mkfn evalOp cutOp argsE ev getE putE cellsOf adopt rowOf binV boolV nilV ar_add ar_sub ar_mul ar_quo ar_rem ar_eq ar_ne ar_lt ar_le ar_gt ar_ge ar_and ar_or ar_xor geto bound finRet finNrm ints List.length_cons List.length_nil List.length_append List.getElem?_cons_zero List.getElem?_cons_succ List.nil_append List.cons_append List.map_cons List.map_nil List.mapM_cons List.mapM_nil Option.map_some Option.map_none Option.bind_some Option.pure_def Option.bind_eq_bind List.drop_zero or_self or_false false_or or_true true_or true_and and_true and_self decide_true decide_false Bool.false_eq_true Bool.true_eq_false Bool.not_true Bool.not_false Nat.le_refl eq_self gt_iff_lt ge_iff_le ne_eq not_true_eq_false not_false_eq_true storeOp apartOf freeze_nil refsL refs List.flatMap_cons List.flatMap_nil List.append_nil List.contains_nil List.set_cons_zero List.set_cons_succ snap snapL fill_nums flat_nums nums_length Go.V.freeze List.mapIdx_cons List.mapIdx_nil List.contains_cons Bool.or_false Bool.false_or Bool.or_true Bool.true_or
def U8 (l : List Int) : Prop := ∀ x ∈ l, 0 ≤ x ∧ x < 256
def Dig (l : List Int) : Prop := ∀ x ∈ l, 48 ≤ x ∧ x ≤ 57
def u8l (l : List Int) : List UInt8 := l.map fun n => UInt8.ofNat n.toNat
theorem Dig.u8 {l : List Int} (h : Dig l) : U8 l := fun x hx => by have := h x hx; omega
def sval (l : List Int) : Nat := l.foldl (fun a x => 10 * a + (x - 48).toNat) 0
theorem sval_snoc {l : List Int} {x : Int} : sval (l ++ [x]) = 10 * sval l + (x - 48).toNat := by simp [sval]
theorem sval_nil : sval [] = 0 := rfl
def decL (n : Nat) : List Int := if n = 0 then [48] else (asc (dgs n)).reverse
theorem decL_digit {d : Nat} (h : d < 10) : decL d = [48 + (d : Int)] := by
  unfold decL
  split
  · rename_i h0; subst h0; rfl
  · rename_i h0
    rw [dgs_pos h0, show d / 10 = 0 by omega, dgs_zero, show d % 10 = d by omega]
    rfl
theorem decL_ten {v d : Nat} (hv : v ≠ 0) (hd : d < 10) : decL (10 * v + d) = decL v ++ [48 + (d : Int)] := by
  unfold decL
  rw [if_neg (by omega), if_neg hv, dgs_pos (by omega), show (10 * v + d) / 10 = v by omega, show (10 * v + d) % 10 = d by omega]
  simp [asc]
theorem decL_ne (n : Nat) : decL n ≠ [] := by
  unfold decL
  split
  · simp
  · rename_i h
    rw [dgs_pos h]
    simp [asc]
def Canon (l : List Int) : Prop := l ≠ [] ∧ (2 ≤ l.length → l.getD 0 0 ≠ 48)
def trimS : List Int → List Int
  | x :: y :: l => if x = 48 then trimS (y :: l) else x :: y :: l
  | l => l
theorem decL_len {n : Nat} (h : n ≠ 0) : 10 ^ ((decL n).length - 1) ≤ n := by
  induction n using Nat.strongRecOn with
  | _ n ih =>
    by_cases hn : n < 10
    · rw [decL_digit hn]; simp; omega
    · have e : n = 10 * (n / 10) + n % 10 := by omega
      have := ih (n / 10) (by omega) (by omega)
      have hne : 1 ≤ (decL (n / 10)).length := by
        have := decL_ne (n / 10)
        rcases h : decL (n / 10) with _ | ⟨a, b⟩
        · exact absurd h this
        · simp
      rw [e, decL_ten (by omega) (by omega), List.length_append, List.length_singleton, Nat.add_sub_cancel]
      have e2 : 10 ^ (decL (n / 10)).length = 10 ^ ((decL (n / 10)).length - 1) * 10 := by rw [← Nat.pow_succ]; congr 1; omega
      rw [e2]
      omega
def RightS (l : List Int) : Prop := Dig l ∧ 1 ≤ l.length ∧ l.length ≤ 2000
def dval : List Int → Nat
  | [] => 0
  | x :: l => x.toNat + 10 * dval l
section
variable {E : CallRel}
end
section
variable {E : CallRel}
def powN (b n : Nat) : Nat := b ^ n
theorem powN_lt {b j n : Nat} (hb : 1 < b) (h : b ^ j < powN b n) : j < n := (Nat.pow_lt_pow_iff_right hb).1 h
def lim2000 : Nat := powN 10 2000
def lim2000sq : Nat := powN 2 13288
theorem pow_lim10 {j x : Nat} (h1 : 10 ^ j ≤ x) (h2 : x < lim2000) : j < 2000 := powN_lt (n := 2000) (by omega) (Nat.lt_of_le_of_lt h1 h2)
theorem lim2000_len {x : Nat} (h : x < lim2000) : (decL x).length ≤ 2000 := by
  by_cases hx0 : x = 0
  · subst hx0
    have : (decL 0).length = 1 := rfl
    omega
  · have h1 := pow_lim10 (decL_len hx0) h
    omega
end
section
variable {E : CallRel}
end
end Go.Proofs.Ytlejgleocnemoaa.I

namespace Go.Proofs.Ytlejgleocnemoaa.I
open Go Go.V
attribute [local go_sem_proc ↓] reduceIte
attribute [local go_sem_proc] Nat.reduceEqDiff Nat.reduceAdd Nat.reduceMul Nat.reduceLeDiff Nat.reduceLT Int.reduceToNat Int.reduceLT Int.reduceLE reduceCtorEq Nat.reduceBEq
attribute [local go_sem] mNil nat0 beq_self_eq_true mSkip mRet mExit mReg mSeq mCond mTrue mFalse mBlock mLv mCodeE mCodeR mEndN mEndR mEndE mOps mSome mGuard mGtt mGff mGtf mGft mGu mCallP mCallR mCallF mCallO mCallZ mCallG mCallM mCallV loopQ_exit loopQ_ret mO_mov mO_newnil mO_pick mO_alloc mO_box mO_build mO_bsl mO_bslF mO_newnilB mO_bslB mO_lenB mO_appB mO_allocA mO_bslA mO_appA mO_ldb mO_faddrb mRsv mO_ldf mO_ld mO_st mO_sta mO_nilchk mO_bin mO_binb mO_binp mO_bins mO_neg mO_com mO_not mO_conv mO_mk mO_mk0 mO_mkB mO_s2b mO_b2s mO_cpy mO_cut mO_faddr mO_fld mO_iaddr mO_iaddrf mO_sidx mO_len mO_lenf mO_slen mO_scut mO_app mO_ext mO_mx mO_mn mO_mkfn evalOp cutOp argsE ev getE putE cellsOf adopt rowOf binV boolV nilV ar_add ar_sub ar_mul ar_quo ar_rem ar_eq ar_ne ar_lt ar_le ar_gt ar_ge ar_and ar_or ar_xor geto bound finRet finNrm ints List.length_cons List.length_nil List.length_append List.getElem?_cons_zero List.getElem?_cons_succ List.nil_append List.cons_append List.map_cons List.map_nil List.mapM_cons List.mapM_nil Option.map_some Option.map_none Option.bind_some Option.pure_def Option.bind_eq_bind List.drop_zero or_self or_false false_or or_true true_or true_and and_true and_self decide_true decide_false Bool.false_eq_true Bool.true_eq_false Bool.not_true Bool.not_false Nat.le_refl eq_self gt_iff_lt ge_iff_le ne_eq not_true_eq_false not_false_eq_true storeOp apartOf freeze_nil refsL refs List.flatMap_cons List.flatMap_nil List.append_nil List.contains_nil List.set_cons_zero List.set_cons_succ snap snapL fill_nums flat_nums nums_length Go.V.freeze List.mapIdx_cons List.mapIdx_nil List.contains_cons Bool.or_false Bool.false_or Bool.or_true Bool.true_or
def ratG (n : Bool) (p q : Nat) : List AV := [us32 (limG p), .bool n, us32 (limG q)]
def numG (n : Bool) (p q : Nat) : List AV := [.bool n, .str (dec p), .str (dec q)]
def dn (q : Nat) : Nat := if q = 0 then 1 else q
section
variable {E : CallRel}
theorem c123_nat {n : Nat} : Go.V.Call tab E 123 [natC n] [] (.bool (decide (n = 0))) [] := by
  have h := c123_ok (E := E) (l := limG n)
  by_cases h0 : n = 0
  · subst h0
    rw [limG_zero] at h
    rw [natC, limG_zero, decide_eq_true rfl]
    exact h
  · have : (((limG n).length : Int) == 0) = false := by
      rw [beq_eq_false_iff_ne]
      intro h1
      exact h0 (limG_len0 (by omega))
    rw [this] at h
    rw [decide_eq_false h0]
    exact h
theorem c77_gen {n : Bool} {p : Nat} : Go.V.Call tab E 77 [.agg [us32 (limG p), .bool n]] [] (.bool n) [] := by
  refine Go.V.Call.mach i77 c77 rfl rfl rfl rfl ?_
  simp only [c77, us32, go_sem, sub, FL]
  simp only [i77, OT, reduceIte, Nat.reduceEqDiff]
theorem c134_gen {n : Bool} {p : Nat} : Go.V.Call tab E 134 [.agg [us32 (limG p), .bool n]] [] (natC p) [] := by
  refine Go.V.Call.mach i134 c134 rfl rfl rfl rfl ?_
  simp only [c134, natC, us32, go_sem, sub, FL]
  simp only [i134, OT, reduceIte, Nat.reduceEqDiff, sub, FL, List.length_cons, List.length_nil, Nat.le_refl, us32]
theorem c79_gen {n : Bool} {p q : Nat} : Go.V.Call tab E 79 [.agg (ratG n p q)] [] (natC (dn q)) [] := by
  refine Go.V.Call.mach i79 c79 rfl rfl rfl rfl ?_
  have h124 := c123_nat (E := E) (n := q)
  simp only [natC, us32] at h124
  simp only [c79, natC, ratG, us32, go_sem, sub, FL]
  refine goP h124 ?_
  by_cases h : q = 0
  · subst h
    have h90 := c114_nat (E := E) (n := 1) (by omega)
    simp only [natC, us32] at h90
    simp only [dn, us32, go_sem, sub, FL]
    refine goP h90 ?_
    simp only [us32, go_sem, sub, FL]
    simp only [i79, OT, reduceIte, Nat.reduceEqDiff, sub, FL, List.length_cons, List.length_nil, Nat.le_refl, us32]
  · simp only [dn, us32, go_sem, sub, FL, h]
    simp only [i79, OT, reduceIte, Nat.reduceEqDiff, sub, FL, List.length_cons, List.length_nil, Nat.le_refl, us32]
theorem c136_ok {n : Bool} {p : Nat} : Go.V.Call tab E 136 [.bool n, natC p] [] (.agg [us32 (limG p), .bool (n && decide (p ≠ 0))]) [] := by
  refine Go.V.Call.mach i136 c136 rfl rfl rfl rfl ?_
  have h124 := c123_nat (E := E) (n := p)
  simp only [natC, us32] at h124
  cases n with
  | false =>
    simp only [c136, natC, us32, go_sem, sub, FL]
    simp only [i136, OT, reduceIte, Nat.reduceEqDiff, sub, FL, List.length_cons, List.length_nil, Nat.le_refl, us32, Bool.false_and]
  | true =>
    simp only [c136, natC, us32, go_sem, sub, FL]
    refine goP h124 ?_
    by_cases h : p = 0
    · subst h
      simp only [us32, go_sem, sub, FL]
      simp only [i136, OT, reduceIte, Nat.reduceEqDiff, sub, FL, List.length_cons, List.length_nil, Nat.le_refl, us32, Bool.true_and, decide_false, not_true_eq_false, ne_eq]
    · simp only [us32, go_sem, sub, FL, h]
      simp only [i136, OT, reduceIte, Nat.reduceEqDiff, sub, FL, List.length_cons, List.length_nil, Nat.le_refl, us32, Bool.true_and, decide_true, h, not_false_eq_true, ne_eq]
theorem c107_ok {n1 n2 : Bool} {p q : Nat} (hq : q ≠ 0) (hpl : (limG p).length ≤ 1000000) (hql : (limG q).length ≤ 1000000) :
    Go.V.Call tab E 107 [.agg [us32 (limG p), .bool n1], .agg [us32 (limG q), .bool n2]] [] (.tup [.agg (ratG ((n1 != n2) && decide (p / Nat.gcd p q ≠ 0)) (p / Nat.gcd p q) (q / Nat.gcd p q)), .bool true]) [] := by
  refine Go.V.Call.mach i107 c107 rfl rfl rfl rfl ?_
  have h124 := c123_nat (E := E) (n := q)
  rw [decide_eq_false hq] at h124
  have h136 := c134_gen (E := E) (n := n2) (p := q)
  have h135 := c133_ok (E := E) hpl hql
  have hg0 : Nat.gcd p q ≠ 0 := fun h => hq (Nat.eq_zero_of_gcd_eq_zero_right h)
  have hgl : (limG (Nat.gcd p q)).length ≤ 1000000 := by
    have := limG_mono (Nat.gcd_le_right p (Nat.pos_of_ne_zero hq))
    omega
  have h137p := c135_ok (E := E) hpl hgl hg0
  have h137q := c135_ok (E := E) hql hgl hg0
  generalize Nat.gcd p q = g at *
  have h981 := c77_gen (E := E) (n := n1) (p := p)
  have h982 := c77_gen (E := E) (n := n2) (p := q)
  have h118 := c136_ok (E := E) (n := n1 != n2) (p := p / g)
  generalize p / g = x at *
  generalize q / g = y at *
  simp only [natC, us32] at h124 h136 h135 h137p h137q h981 h982 h118
  have hb : boolV .ne (.bool n1) (.bool n2) = some (.bool (n1 != n2)) := by cases n1 <;> cases n2 <;> rfl
  simp only [c107, natC, us32, go_sem, sub, FL]
  refine goP h124 ?_
  simp only [us32, go_sem, sub, FL]
  refine goP h136 ?_
  simp only [us32, go_sem, sub, FL]
  refine goP h135 ?_
  simp only [us32, go_sem, sub, FL]
  refine goF h137p ?_
  simp only [us32, go_sem, sub, FL]
  refine goF h137q ?_
  simp only [us32, go_sem, sub, FL]
  refine goP h981 ?_
  simp only [us32, go_sem, sub, FL]
  refine goP h982 ?_
  simp only [us32, go_sem, sub, FL, hb]
  refine goF h118 ?_
  simp only [us32, go_sem, sub, FL]
  simp only [i107, OT, reduceIte, Nat.reduceEqDiff, sub, FL, List.length_cons, List.length_nil, Nat.le_refl, ratG, us32]
def RightN (n : Bool) (a b : List Int) : Prop := RightS a ∧ RightS b ∧ trimS a = a ∧ trimS b = b ∧ b ≠ [48] ∧ Nat.gcd (sval a) (sval b) = 1 ∧ ¬ (n = true ∧ a = [48])
end
end Go.Proofs.Ytlejgleocnemoaa.I

namespace Go.Proofs.Ytlejgleocnemoaa.I
open Go Go.V
section
variable {E : CallRel}
theorem max1 {d : Int} : max 1 d = if 1 ≤ d then d else 1 := by rw [Int.max_def]
end
end Go.Proofs.Ytlejgleocnemoaa.I

namespace Go.Proofs.Ytlejgleocnemoaa.I
open Go Go.V
attribute [local go_sem_proc ↓] reduceIte
attribute [local go_sem_proc] Nat.reduceEqDiff Nat.reduceAdd Nat.reduceMul Nat.reduceLeDiff Nat.reduceLT Int.reduceToNat Int.reduceLT Int.reduceLE reduceCtorEq Nat.reduceBEq
attribute [local go_sem] mNil nat0 beq_self_eq_true mSkip mRet mExit mReg mSeq mCond mTrue mFalse mBlock mLv mCodeE mCodeR mEndN mEndR mEndE mOps mSome mGuard mGtt mGff mGtf mGft mGu mCallP mCallR mCallF mCallO mCallZ mCallG mCallM mCallV loopQ_exit loopQ_ret mO_mov mO_newnil mO_pick mO_alloc mO_box mO_build mO_bsl mO_bslF mO_newnilB mO_bslB mO_lenB mO_appB mO_allocA mO_bslA mO_appA mO_ldb mO_faddrb mRsv mO_ldf mO_ld mO_st mO_sta mO_nilchk mO_bin mO_binb mO_binp mO_bins mO_neg mO_com mO_not mO_conv mO_mk mO_mk0 mO_mkB mO_s2b mO_b2s mO_cpy mO_cut mO_faddr mO_fld mO_iaddr mO_iaddrf mO_sidx mO_len mO_lenf mO_slen mO_scut mO_app mO_ext mO_mx mO_mn mO_mkfn evalOp cutOp argsE ev getE putE cellsOf adopt rowOf binV boolV nilV ar_add ar_sub ar_mul ar_quo ar_rem ar_eq ar_ne ar_lt ar_le ar_gt ar_ge ar_and ar_or ar_xor geto bound finRet finNrm ints List.length_cons List.length_nil List.length_append List.getElem?_cons_zero List.getElem?_cons_succ List.nil_append List.cons_append List.map_cons List.map_nil List.mapM_cons List.mapM_nil Option.map_some Option.map_none Option.bind_some Option.pure_def Option.bind_eq_bind List.drop_zero or_self or_false false_or or_true true_or true_and and_true and_self decide_true decide_false Bool.false_eq_true Bool.true_eq_false Bool.not_true Bool.not_false Nat.le_refl eq_self gt_iff_lt ge_iff_le ne_eq not_true_eq_false not_false_eq_true
section
variable {E : CallRel}
theorem c85_ok {s t : List Int} (hs : (s.length : Int) ≤ 1000000000000000) (ht : (t.length : Int) ≤ 1000000000000000) : Go.V.Call tab E 85 [ints s, ints t] [] (.bool (decide (s = t))) [] := by
  refine Go.V.Call.mach i85 c85 rfl rfl rfl rfl ?_
  by_cases hl : s.length = t.length
  · have hl' : (s.length : Int) = (t.length : Int) := by omega
    simp only [c85, go_sem, hl', bne_self_eq_false]
    refine mLoop (fun N st => ∃ (k : Nat), k ≤ s.length ∧ N = s.length - k ∧ s.take k = t.take k ∧
      st = ⟨[(0, ints s), (1, ints t), (5, .int .i64 k)], []⟩) s.length ⟨_, rfl, 0, by omega, by omega, by simp, rfl⟩ ?_
    rintro N s0 ⟨k, hk, rfl, hp, rfl⟩
    by_cases hlt : k < s.length
    · have hlt' : (k : Int) < (t.length : Int) := by omega
      have hlt2 : k < t.length := by omega
      have hk0 : (0 : Int) ≤ (k : Int) := by omega
      have hk1 : IntKind.i64.wrap ((k : Int) + 1) = ((k + 1 : Nat) : Int) := by rw [wrap_i64 (by omega) (by omega)]; omega
      have hsub := sub_nums (k := .i64) hlt
      have hsub2 := sub_nums (k := .i64) hlt2
      by_cases he : s.getD k 0 = t.getD k 0
      · simp only [b85_0, go_sem, hl', hlt', hk0, Int.toNat_natCast, hsub, hsub2, he, bne_self_eq_false, hk1]
        refine loopQ_go (rfl) (s.length - (k + 1)) (by omega) ⟨k + 1, by omega, rfl, ?_, rfl⟩
        rw [List.take_add_one, List.take_add_one, hp]
        congr 1
        have h1 : s[k]? = some (s.getD k 0) := by simp [List.getD, hlt]
        have h2 : t[k]? = some (t.getD k 0) := by simp [List.getD, hlt2]
        rw [h1, h2, he]
      · have he' : (s.getD k 0 != t.getD k 0) = true := by simpa using he
        have hne : s ≠ t := fun h => he (by rw [h])
        simp only [b85_0, go_sem, hl', hlt', hk0, Int.toNat_natCast, hsub, hsub2, he']
        simp only [i85, OT, reduceIte, Nat.reduceEqDiff, hne, decide_false]
    · have hlt' : ¬ (k : Int) < (t.length : Int) := by omega
      have heq : s = t := by
        rw [List.take_of_length_le (by omega), List.take_of_length_le (by omega)] at hp
        exact hp
      simp only [b85_0, k85_0, go_sem, hl', hlt']
      simp only [i85, OT, reduceIte, Nat.reduceEqDiff, heq, decide_true]
  · have hl' : ((s.length : Int) != (t.length : Int)) = true := by simp; omega
    have hne : s ≠ t := fun h => hl (by rw [h])
    simp only [c85, go_sem, hl']
    simp only [i85, OT, reduceIte, Nat.reduceEqDiff, hne, decide_false]
end
end Go.Proofs.Ytlejgleocnemoaa.I

namespace Go.Proofs.Ytlejgleocnemoaa.I
open Go Go.V
attribute [local go_sem_proc ↓] reduceIte
attribute [local go_sem_proc] Nat.reduceEqDiff Nat.reduceAdd Nat.reduceMul Nat.reduceLeDiff Nat.reduceLT Int.reduceToNat Int.reduceLT Int.reduceLE reduceCtorEq Nat.reduceBEq
attribute [local go_sem] mNil nat0 beq_self_eq_true mSkip mRet mExit mReg mSeq mCond mTrue mFalse mBlock mLv mCodeE mCodeR mEndN mEndR mEndE mOps mSome mGuard mGtt mGff mGtf mGft mGu mCallP mCallR mCallF mCallO mCallZ mCallG mCallM mCallV loopQ_exit loopQ_ret mO_mov mO_newnil mO_pick mO_alloc mO_box mO_build mO_bsl mO_bslF mO_newnilB mO_bslB mO_lenB mO_appB mO_allocA mO_bslA mO_appA mO_ldb mO_faddrb mRsv mO_ldf mO_ld mO_st mO_sta mO_nilchk mO_bin mO_binb mO_binp mO_bins mO_neg mO_com mO_not mO_conv mO_mk mO_mk0 mO_mkB mO_s2b mO_b2s mO_cpy mO_cut mO_faddr mO_fld mO_iaddr mO_iaddrf mO_sidx mO_len mO_lenf mO_slen mO_scut mO_app mO_ext mO_mx mO_mn mO_mkfn evalOp cutOp argsE ev getE putE cellsOf adopt rowOf binV boolV nilV ar_add ar_sub ar_mul ar_quo ar_rem ar_eq ar_ne ar_lt ar_le ar_gt ar_ge ar_and ar_or ar_xor geto bound finRet finNrm ints List.length_cons List.length_nil List.length_append List.getElem?_cons_zero List.getElem?_cons_succ List.nil_append List.cons_append List.map_cons List.map_nil List.mapM_cons List.mapM_nil Option.map_some Option.map_none Option.bind_some Option.pure_def Option.bind_eq_bind List.drop_zero or_self or_false false_or or_true true_or true_and and_true and_self decide_true decide_false Bool.false_eq_true Bool.true_eq_false Bool.not_true Bool.not_false Nat.le_refl eq_self gt_iff_lt ge_iff_le ne_eq not_true_eq_false not_false_eq_true storeOp apartOf freeze_nil refsL refs List.flatMap_cons List.flatMap_nil List.append_nil List.contains_nil List.set_cons_zero List.set_cons_succ snap snapL fill_nums flat_nums nums_length Go.V.freeze List.mapIdx_cons List.mapIdx_nil List.contains_cons Bool.or_false Bool.false_or Bool.or_true Bool.true_or
def runes (t : List Int) : AV := .sl t.length 1 (nums .i32 t)
def arrG (s : List Int) (ch : Bool) (t l : List Int) : List AV := [ints s, .bool ch, runes t, .sl l.length 3 (ratsC l), .bool true]
def numsC (l : List Int) : List AV := l.flatMap numC
def plG (s : List Int) (ch : Bool) (t l : List Int) : List AV := [ints s, .bool ch, runes t, .sl l.length 3 (numsC l)]
def noA : List AV := [.sl 0 1 [], .bool false, .sl 0 1 [], .sl 0 3 [], .bool false]
theorem numsC_len {l : List Int} : (numsC l).length = l.length * 3 := by
  induction l with
  | nil => rfl
  | cons z l ih =>
    have : numsC (z :: l) = numC z ++ numsC l := rfl
    rw [this, List.length_append, ih]
    simp [numC]
    omega
theorem numsC_get : ∀ {l : List Int} {i : Nat}, i < l.length → ((numsC l).drop (i * 3)).take 3 = numC (l.getD i 0)
  | [], i, h => by simp at h
  | z :: l, 0, _ => by
    have : numsC (z :: l) = numC z ++ numsC l := rfl
    rw [this, Nat.zero_mul, List.drop_zero]
    simp [numC]
  | z :: l, i + 1, h => by
    have : numsC (z :: l) = numC z ++ numsC l := rfl
    rw [this, Nat.succ_mul, List.drop_append]
    have e : (numC z).length = 3 := rfl
    rw [List.drop_eq_nil_of_le (by rw [e]; omega), e, Nat.add_sub_cancel, List.nil_append, numsC_get (by simpa using h)]
    simp
theorem sub_numsC {l : List Int} {i : Nat} (h : i < l.length) : sub true 3 (numsC l) (i * 3) = some (.agg (numC (l.getD i 0))) := by
  simp only [sub, numsC_len, if_true]
  rw [if_pos (by omega), numsC_get h]
theorem numsC_snoc {l : List Int} {z : Int} : numsC (l ++ [z]) = numsC l ++ numC z := by simp [numsC]
theorem beqBA {a : ByteArray} : (a == a) = true := by
  obtain ⟨⟨l⟩⟩ := a
  show ((⟨l⟩ : Array UInt8) == ⟨l⟩) = true
  simp
theorem same_numC {z : Int} : structV .ne [0, 2, 2] (.agg (numC z)) (.agg (numC z)) = some (.bool false) := by
  simp [structV, numC, kindOf, scalarsEq, scalEq, beqBA]
theorem dgs_bound : ∀ {k n : Nat}, n < 10 ^ k → (dgs n).length ≤ k
  | 0, n, h => by
    have : n = 0 := by simpa using h
    subst this
    rw [dgs_zero]; simp
  | k + 1, n, h => by
    by_cases h0 : n = 0
    · subst h0; rw [dgs_zero]; simp
    · rw [dgs_pos h0, List.length_cons]
      have := dgs_bound (k := k) (n := n / 10) (by rw [Nat.pow_succ] at h; omega)
      omega
theorem lim_len {n : Nat} : (lim n).length ≤ 2 := by
  unfold lim
  split
  · simp
  · split <;> simp
theorem dec1 : dec 1 = ⟨#[49]⟩ := by
  have : dgs 1 = [1] := by rw [dgs_pos (by omega)]; rw [show 1 / 10 = 0 from rfl, dgs_zero]; rfl
  rw [dec, if_neg (by omega), this]
  rfl
section
variable {E : CallRel}
theorem c78_small {n : Nat} (h : n < 18446744073709551616) : Go.V.Call tab E 78 [.agg [us32 (lim n)]] [] (.str (dec n)) [] := by
  have h1 := lim_len (n := n)
  have h2 := dgs_bound (k := 20) (n := n) (by omega)
  have h3 := c78_ok (E := E) (n := n) (by rw [← lim_limG h]; omega) (by omega)
  rwa [← lim_limG h] at h3
theorem c26_ok {z : Int} (hz : In64 z) : Go.V.Call tab E 26 [.agg (ratC z)] [] (.agg (numC z)) [] := by
  have hz' := hz
  obtain ⟨hz1, hz2⟩ := hz'
  have h99 := c78_small (E := E) (n := z.natAbs) (by omega)
  have h991 := c78_small (E := E) (n := 1) (by omega)
  rw [dec1, lim1] at h991
  have h98 : Go.V.Call tab E 77 [.agg [us32 (lim z.natAbs), .bool (decide (z < 0))]] [] (.bool (decide (z < 0))) [] := by
    refine Go.V.Call.mach i77 c77 rfl rfl rfl rfl ?_
    simp only [c77, us32, go_sem, sub, FL]
    simp only [i77, OT, reduceIte, Nat.reduceEqDiff]
  refine Go.V.Call.mach i26 c26 rfl rfl rfl rfl ?_
  simp only [c26, ratC, us32, go_sem, sub, FL]
  refine goP h98 ?_
  simp only [us32, go_sem, sub, FL]
  refine goP h99 ?_
  simp only [us32, go_sem, sub, FL]
  refine goP c79_ok ?_
  simp only [us32, go_sem, sub, FL]
  refine goP h991 ?_
  simp only [us32, go_sem, sub, FL]
  simp only [i26, OT, reduceIte, Nat.reduceEqDiff, sub, FL, List.length_cons, List.length_nil, Nat.le_refl, numC]
end
end Go.Proofs.Ytlejgleocnemoaa.I

namespace Go.Proofs.Ytlejgleocnemoaa.I
open Go Go.V
attribute [local go_sem] mNil nat0 beq_self_eq_true mSkip mRet mExit mReg mSeq mCond mTrue mFalse mBlock mLv mCodeE mCodeR mEndN mEndR mEndE mOps mSome mGuard mGtt mGff mGtf mGft mGu mCallP mCallR mCallF mCallO mCallZ mCallG mCallM mCallV loopQ_exit loopQ_ret mO_mov mO_newnil mO_pick mO_alloc mO_box mO_build mO_bsl mO_bslF mO_newnilB mO_bslB mO_lenB mO_appB mO_allocA mO_bslA mO_appA mO_ldb mO_faddrb mRsv mO_ldf mO_ld mO_st mO_sta mO_nilchk mO_bin mO_binb mO_binp mO_bins mO_neg mO_com mO_not mO_conv mO_mk mO_mk0 mO_mkB mO_s2b mO_b2s mO_cpy mO_cut mO_faddr mO_fld mO_iaddr mO_iaddrf mO_sidx mO_len mO_lenf mO_slen mO_scut mO_app mO_ext mO_mx mO_mn mO_mkfn evalOp cutOp argsE ev getE putE cellsOf adopt rowOf binV boolV nilV ar_add ar_sub ar_mul ar_quo ar_rem ar_eq ar_ne ar_lt ar_le ar_gt ar_ge ar_and ar_or ar_xor geto bound finRet finNrm ints List.length_cons List.length_nil List.length_append List.getElem?_cons_zero List.getElem?_cons_succ List.nil_append List.cons_append List.map_cons List.map_nil List.mapM_cons List.mapM_nil Option.map_some Option.map_none Option.bind_some Option.pure_def Option.bind_eq_bind List.drop_zero or_self or_false false_or or_true true_or true_and and_true and_self decide_true decide_false Bool.false_eq_true Bool.true_eq_false Bool.not_true Bool.not_false Nat.le_refl eq_self gt_iff_lt ge_iff_le ne_eq not_true_eq_false not_false_eq_true storeOp apartOf freeze_nil refsL refs List.flatMap_cons List.flatMap_nil List.append_nil List.contains_nil List.set_cons_zero List.set_cons_succ snap snapL fill_nums flat_nums nums_length Go.V.freeze List.mapIdx_cons List.mapIdx_nil List.contains_cons Bool.or_false Bool.false_or Bool.or_true Bool.true_or
section
variable {E : CallRel}
end
end Go.Proofs.Ytlejgleocnemoaa.I

namespace Go.Proofs.Ytlejgleocnemoaa.I
open Go Go.V
attribute [local go_sem_proc ↓] reduceIte
attribute [local go_sem_proc] Nat.reduceEqDiff Nat.reduceAdd Nat.reduceMul Nat.reduceLeDiff Nat.reduceLT Int.reduceToNat Int.reduceLT Int.reduceLE reduceCtorEq Nat.reduceBEq
attribute [local go_sem] mNil nat0 beq_self_eq_true mSkip mRet mExit mReg mSeq mCond mTrue mFalse mBlock mLv mCodeE mCodeR mEndN mEndR mEndE mOps mSome mGuard mGtt mGff mGtf mGft mGu mCallP mCallR mCallF mCallO mCallZ mCallG mCallM mCallV loopQ_exit loopQ_ret mO_mov mO_newnil mO_pick mO_alloc mO_box mO_build mO_bsl mO_bslF mO_newnilB mO_bslB mO_lenB mO_appB mO_allocA mO_bslA mO_appA mO_ldb mO_faddrb mRsv mO_ldf mO_ld mO_st mO_sta mO_nilchk mO_bin mO_binb mO_binp mO_bins mO_neg mO_com mO_not mO_conv mO_mk mO_mk0 mO_mkB mO_s2b mO_b2s mO_cpy mO_cut mO_faddr mO_fld mO_iaddr mO_iaddrf mO_sidx mO_len mO_lenf mO_slen mO_scut mO_app mO_ext mO_mx mO_mn mO_mkfn evalOp cutOp argsE ev getE putE cellsOf adopt rowOf binV boolV nilV ar_add ar_sub ar_mul ar_quo ar_rem ar_eq ar_ne ar_lt ar_le ar_gt ar_ge ar_and ar_or ar_xor geto bound finRet finNrm ints List.length_cons List.length_nil List.length_append List.getElem?_cons_zero List.getElem?_cons_succ List.nil_append List.cons_append List.map_cons List.map_nil List.mapM_cons List.mapM_nil Option.map_some Option.map_none Option.bind_some Option.pure_def Option.bind_eq_bind List.drop_zero or_self or_false false_or or_true true_or true_and and_true and_self decide_true decide_false Bool.false_eq_true Bool.true_eq_false Bool.not_true Bool.not_false Nat.le_refl eq_self gt_iff_lt ge_iff_le ne_eq not_true_eq_false not_false_eq_true storeOp apartOf freeze_nil refsL refs List.flatMap_cons List.flatMap_nil List.append_nil List.contains_nil List.set_cons_zero List.set_cons_succ snap snapL fill_nums flat_nums nums_length Go.V.freeze List.mapIdx_cons List.mapIdx_nil List.contains_cons Bool.or_false Bool.false_or Bool.or_true Bool.true_or
theorem c118_ok {t : List Int} (ht : (t.length : Int) ≤ 1000000000000) : Go.V.Call tab E 118 [runes t] [] (.arr 0 0) [⟨false, 21, 1, 0, t.length, nums .i32 t, false⟩] := by
  refine ⟨0, ?_⟩
  have h1 : t.length * 4 ≤ 140737488355328 := by omega
  have h2 : t.length ≤ 140737488355328 := by omega
  simp only [CallN, E, ext, cloneOf, runes, h1, h2, and_self, if_true]
theorem c69_ok {s t l : List Int} {ch : Bool} (ht : (t.length : Int) ≤ 1000000000000) : Go.V.Call tab E 69 [.agg (arrG s ch t l)] [] (.arr 0 0) [⟨false, 21, 1, 0, t.length, nums .i32 t, false⟩] := by
  refine Go.V.Call.mach i69 c69 rfl rfl rfl rfl ?_
  simp only [c69, arrG, runes, go_sem, sub, FL]
  refine goO (c118_ok ht) rfl rfl ?_
  simp only [go_sem, FL]
  simp only [i69, OT, reduceIte, Nat.reduceEqDiff, ownOut, ownL, ownV, scalar, List.contains_nil, List.length_nil, List.length_cons, List.nil_append, List.cons_append, storeOp, apartOf, freeze_nil, refsL, refs, List.flatMap_cons, List.flatMap_nil, List.append_nil, List.contains_nil, List.set_cons_zero, List.set_cons_succ, snap, snapL, fill_nums, flat_nums, nums_length, reduceCtorEq, Bool.false_eq_true, and_self, not_false_eq_true, beq_self_eq_true, Nat.zero_add]
theorem c44_G {s t l : List Int} {ch : Bool} (hs : (s.length : Int) ≤ 1000000000000) : Go.V.Call tab E 44 [.agg (arrG s ch t l)] [] (ints s) [] := by
  refine Go.V.Call.mach i44 c44 rfl rfl rfl rfl ?_
  simp only [c44, arrG, runes, go_sem, sub, FL]
  refine goO (c102_ok hs) rfl rfl ?_
  simp only [go_sem, FL]
  simp only [i44, OT, reduceIte, Nat.reduceEqDiff]
section
variable {E : CallRel}
theorem c86_ok {t : List Int} (ht : (t.length : Int) ≤ 1000000000000) : Go.V.Call tab E 86 [runes t, runes t] [] (.bool true) [] := by
  refine Go.V.Call.mach i86 c86 rfl rfl rfl rfl ?_
  simp only [c86, runes, go_sem, bne_self_eq_false]
  refine mLoop (fun N st => ∃ (k : Nat), k ≤ t.length ∧ N = t.length - k ∧
    st = ⟨[(0, runes t), (1, runes t), (5, .int .i64 k)], []⟩) t.length ⟨_, rfl, 0, by omega, by omega, rfl⟩ ?_
  rintro N s0 ⟨k, hk, rfl, rfl⟩
  by_cases hlt : k < t.length
  · have hlt' : (k : Int) < (t.length : Int) := by omega
    have hk0 : (0 : Int) ≤ (k : Int) := by omega
    have hk1 : IntKind.i64.wrap ((k : Int) + 1) = ((k + 1 : Nat) : Int) := by rw [wrap_i64 (by omega) (by omega)]; omega
    have hsub := sub_nums (k := .i32) hlt
    simp only [b86_0, runes, go_sem, hlt', hk0, Int.toNat_natCast, hsub, bne_self_eq_false, hk1]
    exact loopQ_go rfl (t.length - (k + 1)) (by omega) ⟨k + 1, by omega, rfl, rfl⟩
  · have hlt' : ¬ (k : Int) < (t.length : Int) := by omega
    simp only [b86_0, k86_0, runes, go_sem, hlt']
    simp only [i86, OT, reduceIte, Nat.reduceEqDiff]
theorem c33_ok {s t l : List Int} {ch : Bool} (hs : (s.length : Int) ≤ 1000000000000) (ht : (t.length : Int) ≤ 1000000000000) (hl : (l.length : Int) ≤ 1000000000000) : Go.V.Call tab E 33 [.agg (plG s ch t l), .agg (plG s ch t l)] [] (.bool true) [] := by
  refine Go.V.Call.mach i33 c33 rfl rfl rfl rfl ?_
  simp only [c33, plG, runes, go_sem, sub, FL, beq_self_eq_true]
  refine goP (c85_ok (s := s) (t := s) (by omega) (by omega)) ?_
  simp only [go_sem, sub, FL, decide_true]
  refine goP (c86_ok ht) ?_
  simp only [go_sem, sub, FL, bne_self_eq_false]
  refine mLoop (fun N st => ∃ (k : Nat), k ≤ l.length ∧ N = l.length - k ∧
    st = ⟨[(2, .loc 0 0 0), (3, .loc 1 0 0), (5, .int .i64 k)], [⟨true, 37, 4, 0, 1, plG s ch t l, false⟩, ⟨true, 37, 4, 0, 1, plG s ch t l, false⟩]⟩) l.length ⟨_, rfl, 0, by omega, by omega, rfl⟩ ?_
  rintro N s0 ⟨k, hk, rfl, rfl⟩
  have sub43 : ∀ {a b c d : AV}, sub false 1 [a, b, c, d] (0 + 3) = some d := fun {a b c d} => rfl
  by_cases hlt : k < l.length
  · have hlt' : (k : Int) < (l.length : Int) := by omega
    have hk0 : (0 : Int) ≤ (k : Int) := by omega
    have hk1 : IntKind.i64.wrap ((k : Int) + 1) = ((k + 1 : Nat) : Int) := by rw [wrap_i64 (by omega) (by omega)]; omega
    have hsub := sub_numsC hlt
    have hsame := same_numC (z := l.getD k 0)
    simp only [b33_0, plG, runes, go_sem, sub43, Nat.zero_add, hlt', hk0, Int.toNat_natCast, hsub, hsame, hk1]
    exact loopQ_go rfl (l.length - (k + 1)) (by omega) ⟨k + 1, by omega, rfl, rfl⟩
  · have hlt' : ¬ (k : Int) < (l.length : Int) := by omega
    simp only [b33_0, k33_0, plG, runes, go_sem, sub43, hlt']
    simp only [i33, OT, reduceIte, Nat.reduceEqDiff]
end
theorem subP4 {a b c d : AV} : sub true 4 [a, b, c, d] 0 = some (.agg [a, b, c, d]) := rfl
theorem subP3 {a b c d : AV} : sub false 1 [a, b, c, d] (0 + 3) = some d := rfl
theorem subP3' {a b c d : AV} : sub false 1 [a, b, c, d] 3 = some d := rfl
theorem c35_ok {s t l : List Int} {ch : Bool} (hs : (s.length : Int) ≤ 1000000000000) (ht : (t.length : Int) ≤ 1000000000000) (hl : (l.length : Int) ≤ 1000000000000) (hz : ∀ z ∈ l, In64 z) : Go.V.Call tab E 35 [.agg (arrG s ch t l)] [] (.agg (plG s ch t l)) [] := by
  refine Go.V.Call.mach i35 c35 rfl rfl rfl rfl ?_
  have hsubA : ∀ {a b c d e : AV}, sub false 1 [a, b, c, d, e] 1 = some b := fun {a b c d e} => rfl
  simp only [c35, arrG, runes, go_sem, subA5, hsubA, subA3, FL]
  refine goP (c44_G (s := s) (t := t) (l := l) (ch := ch) hs) ?_
  simp only [go_sem, subA5, hsubA, subA3, FL]
  refine goZ (r' := runes t) (c69_ok (s := s) (t := t) (l := l) (ch := ch) ht) rfl ?_
  simp only [runes, go_sem, subA5, hsubA, subA3, FL]
  refine mLoop (fun N st => ∃ (i : Nat), i ≤ l.length ∧ N = l.length - i ∧
    st = ⟨[(2, .loc 4 0 0), (3, .loc 8 0 0), (14, .sl l.length 3 (ratsC l)), (15, .int .i64 l.length), (16, .int .i64 i)],
      [⟨true, 28, 5, 0, 1, arrG s ch t l, false⟩, ⟨false, 3, 1, 0, 0, [], false⟩, ⟨false, 21, 1, 0, 0, [], false⟩, ⟨false, 52, 3, 0, 0, [], false⟩, ⟨true, 37, 4, 0, 1, [.arr 1 0, .bool false, .arr 2 0, .arr 3 0], false⟩,
       ⟨false, 3, 1, 0, 0, [], false⟩, ⟨false, 21, 1, 0, 0, [], false⟩, ⟨false, 52, 3, 0, 0, [], false⟩, ⟨true, 37, 4, 0, 1, [ints s, .bool ch, runes t, .arr 9 i], false⟩, ⟨false, 52, 3, i, i, numsC (l.take i), false⟩]⟩) l.length
    ⟨_, rfl, 0, by omega, by omega, by simp [getE, ints, runes, arrG, numsC]⟩ ?_
  rintro N s0 ⟨i, hi, rfl, rfl⟩
  by_cases hlt : i < l.length
  · have hlt' : (i : Int) < (l.length : Int) := by omega
    have hi0 : (0 : Int) ≤ (i : Int) := by omega
    have hi1 : IntKind.i64.wrap ((i : Int) + 1) = ((i + 1 : Nat) : Int) := by rw [wrap_i64 (by omega) (by omega)]; omega
    have hsub := sub_rats hlt
    have hzi : In64 (l.getD i 0) := hz _ (by simp [List.getD, hlt])
    have htk := take_snoc hlt
    have e1 : (i + 1) * 40 ≤ 140737488355328 := by omega
    have e2 : i + 1 ≤ 140737488355328 := by omega
    have h74 := c26_ok (E := E) hzi
    simp only [b35_0, arrG, runes, go_sem, hlt', hi0, Int.toNat_natCast, hsub, ratC, us32, subT3, subP3, subP3', FL]
    refine goR h74 rfl ?_
    simp only [go_sem, FL, numC, hi1, e1, e2, List.flatten_cons, List.flatten_nil, Option.getD_some, subP3, subP3']
    refine loopQ_go rfl (l.length - (i + 1)) (by omega) ⟨i + 1, by omega, rfl, ?_⟩
    rw [htk, numsC_snoc]
    rfl
  · have hlt' : ¬ (i : Int) < (l.length : Int) := by omega
    obtain rfl : i = l.length := by omega
    simp only [b35_0, k35_0, arrG, runes, go_sem, hlt', List.take_length, subP4, FL]
    simp only [i35, OT, reduceIte, Nat.reduceEqDiff, plG, runes, subP4]
def fits (s : List Int) (n : Nat) : Bool := decide (count s = some (n : Int))
section
variable {E : CallRel}
theorem c41_ok {l : List Int} (hl : (l.length : Int) ≤ 1000000000000) (hz : ∀ z ∈ l, In64 z) : Go.V.Call tab E 41 [ints l] [] (.agg (plG [(l.length : Int)] false [] l)) [] := by
  refine Go.V.Call.mach i41 c41 rfl rfl rfl rfl ?_
  simp only [c41, go_sem, FL, List.flatten_cons, List.flatten_nil, Option.getD_some]
  refine mLoop (fun N st => ∃ (i : Nat), i ≤ l.length ∧ N = l.length - i ∧
    st = ⟨[(0, ints l), (2, .loc 3 0 0), (3, .loc 8 0 0), (4, .int .i64 i)],
      [⟨false, 3, 1, 0, 0, [], false⟩, ⟨false, 21, 1, 0, 0, [], false⟩, ⟨false, 52, 3, 0, 0, [], false⟩, ⟨true, 37, 4, 0, 1, [.arr 0 0, .bool false, .arr 1 0, .arr 2 0], false⟩,
       ⟨false, 3, 1, 0, 1, [.int .i64 l.length], false⟩, ⟨false, 3, 1, 0, 0, [], false⟩, ⟨false, 21, 1, 0, 0, [], false⟩, ⟨false, 52, 3, 0, 0, [], false⟩, ⟨true, 37, 4, 0, 1, [.arr 4 0, .bool false, .arr 9 0, .arr 10 i], false⟩,
       ⟨false, 21, 1, 0, 0, [], false⟩, ⟨false, 52, 3, i, i, numsC (l.take i), false⟩]⟩) l.length
    ⟨_, rfl, 0, by omega, by omega, by simp [getE, ints, numsC]⟩ ?_
  rintro N s0 ⟨i, hi, rfl, rfl⟩
  by_cases hlt : i < l.length
  · have hlt' : (i : Int) < (l.length : Int) := by omega
    have hi0 : (0 : Int) ≤ (i : Int) := by omega
    have hi1 : IntKind.i64.wrap ((i : Int) + 1) = ((i + 1 : Nat) : Int) := by rw [wrap_i64 (by omega) (by omega)]; omega
    have hsub := sub_nums (k := .i64) hlt
    have hzi : In64 (l.getD i 0) := hz _ (by simp [List.getD, hlt])
    have htk := take_snoc hlt
    have e1 : (i + 1) * 40 ≤ 140737488355328 := by omega
    have e2 : i + 1 ≤ 140737488355328 := by omega
    simp only [b41_0, go_sem, hlt', hi0, Int.toNat_natCast, hsub, subP3, subP3']
    refine goP (c58_ok hzi) ?_
    simp only [go_sem, FL, hi1, e1, e2, numC, List.flatten_cons, List.flatten_nil, Option.getD_some]
    refine loopQ_go rfl (l.length - (i + 1)) (by omega) ⟨i + 1, by omega, rfl, ?_⟩
    rw [htk, numsC_snoc]
    rfl
  · have hlt' : ¬ (i : Int) < (l.length : Int) := by omega
    obtain rfl : i = l.length := by omega
    simp only [b41_0, k41_0, go_sem, hlt', List.take_length, subP4, FL]
    simp only [i41, OT, reduceIte, Nat.reduceEqDiff, plG, runes, subP4, nums, List.map_cons, List.map_nil, List.length_cons, List.length_nil]
end
abbrev Nm := Bool × List Int × List Int
abbrev Rt := Bool × Nat × Nat
def nmC (x : Nm) : List AV := [.bool x.1, .str (bs x.2.1), .str (bs x.2.2)]
def rtC (x : Rt) : List AV := ratG x.1 x.2.1 x.2.2
def nmsC (l : List Nm) : List AV := l.flatMap nmC
def rtsC (l : List Rt) : List AV := l.flatMap rtC
def nmAt (l : List Nm) (i : Nat) : Nm := l.getD i (false, [], [])
def rtAt (l : List Rt) (i : Nat) : Rt := l.getD i (false, 0, 0)
def arrX (s : List Int) (ch : Bool) (t : List Int) (l : List Rt) : List AV := [ints s, .bool ch, runes t, .sl l.length 3 (rtsC l), .bool true]
def plX (s : List Int) (ch : Bool) (t : List Int) (l : List Nm) : List AV := [ints s, .bool ch, runes t, .sl l.length 3 (nmsC l)]
def toNm (x : Rt) : Nm := (x.1, decL x.2.1, decL (dn x.2.2))
def toRt (x : Nm) : Rt := (x.1, sval x.2.1, sval x.2.2)
theorem flat_len {α : Type} {f : α → List AV} (hf : ∀ x, (f x).length = 3) : ∀ {l : List α}, (l.flatMap f).length = l.length * 3
  | [] => rfl
  | z :: l => by rw [List.flatMap_cons, List.length_append, hf, flat_len hf, List.length_cons]; omega
theorem flat_get {α : Type} {f : α → List AV} (hf : ∀ x, (f x).length = 3) {d : α} : ∀ {l : List α} {i : Nat}, i < l.length → ((l.flatMap f).drop (i * 3)).take 3 = f (l.getD i d)
  | [], i, h => by simp at h
  | z :: l, 0, _ => by
    rw [List.flatMap_cons, Nat.zero_mul, List.drop_zero, List.take_append_of_le_length (by rw [hf]; omega), List.take_of_length_le (by rw [hf]; omega)]
    rfl
  | z :: l, i + 1, h => by
    rw [List.flatMap_cons, Nat.succ_mul, List.drop_append, List.drop_eq_nil_of_le (by rw [hf]; omega), hf, Nat.add_sub_cancel, List.nil_append, flat_get hf (d := d) (by simpa using h)]
    simp
theorem sub_flat {α : Type} {f : α → List AV} (hf : ∀ x, (f x).length = 3) {d : α} {l : List α} {i : Nat} (h : i < l.length) : sub true 3 (l.flatMap f) (i * 3) = some (.agg (f (l.getD i d))) := by
  simp only [sub, flat_len hf, if_true]
  rw [if_pos (by omega), flat_get hf h]
theorem sub_rts {l : List Rt} {i : Nat} (h : i < l.length) : sub true 3 (rtsC l) (i * 3) = some (.agg (rtC (rtAt l i))) := sub_flat (fun _ => rfl) h
theorem takeAt {α : Type} {l : List α} {i : Nat} {d : α} (h : i < l.length) : l.take (i + 1) = l.take i ++ [l.getD i d] := by
  rw [List.take_add_one, List.getElem?_eq_getElem h]
  simp [List.getD, h]
theorem rtsC_snoc {l : List Rt} {x : Rt} : rtsC (l ++ [x]) = rtsC l ++ rtC x := by simp [rtsC]
theorem subX1 {a b c d e : AV} : sub false 1 [a, b, c, d, e] 1 = some b := rfl
theorem subX2 {a b c d e : AV} : sub false 1 [a, b, c, d, e] 2 = some c := rfl
theorem c23_X {s t : List Int} {l : List Rt} {ch : Bool} (ht : (t.length : Int) ≤ 1000000000000) (hl : (l.length : Int) ≤ 1000000000000) : Go.V.Call tab E 23 [.agg (arrX s ch t l)] [] (.int .i64 ((t.length + l.length : Nat) : Int)) [] := by
  refine Go.V.Call.mach i23 c23 rfl rfl rfl rfl ?_
  have w : IntKind.i64.wrap ((t.length : Int) + (l.length : Int)) = ((t.length + l.length : Nat) : Int) := by rw [wrap_i64 (by omega) (by omega)]; omega
  simp only [c23, arrX, runes, go_sem, sub, FL, w]
  simp only [i23, OT, reduceIte, Nat.reduceEqDiff]
theorem c44_X {s t : List Int} {l : List Rt} {ch : Bool} (hs : (s.length : Int) ≤ 1000000000000) : Go.V.Call tab E 44 [.agg (arrX s ch t l)] [] (ints s) [] := by
  refine Go.V.Call.mach i44 c44 rfl rfl rfl rfl ?_
  simp only [c44, arrX, runes, go_sem, sub, FL]
  refine goO (c102_ok hs) rfl rfl ?_
  simp only [go_sem, FL]
  simp only [i44, OT, reduceIte, Nat.reduceEqDiff]
def pickR (l : List Rt) (k : Int) : Rt := if 0 ≤ k ∧ k < l.length then rtAt l k.toNat else (false, 0, 0)
theorem c25_ok {s t : List Int} {l : List Rt} {ch : Bool} {k : Int} (hl : (l.length : Int) ≤ 1000000000000) : Go.V.Call tab E 25 [.agg (arrX s ch t l), .int .i64 k] [] (.agg (rtC (pickR l k))) [] := by
  have hz : rtC (false, 0, 0) = [.sl 0 1 [], .bool false, .sl 0 1 []] := by
    simp only [rtC, ratG, limG_zero, us32]; rfl
  by_cases h1 : k < 0
  · have hp : pickR l k = (false, 0, 0) := by rw [pickR, if_neg (by omega)]
    rw [hp, hz]
    refine Go.V.Call.mach i25 c25 rfl rfl rfl rfl ?_
    simp only [c25, arrX, runes, go_sem, sub, FL, h1]
    simp only [i25, OT, reduceIte, Nat.reduceEqDiff, sub, FL, List.length_cons, List.length_nil, Nat.le_refl]
  · by_cases h2 : (l.length : Int) ≤ k
    · have hp : pickR l k = (false, 0, 0) := by rw [pickR, if_neg (by omega)]
      rw [hp, hz]
      refine Go.V.Call.mach i25 c25 rfl rfl rfl rfl ?_
      simp only [c25, arrX, runes, go_sem, sub, FL, h1, h2]
      simp only [i25, OT, reduceIte, Nat.reduceEqDiff, sub, FL, List.length_cons, List.length_nil, Nat.le_refl]
    · have hp : pickR l k = rtAt l k.toNat := by rw [pickR, if_pos (by omega)]
      rw [hp]
      obtain ⟨j, rfl⟩ := Int.eq_ofNat_of_zero_le (show 0 ≤ k by omega)
      rw [Int.toNat_natCast]
      have hsub := sub_rts (l := l) (i := j) (by omega)
      have h3 : (0 : Int) ≤ (j : Int) := by omega
      have h4 : (j : Int) < (l.length : Int) := by omega
      have subA3' : ∀ {a b c d e : AV}, sub false 1 [a, b, c, d, e] (0 + 3) = some d := fun {a b c d e} => rfl
      refine Go.V.Call.mach i25 c25 rfl rfl rfl rfl ?_
      simp only [c25, arrX, runes, go_sem, subA3, subA3', FL, h1, h2, h3, h4, Int.toNat_natCast, hsub, rtC, ratG, us32]
      simp only [i25, OT, reduceIte, Nat.reduceEqDiff, sub, FL, List.length_cons, List.length_nil, Nat.le_refl, us32]
def RtOk (x : Rt) : Prop := x.2.1 < lim2000 ∧ dn x.2.2 < lim2000
end Go.Proofs.Ytlejgleocnemoaa.I

namespace Go.Proofs.Ytlejgleocnemoaa.I
open Go Go.V
attribute [local go_sem] mNil nat0 beq_self_eq_true mSkip mRet mExit mReg mSeq mCond mTrue mFalse mBlock mLv mCodeE mCodeR mEndN mEndR mEndE mOps mSome mGuard mGtt mGff mGtf mGft mGu mCallP mCallR mCallF mCallO mCallZ mCallG mCallM mCallV loopQ_exit loopQ_ret mO_mov mO_newnil mO_pick mO_alloc mO_box mO_build mO_bsl mO_bslF mO_newnilB mO_bslB mO_lenB mO_appB mO_allocA mO_bslA mO_appA mO_ldb mO_faddrb mRsv mO_ldf mO_ld mO_st mO_sta mO_nilchk mO_bin mO_binb mO_binp mO_bins mO_neg mO_com mO_not mO_conv mO_mk mO_mk0 mO_mkB mO_s2b mO_b2s mO_cpy mO_cut mO_faddr mO_fld mO_iaddr mO_iaddrf mO_sidx mO_len mO_lenf mO_slen mO_scut mO_app mO_ext mO_mx mO_mn mO_mkfn evalOp cutOp argsE ev getE putE cellsOf adopt rowOf binV boolV nilV ar_add ar_sub ar_mul ar_quo ar_rem ar_eq ar_ne ar_lt ar_le ar_gt ar_ge ar_and ar_or ar_xor geto bound finRet finNrm ints List.length_cons List.length_nil List.length_append List.getElem?_cons_zero List.getElem?_cons_succ List.nil_append List.cons_append List.map_cons List.map_nil List.mapM_cons List.mapM_nil Option.map_some Option.map_none Option.bind_some Option.pure_def Option.bind_eq_bind List.drop_zero or_self or_false false_or or_true true_or true_and and_true and_self decide_true decide_false Bool.false_eq_true Bool.true_eq_false Bool.not_true Bool.not_false Nat.le_refl eq_self gt_iff_lt ge_iff_le ne_eq not_true_eq_false not_false_eq_true storeOp apartOf freeze_nil refsL refs List.flatMap_cons List.flatMap_nil List.append_nil List.contains_nil List.set_cons_zero List.set_cons_succ snap snapL fill_nums flat_nums nums_length Go.V.freeze List.mapIdx_cons List.mapIdx_nil List.contains_cons Bool.or_false Bool.false_or Bool.or_true Bool.true_or
def NmU (x : Nm) : Prop := U8 x.2.1 ∧ U8 x.2.2 ∧ x.2.1.length ≤ 1000000000 ∧ x.2.2.length ≤ 1000000000
def Shapes (s : List Int) (ch : Bool) (t : List Int) (n : Nat) : Prop := if ch then count s = some (t.length : Int) ∧ n = 0 else count s = some (n : Int) ∧ t = []
def RightP (s : List Int) (ch : Bool) (t : List Int) (l : List Nm) : Prop := Shapes s ch t l.length ∧ ∀ x ∈ l, RightN x.1 x.2.1 x.2.2
def LightP (s : List Int) (ch : Bool) (t : List Int) (l : List Nm) (most : Int) : Prop := (t.length : Int) ≤ most ∧ (l.length : Int) ≤ most ∧ s.length ≤ 8 ∧ (∀ x ∈ l, x.2.1.length ≤ 40 ∧ x.2.2.length ≤ 40) ∧ RightP s ch t l
end Go.Proofs.Ytlejgleocnemoaa.I

namespace Go.Proofs.Ytlejgleocnemoaa.I
open Go Go.V
attribute [local go_sem_proc ↓] reduceIte
attribute [local go_sem_proc] Nat.reduceEqDiff Nat.reduceAdd Nat.reduceMul Nat.reduceLeDiff Nat.reduceLT Int.reduceToNat Int.reduceLT Int.reduceLE reduceCtorEq Nat.reduceBEq
attribute [local go_sem] mNil nat0 beq_self_eq_true mSkip mRet mExit mReg mSeq mCond mTrue mFalse mBlock mLv mCodeE mCodeR mEndN mEndR mEndE mOps mSome mGuard mGtt mGff mGtf mGft mGu mCallP mCallR mCallF mCallO mCallZ mCallG mCallM mCallV loopQ_exit loopQ_ret mO_mov mO_newnil mO_pick mO_alloc mO_box mO_build mO_bsl mO_bslF mO_newnilB mO_bslB mO_lenB mO_appB mO_allocA mO_bslA mO_appA mO_ldb mO_faddrb mRsv mO_ldf mO_ld mO_st mO_sta mO_nilchk mO_bin mO_binb mO_binp mO_bins mO_neg mO_com mO_not mO_conv mO_mk mO_mk0 mO_mkB mO_s2b mO_b2s mO_cpy mO_cut mO_faddr mO_fld mO_iaddr mO_iaddrf mO_sidx mO_len mO_lenf mO_slen mO_scut mO_app mO_ext mO_mx mO_mn mO_mkfn evalOp cutOp argsE ev getE putE cellsOf adopt rowOf binV boolV nilV ar_add ar_sub ar_mul ar_quo ar_rem ar_eq ar_ne ar_lt ar_le ar_gt ar_ge ar_and ar_or ar_xor geto bound finRet finNrm ints List.length_cons List.length_nil List.length_append List.getElem?_cons_zero List.getElem?_cons_succ List.nil_append List.cons_append List.map_cons List.map_nil List.mapM_cons List.mapM_nil Option.map_some Option.map_none Option.bind_some Option.pure_def Option.bind_eq_bind List.drop_zero or_self or_false false_or or_true true_or true_and and_true and_self decide_true decide_false Bool.false_eq_true Bool.true_eq_false Bool.not_true Bool.not_false Nat.le_refl eq_self gt_iff_lt ge_iff_le ne_eq not_true_eq_false not_false_eq_true storeOp apartOf freeze_nil refsL refs List.flatMap_cons List.flatMap_nil List.append_nil List.contains_nil List.set_cons_zero List.set_cons_succ snap snapL fill_nums flat_nums nums_length Go.V.freeze List.mapIdx_cons List.mapIdx_nil List.contains_cons Bool.or_false Bool.false_or Bool.or_true Bool.true_or
def pickT (t : List Int) (k : Int) : Int := if 0 ≤ k ∧ k < t.length then t.getD k.toNat 0 else 32
def picksT (ch : Bool) (t ks : List Int) : List Int := if ch then ks.map (pickT t) else []
def picksR (ch : Bool) (l : List Rt) (ks : List Int) : List Rt := if ch then [] else ks.map (pickR l)
theorem c64_ok {s t s' ks : List Int} {l : List Rt} {ch : Bool} (hs : ∀ d ∈ s', In64 d) (hsl : (s'.length : Int) ≤ 1000000000000) (ht : (t.length : Int) ≤ 1000000000000) (hl : (l.length : Int) ≤ 1000000000000) (hks : (ks.length : Int) ≤ 1000000000) :
    Go.V.Call tab E 64 [.agg (arrX s ch t l), ints s', ints ks] [] (.tup [.agg (if fits s' ks.length then arrX s' ch (picksT ch t ks) (picksR ch l ks) else noA), .bool (fits s' ks.length)]) [] := by
  refine Go.V.Call.mach i64 c64 rfl rfl rfl rfl ?_
  have h35 := c83_ok (E := E) hs (by omega)
  have h85 := c102_ok hsl
  simp only [ints] at h35 h85
  cases hc : count s' with
  | none =>
    have hf : fits s' ks.length = false := by simp [fits, hc]
    rw [hc] at h35
    simp only [optP] at h35
    simp only [c64, arrX, runes, ints, go_sem, FL]
    refine goP h35 ?_
    simp only [go_sem, FL]
    simp only [i64, OT, reduceIte, Nat.reduceEqDiff, subA5, hf, noA, Bool.false_eq_true, if_false]
  | some m =>
    rw [hc] at h35
    simp only [optP] at h35
    by_cases hm : m = (ks.length : Int)
    · subst hm
      have hf : fits s' ks.length = true := by simp [fits, hc]
      rw [hf, if_pos rfl]
      cases ch with
      | true =>
        simp only [c64, arrX, runes, ints, go_sem, FL, subX1]
        refine goP h35 ?_
        simp only [go_sem, FL, bne_self_eq_false, subX1]
        refine goZ (r' := ints s') h85 rfl ?_
        simp only [ints, go_sem, FL, subX1]
        refine mLoop (fun N st => ∃ i : Nat, i ≤ ks.length ∧ N = ks.length - i ∧ st = ⟨[(3, .loc 0 0 0), (6, .loc 4 0 0), (10, .loc 8 0 0), (32, ints ks), (33, .int .i64 ks.length), (34, .int .i64 i)],
          [⟨true, 28, 5, 0, 1, arrX s true t l, false⟩, ⟨false, 3, 1, 0, 0, [], false⟩, ⟨false, 21, 1, 0, 0, [], false⟩, ⟨false, 59, 3, 0, 0, [], false⟩, ⟨true, 28, 5, 0, 1, [.arr 1 0, .bool false, .arr 2 0, .arr 3 0, .bool false], false⟩,
           ⟨false, 3, 1, 0, 0, [], false⟩, ⟨false, 21, 1, 0, 0, [], false⟩, ⟨false, 59, 3, 0, 0, [], false⟩, ⟨true, 28, 5, 0, 1, [ints s', .bool true, .arr 9 i, .arr 10 0, .bool true], false⟩, ⟨false, 21, 1, i, i, nums .i32 ((ks.take i).map (pickT t)), false⟩, ⟨false, 59, 3, 0, 0, [], false⟩]⟩) ks.length
          ⟨_, rfl, 0, by omega, by omega, by simp [getE, ints, runes, arrX, nums]⟩ ?_
        rintro N s0 ⟨i, hi, rfl, rfl⟩
        by_cases hlt : i < ks.length
        · have hlt' : (i : Int) < (ks.length : Int) := by omega
          have hi0 : (0 : Int) ≤ (i : Int) := by omega
          have hi1 : IntKind.i64.wrap ((i : Int) + 1) = ((i + 1 : Nat) : Int) := by rw [wrap_i64 (by omega) (by omega)]; omega
          have hsub := sub_nums (k := .i64) hlt
          have htk : ks.take (i + 1) = ks.take i ++ [ks.getD i 0] := takeAt hlt
          have hmt : nums .i32 ((ks.take (i + 1)).map (pickT t)) = nums .i32 ((ks.take i).map (pickT t)) ++ [.int .i32 (pickT t (ks.getD i 0))] := by rw [htk, List.map_append, nums_app]; rfl
          have e1 : (i + 1) * 4 ≤ 140737488355328 := by omega
          have e2 : i + 1 ≤ 140737488355328 := by omega
          generalize ks.getD i 0 = k at *
          by_cases h1 : k < 0
          · have hp : pickT t k = 32 := by rw [pickT, if_neg (by omega)]
            rw [hp] at hmt
            simp only [b64_0, arrX, runes, ints, go_sem, FL, subX1, subX2, subA3, hlt', hi0, hi1, Int.toNat_natCast, hsub, h1, e1, e2, List.flatten_cons, List.flatten_nil, Option.getD_some]
            refine loopQ_go rfl (ks.length - (i + 1)) (by omega) ⟨i + 1, by omega, rfl, ?_⟩
            rw [hmt]
            rfl
          · by_cases h2 : (t.length : Int) ≤ k
            · have hp : pickT t k = 32 := by rw [pickT, if_neg (by omega)]
              rw [hp] at hmt
              simp only [b64_0, arrX, runes, ints, go_sem, FL, subX1, subX2, subA3, hlt', hi0, hi1, Int.toNat_natCast, hsub, h1, h2, e1, e2, List.flatten_cons, List.flatten_nil, Option.getD_some]
              refine loopQ_go rfl (ks.length - (i + 1)) (by omega) ⟨i + 1, by omega, rfl, ?_⟩
              rw [hmt]
              rfl
            · obtain ⟨j, rfl⟩ := Int.eq_ofNat_of_zero_le (show 0 ≤ k by omega)
              have hp : pickT t (j : Int) = t.getD j 0 := by rw [pickT, if_pos (by omega), Int.toNat_natCast]
              rw [hp] at hmt
              have hsj := sub_nums (k := .i32) (l := t) (i := j) (by omega)
              have h3 : (0 : Int) ≤ (j : Int) := by omega
              have h4 : (j : Int) < (t.length : Int) := by omega
              simp only [b64_0, arrX, runes, ints, go_sem, FL, subX1, subX2, subA3, hlt', hi0, hi1, Int.toNat_natCast, hsub, hsj, h1, h2, h3, h4, e1, e2, List.flatten_cons, List.flatten_nil, Option.getD_some]
              refine loopQ_go rfl (ks.length - (i + 1)) (by omega) ⟨i + 1, by omega, rfl, ?_⟩
              rw [hmt]
              rfl
        · have hlt' : ¬ (i : Int) < (ks.length : Int) := by omega
          obtain rfl : i = ks.length := by omega
          simp only [b64_0, k64_0, arrX, runes, ints, go_sem, subA5, hlt', List.take_length, FL]
          simp only [i64, OT, reduceIte, Nat.reduceEqDiff, subA5, arrX, runes, picksT, picksR, if_true, List.length_map]
          rfl
      | false =>
        simp only [c64, arrX, runes, ints, go_sem, FL, subX1]
        refine goP h35 ?_
        simp only [go_sem, FL, bne_self_eq_false, subX1]
        refine goZ (r' := ints s') h85 rfl ?_
        simp only [ints, go_sem, FL, subX1]
        refine mLoop (fun N st => ∃ i : Nat, i ≤ ks.length ∧ N = ks.length - i ∧ st = ⟨[(3, .loc 0 0 0), (6, .loc 4 0 0), (10, .loc 8 0 0), (32, ints ks), (33, .int .i64 ks.length), (34, .int .i64 i)],
          [⟨true, 28, 5, 0, 1, arrX s false t l, false⟩, ⟨false, 3, 1, 0, 0, [], false⟩, ⟨false, 21, 1, 0, 0, [], false⟩, ⟨false, 59, 3, 0, 0, [], false⟩, ⟨true, 28, 5, 0, 1, [.arr 1 0, .bool false, .arr 2 0, .arr 3 0, .bool false], false⟩,
           ⟨false, 3, 1, 0, 0, [], false⟩, ⟨false, 21, 1, 0, 0, [], false⟩, ⟨false, 59, 3, 0, 0, [], false⟩, ⟨true, 28, 5, 0, 1, [ints s', .bool false, .arr 9 0, .arr 10 i, .bool true], false⟩, ⟨false, 21, 1, 0, 0, [], false⟩, ⟨false, 59, 3, i, i, rtsC ((ks.take i).map (pickR l)), false⟩]⟩) ks.length
          ⟨_, rfl, 0, by omega, by omega, by simp [getE, ints, runes, arrX, rtsC]⟩ ?_
        rintro N s0 ⟨i, hi, rfl, rfl⟩
        by_cases hlt : i < ks.length
        · have hlt' : (i : Int) < (ks.length : Int) := by omega
          have hi0 : (0 : Int) ≤ (i : Int) := by omega
          have hi1 : IntKind.i64.wrap ((i : Int) + 1) = ((i + 1 : Nat) : Int) := by rw [wrap_i64 (by omega) (by omega)]; omega
          have hsub := sub_nums (k := .i64) hlt
          have htk : ks.take (i + 1) = ks.take i ++ [ks.getD i 0] := takeAt hlt
          have hmt : rtsC ((ks.take (i + 1)).map (pickR l)) = rtsC ((ks.take i).map (pickR l)) ++ rtC (pickR l (ks.getD i 0)) := by rw [htk, List.map_append, List.map_cons, List.map_nil, rtsC_snoc]
          have e1 : (i + 1) * 56 ≤ 140737488355328 := by omega
          have e2 : i + 1 ≤ 140737488355328 := by omega
          have h73 := c25_ok (s := s) (t := t) (ch := false) (k := ks.getD i 0) hl
          simp only [arrX, runes, ints, rtC, ratG, us32] at h73
          generalize ks.getD i 0 = k at *
          simp only [b64_0, arrX, runes, ints, go_sem, FL, subX1, subX2, subA3, subA5, hlt', hi0, Int.toNat_natCast, hsub]
          refine goP h73 ?_
          simp only [go_sem, FL, subX1, subX2, subA3, hi1, e1, e2, List.flatten_cons, List.flatten_nil, Option.getD_some]
          refine loopQ_go rfl (ks.length - (i + 1)) (by omega) ⟨i + 1, by omega, rfl, ?_⟩
          rw [hmt]
          rfl
        · have hlt' : ¬ (i : Int) < (ks.length : Int) := by omega
          obtain rfl : i = ks.length := by omega
          simp only [b64_0, k64_0, arrX, runes, ints, go_sem, subA5, hlt', List.take_length, FL]
          simp only [i64, OT, reduceIte, Nat.reduceEqDiff, subA5, arrX, runes, picksT, picksR, Bool.false_eq_true, if_false, List.length_map]
          rfl
    · have hf : fits s' ks.length = false := by simp [fits, hc, hm]
      have hm' : (m != (ks.length : Int)) = true := by simpa using hm
      simp only [c64, arrX, runes, ints, go_sem, FL]
      refine goP h35 ?_
      simp only [go_sem, FL, hm']
      simp only [i64, OT, reduceIte, Nat.reduceEqDiff, subA5, hf, noA, Bool.false_eq_true, if_false]
end Go.Proofs.Ytlejgleocnemoaa.I

namespace Go.Proofs.Ytlejgleocnemoaa.I
open Go Go.V
attribute [local go_sem] mNil nat0 beq_self_eq_true mSkip mRet mExit mReg mSeq mCond mTrue mFalse mBlock mLv mCodeE mCodeR mEndN mEndR mEndE mOps mSome mGuard mGtt mGff mGtf mGft mGu mCallP mCallR mCallF mCallO mCallZ mCallG mCallM mCallV loopQ_exit loopQ_ret mO_mov mO_newnil mO_pick mO_alloc mO_box mO_build mO_bsl mO_bslF mO_newnilB mO_bslB mO_lenB mO_appB mO_allocA mO_bslA mO_appA mO_ldb mO_faddrb mRsv mO_ldf mO_ld mO_st mO_sta mO_nilchk mO_bin mO_binb mO_binp mO_bins mO_neg mO_com mO_not mO_conv mO_mk mO_mk0 mO_mkB mO_s2b mO_b2s mO_cpy mO_cut mO_faddr mO_fld mO_iaddr mO_iaddrf mO_sidx mO_len mO_lenf mO_slen mO_scut mO_app mO_ext mO_mx mO_mn mO_mkfn evalOp cutOp argsE ev getE putE cellsOf adopt rowOf binV boolV nilV ar_add ar_sub ar_mul ar_quo ar_rem ar_eq ar_ne ar_lt ar_le ar_gt ar_ge ar_and ar_or ar_xor geto bound finRet finNrm ints List.length_cons List.length_nil List.length_append List.getElem?_cons_zero List.getElem?_cons_succ List.nil_append List.cons_append List.map_cons List.map_nil List.mapM_cons List.mapM_nil Option.map_some Option.map_none Option.bind_some Option.pure_def Option.bind_eq_bind List.drop_zero or_self or_false false_or or_true true_or true_and and_true and_self decide_true decide_false Bool.false_eq_true Bool.true_eq_false Bool.not_true Bool.not_false Nat.le_refl eq_self gt_iff_lt ge_iff_le ne_eq not_true_eq_false not_false_eq_true storeOp apartOf freeze_nil refsL refs List.flatMap_cons List.flatMap_nil List.append_nil List.contains_nil List.set_cons_zero List.set_cons_succ snap snapL fill_nums flat_nums nums_length Go.V.freeze List.mapIdx_cons List.mapIdx_nil List.contains_cons Bool.or_false Bool.false_or Bool.or_true Bool.true_or
def pickN (l : List Nm) (k : Int) : Nm := if 0 ≤ k ∧ k < l.length then nmAt l k.toNat else (false, [48], [49])
def picksN (ch : Bool) (l : List Nm) (ks : List Int) : List Nm := if ch then [] else ks.map (pickN l)
end Go.Proofs.Ytlejgleocnemoaa.I

namespace Go.Proofs.Ytlejgleocnemoaa.I
open Go Go.V
end Go.Proofs.Ytlejgleocnemoaa.I

namespace Go.Proofs.Ytlejgleocnemoaa.I
open Go Go.V
attribute [local go_sem] mNil nat0 beq_self_eq_true mSkip mRet mExit mReg mSeq mCond mTrue mFalse mBlock mLv mCodeE mCodeR mEndN mEndR mEndE mOps mSome mGuard mGtt mGff mGtf mGft mGu mCallP mCallR mCallF mCallO mCallZ mCallG mCallM mCallV loopQ_exit loopQ_ret mO_mov mO_newnil mO_pick mO_alloc mO_box mO_build mO_bsl mO_bslF mO_newnilB mO_bslB mO_lenB mO_appB mO_allocA mO_bslA mO_appA mO_ldb mO_faddrb mRsv mO_ldf mO_ld mO_st mO_sta mO_nilchk mO_bin mO_binb mO_binp mO_bins mO_neg mO_com mO_not mO_conv mO_mk mO_mk0 mO_mkB mO_s2b mO_b2s mO_cpy mO_cut mO_faddr mO_fld mO_iaddr mO_iaddrf mO_sidx mO_len mO_lenf mO_slen mO_scut mO_app mO_ext mO_mx mO_mn mO_mkfn evalOp cutOp argsE ev getE putE cellsOf adopt rowOf binV boolV nilV ar_add ar_sub ar_mul ar_quo ar_rem ar_eq ar_ne ar_lt ar_le ar_gt ar_ge ar_and ar_or ar_xor geto bound finRet finNrm ints List.length_cons List.length_nil List.length_append List.getElem?_cons_zero List.getElem?_cons_succ List.nil_append List.cons_append List.map_cons List.map_nil List.mapM_cons List.mapM_nil Option.map_some Option.map_none Option.bind_some Option.pure_def Option.bind_eq_bind List.drop_zero or_self or_false false_or or_true true_or true_and and_true and_self decide_true decide_false Bool.false_eq_true Bool.true_eq_false Bool.not_true Bool.not_false Nat.le_refl eq_self gt_iff_lt ge_iff_le ne_eq not_true_eq_false not_false_eq_true storeOp apartOf freeze_nil refsL refs List.flatMap_cons List.flatMap_nil List.append_nil List.contains_nil List.set_cons_zero List.set_cons_succ snap snapL fill_nums flat_nums nums_length Go.V.freeze List.mapIdx_cons List.mapIdx_nil List.contains_cons Bool.or_false Bool.false_or Bool.or_true Bool.true_or
def pl : Int → List Int → List Int → Option Int
  | n, d :: ds, x :: xs => if x < 0 ∨ d ≤ x then none else pl (n * d + x) ds xs
  | n, _, _ => some n
def place (s idx : List Int) : Option Int := if count s = none ∨ s.length ≠ idx.length then none else pl 0 s idx
section
variable {E : CallRel}
def PlI (s idx : List Int) (k : Nat) (n : Int) : Prop :=
  count s ≠ none → ∃ most m, count s = cnt most m (s.drop k) ∧ 1 ≤ most ∧ most ≤ 4096 ∧ 0 ≤ n ∧ n < most ∧ pl 0 s idx = pl n (s.drop k) (idx.drop k)
theorem PlI.zero {s idx : List Int} : PlI s idx 0 0 := fun h => by
  refine ⟨1, 1, ?_, by omega, by omega, by omega, by omega, by simp⟩
  unfold count at h ⊢
  split
  · rename_i h8; rw [if_pos h8] at h; exact absurd rfl h
  · simp
theorem PlI.step {s idx : List Int} {k : Nat} {n : Int} (h : PlI s idx k n) (h1 : k < s.length) (h2 : k < idx.length) (hx : ¬ idx.getD k 0 < 0) (hd : ¬ s.getD k 0 ≤ idx.getD k 0) :
    PlI s idx (k + 1) (IntKind.i64.wrap (IntKind.i64.wrap (n * s.getD k 0) + idx.getD k 0)) := by
  intro hc
  obtain ⟨most, m, g1, g2, g3, g4, g5, g6⟩ := h hc
  rw [getD_drop h1] at g1 g6
  rw [getD_drop h2] at g6
  generalize s.getD k 0 = d at *
  generalize idx.getD k 0 = x at *
  rw [cnt] at g1
  split at g1
  · exact absurd g1 hc
  · rename_i hno
    have hm : max 1 d = d := by rw [max1, if_pos (by omega)]
    rw [hm] at g1 hno
    have b1 : n * d ≤ (most - 1) * d := Int.mul_le_mul_of_nonneg_right (by omega) (by omega)
    have b2 : 0 ≤ n * d := Int.mul_nonneg g4 (by omega)
    have b3 : (most - 1) * d = most * d - d := by rw [Int.sub_mul]; omega
    have w1 : IntKind.i64.wrap (n * d) = n * d := wrap_i64 (by omega) (by omega)
    have w2 : IntKind.i64.wrap (n * d + x) = n * d + x := wrap_i64 (by omega) (by omega)
    rw [w1, w2]
    refine ⟨most * d, m * d, g1, by omega, by omega, by omega, by omega, ?_⟩
    rw [g6, pl, if_neg (by omega)]
theorem PlI.done {s idx : List Int} {k : Nat} {n : Int} (h : PlI s idx k n) (h1 : s.length ≤ k ∨ idx.length ≤ k) (hc : count s ≠ none) : 0 ≤ n ∧ pl 0 s idx = some n := by
  obtain ⟨most, m, g1, g2, g3, g4, g5, g6⟩ := h hc
  refine ⟨g4, ?_⟩
  rw [g6]
  rcases h1 with h1 | h1
  · rw [List.drop_eq_nil_of_le h1, pl]
    intro _ _ _ _ h; cases h
  · rw [List.drop_eq_nil_of_le h1, pl]
    intro _ _ _ _ _ h; cases h
end
end Go.Proofs.Ytlejgleocnemoaa.I

namespace Go.Proofs.Ytlejgleocnemoaa.I
open Go Go.V
def ix : List Int → Int → List Int × Int
  | [], a => ([], a)
  | d :: ds, a => ((ix ds a).2 % d :: (ix ds a).1, (ix ds a).2 / d)
def index (s : List Int) (a : Int) : Option (List Int) :=
  match count s with
  | none => none
  | some n => if a < 0 ∨ n ≤ a then none else some (ix s a).1
def optL : Option (List Int) → AV
  | some l => .tup [ints l, .bool true]
  | none => .tup [.sl 0 1 [], .bool false]
section
variable {E : CallRel}
end
end Go.Proofs.Ytlejgleocnemoaa.I

namespace Go.Proofs.Ytlejgleocnemoaa.I
open Go Go.V
def prodR : List Int → Int
  | [] => 1
  | d :: ds => IntKind.i64.wrap (prodR ds * d)
def str : List Int → List Int
  | [] => []
  | _ :: ds => prodR ds :: str ds
section
variable {E : CallRel}
end
end Go.Proofs.Ytlejgleocnemoaa.I

namespace Go.Proofs.Ytlejgleocnemoaa.I
open Go Go.V
def prodW (s : List Int) : Int := s.foldl (fun n d => IntKind.i64.wrap (n * d)) 1
section
variable {E : CallRel}
end
end Go.Proofs.Ytlejgleocnemoaa.I

namespace Go.Proofs.Ytlejgleocnemoaa.I
open Go Go.V
def strW : List Int → List Int
  | [] => []
  | _ :: ds => prodW ds :: strW ds
section
variable {E : CallRel}
end
end Go.Proofs.Ytlejgleocnemoaa.I

namespace Go.Proofs.Ytlejgleocnemoaa.I
open Go Go.V
def prd : List Int → Int
  | [] => 1
  | d :: ds => d * prd ds
theorem cnt_prd : ∀ {s : List Int} {most m n : Int}, cnt most m s = some n → n = m * prd s
  | [], most, m, n, h => by rw [cnt] at h; rw [prd, Int.mul_one]; exact (Option.some.inj h).symm
  | d :: ds, most, m, n, h => by
    rw [cnt] at h
    split at h
    · cases h
    · rw [cnt_prd h, prd, Int.mul_assoc]
theorem count_prd {s : List Int} {n : Int} (h : count s = some n) : n = prd s := by
  unfold count at h
  split at h
  · cases h
  · rw [cnt_prd h, Int.one_mul]
def inc : List Int → List Int → List Int × Bool
  | d :: ds, x :: xs => if (inc ds xs).2 then (if x + 1 < d then ((x + 1) :: (inc ds xs).1, false) else (0 :: (inc ds xs).1, true)) else (x :: (inc ds xs).1, false)
  | _, _ => ([], true)
def allS (L : List (List Int)) (d : Nat) : List (List Int) := L.flatMap fun p => (List.range d).map fun n : Nat => p ++ [(n : Int)]
def allL (s : List Int) : List (List Int) := s.foldl (fun L d => allS L d.toNat) [[]]
end Go.Proofs.Ytlejgleocnemoaa.I

namespace Go.Proofs.Ytlejgleocnemoaa.I
open Go Go.V
def rows (L : List (List Int)) : AV := .sl L.length 1 (L.map ints)
theorem cnt_bound : ∀ {s : List Int} {most m n : Int}, cnt most m s = some n → 1 ≤ most → most ≤ 4096 → (∀ d ∈ s, 0 ≤ d ∧ d ≤ 4096) ∧ ∀ k, 0 ≤ prd (s.take k) ∧ most * prd (s.take k) ≤ 4096
  | [], most, m, n, h, h1, h2 => ⟨fun d hd => by simp at hd, fun k => by simp [prd]; omega⟩
  | d :: ds, most, m, n, h, h1, h2 => by
    rw [cnt] at h
    split at h
    · cases h
    · rename_i hno
      have hmx : 1 ≤ max 1 d ∧ d ≤ max 1 d := by rw [max1]; split <;> omega
      have hmm : 1 ≤ most * max 1 d := by
        have := Int.mul_le_mul_of_nonneg_left (a := 1) (b := max 1 d) (c := most) hmx.1 (by omega)
        omega
      have hd : d ≤ most * max 1 d := by
        have := Int.mul_le_mul_of_nonneg_right (a := 1) (b := most) (c := max 1 d) h1 (by omega)
        omega
      obtain ⟨g1, g2⟩ := cnt_bound h hmm (by omega)
      refine ⟨fun x hx => ?_, fun k => ?_⟩
      · rcases List.mem_cons.1 hx with rfl | hx
        · omega
        · exact g1 x hx
      · cases k with
        | zero => simp [prd]; omega
        | succ k =>
          rw [List.take_succ_cons, prd]
          obtain ⟨e1, e2⟩ := g2 k
          have e3 : d * prd (ds.take k) ≤ max 1 d * prd (ds.take k) := Int.mul_le_mul_of_nonneg_right hmx.2 e1
          have e4 := Int.mul_le_mul_of_nonneg_left (c := most) e3 (by omega)
          rw [← Int.mul_assoc] at e4
          rw [← Int.mul_assoc] at e4
          refine ⟨Int.mul_nonneg (by omega) e1, ?_⟩
          rw [← Int.mul_assoc]
          omega
theorem count_bound {s : List Int} {n : Int} (h : count s = some n) : s.length ≤ 8 ∧ (∀ d ∈ s, 0 ≤ d ∧ d ≤ 4096) ∧ ∀ k, 0 ≤ prd (s.take k) ∧ prd (s.take k) ≤ 4096 := by
  unfold count at h
  split at h
  · cases h
  · obtain ⟨h1, h2⟩ := cnt_bound h (by omega) (by omega)
    exact ⟨by omega, h1, fun k => by have := h2 k; rwa [Int.one_mul] at this⟩
theorem sub_rows {L : List (List Int)} {j : Nat} (h : j < L.length) : sub false 1 (L.map ints) (j * 1) = some (ints (L.getD j [])) := by
  simp only [sub, List.length_map, Nat.mul_one, Bool.false_eq_true, if_false, if_true]
  rw [if_pos (by omega), List.getElem?_map, List.getElem?_eq_getElem h]
  simp [List.getD, h]
section
variable {E : CallRel}
end
end Go.Proofs.Ytlejgleocnemoaa.I

namespace Go.Proofs.Ytlejgleocnemoaa.I
open Go Go.V
attribute [local go_sem_proc ↓] reduceIte
attribute [local go_sem_proc] Nat.reduceEqDiff Nat.reduceAdd Nat.reduceMul Nat.reduceLeDiff Nat.reduceLT Int.reduceToNat Int.reduceLT Int.reduceLE reduceCtorEq Nat.reduceBEq
attribute [local go_sem] mNil nat0 beq_self_eq_true mSkip mRet mExit mReg mSeq mCond mTrue mFalse mBlock mLv mCodeE mCodeR mEndN mEndR mEndE mOps mSome mGuard mGtt mGff mGtf mGft mGu mCallP mCallR mCallF mCallO mCallZ mCallG mCallM mCallV loopQ_exit loopQ_ret mO_mov mO_newnil mO_pick mO_alloc mO_box mO_build mO_bsl mO_bslF mO_newnilB mO_bslB mO_lenB mO_appB mO_allocA mO_bslA mO_appA mO_ldb mO_faddrb mRsv mO_ldf mO_ld mO_st mO_sta mO_nilchk mO_bin mO_binb mO_binp mO_bins mO_neg mO_com mO_not mO_conv mO_mk mO_mk0 mO_mkB mO_s2b mO_b2s mO_cpy mO_cut mO_faddr mO_fld mO_iaddr mO_iaddrf mO_sidx mO_len mO_lenf mO_slen mO_scut mO_app mO_ext mO_mx mO_mn mO_mkfn evalOp cutOp argsE ev getE putE cellsOf adopt rowOf binV boolV nilV ar_add ar_sub ar_mul ar_quo ar_rem ar_eq ar_ne ar_lt ar_le ar_gt ar_ge ar_and ar_or ar_xor geto bound finRet finNrm ints List.length_cons List.length_nil List.length_append List.getElem?_cons_zero List.getElem?_cons_succ List.nil_append List.cons_append List.map_cons List.map_nil List.mapM_cons List.mapM_nil Option.map_some Option.map_none Option.bind_some Option.pure_def Option.bind_eq_bind List.drop_zero or_self or_false false_or or_true true_or true_and and_true and_self decide_true decide_false Bool.false_eq_true Bool.true_eq_false Bool.not_true Bool.not_false Nat.le_refl eq_self gt_iff_lt ge_iff_le ne_eq not_true_eq_false not_false_eq_true storeOp apartOf freeze_nil refsL refs List.flatMap_cons List.flatMap_nil List.append_nil List.contains_nil List.set_cons_zero List.set_cons_succ snap snapL fill_nums flat_nums nums_length Go.V.freeze List.mapIdx_cons List.mapIdx_nil List.contains_cons Bool.or_false Bool.false_or Bool.or_true Bool.true_or
section
variable {E : CallRel}
end
theorem nums_append {k : IntKind} {a b : List Int} : nums k (a ++ b) = nums k a ++ nums k b := by simp [nums]
def lensum (L : List (List Int)) : Nat := L.flatten.length
theorem lensum_snoc {L : List (List Int)} {p : List Int} : lensum (L ++ [p]) = lensum L + p.length := by simp [lensum]
theorem lensum_take {L : List (List Int)} {k : Nat} : lensum (L.take k) ≤ lensum L := by
  have : L = L.take k ++ L.drop k := (List.take_append_drop k L).symm
  conv => rhs; rw [this]
  simp only [lensum, List.flatten_append, List.length_append]
  omega
theorem take_snocL {L : List (List Int)} {m : Nat} (h : m < L.length) : L.take (m + 1) = L.take m ++ [L.getD m []] := by
  rw [List.take_add_one]
  congr 1
  simp [List.getD, h]
theorem c131_ok {n : Nat} (hn : (n : Int) ≤ 10000000000000) : Go.V.Call tab E 131 [.nilsl 3 1, .int .i64 n] [] (.arr 0 0) [⟨false, 3, 1, 0, 0, [], false⟩] := by
  refine ⟨0, ?_⟩
  have h1 : (0 : Int) ≤ (n : Int) ∧ (n : Int) * 8 ≤ 140737488355328 := by omega
  simp only [CallN, E, ext, growOf, h1, and_self, if_true]
theorem c101_ok {L : List (List Int)} (hL : (L.length : Int) ≤ 1000000000000) (hs : lensum L ≤ 1000000000000) : Go.V.Call tab E 101 [rows L] [] (ints L.flatten) [] := by
  refine Go.V.Call.mach i101 c101 rfl rfl rfl rfl ?_
  simp only [c101, rows, go_sem]
  refine mLoop (fun N st => ∃ (i : Nat), i ≤ L.length ∧ N = L.length - i ∧
    st = ⟨[(0, rows L), (3, .int .i64 (lensum (L.take i) : Nat)), (9, rows L), (10, .int .i64 L.length), (11, .int .i64 i)], [⟨false, 3, 1, 0, 0, [], false⟩]⟩) L.length ⟨_, rfl, 0, by omega, by omega, by simp [getE, rows, lensum]⟩ ?_
  rintro N s0 ⟨i, hi, rfl, rfl⟩
  by_cases hlt : i < L.length
  · have hlt' : (i : Int) < (L.length : Int) := by omega
    have hi0 : (0 : Int) ≤ (i : Int) := by omega
    have hi1 : IntKind.i64.wrap ((i : Int) + 1) = ((i + 1 : Nat) : Int) := by rw [wrap_i64 (by omega) (by omega)]; omega
    have hsub := sub_rows hlt
    have htk := take_snocL hlt
    have hle := lensum_take (L := L) (k := i + 1)
    have hsn : lensum (L.take (i + 1)) = lensum (L.take i) + (L.getD i []).length := by rw [htk, lensum_snoc]
    have hw : IntKind.i64.wrap ((lensum (L.take i) : Int) + ((L.getD i []).length : Int)) = (lensum (L.take (i + 1)) : Int) := by rw [wrap_i64 (by omega) (by omega)]; omega
    have hneg : ¬ (lensum (L.take (i + 1)) : Int) < 0 := by omega
    simp only [b101_0, rows, go_sem, hlt', hi0, Int.toNat_natCast, hsub, hw, hneg, hi1]
    exact loopQ_go rfl (L.length - (i + 1)) (by omega) ⟨i + 1, by omega, rfl, rfl⟩
  · have hlt' : ¬ (i : Int) < (L.length : Int) := by omega
    obtain rfl : i = L.length := by omega
    simp only [b101_0, k101_1, rows, go_sem, hlt', List.take_length]
    refine goG rfl (c131_ok (n := lensum L) (by omega)) rfl rfl ?_
    simp only [go_sem, FL, shiftO]
    refine mLoop (fun N st => ∃ (j : Nat), j ≤ L.length ∧ N = L.length - j ∧
      st = ⟨[(6, .arr 1 j), (25, rows L), (26, .int .i64 L.length), (27, .int .i64 j)], [⟨false, 3, 1, 0, 0, [], false⟩, ⟨false, 3, 1, j, lensum (L.take j), nums .i64 (L.take j).flatten, false⟩]⟩) L.length ⟨_, rfl, 0, by omega, by omega, by simp [getE, rows, lensum, nums]⟩ ?_
    rintro N s0 ⟨j, hj, rfl, rfl⟩
    by_cases hjl : j < L.length
    · have hjl' : (j : Int) < (L.length : Int) := by omega
      have hj0 : (0 : Int) ≤ (j : Int) := by omega
      have hj1 : IntKind.i64.wrap ((j : Int) + 1) = ((j + 1 : Nat) : Int) := by rw [wrap_i64 (by omega) (by omega)]; omega
      have hsub := sub_rows hjl
      have htk := take_snocL hjl
      have hle := lensum_take (L := L) (k := j + 1)
      have hsn : lensum (L.take (j + 1)) = lensum (L.take j) + (L.getD j []).length := by rw [htk, lensum_snoc]
      have e1 : (lensum (L.take j) + (L.getD j []).length) * 8 ≤ 140737488355328 := by omega
      have e2 : lensum (L.take j) + (L.getD j []).length ≤ 140737488355328 := by omega
      simp only [b101_1, rows, go_sem, hjl', hj0, Int.toNat_natCast, hsub, e1, e2, hj1]
      refine loopQ_go rfl (L.length - (j + 1)) (by omega) ⟨j + 1, by omega, rfl, ?_⟩
      rw [hsn, htk, List.flatten_append, List.flatten_cons, List.flatten_nil, List.append_nil, nums_append]
      rfl
    · have hjl' : ¬ (j : Int) < (L.length : Int) := by omega
      obtain rfl : j = L.length := by omega
      simp only [b101_1, k101_0, rows, go_sem, hjl', List.take_length]
      simp only [i101, OT, reduceIte, Nat.reduceEqDiff]
      rfl
theorem c43_ok {L : List (List Int)} (hL : (L.length : Int) ≤ 1000000000000) (hs : lensum L ≤ 1000000000000) : Go.V.Call tab E 43 [rows L] [] (ints L.flatten) [] := by
  refine Go.V.Call.mach i43 c43 rfl rfl rfl rfl ?_
  simp only [c43, rows, go_sem]
  refine goP (c101_ok hL hs) ?_
  simp only [go_sem]
  simp only [i43, OT, reduceIte, Nat.reduceEqDiff]
def whC (n : Bool) (p : Nat) : List AV := [us32 (limG p), .bool n]
def wcmp (n : Bool) (p : Nat) (m : Bool) (q : Nat) : Int := if n = true ∧ m = false then -1 else if n = false ∧ m = true then 1 else if n = true then cmpZ q p else cmpZ p q
theorem subW2 {a b : AV} : sub true 2 [a, b] 0 = some (.agg [a, b]) := rfl
theorem subW0 {a b : AV} : sub true 1 [a, b] 0 = some (.agg [a]) := rfl
theorem subW1 {a b : AV} : sub false 1 [a, b] 1 = some b := rfl
section
variable {E : CallRel}
theorem c109_ok {n : Bool} {p q : Nat} : Go.V.Call tab E 109 [.agg (ratG n p q)] [] (.agg (whC false (dn q))) [] := by
  refine Go.V.Call.mach i109 c109 rfl rfl rfl rfl ?_
  have h100 := c79_gen (E := E) (n := n) (p := p) (q := q)
  have h118 := c136_ok (E := E) (n := false) (p := dn q)
  simp only [ratG, natC, us32, Bool.false_and] at h100 h118
  simp only [c109, ratG, us32, go_sem, FL, subT3]
  refine goP h100 ?_
  simp only [us32, go_sem, FL]
  refine goP h118 ?_
  simp only [us32, go_sem, FL]
  simp only [i109, OT, reduceIte, Nat.reduceEqDiff, subW2, whC, us32]
theorem c108_ok {n m : Bool} {p q : Nat} (hp : (limG p).length ≤ 1000000) (hq : (limG q).length ≤ 1000000) : Go.V.Call tab E 108 [.agg (whC n p), .sl 1 2 (whC m q)] [] (.agg (whC ((n != m) && decide (p * q ≠ 0)) (p * q))) [] := by
  refine Go.V.Call.mach i108 c108 rfl rfl rfl rfl ?_
  have h133 := c137_ok (E := E) hp hq
  have h118 := c136_ok (E := E) (n := n != m) (p := p * q)
  have hb : boolV .ne (.bool n) (.bool m) = some (.bool (n != m)) := by cases n <;> cases m <;> rfl
  simp only [natC, us32] at h133 h118
  simp only [c108, whC, us32, go_sem, FL, subW2]
  refine mLoop (fun N st => ∃ (i : Nat) (b : Bool) (v : Nat), (i = 0 ∧ b = n ∧ v = p ∨ i = 1 ∧ b = ((n != m) && decide (p * q ≠ 0)) ∧ v = p * q) ∧ N = 1 - i ∧
    st = ⟨[(2, .loc 0 0 0), (4, .loc 2 0 0), (7, .sl 1 2 (whC m q)), (8, .int .i64 1), (9, .int .i64 i)], [⟨true, 57, 2, 0, 1, whC b v, false⟩, ⟨false, 154, 1, 0, 0, [], false⟩, ⟨true, 57, 2, 0, 1, [.arr 1 0, .bool false], false⟩]⟩) 1
    ⟨_, rfl, 0, n, p, .inl ⟨rfl, rfl, rfl⟩, by omega, by simp [getE, whC, us32]⟩ ?_
  rintro N s0 ⟨i, b, v, hiv, rfl, rfl⟩
  rcases hiv with ⟨rfl, rfl, rfl⟩ | ⟨rfl, rfl, rfl⟩
  · have hs2 : sub true 2 (whC m q) (0 * 2) = some (.agg (whC m q)) := rfl
    have hs2' : sub true 2 (whC m q) 0 = some (.agg (whC m q)) := rfl
    have w1 : IntKind.i64.wrap (0 + 1) = 1 := by decide
    have h01 : (0 : Int) < ((1 : Nat) : Int) := by omega
    simp only [whC, us32] at hs2 hs2'
    simp only [b108_0, whC, us32, go_sem, FL, subW2, subW0, subW1, h01, hs2, hs2']
    refine goF h133 ?_
    simp only [us32, go_sem, FL, subW2, subW0, subW1]
    refine goP h118 ?_
    simp only [us32, go_sem, FL, subW2, subW0, subW1, w1]
    exact loopQ_go rfl 0 (by omega) ⟨1, _, _, .inr ⟨rfl, rfl, rfl⟩, by omega, rfl⟩
  · have g : ¬ ((1 : Nat) : Int) < 1 := by omega
    simp only [b108_0, k108_0, whC, us32, go_sem, FL, subW2, subW0, subW1, Int.lt_irrefl, g]
    simp only [i108, OT, reduceIte, Nat.reduceEqDiff, subW2, whC, us32]
def rcmp (x y : Rt) : Int := wcmp ((x.1 != false) && decide (x.2.1 * dn y.2.2 ≠ 0)) (x.2.1 * dn y.2.2) ((y.1 != false) && decide (y.2.1 * dn x.2.2 ≠ 0)) (y.2.1 * dn x.2.2)
end
def RtRed (x : Rt) : Prop := RtOk x ∧ x.2.2 ≠ 0 ∧ Nat.gcd x.2.1 x.2.2 = 1 ∧ (x.1 = true → x.2.1 ≠ 0)
end Go.Proofs.Ytlejgleocnemoaa.I

namespace Go.Proofs.Ytlejgleocnemoaa.I
open Go Go.V
attribute [local go_sem] mNil nat0 beq_self_eq_true mSkip mRet mExit mReg mSeq mCond mTrue mFalse mBlock mLv mCodeE mCodeR mEndN mEndR mEndE mOps mSome mGuard mGtt mGff mGtf mGft mGu mCallP mCallR mCallF mCallO mCallZ mCallG mCallM mCallV loopQ_exit loopQ_ret mO_mov mO_newnil mO_pick mO_alloc mO_box mO_build mO_bsl mO_bslF mO_newnilB mO_bslB mO_lenB mO_appB mO_allocA mO_bslA mO_appA mO_ldb mO_faddrb mRsv mO_ldf mO_ld mO_st mO_sta mO_nilchk mO_bin mO_binb mO_binp mO_bins mO_neg mO_com mO_not mO_conv mO_mk mO_mk0 mO_mkB mO_s2b mO_b2s mO_cpy mO_cut mO_faddr mO_fld mO_iaddr mO_iaddrf mO_sidx mO_len mO_lenf mO_slen mO_scut mO_app mO_ext mO_mx mO_mn mO_mkfn evalOp cutOp argsE ev getE putE cellsOf adopt rowOf binV boolV nilV ar_add ar_sub ar_mul ar_quo ar_rem ar_eq ar_ne ar_lt ar_le ar_gt ar_ge ar_and ar_or ar_xor geto bound finRet finNrm ints List.length_cons List.length_nil List.length_append List.getElem?_cons_zero List.getElem?_cons_succ List.nil_append List.cons_append List.map_cons List.map_nil List.mapM_cons List.mapM_nil Option.map_some Option.map_none Option.bind_some Option.pure_def Option.bind_eq_bind List.drop_zero or_self or_false false_or or_true true_or true_and and_true and_self decide_true decide_false Bool.false_eq_true Bool.true_eq_false Bool.not_true Bool.not_false Nat.le_refl eq_self gt_iff_lt ge_iff_le ne_eq not_true_eq_false not_false_eq_true storeOp apartOf freeze_nil refsL refs List.flatMap_cons List.flatMap_nil List.append_nil List.contains_nil List.set_cons_zero List.set_cons_succ snap snapL fill_nums flat_nums nums_length Go.V.freeze List.mapIdx_cons List.mapIdx_nil List.contains_cons Bool.or_false Bool.false_or Bool.or_true Bool.true_or
theorem tmodN (a b : Nat) : ((a : Nat) : Int).tmod ((b : Nat) : Int) = ((a % b : Nat) : Int) := by rw [Int.tmod_eq_emod_of_nonneg (Int.natCast_nonneg a), ← Int.natCast_emod]
def gval (l : List Int) : Nat := l.foldl (fun a x => a * 1000000000 + x.toNat) 0
theorem gval_snoc {l : List Int} {x : Int} : gval (l ++ [x]) = gval l * 1000000000 + x.toNat := by simp [gval]
def R9 (l : List Int) : Prop := ∀ x ∈ l, 0 ≤ x ∧ x < 1000000000
theorem R9_nil : R9 [] := fun x hx => by simp at hx
theorem R9_snoc {l : List Int} {x : Int} (h : R9 l) (hx : 0 ≤ x ∧ x < 1000000000) : R9 (l ++ [x]) := fun y hy => by
  rcases List.mem_append.1 hy with h1 | h1
  · exact h y h1
  · simp at h1; subst h1; exact hx
def GrI (l : List Int) (i : Nat) (g : List Int) (n : Nat) : Prop := R9 g ∧ g.length ≤ i ∧ ∃ j, n < 10 ^ j ∧ j ≤ 8 ∧ sval (l.take i) = gval g * 10 ^ j + n ∧
  ((g ≠ [] ∧ (l.length - i + j) % 9 = 0) ∨ (g = [] ∧ j = i ∧ (l.length % 9 = 0 ∨ i < l.length % 9)))
theorem GrI.zero {l : List Int} : GrI l 0 [] 0 := ⟨R9_nil, by simp, 0, by simp, by omega, by simp [sval_nil, gval], .inr ⟨rfl, rfl, by omega⟩⟩
theorem GrI.small {l g : List Int} {i n : Nat} (h : GrI l i g n) : n < 100000000 := by
  obtain ⟨_, _, j, h1, h2, _⟩ := h
  have hp : 10 ^ j ≤ 100000000 := by simpa using Nat.pow_le_pow_right (n := 10) (i := j) (j := 8) (by omega) h2
  omega
theorem GrI.cut {l g : List Int} {i n d : Nat} (h : GrI l i g n) (hi : i < l.length) (hx : l.getD i 0 = 48 + (d : Int)) (hd : d ≤ 9) (hc : (l.length - i - 1) % 9 = 0) : GrI l (i + 1) (g ++ [((n * 10 + d : Nat) : Int)]) 0 := by
  obtain ⟨h0, hgl, j, h1, h2, h3, h4⟩ := h
  have hp : 10 ^ (j + 1) ≤ 1000000000 := by simpa using Nat.pow_le_pow_right (n := 10) (i := j + 1) (j := 9) (by omega) (by omega)
  rw [Nat.pow_succ] at hp
  have hs : sval (l.take (i + 1)) = 10 * sval (l.take i) + d := by rw [take_snoc hi, sval_snoc, hx]; omega
  refine ⟨R9_snoc h0 (by omega), by rw [List.length_append]; simp; omega, 0, by simp, by omega, ?_, .inl ⟨by simp, by omega⟩⟩
  rw [hs, h3, gval_snoc]
  rcases h4 with ⟨h4, h5⟩ | ⟨h4, h5, h6⟩
  · have hj : j = 8 := by omega
    subst hj
    simp only [Int.toNat_natCast, Nat.pow_zero, Nat.reducePow]
    omega
  · subst h4
    simp only [gval, List.foldl_nil, Int.toNat_natCast, Nat.pow_zero]
    omega
theorem GrI.go {l g : List Int} {i n d : Nat} (h : GrI l i g n) (hi : i < l.length) (hx : l.getD i 0 = 48 + (d : Int)) (hd : d ≤ 9) (hc : (l.length - i - 1) % 9 ≠ 0) : GrI l (i + 1) g (n * 10 + d) := by
  obtain ⟨h0, hgl, j, h1, h2, h3, h4⟩ := h
  have hs : sval (l.take (i + 1)) = 10 * sval (l.take i) + d := by rw [take_snoc hi, sval_snoc, hx]; omega
  refine ⟨h0, by omega, j + 1, by rw [Nat.pow_succ]; omega, ?_, ?_, ?_⟩
  · rcases h4 with ⟨h4, h5⟩ | ⟨h4, h5, h6⟩
    · by_cases hj : j = 8
      · subst hj; omega
      · omega
    · by_cases hj : j = 8
      · subst hj; omega
      · omega
  · rw [hs, h3, Nat.pow_succ, Nat.mul_add, ← Nat.mul_assoc, Nat.mul_comm 10, Nat.mul_assoc, Nat.mul_comm 10]
    omega
  · rcases h4 with ⟨h4, h5⟩ | ⟨h4, h5, h6⟩
    · exact .inl ⟨h4, by omega⟩
    · exact .inr ⟨h4, by omega, by omega⟩
theorem GrI.done {l g : List Int} {n : Nat} (h : GrI l l.length g n) : gval g = sval l := by
  obtain ⟨h0, hgl, j, h1, h2, h3, h4⟩ := h
  have hj : j = 0 := by rcases h4 with ⟨h4, h5⟩ | ⟨h4, h5, h6⟩ <;> omega
  subst hj
  rw [List.take_length] at h3
  simp at h1 h3
  omega
section
variable {E : CallRel}
def bl (n : Nat) : Nat := if h : n = 0 then 0 else bl (n / 2) + 1
  termination_by n
  decreasing_by exact Nat.div_lt_self (Nat.pos_of_ne_zero h) (by omega)
def PassI (l : List Int) (k : Nat) (q : List Int) (r : Nat) : Prop := R9 q ∧ q.length ≤ k ∧ r < 65536 ∧ gval (l.take k) = 65536 * gval q + r ∧ (q ≠ [] → 0 < gval q)
theorem PassI.zero {l : List Int} : PassI l 0 [] 0 := ⟨R9_nil, by simp, by omega, by simp [gval], fun h => absurd rfl h⟩
theorem gval_take {l : List Int} {k : Nat} (h : k < l.length) : gval (l.take (k + 1)) = gval (l.take k) * 1000000000 + (l.getD k 0).toNat := by rw [take_snoc h, gval_snoc]
theorem PassI.add {l q : List Int} {k r x : Nat} (h : PassI l k q r) (hk : k < l.length) (hx : l.getD k 0 = (x : Int)) (hx9 : x < 1000000000) (hc : q ≠ [] ∨ 0 < (r * 1000000000 + x) / 65536) :
    PassI l (k + 1) (q ++ [(((r * 1000000000 + x) / 65536 : Nat) : Int)]) ((r * 1000000000 + x) % 65536) := by
  obtain ⟨h0, h1, h2, h3, h4⟩ := h
  refine ⟨R9_snoc h0 (by omega), by rw [List.length_append]; simp; omega, by omega, ?_, fun _ => ?_⟩
  · rw [gval_take hk, gval_snoc, h3, hx, Int.toNat_natCast, Int.toNat_natCast]
    omega
  · rw [gval_snoc, Int.toNat_natCast]
    by_cases hq : q = []
    · rcases hc with hc | hc
      · exact absurd hq hc
      · omega
    · have := h4 hq; omega
theorem PassI.skip {l : List Int} {k r x : Nat} (h : PassI l k [] r) (hk : k < l.length) (hx : l.getD k 0 = (x : Int)) (hc : ¬ 0 < (r * 1000000000 + x) / 65536) :
    PassI l (k + 1) [] ((r * 1000000000 + x) % 65536) := by
  obtain ⟨h0, h1, h2, h3, h4⟩ := h
  refine ⟨h0, by simp, by omega, ?_, fun h => absurd rfl h⟩
  have h0 : gval [] = 0 := rfl
  rw [h0] at h3
  rw [gval_take hk, hx, Int.toNat_natCast, h0]
  omega
def PB (v m : Nat) : Prop := v < 65536 ^ m
theorem PB.step {v m i : Nat} (h : PB v (m - i)) (hi : i < m) (hq : 0 < v / 65536) : PB (v / 65536) (m - (i + 1)) ∧ i + 1 < m := by
  unfold PB at h ⊢
  have h1 : v / 65536 < 65536 ^ (m - (i + 1)) := by
    rw [show m - i = (m - (i + 1)) + 1 by omega, Nat.pow_succ] at h
    rw [Nat.div_lt_iff_lt_mul (by omega)]
    exact h
  refine ⟨h1, ?_⟩
  by_cases hc : i + 1 < m
  · exact hc
  · rw [show m - (i + 1) = 0 by omega, Nat.pow_zero] at h1
    clear h
    omega
end
section
variable {E : CallRel}
end
end Go.Proofs.Ytlejgleocnemoaa.I

namespace Go.Proofs.Ytlejgleocnemoaa.I
open Go Go.V
attribute [local go_sem_proc ↓] reduceIte
attribute [local go_sem_proc] Nat.reduceEqDiff Nat.reduceAdd Nat.reduceMul Nat.reduceLeDiff Nat.reduceLT Int.reduceToNat Int.reduceLT Int.reduceLE reduceCtorEq Nat.reduceBEq
attribute [local go_sem] mNil nat0 beq_self_eq_true mSkip mRet mExit mReg mSeq mCond mTrue mFalse mBlock mLv mCodeE mCodeR mEndN mEndR mEndE mOps mSome mGuard mGtt mGff mGtf mGft mGu mCallP mCallR mCallF mCallO mCallZ mCallG mCallM mCallV loopQ_exit loopQ_ret mO_mov mO_newnil mO_pick mO_alloc mO_box mO_build mO_bsl mO_bslF mO_newnilB mO_bslB mO_lenB mO_appB mO_allocA mO_bslA mO_appA mO_ldb mO_faddrb mRsv mO_ldf mO_ld mO_st mO_sta mO_nilchk mO_bin mO_binb mO_binp mO_bins mO_neg mO_com mO_not mO_conv mO_mk mO_mk0 mO_mkB mO_s2b mO_b2s mO_cpy mO_cut mO_faddr mO_fld mO_iaddr mO_iaddrf mO_sidx mO_len mO_lenf mO_slen mO_scut mO_app mO_ext mO_mx mO_mn mO_mkfn evalOp cutOp argsE ev getE putE cellsOf adopt rowOf binV boolV nilV ar_add ar_sub ar_mul ar_quo ar_rem ar_eq ar_ne ar_lt ar_le ar_gt ar_ge ar_and ar_or ar_xor geto bound finRet finNrm ints List.length_cons List.length_nil List.length_append List.getElem?_cons_zero List.getElem?_cons_succ List.nil_append List.cons_append List.map_cons List.map_nil List.mapM_cons List.mapM_nil Option.map_some Option.map_none Option.bind_some Option.pure_def Option.bind_eq_bind List.drop_zero or_self or_false false_or or_true true_or true_and and_true and_self decide_true decide_false Bool.false_eq_true Bool.true_eq_false Bool.not_true Bool.not_false Nat.le_refl eq_self gt_iff_lt ge_iff_le ne_eq not_true_eq_false not_false_eq_true storeOp apartOf freeze_nil refsL refs List.flatMap_cons List.flatMap_nil List.append_nil List.contains_nil List.set_cons_zero List.set_cons_succ snap snapL fill_nums flat_nums nums_length Go.V.freeze List.mapIdx_cons List.mapIdx_nil List.contains_cons Bool.or_false Bool.false_or Bool.or_true Bool.true_or
theorem subT2 {a b c : AV} : sub true 2 [a, b, c] 0 = some (.agg [a, b]) := rfl
theorem subT1' {a b c : AV} : sub true 1 [a, b, c] 0 = some (.agg [a]) := rfl
def wint (n : Bool) (p : Nat) : Option Int := if n = true then (if p ≤ 9223372036854775808 then some (-(p : Int)) else none) else if p < 9223372036854775808 then some (p : Int) else none
def rint (x : Rt) : Option Int := if dn x.2.2 = 1 then wint x.1 x.2.1 else none
section
variable {E : CallRel}
theorem c156_ok {n : Nat} : Go.V.Call tab E 156 [natC n] [] (.bool (decide (n = 1))) [] := by
  refine Go.V.Call.mach i156 c156 rfl rfl rfl rfl ?_
  by_cases h0 : n = 0
  · subst h0
    simp only [c156, natC, us32, limG_zero, nums, go_sem, sub, FL, show (((0 : Nat) : Int) == 1) = false from rfl, show ((0 : Int) == 1) = false from rfl]
    simp only [i156, OT, reduceIte, Nat.reduceEqDiff, show decide ((0 : Nat) = 1) = false from rfl]
  · by_cases h1 : n < 4294967296
    · have hl : limG n = [(n : Int)] := by rw [limG_pos h0, show n / 4294967296 = 0 by omega, limG_zero, Nat.mod_eq_of_lt h1]
      have hb : ((n : Int) == 1) = decide (n = 1) := by
        by_cases h : n = 1
        · subst h; rfl
        · rw [decide_eq_false h, beq_eq_false_iff_ne]; omega
      have e0 : ((1 : Int) == 1) = true := rfl
      simp only [c156, natC, us32, hl, nums, go_sem, sub, FL, e0, hb, show (0 : Int) < ((1 : Nat) : Int) from by decide, show (((1 : Nat) : Int) == 1) = true from rfl, show ((0 : Nat) + 1) = 1 from rfl, List.length_singleton]
      simp only [i156, OT, reduceIte, Nat.reduceEqDiff]
    · have hne : limG n ≠ [] := fun h => h0 (limG_len0 (by rw [h]; rfl))
      have hl : (((limG n).length : Int) == 1) = false := by
        rw [limG_pos h0, List.length_cons, beq_eq_false_iff_ne]
        intro h
        have : limG (n / 4294967296) = [] := List.length_eq_zero_iff.1 (by omega)
        have := limG_len0 (n := n / 4294967296) (by rw [this]; rfl)
        omega
      simp only [c156, natC, us32, go_sem, sub, FL, hl]
      simp only [i156, OT, reduceIte, Nat.reduceEqDiff, show decide (n = 1) = false from decide_eq_false (by omega)]
theorem c147_gen {n : Bool} {p q : Nat} : Go.V.Call tab E 147 [.agg (ratG n p q)] [] (.bool (decide (dn q = 1))) [] := by
  refine Go.V.Call.mach i147 c147 rfl rfl rfl rfl ?_
  have h100 := c79_gen (E := E) (n := n) (p := p) (q := q)
  have h130 := c156_ok (E := E) (n := dn q)
  simp only [natC, ratG, us32] at h100 h130
  simp only [c147, ratG, us32, go_sem, subT3, FL]
  refine goP h100 ?_
  simp only [go_sem]
  refine goP h130 ?_
  simp only [go_sem]
  simp only [i147, OT, reduceIte, Nat.reduceEqDiff]
theorem c148_gen {n : Bool} {p : Nat} : Go.V.Call tab E 148 [.agg (whC n p)] [] (optP (wint n p)) [] := by
  refine Go.V.Call.mach i148 c148 rfl rfl rfl rfl ?_
  by_cases hp : p < 18446744073709551616
  · have h131 := c152_nat (E := E) hp
    simp only [natC, us32] at h131
    simp only [c148, whC, us32, go_sem, subW0, FL]
    refine goP h131 ?_
    by_cases h1 : 9223372036854775808 < p
    · have h1' : (9223372036854775808 : Int) < (p : Int) := by omega
      have hw : wint n p = none := by unfold wint; split <;> rw [if_neg (by omega)]
      simp only [go_sem, h1']
      simp only [i148, OT, reduceIte, Nat.reduceEqDiff, hw, optP]
    · have h1' : ¬ (9223372036854775808 : Int) < (p : Int) := by omega
      cases n with
      | true =>
        have hw : wint true p = some (-(p : Int)) := by unfold wint; rw [if_pos rfl, if_pos (by omega)]
        have e : ((p : Int) == 9223372036854775808) = true ∨ ((p : Int) == 9223372036854775808) = false := by cases h : ((p : Int) == 9223372036854775808) <;> simp
        by_cases h0 : p = 0
        · subst h0
          have e1 : IntKind.u64.wrap (0 - 1) = 18446744073709551615 := by decide
          have e2 : IntKind.i64.wrap 18446744073709551615 = -1 := by decide
          have e3 : IntKind.i64.wrap (0 - (-1)) = 1 := by decide
          have e4 : IntKind.i64.wrap (1 - 1) = 0 := by decide
          have e5 : ((0 : Int) == 9223372036854775808) = false := rfl
          have e6 : ((0 : Nat) : Int) = 0 := rfl
          simp only [go_sem, subW1, h1', e1, e2, e3, e4, e5, e6]
          simp only [i148, OT, reduceIte, Nat.reduceEqDiff, hw, optP]
          rfl
        · have e1 : IntKind.u64.wrap ((p : Int) - 1) = (p : Int) - 1 := wrap_u64 (by omega) (by omega)
          have e2 : IntKind.i64.wrap ((p : Int) - 1) = (p : Int) - 1 := wrap_i64 (by omega) (by omega)
          have e3 : IntKind.i64.wrap (0 - ((p : Int) - 1)) = 1 - (p : Int) := by rw [wrap_i64 (by omega) (by omega)]; omega
          have e4 : IntKind.i64.wrap (1 - (p : Int) - 1) = -(p : Int) := by rw [wrap_i64 (by omega) (by omega)]; omega
          rcases e with e | e
          · simp only [go_sem, subW1, h1', e, e1, e2, e3, e4]
            simp only [i148, OT, reduceIte, Nat.reduceEqDiff, hw, optP]
          · simp only [go_sem, subW1, h1', e, e1, e2, e3, e4]
            simp only [i148, OT, reduceIte, Nat.reduceEqDiff, hw, optP]
      | false =>
        by_cases h2 : p = 9223372036854775808
        · subst h2
          have e : (((9223372036854775808 : Nat) : Int) == 9223372036854775808) = true := rfl
          have hw : wint false 9223372036854775808 = none := rfl
          simp only [go_sem, subW1, h1', e]
          simp only [i148, OT, reduceIte, Nat.reduceEqDiff, hw, optP]
        · have e : ((p : Int) == 9223372036854775808) = false := by rw [beq_eq_false_iff_ne]; omega
          have hw : wint false p = some (p : Int) := by unfold wint; rw [if_neg (by simp), if_pos (by omega)]
          have e1 : IntKind.i64.wrap (p : Int) = (p : Int) := wrap_i64 (by omega) (by omega)
          simp only [go_sem, subW1, h1', e, e1]
          simp only [i148, OT, reduceIte, Nat.reduceEqDiff, hw, optP]
  · have h131 := c152_big (E := E) (n := p) (by omega)
    have hw : wint n p = none := by unfold wint; split <;> rw [if_neg (by omega)]
    simp only [natC, us32] at h131
    simp only [c148, whC, us32, go_sem, subW0, FL]
    refine goP h131 ?_
    simp only [go_sem]
    simp only [i148, OT, reduceIte, Nat.reduceEqDiff, hw, optP]
theorem c128_gen {x : Rt} : Go.V.Call tab E 128 [.agg (rtC x)] [] (optP (rint x)) [] := by
  obtain ⟨n, p, q⟩ := x
  refine Go.V.Call.mach i128 c128 rfl rfl rfl rfl ?_
  have h112 := c147_gen (E := E) (n := n) (p := p) (q := q)
  have h113 := c148_gen (E := E) (n := n) (p := p)
  simp only [ratG, whC, us32] at h112 h113
  by_cases h : dn q = 1
  · rw [decide_eq_true h] at h112
    simp only [c128, rtC, ratG, us32, go_sem, subT3, FL]
    refine goP h112 ?_
    simp only [go_sem, subT2]
    refine goP h113 ?_
    cases hw : wint n p with
    | none =>
      simp only [optP, go_sem]
      simp only [i128, OT, reduceIte, Nat.reduceEqDiff, rint, h, hw, optP, if_true]
    | some z =>
      simp only [optP, go_sem]
      simp only [i128, OT, reduceIte, Nat.reduceEqDiff, rint, h, hw, optP, if_true]
  · rw [decide_eq_false h] at h112
    simp only [c128, rtC, ratG, us32, go_sem, subT3, FL]
    refine goP h112 ?_
    simp only [go_sem]
    simp only [i128, OT, reduceIte, Nat.reduceEqDiff, rint, h, optP, if_false]
theorem c106_ok {n : Nat} : Go.V.Call tab E 106 [natC n] [] (.int .i64 (((limG n).length : Nat) : Int)) [] := by
  refine Go.V.Call.mach i106 c106 rfl rfl rfl rfl ?_
  simp only [c106, natC, us32, go_sem, sub, FL]
  simp only [i106, OT, reduceIte, Nat.reduceEqDiff]
def rlimbs (x : Rt) : Nat := max (limG x.2.1).length (limG (dn x.2.2)).length
theorem c48_ok {x : Rt} : Go.V.Call tab E 48 [.agg (rtC x)] [] (.int .i64 ((rlimbs x : Nat) : Int)) [] := by
  obtain ⟨n, p, q⟩ := x
  refine Go.V.Call.mach i48 c48 rfl rfl rfl rfl ?_
  have h104 := c106_ok (E := E) (n := p)
  have h104' := c106_ok (E := E) (n := dn q)
  have h100 := c79_gen (E := E) (n := n) (p := p) (q := q)
  simp only [natC, ratG, us32] at h104 h104' h100
  have hmx : (if ((limG p).length : Int) < ((limG (dn q)).length : Int) then ((limG (dn q)).length : Int) else ((limG p).length : Int)) = ((rlimbs (n, p, q) : Nat) : Int) := by
    simp only [rlimbs, Nat.max_def]
    split <;> split <;> omega
  simp only [c48, rtC, ratG, us32, go_sem, subT3, subT1', FL]
  refine goP h104 ?_
  simp only [go_sem, subT3]
  refine goP h100 ?_
  simp only [go_sem]
  refine goP h104' ?_
  simp only [go_sem, hmx]
  simp only [i48, OT, reduceIte, Nat.reduceEqDiff]
def wdC (n : Bool) (p : Nat) : List AV := [.bool n, .str (dec p)]
end
def rv (x : Rt) : Int := (rint x).getD 0
def WhO (l : List Rt) : Prop := ∀ x ∈ l, (rint x).isSome = true
theorem WhO_take {l : List Rt} {i : Nat} (h : i < l.length) : WhO (l.take (i + 1)) ↔ WhO (l.take i) ∧ (rint (rtAt l i)).isSome = true := by
  have : l.take (i + 1) = l.take i ++ [rtAt l i] := takeAt h
  rw [this]
  unfold WhO
  simp only [List.mem_append, List.mem_singleton]
  exact ⟨fun h => ⟨fun x hx => h x (.inl hx), h _ (.inr rfl)⟩, fun h x hx => hx.elim (h.1 x) (fun e => e ▸ h.2)⟩
theorem rtAt_mem {l : List Rt} {i : Nat} (h : i < l.length) : rtAt l i ∈ l := by simp [rtAt, List.getD, h]
theorem rv_of {x : Rt} {z : Int} (h : rint x = some z) : rv x = z := by rw [rv, h]; rfl
theorem RtOk.len {x : Rt} (h : RtOk x) : (decL x.2.1).length ≤ 1000000000 ∧ (decL (dn x.2.2)).length ≤ 1000000000 := ⟨Nat.le_trans (lim2000_len h.1) (by omega), Nat.le_trans (lim2000_len h.2) (by omega)⟩
def lmax (l : List Rt) : Nat := l.foldl (fun a x => max a (rlimbs x)) 0
def rbytes (x : Rt) : Nat := 8 + 4 * ((limG x.2.1).length + (limG (dn x.2.2)).length)
def bsum (l : List Rt) : Nat := l.foldl (fun a x => a + rbytes x) 0
def runeAt (t : List Int) (k : Int) : Int := if 0 ≤ k ∧ k < t.length then t.getD k.toNat 0 else 0
theorem subX3 {a b c d e : AV} : sub false 1 [a, b, c, d, e] 3 = some d := rfl
theorem c68_ok {s t : List Int} {l : List Rt} {ch : Bool} : Go.V.Call tab E 68 [.agg (arrX s ch t l)] [] (.bool ch) [] := by
  refine Go.V.Call.mach i68 c68 rfl rfl rfl rfl ?_
  simp only [c68, arrX, runes, go_sem, subX1, FL]
  simp only [i68, OT, reduceIte, Nat.reduceEqDiff]
theorem c91_X {s t : List Int} {l : List Rt} {ch ok : Bool} (ht : (t.length : Int) ≤ 1000000000000) (hl : (l.length : Int) ≤ 1000000000000) (hok : ok = true ↔ ¬ (ch = true ∧ 0 < t.length + l.length) ∧ WhO l) :
    Go.V.Call tab E 91 [.agg (arrX s ch t l)] [] (.tup [.arr 0 0, .bool ok]) [rowI (if ok then l.map rv else [])] := by
  refine Go.V.Call.mach i91 c91 rfl rfl rfl rfl ?_
  have hfalse : ¬ (¬ (ch = true ∧ 0 < t.length + l.length) ∧ WhO l) → ok = false := fun h => by rw [← Bool.not_eq_true, hok]; exact h
  have h54 := c23_X (s := s) (ch := ch) ht hl
  simp only [arrX, runes, ints] at h54
  have main : ¬ (ch = true ∧ 0 < t.length + l.length) → Mach (Go.V.Call tab E) (Fin i91 [] (.tup [.arr 0 0, .bool ok]) [rowI (if ok then l.map rv else [])]) [.code (.seq (.seq (.reg none [⟨some 16, .faddr 3 (.t 1), none⟩,
      ⟨some 17, .ld false 1 (.t 16), none⟩, ⟨some 18, .lenf (.t 17), none⟩, ⟨some 19, .mov (.k (.int .i64 0)), none⟩]) (.lv [4, 17, 18, 19] (.block 0 (.loop [4, 17, 18, 19] (some (3, [])) b91_0)))) k91_0)] .nrm
      ⟨[(1, .loc 0 0 0), (4, .arr 2 0)], [⟨true, 28, 5, 0, 1, arrX s ch t l, false⟩, ⟨false, 3, 1, 0, 0, [], false⟩, ⟨false, 3, 1, 0, 0, [], false⟩]⟩ := fun hch => by
    simp only [arrX, runes, ints, go_sem, subX3, FL]
    refine mLoop (fun N st => ∃ (i : Nat), i ≤ l.length ∧ N = l.length - i ∧ WhO (l.take i) ∧
      st = ⟨[(4, .arr 2 i), (17, .sl l.length 3 (rtsC l)), (18, .int .i64 l.length), (19, .int .i64 i)],
        [⟨true, 28, 5, 0, 1, arrX s ch t l, false⟩, ⟨false, 3, 1, 0, 0, [], false⟩, ⟨false, 3, 1, i, i, nums .i64 ((l.take i).map rv), false⟩]⟩) l.length
      ⟨_, rfl, 0, by omega, by omega, fun x hx => by simp at hx, by simp [nums, getE, ints, arrX, runes]⟩ ?_
    rintro N s0 ⟨i, hi, rfl, hw, rfl⟩
    by_cases hlt : i < l.length
    · have hlt' : (i : Int) < (l.length : Int) := by omega
      have hi0 : (0 : Int) ≤ (i : Int) := by omega
      have hi1 : IntKind.i64.wrap ((i : Int) + 1) = ((i + 1 : Nat) : Int) := by rw [wrap_i64 (by omega) (by omega)]; omega
      have hsub := sub_rts hlt
      have htk : l.take (i + 1) = l.take i ++ [rtAt l i] := takeAt hlt
      have hwt := WhO_take hlt
      have e1 : (i + 1) * 8 ≤ 140737488355328 := by omega
      have e2 : i + 1 ≤ 140737488355328 := by omega
      have h88 := c128_gen (E := E) (x := rtAt l i)
      cases hr : rint (rtAt l i) with
      | none =>
        have := hfalse (fun h => by have := h.2 _ (rtAt_mem hlt); rw [hr] at this; cases this)
        subst this
        rw [hr] at h88
        simp only [optP, rtC, ratG, us32] at h88
        simp only [b91_0, arrX, runes, ints, go_sem, hlt', hi0, Int.toNat_natCast, hsub, rtC, ratG, us32, subT3, FL]
        refine goR h88 rfl ?_
        simp only [go_sem, FL]
        simp only [i91, OT, reduceIte, Nat.reduceEqDiff, ownOut, ownL, ownV, scalar, List.contains_nil, List.length_nil, List.length_cons, List.nil_append, List.cons_append, storeOp, apartOf, freeze_nil, refsL, refs, List.flatMap_cons, List.flatMap_nil, List.append_nil, List.contains_nil, List.set_cons_zero, List.set_cons_succ, snap, snapL, fill_nums, flat_nums, nums_length, reduceCtorEq, Bool.false_eq_true, and_self, not_false_eq_true, beq_self_eq_true, Nat.zero_add]
        rfl
      | some z =>
        have hz : rv (rtAt l i) = z := rv_of hr
        rw [hr] at h88 hwt
        simp only [optP, rtC, ratG, us32] at h88
        simp only [b91_0, arrX, runes, ints, go_sem, hlt', hi0, Int.toNat_natCast, hsub, rtC, ratG, us32, subT3, FL]
        refine goR h88 rfl ?_
        simp only [go_sem, FL, hi1, e1, e2, List.flatten_cons, List.flatten_nil, Option.getD_some]
        refine loopQ_go rfl (l.length - (i + 1)) (by omega) ⟨i + 1, by omega, rfl, hwt.2 ⟨hw, rfl⟩, ?_⟩
        rw [htk]
        simp only [nums, List.map_append, List.map_cons, List.map_nil, hz, arrX, runes, ints]
        rfl
    · have hlt' : ¬ (i : Int) < (l.length : Int) := by omega
      obtain rfl : i = l.length := by omega
      rw [List.take_length] at hw
      have := hok.2 ⟨hch, hw⟩
      subst this
      simp only [b91_0, k91_0, arrX, runes, ints, go_sem, hlt', List.take_length, Int.lt_irrefl]
      simp only [i91, OT, reduceIte, Nat.reduceEqDiff, ownOut, ownL, ownV, scalar, List.contains_nil, List.length_nil, List.length_cons, List.nil_append, List.cons_append, storeOp, apartOf, freeze_nil, refsL, refs, List.flatMap_cons, List.flatMap_nil, List.append_nil, List.contains_nil, List.set_cons_zero, List.set_cons_succ, snap, snapL, fill_nums, flat_nums, nums_length, reduceCtorEq, Bool.false_eq_true, and_self, not_false_eq_true, beq_self_eq_true, Nat.zero_add]
      simp [rowI]
  cases ch with
  | true =>
    simp only [c91, arrX, runes, ints, go_sem, subX1, subA5, FL]
    refine goP h54 ?_
    by_cases h0 : 0 < t.length + l.length
    · have h0' : (0 : Int) < ((t.length + l.length : Nat) : Int) := by omega
      have := hfalse (fun h => h.1 ⟨rfl, h0⟩)
      subst this
      simp only [go_sem, h0']
      simp only [i91, OT, reduceIte, Nat.reduceEqDiff, ownOut, ownL, ownV, scalar, List.contains_nil, List.length_nil, List.length_cons, List.nil_append, List.cons_append, storeOp, apartOf, freeze_nil, refsL, refs, List.flatMap_cons, List.flatMap_nil, List.append_nil, List.contains_nil, List.set_cons_zero, List.set_cons_succ, snap, snapL, fill_nums, flat_nums, nums_length, reduceCtorEq, Bool.false_eq_true, and_self, not_false_eq_true, beq_self_eq_true, Nat.zero_add]
      rfl
    · have h0' : ¬ (0 : Int) < ((t.length + l.length : Nat) : Int) := by omega
      have hm := main (fun h => h0 h.2)
      simp only [arrX, runes, ints, go_sem, subX3, FL] at hm
      simp only [go_sem, h0', subX3]
      exact hm
  | false =>
    have hm := main (fun h => by cases h.1)
    simp only [arrX, runes, ints, go_sem, subX3, FL] at hm
    simp only [c91, arrX, runes, ints, go_sem, subX1, subX3, subA5, FL]
    exact hm
theorem c66_X {s t : List Int} {l : List Rt} {ch : Bool} (hs : (s.length : Int) ≤ 1000000000000) : Go.V.Call tab E 66 [.agg (arrX s ch t l)] [] (.int .i64 s.length) [] := by
  refine Go.V.Call.mach i66 c66 rfl rfl rfl rfl ?_
  have h69 := c44_X (s := s) (t := t) (l := l) (ch := ch) hs
  simp only [arrX, runes, ints] at h69
  simp only [c66, arrX, runes, ints, go_sem, subA5, FL]
  refine goP h69 ?_
  simp only [go_sem, FL]
  simp only [i66, OT, reduceIte, Nat.reduceEqDiff]
theorem c112_X {l : List Rt} (hl : (l.length : Int) ≤ 1000000000000) : Go.V.Call tab E 112 [.sl l.length 3 (rtsC l)] [] (.arr 0 0) [⟨false, 59, 3, 0, l.length, rtsC l, false⟩] := by
  refine ⟨0, ?_⟩
  have h1 : l.length * 56 ≤ 140737488355328 := by omega
  have h2 : l.length ≤ 140737488355328 := by omega
  simp only [CallN, E, ext, cloneOf, h1, h2, and_self, if_true]
def roomX (s t : List Int) (l : List Rt) : Nat := 16 + 4 * s.length + t.length + bsum l
end Go.Proofs.Ytlejgleocnemoaa.I

namespace Go.Proofs.Ytlejgleocnemoaa.I
open Go Go.V
theorem sgn_mul {a b : Int} : decide (a * b < 0) = ((decide (a < 0) != decide (b < 0)) && decide (a.natAbs * b.natAbs ≠ 0)) := by
  by_cases ha : a < 0
  · by_cases hb : b < 0
    · have h1 := Int.mul_pos_of_neg_of_neg ha hb
      rw [decide_eq_true ha, decide_eq_true hb, decide_eq_false (show ¬ a * b < 0 by omega)]
      rfl
    · rw [decide_eq_true ha, decide_eq_false hb]
      by_cases h0 : b = 0
      · subst h0; simp
      · have h1 := Int.mul_neg_of_neg_of_pos ha (show 0 < b by omega)
        rw [decide_eq_true h1, decide_eq_true (Nat.mul_ne_zero (by omega) (by omega))]
        rfl
  · rw [decide_eq_false ha]
    by_cases hb : b < 0
    · rw [decide_eq_true hb]
      by_cases h0 : a = 0
      · subst h0; simp
      · have h1 := Int.mul_neg_of_pos_of_neg (show 0 < a by omega) hb
        rw [decide_eq_true h1, decide_eq_true (Nat.mul_ne_zero (by omega) (by omega))]
        rfl
    · have h1 := Int.mul_nonneg (show 0 ≤ a by omega) (show 0 ≤ b by omega)
      rw [decide_eq_false hb, decide_eq_false (show ¬ a * b < 0 by omega)]
      rfl
theorem divInt_parts {a b : Int} (hb : b ≠ 0) : (Rat.divInt a b).num.natAbs = a.natAbs / Nat.gcd a.natAbs b.natAbs ∧ (Rat.divInt a b).den = b.natAbs / Nat.gcd a.natAbs b.natAbs ∧
    (decide ((Rat.divInt a b).num < 0)) = ((decide (a < 0) != decide (b < 0)) && decide (a.natAbs / Nat.gcd a.natAbs b.natAbs ≠ 0)) := by
  have hg : Int.gcd b a = Nat.gcd a.natAbs b.natAbs := by rw [Int.gcd_comm]; rfl
  have hgp : 0 < Nat.gcd a.natAbs b.natAbs := Nat.gcd_pos_of_pos_right _ (by omega)
  have hd1 : Nat.gcd a.natAbs b.natAbs ∣ a.natAbs := Nat.gcd_dvd_left _ _
  rw [Rat.num_divInt, Rat.den_divInt, if_neg hb, hg]
  generalize Nat.gcd a.natAbs b.natAbs = g at *
  have hdi : (g : Int) ∣ a := Int.dvd_natAbs.1 (Int.natCast_dvd_natCast.2 hd1)
  obtain ⟨k, hk⟩ := hdi
  have hgz : (g : Int) ≠ 0 := by omega
  have hq : b.sign * a / (g : Int) = b.sign * k := by
    rw [hk, ← Int.mul_assoc, Int.mul_comm b.sign, Int.mul_assoc]
    exact Int.mul_ediv_cancel_left _ hgz
  have hka : a.natAbs / g = k.natAbs := by
    rw [hk, Int.natAbs_mul, Int.natAbs_natCast]
    exact Nat.mul_div_cancel_left _ hgp
  have hs : (b.sign).natAbs = 1 := Int.natAbs_sign_of_ne_zero hb
  rw [hq, hka]
  refine ⟨by rw [Int.natAbs_mul, hs, Nat.one_mul], rfl, ?_⟩
  have hak : decide (a < 0) = decide (k < 0) := by
    by_cases h : k < 0
    · have := Int.mul_neg_of_pos_of_neg (show (0 : Int) < g by omega) h
      rw [decide_eq_true h, decide_eq_true (show a < 0 by omega)]
    · have := Int.mul_nonneg (show (0 : Int) ≤ g by omega) (show 0 ≤ k by omega)
      rw [decide_eq_false h, decide_eq_false (show ¬ a < 0 by omega)]
  rw [hak, sgn_mul]
  have hsb : decide (b.sign < 0) = decide (b < 0) := by
    rcases Int.lt_trichotomy b 0 with h | h | h
    · rw [Int.sign_eq_neg_one_of_neg h]; simp [h]
    · exact absurd h hb
    · rw [Int.sign_eq_one_of_pos h]; simp; omega
  rw [hsb, hs, Nat.one_mul]
  cases decide (b < 0) <;> cases decide (k < 0) <;> rfl
theorem add_divInt (a b : Rat) : Rat.divInt (a.num * b.den + b.num * a.den) ((a.den : Int) * b.den) = a + b := by
  rw [Rat.add_def', ← Rat.divInt_ofNat]; rfl
theorem mul_divInt (a b : Rat) : Rat.divInt (a.num * b.num) ((a.den : Int) * b.den) = a * b := by
  rw [Rat.mul_def', ← Rat.divInt_ofNat]; rfl
theorem div_divInt (a b : Rat) : Rat.divInt (a.num * b.den) ((a.den : Int) * b.num) = a / b := by
  rw [Rat.div_def, Rat.inv_def]
  have : a = Rat.divInt a.num a.den := by rw [Rat.divInt_ofNat]; exact (Rat.mkRat_self a).symm
  conv => rhs; lhs; rw [this]
  rw [Rat.divInt_mul_divInt]
def Sz (k : Nat) (r : Rat) : Prop := r.num.natAbs < 2 ^ k ∧ r.den < 2 ^ k
theorem Sz.mono {i j : Nat} {r : Rat} (h : Sz i r) (hij : i ≤ j) : Sz j r := ⟨Nat.lt_of_lt_of_le h.1 (Nat.pow_le_pow_right (by omega) hij), Nat.lt_of_lt_of_le h.2 (Nat.pow_le_pow_right (by omega) hij)⟩
theorem lt_mul_pow {a b i j : Nat} (ha : a < 2 ^ i) (hb : b < 2 ^ j) : a * b < 2 ^ (i + j) := by
  rw [Nat.pow_add]
  exact Nat.mul_lt_mul'' ha hb
theorem add_num_lt {a b : Rat} {i j : Nat} (ha : Sz i a) (hb : Sz j b) : (a.num * b.den + b.num * a.den).natAbs < 2 ^ (i + j + 1) ∧ ((a.den : Int) * b.den).natAbs < 2 ^ (i + j) := by
  have h1 := lt_mul_pow ha.1 hb.2
  have h2 := lt_mul_pow hb.1 ha.2
  have h3 := lt_mul_pow ha.2 hb.2
  rw [Nat.add_comm j i] at h2
  have e1 : (a.num * b.den).natAbs = a.num.natAbs * b.den := by rw [Int.natAbs_mul, Int.natAbs_natCast]
  have e2 : (b.num * a.den).natAbs = b.num.natAbs * a.den := by rw [Int.natAbs_mul, Int.natAbs_natCast]
  refine ⟨?_, by rw [Int.natAbs_mul, Int.natAbs_natCast, Int.natAbs_natCast]; exact h3⟩
  rw [Nat.pow_succ]
  have := Int.natAbs_add_le (a.num * b.den) (b.num * a.den)
  omega
theorem Sz.of_divInt {a b : Int} {k : Nat} (h1 : a.natAbs < 2 ^ k) (h2 : b.natAbs < 2 ^ k) (hb : b ≠ 0) : Sz k (Rat.divInt a b) := by
  obtain ⟨p1, p2, _⟩ := divInt_parts (a := a) hb
  exact ⟨by rw [p1]; exact Nat.lt_of_le_of_lt (Nat.div_le_self _ _) h1, by rw [p2]; exact Nat.lt_of_le_of_lt (Nat.div_le_self _ _) h2⟩
theorem den_mul_ne {a b : Rat} : ((a.den : Int) * b.den) ≠ 0 := by
  have := a.den_nz; have := b.den_nz
  exact Int.mul_ne_zero (by omega) (by omega)
theorem Sz.add {a b : Rat} {i j : Nat} (ha : Sz i a) (hb : Sz j b) : Sz (i + j + 1) (a + b) := by
  obtain ⟨h1, h2⟩ := add_num_lt ha hb
  rw [← add_divInt]
  exact Sz.of_divInt h1 (Nat.lt_trans h2 (Nat.pow_lt_pow_right (by omega) (by omega))) den_mul_ne
theorem mul_num_lt {a b : Rat} {i j : Nat} (ha : Sz i a) (hb : Sz j b) : (a.num * b.num).natAbs < 2 ^ (i + j) ∧ ((a.den : Int) * b.den).natAbs < 2 ^ (i + j) :=
  ⟨by rw [Int.natAbs_mul]; exact lt_mul_pow ha.1 hb.1, by rw [Int.natAbs_mul, Int.natAbs_natCast, Int.natAbs_natCast]; exact lt_mul_pow ha.2 hb.2⟩
theorem Sz.mul {a b : Rat} {i j : Nat} (ha : Sz i a) (hb : Sz j b) : Sz (i + j) (a * b) := by
  obtain ⟨h1, h2⟩ := mul_num_lt ha hb
  rw [← mul_divInt]
  exact Sz.of_divInt h1 h2 den_mul_ne
theorem div_num_lt {a b : Rat} {i j : Nat} (ha : Sz i a) (hb : Sz j b) : (a.num * b.den).natAbs < 2 ^ (i + j) ∧ ((a.den : Int) * b.num).natAbs < 2 ^ (i + j) :=
  ⟨by rw [Int.natAbs_mul, Int.natAbs_natCast]; exact lt_mul_pow ha.1 hb.2, by rw [Int.natAbs_mul, Int.natAbs_natCast]; exact lt_mul_pow ha.2 hb.1⟩
theorem Sz.div {a b : Rat} {i j : Nat} (ha : Sz i a) (hb : Sz j b) (h0 : b.num ≠ 0) : Sz (i + j) (a / b) := by
  obtain ⟨h1, h2⟩ := div_num_lt ha hb
  rw [← div_divInt]
  exact Sz.of_divInt h1 h2 (Int.mul_ne_zero (by have := a.den_nz; omega) h0)
theorem Sz.neg {a : Rat} {i : Nat} (ha : Sz i a) : Sz i (-a) := by
  unfold Sz
  rw [Rat.neg_num, Rat.neg_den, Int.natAbs_neg]
  exact ha
def rR (r : Rat) : Rt := (decide (r.num < 0), r.num.natAbs, r.den)
def RV (x : Rt) (r : Rat) : Prop := x.1 = decide (r.num < 0) ∧ x.2.1 = r.num.natAbs ∧ dn x.2.2 = r.den
theorem RV.self {r : Rat} : RV (rR r) r := ⟨rfl, rfl, if_neg r.den_nz⟩
theorem RV.zero : RV (false, 0, 0) 0 := ⟨rfl, rfl, rfl⟩
def wI (z : Int) : List AV := whC (decide (z < 0)) z.natAbs
theorem wI_mul {a b : Int} : whC ((decide (a < 0) != decide (b < 0)) && decide (a.natAbs * b.natAbs ≠ 0)) (a.natAbs * b.natAbs) = wI (a * b) := by
  rw [← sgn_mul, ← Int.natAbs_mul]
  rfl
theorem rR_divInt {a b : Int} (hb : b ≠ 0) : ratG ((decide (a < 0) != decide (b < 0)) && decide (a.natAbs / Nat.gcd a.natAbs b.natAbs ≠ 0)) (a.natAbs / Nat.gcd a.natAbs b.natAbs) (b.natAbs / Nat.gcd a.natAbs b.natAbs) = rtC (rR (Rat.divInt a b)) := by
  obtain ⟨h1, h2, h3⟩ := divInt_parts (a := a) hb
  rw [← h3, ← h1, ← h2]
  rfl
theorem limG_two {n k : Nat} (h : n < 2 ^ (32 * k)) : (limG n).length ≤ k := limG_len (by rw [Nat.pow_mul] at h; exact h)
theorem limG_szB {n k : Nat} (B : Nat) (h : n < 2 ^ k) (hk : k ≤ 32 * B) : (limG n).length ≤ B := limG_two (Nat.lt_of_lt_of_le h (Nat.pow_le_pow_right (by omega) hk))
theorem limG_sz {n k : Nat} (h : n < 2 ^ k) (hk : k ≤ 32000000) : (limG n).length ≤ 1000000 := limG_szB _ h (by omega)
def ofN (x : Rt) : Rat := mkRat (if x.1 then -(x.2.1 : Int) else x.2.1) x.2.2
end Go.Proofs.Ytlejgleocnemoaa.I
