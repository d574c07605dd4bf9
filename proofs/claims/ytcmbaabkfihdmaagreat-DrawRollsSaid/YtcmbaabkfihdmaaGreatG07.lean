/- The texts L01q L03a L07b L07f L06e L03b L06f L06h L06i L06j L06k, one behind the other. Conditions: each text's own. -/
import Derived.Test.YtcmbaabkfihdmaaGreatG06
import Derived.Test.YtcmbaabkfihdmaaGreatG05
/- Layer 1: digits are read as a number. -/
set_option linter.unusedVariables false
set_option linter.unusedSimpArgs false
namespace Go.Proofs.YtcmbaabkfihdmaaGreat.I
open Go Go.V
attribute [local go_sem] mNil nat0 beq_self_eq_true mSkip mRet mExit mReg mSeq mCond mTrue mFalse mBlock mLv mCodeE mCodeR mEndN mEndR mEndE mOps mSome mGuard mGtt mGff mGtf mGft mGu mCallP mCallR mCallF mCallO mCallZ mCallG mCallM mCallV loopQ_exit loopQ_ret mO_mov mO_newnil mO_pick mO_alloc mO_box mO_build mO_bsl mO_bslF mO_ldf mO_ld mO_st mO_sta mO_nilchk mO_bin mO_binb mO_binp mO_bins mO_neg mO_com mO_not mO_conv mO_mk mO_mk0 mO_s2b mO_b2s mO_cpy mO_cut mO_faddr mO_fld mO_iaddr mO_iaddrf mO_sidx mO_len mO_lenf mO_slen mO_scut mO_app mO_ext mO_mx mO_mn mO_mkfn evalOp cutOp argsE ev getE putE cellsOf adopt rowOf binV boolV nilV ar_add ar_sub ar_mul ar_quo ar_rem ar_eq ar_ne ar_lt ar_le ar_gt ar_ge ar_and ar_or ar_xor geto bound finRet finNrm ints List.length_cons List.length_nil List.length_append List.getElem?_cons_zero List.getElem?_cons_succ List.nil_append List.cons_append List.map_cons List.map_nil List.mapM_cons List.mapM_nil Option.map_some Option.map_none Option.bind_some Option.pure_def Option.bind_eq_bind List.drop_zero or_self or_false false_or or_true true_or true_and and_true and_self decide_true decide_false Bool.false_eq_true Bool.true_eq_false Bool.not_true Bool.not_false Nat.le_refl eq_self gt_iff_lt ge_iff_le ne_eq not_true_eq_false not_false_eq_true storeOp apartOf freeze_nil refsL refs List.flatMap_cons List.flatMap_nil List.append_nil List.contains_nil List.set_cons_zero List.set_cons_succ snap snapL fill_nums flat_nums nums_length Go.V.freeze List.mapIdx_cons List.mapIdx_nil List.contains_cons Bool.or_false Bool.false_or Bool.or_true Bool.true_or
theorem lim2000_limbs {x : Nat} (h : x < lim2000) : (limG x).length ≤ 208 := by
  refine limG_len (Nat.lt_of_lt_of_le h ?_)
  show lim2000 ≤ 4294967296 ^ 208
  exact of_decide_eq_true (by kernel_rfl)
theorem powN_le {b n m : Nat} (hb : 0 < b) (h : n ≤ m) : b ^ n ≤ powN b m := Nat.pow_le_pow_right hb h
theorem pow10_le {n : Nat} (h : n ≤ 2000) : 10 ^ n ≤ lim2000 := powN_le (by omega) h
theorem Right_lim {l : List Int} (h : RightS l) : sval l < lim2000 := Nat.lt_of_lt_of_le (sval_lt h.1) (pow10_le h.2.2)
theorem sval_drop {l : List Int} {j n : Nat} : sval (l.take (j + n)) = sval (l.take j) * 10 ^ ((l.drop j).take n).length + sval ((l.drop j).take n) := by
  rw [← sval_append, ← List.take_add]
section
variable {E : CallRel}
theorem c73_ok {l : List Int} {b : Bool} (hl : U8 l) (hll : l.length ≤ 1000000000) (hb : b = true ↔ RightS l) : Go.V.Call tab E 73 [.str (bs l)] [] (.tup [natC (if b then sval l else 0), .bool b]) [] := by
  refine Go.V.Call.mach i73 c73 rfl rfl rfl rfl ?_
  have hfalse : ¬ RightS l → b = false := fun h => by rw [← Bool.not_eq_true, hb]; exact h
  have heq : strOp .eq (bs l) (⟨#[]⟩ : ByteArray) = some (.bool (decide (l = []))) := by
    have : (⟨#[]⟩ : ByteArray) = bs [] := rfl
    rw [this]
    simp only [strOp, str_eq hl (show U8 [] from fun x hx => by simp at hx)]
  by_cases h0 : l = []
  · have hbf := hfalse (fun h => by have := h.2.1; rw [h0] at this; simp at this)
    subst hbf
    rw [decide_eq_true h0] at heq
    simp only [c73, natC, us32, go_sem, ↓reduceIte, Nat.reduceEqDiff, Nat.reduceAdd, Nat.reduceMul, Nat.reduceLeDiff, Nat.reduceLT, Int.reduceToNat, Int.reduceLT, Int.reduceLE, reduceCtorEq, Nat.reduceBEq, fillAll, fillIn, shiftR, shiftV, List.take_succ_cons, List.take_zero, List.drop_succ_cons, List.drop_zero, List.append_nil, Nat.zero_add, heq, bs_size]
    simp only [i73, Out, resAll, geto, ints, List.getElem?_cons_zero, List.getElem?_cons_succ, resOf, outOf, snap, snapL, ev, getE, List.mapM_cons, List.mapM_nil, Option.bind_some, Option.pure_def, Option.bind_eq_bind, Option.map_some, reduceIte, Nat.reduceEqDiff, true_and, and_true, sub, fillAll, fillIn, shiftR, shiftV, List.take_succ_cons, List.take_zero, List.drop_succ_cons, List.drop_zero, List.append_nil, Nat.zero_add, List.length_cons, List.length_nil, Nat.le_refl, us32, if_false, Bool.false_eq_true, limG_zero]
    rfl
  rw [decide_eq_false h0] at heq
  by_cases h2 : 2000 < l.length
  · have hbf := hfalse (fun h => by have := h.2.2; omega)
    subst hbf
    have h2' : (2000 : Int) < (l.length : Int) := by omega
    simp only [c73, natC, us32, go_sem, ↓reduceIte, Nat.reduceEqDiff, Nat.reduceAdd, Nat.reduceMul, Nat.reduceLeDiff, Nat.reduceLT, Int.reduceToNat, Int.reduceLT, Int.reduceLE, reduceCtorEq, Nat.reduceBEq, fillAll, fillIn, shiftR, shiftV, List.take_succ_cons, List.take_zero, List.drop_succ_cons, List.drop_zero, List.append_nil, Nat.zero_add, heq, bs_size, h2']
    simp only [i73, Out, resAll, geto, ints, List.getElem?_cons_zero, List.getElem?_cons_succ, resOf, outOf, snap, snapL, ev, getE, List.mapM_cons, List.mapM_nil, Option.bind_some, Option.pure_def, Option.bind_eq_bind, Option.map_some, reduceIte, Nat.reduceEqDiff, true_and, and_true, sub, fillAll, fillIn, shiftR, shiftV, List.take_succ_cons, List.take_zero, List.drop_succ_cons, List.drop_zero, List.append_nil, Nat.zero_add, List.length_cons, List.length_nil, Nat.le_refl, us32, if_false, Bool.false_eq_true, limG_zero]
    rfl
  have h2' : ¬ (2000 : Int) < (l.length : Int) := by omega
  have hlim : ∀ j, Dig (l.take j) → sval (l.take j) < lim2000 := fun j h => by
    refine Nat.lt_of_lt_of_le (sval_lt h) (pow10_le ?_)
    rw [List.length_take]
    omega
  simp only [c73, natC, us32, go_sem, ↓reduceIte, Nat.reduceEqDiff, Nat.reduceAdd, Nat.reduceMul, Nat.reduceLeDiff, Nat.reduceLT, Int.reduceToNat, Int.reduceLT, Int.reduceLE, reduceCtorEq, Nat.reduceBEq, heq, bs_size, h2']
  refine mLoop (fun N st => ∃ (j : Nat) (c : AV) (fr : Bool), j ≤ l.length ∧ N = l.length - j ∧ Dig (l.take j) ∧ ((c = .arr 2 0 ∧ fr = false ∧ sval (l.take j) = 0) ∨ c = us32 (limG (sval (l.take j)))) ∧
    st = ⟨[(0, .str (bs (l.drop j))), (2, .loc 1 0 0), (4, .loc 3 0 0)], [⟨false, 107, 1, 0, 0, [], false⟩, ⟨true, 58, 1, 0, 1, [.arr 0 0], false⟩, ⟨false, 107, 1, 0, 0, [], fr⟩, ⟨true, 58, 1, 0, 1, [c], false⟩]⟩) l.length
    ⟨_, rfl, 0, .arr 2 0, false, by omega, by omega, fun x hx => by simp at hx, .inl ⟨rfl, rfl, rfl⟩, by simp [getE]⟩ ?_
  rintro N s0 ⟨j, c, fr, hj, rfl, hd, hc, rfl⟩
  have hdl : (l.drop j).length = l.length - j := List.length_drop
  by_cases hjl : j < l.length
  · have g1 : (0 : Int) < ((l.length - j : Nat) : Int) := by omega
    obtain ⟨n, hn⟩ : ∃ n, n = min 9 (l.length - j) := ⟨_, rfl⟩
    have hmin : (if ((l.length - j : Nat) : Int) < 9 then ((l.length - j : Nat) : Int) else 9) = (n : Int) := by split <;> omega
    have g2 : (0 : Int) ≤ (n : Int) := by omega
    have g3 : (n : Int) ≤ ((l.length - j : Nat) : Int) := by omega
    obtain ⟨p, hp⟩ : ∃ p, p = (l.drop j).take n := ⟨_, rfl⟩
    have hpl : p.length = n := by rw [hp, List.length_take, hdl]; omega
    have hex : (bs (l.drop j)).extract 0 n = bs p := by rw [bs_extract, hp]; rfl
    have hpU : U8 p := fun x hx => hl x (by rw [hp] at hx; exact List.mem_of_mem_drop (List.mem_of_mem_take hx))
    have hby := bytesAV_bs hpU
    have hex2 : (bs (l.drop j)).extract n (l.length - j) = bs (l.drop (j + n)) := by
      rw [bs_extract, List.take_of_length_le (by omega), List.drop_drop]
    have hsv := sval_drop (l := l) (j := j) (n := n)
    rw [← hp, hpl] at hsv
    have htk : l.take (j + n) = l.take j ++ p := by rw [hp, List.take_add]
    have hx90 := fun i (hi : i ≤ 9) => (Nat.pow_le_pow_right (show 0 < 10 by omega) hi : 10 ^ i ≤ 10 ^ 9)
    rcases hc with ⟨rfl, rfl, hv⟩ | rfl
    · simp only [b73_0, us32, go_sem, ↓reduceIte, Nat.reduceEqDiff, Nat.reduceAdd, Nat.reduceMul, Nat.reduceLeDiff, Nat.reduceLT, Int.reduceToNat, Int.reduceLT, Int.reduceLE, reduceCtorEq, Nat.reduceBEq, bs_size, hdl, g1, hmin, g2, g3, Int.toNat_natCast, hex, hby, hpl]
      refine mLoop (fun N st => ∃ i : Nat, i ≤ n ∧ N = n - i ∧ Dig (p.take i) ∧
        st = ⟨[(0, .str (bs (l.drop j))), (2, .loc 1 0 0), (4, .loc 3 0 0), (5, .int .i64 n), (6, .int .u64 ((sval (p.take i) : Nat) : Int)), (7, .int .u64 ((10 ^ i : Nat) : Int)), (27, .sl n 1 (nums .u8 p)), (28, .int .i64 n), (29, .int .i64 i)],
          [⟨false, 107, 1, 0, 0, [], false⟩, ⟨true, 58, 1, 0, 1, [.arr 0 0], false⟩, ⟨false, 107, 1, 0, 0, [], false⟩, ⟨true, 58, 1, 0, 1, [.arr 2 0], false⟩]⟩) n
        ⟨_, rfl, 0, by omega, by omega, fun x hx => by simp at hx, by simp [getE, sval_nil, us32]⟩ ?_
      rintro N s0 ⟨i, hi, rfl, hdi, rfl⟩
      by_cases hin : i < n
      · have h1 : (i : Int) < (n : Int) := by omega
        have h2 : (0 : Int) ≤ (i : Int) := by omega
        have h3 : IntKind.i64.wrap ((i : Int) + 1) = ((i + 1 : Nat) : Int) := by rw [wrap_i64 (by omega) (by omega)]; omega
        have hsub := sub_nums (k := .u8) (l := p) (i := i) (by omega)
        have hyU := hpU (p.getD i 0) (by simp [List.getD, show i < p.length by omega])
        have htd := Dig_take (l := p) (i := i) (by omega)
        have hts := sval_take (l := p) (i := i) (by omega)
        have hlt := sval_lt hdi
        rw [List.length_take, hpl, Nat.min_eq_left (by omega)] at hlt
        have h99 := hx90 i (by omega)
        have hps : 10 ^ (i + 1) = 10 * 10 ^ i := by rw [Nat.pow_succ, Nat.mul_comm]
        generalize p.getD i 0 = y at *
        have bad : ¬ (48 ≤ y ∧ y ≤ 57) → b = false := fun h => hfalse (fun hr => h (by
          have : Dig (l.take (j + n)) := fun z hz => hr.1 z (List.mem_of_mem_take hz)
          rw [htk, Dig_app] at this
          exact (htd.1 (fun z hz => this.2 z (List.mem_of_mem_take hz))).2))
        by_cases y1 : y < 48
        · have hbf := bad (by omega)
          subst hbf
          simp only [b73_1, us32, go_sem, ↓reduceIte, Nat.reduceEqDiff, Nat.reduceAdd, Nat.reduceMul, Nat.reduceLeDiff, Nat.reduceLT, Int.reduceToNat, Int.reduceLT, Int.reduceLE, reduceCtorEq, Nat.reduceBEq, fillAll, fillIn, shiftR, shiftV, List.take_succ_cons, List.take_zero, List.drop_succ_cons, List.drop_zero, List.append_nil, Nat.zero_add, h1, h2, Int.toNat_natCast, hsub, y1]
          simp only [i73, Out, resAll, geto, ints, List.getElem?_cons_zero, List.getElem?_cons_succ, resOf, outOf, snap, snapL, ev, getE, List.mapM_cons, List.mapM_nil, Option.bind_some, Option.pure_def, Option.bind_eq_bind, Option.map_some, reduceIte, Nat.reduceEqDiff, true_and, and_true, sub, fillAll, fillIn, shiftR, shiftV, List.take_succ_cons, List.take_zero, List.drop_succ_cons, List.drop_zero, List.append_nil, Nat.zero_add, List.length_cons, List.length_nil, Nat.le_refl, us32, if_false, Bool.false_eq_true, limG_zero]
          rfl
        · by_cases y2 : 57 < y
          · have hbf := bad (by omega)
            subst hbf
            simp only [b73_1, us32, go_sem, ↓reduceIte, Nat.reduceEqDiff, Nat.reduceAdd, Nat.reduceMul, Nat.reduceLeDiff, Nat.reduceLT, Int.reduceToNat, Int.reduceLT, Int.reduceLE, reduceCtorEq, Nat.reduceBEq, fillAll, fillIn, shiftR, shiftV, List.take_succ_cons, List.take_zero, List.drop_succ_cons, List.drop_zero, List.append_nil, Nat.zero_add, h1, h2, Int.toNat_natCast, hsub, y1, y2]
            simp only [i73, Out, resAll, geto, ints, List.getElem?_cons_zero, List.getElem?_cons_succ, resOf, outOf, snap, snapL, ev, getE, List.mapM_cons, List.mapM_nil, Option.bind_some, Option.pure_def, Option.bind_eq_bind, Option.map_some, reduceIte, Nat.reduceEqDiff, true_and, and_true, sub, fillAll, fillIn, shiftR, shiftV, List.take_succ_cons, List.take_zero, List.drop_succ_cons, List.drop_zero, List.append_nil, Nat.zero_add, List.length_cons, List.length_nil, Nat.le_refl, us32, if_false, Bool.false_eq_true, limG_zero]
            rfl
          · have w1 : IntKind.u8.wrap (y - 48) = (((y - 48).toNat : Nat) : Int) := by
              simp only [IntKind.wrap, IntKind.bits, IntKind.signed]
              simp
              omega
            have w2 : IntKind.u64.wrap (((y - 48).toNat : Nat) : Int) = (((y - 48).toNat : Nat) : Int) := wrap_u64 (by omega) (by omega)
            have w3 : IntKind.u64.wrap (10 * ((sval (p.take i) : Nat) : Int)) = ((10 * sval (p.take i) : Nat) : Int) := by rw [wrap_u64 (by omega) (by omega)]; omega
            have w4 : IntKind.u64.wrap (((10 * sval (p.take i) : Nat) : Int) + (((y - 48).toNat : Nat) : Int)) = ((sval (p.take (i + 1)) : Nat) : Int) := by rw [hts, wrap_u64 (by omega) (by omega)]; omega
            have w5 : IntKind.u64.wrap (10 * ((10 ^ i : Nat) : Int)) = ((10 ^ (i + 1) : Nat) : Int) := by rw [hps, wrap_u64 (by omega) (by omega)]; omega
            simp only [b73_1, us32, go_sem, ↓reduceIte, Nat.reduceEqDiff, Nat.reduceAdd, Nat.reduceMul, Nat.reduceLeDiff, Nat.reduceLT, Int.reduceToNat, Int.reduceLT, Int.reduceLE, reduceCtorEq, Nat.reduceBEq, h1, h2, h3, Int.toNat_natCast, hsub, y1, y2, w1, w2, w3, w4, w5]
            exact loopQ_go rfl (n - (i + 1)) (by omega) ⟨i + 1, by omega, rfl, htd.2 ⟨hdi, by omega, by omega⟩, rfl⟩
      · have h1 : ¬ (i : Int) < (n : Int) := by omega
        obtain rfl : i = n := by omega
        rw [List.take_of_length_le (by omega)] at hdi
        have hps : p.take p.length = p := List.take_length
        have hlt := sval_lt hdi
        rw [hpl] at hlt
        have h99 := hx90 i (by omega)
        have hdn : Dig (l.take (j + i)) := by rw [htk, Dig_app]; exact ⟨hd, hdi⟩
        have hln := hlim _ hdn
        have h90s := c37_nat (E := E) (n := 10 ^ i) (by omega)
        have h90x := c37_nat (E := E) (n := sval p) (by omega)
        have hv1 : sval (l.take j) * 10 ^ i < lim2000 := by omega
        have hl1 := lim2000_limbs hv1
        have hl2 : (limG (sval p)).length ≤ 2 := limG_len (by omega)
        have hl3 : (limG (10 ^ i)).length ≤ 2 := limG_len (by omega)
        have hl4 := lim2000_limbs (hlim _ hd)
        have h133 := c70_ok (E := E) (a := sval (l.take j)) (b := 10 ^ i) (by omega) (by omega)
        have h134 := c92_ok (E := E) (a := sval (l.take j) * 10 ^ i) (b := sval p) (by omega) (by omega)
        rw [← hsv] at h134
        have ht : p.take i = p := List.take_of_length_le (by omega)
        simp only [natC] at h90s h90x h133 h134
        rw [hv, limG_zero] at h133
        rw [hv] at h134
        simp only [us32] at h90s h90x h133 h134
        simp only [b73_1, k73_0, us32, go_sem, ↓reduceIte, Nat.reduceEqDiff, Nat.reduceAdd, Nat.reduceMul, Nat.reduceLeDiff, Nat.reduceLT, Int.reduceToNat, Int.reduceLT, Int.reduceLE, reduceCtorEq, Nat.reduceBEq, subB1, subT1, h1, ht, Int.toNat_natCast]
        refine goP h90s ?_
        simp only [us32, go_sem, ↓reduceIte, Nat.reduceEqDiff, Nat.reduceAdd, Nat.reduceMul, Nat.reduceLeDiff, Nat.reduceLT, Int.reduceToNat, Int.reduceLT, Int.reduceLE, reduceCtorEq, Nat.reduceBEq, subB1, subT1]
        refine goF h133 ?_
        simp only [us32, go_sem, ↓reduceIte, Nat.reduceEqDiff, Nat.reduceAdd, Nat.reduceMul, Nat.reduceLeDiff, Nat.reduceLT, Int.reduceToNat, Int.reduceLT, Int.reduceLE, reduceCtorEq, Nat.reduceBEq, subB1, subT1]
        refine goP h90x ?_
        simp only [us32, go_sem, ↓reduceIte, Nat.reduceEqDiff, Nat.reduceAdd, Nat.reduceMul, Nat.reduceLeDiff, Nat.reduceLT, Int.reduceToNat, Int.reduceLT, Int.reduceLE, reduceCtorEq, Nat.reduceBEq, subB1, subT1]
        refine goP h134 ?_
        simp only [us32, go_sem, ↓reduceIte, Nat.reduceEqDiff, Nat.reduceAdd, Nat.reduceMul, Nat.reduceLeDiff, Nat.reduceLT, Int.reduceToNat, Int.reduceLT, Int.reduceLE, reduceCtorEq, Nat.reduceBEq, fillAll, fillIn, shiftR, shiftV, List.take_succ_cons, List.take_zero, List.drop_succ_cons, List.drop_zero, List.append_nil, Nat.zero_add, subB1, subT1, bs_size, hdl, g2, g3, Int.toNat_natCast, hex2]
        exact loopQ_go rfl (l.length - (j + i)) (by omega) ⟨j + i, _, _, by omega, rfl, hdn, .inr rfl, rfl⟩
    · simp only [b73_0, us32, go_sem, ↓reduceIte, Nat.reduceEqDiff, Nat.reduceAdd, Nat.reduceMul, Nat.reduceLeDiff, Nat.reduceLT, Int.reduceToNat, Int.reduceLT, Int.reduceLE, reduceCtorEq, Nat.reduceBEq, bs_size, hdl, g1, hmin, g2, g3, Int.toNat_natCast, hex, hby, hpl]
      refine mLoop (fun N st => ∃ i : Nat, i ≤ n ∧ N = n - i ∧ Dig (p.take i) ∧
        st = ⟨[(0, .str (bs (l.drop j))), (2, .loc 1 0 0), (4, .loc 3 0 0), (5, .int .i64 n), (6, .int .u64 ((sval (p.take i) : Nat) : Int)), (7, .int .u64 ((10 ^ i : Nat) : Int)), (27, .sl n 1 (nums .u8 p)), (28, .int .i64 n), (29, .int .i64 i)],
          [⟨false, 107, 1, 0, 0, [], false⟩, ⟨true, 58, 1, 0, 1, [.arr 0 0], false⟩, ⟨false, 107, 1, 0, 0, [], fr⟩, ⟨true, 58, 1, 0, 1, [us32 (limG (sval (l.take j)))], false⟩]⟩) n
        ⟨_, rfl, 0, by omega, by omega, fun x hx => by simp at hx, by simp [getE, sval_nil, us32]⟩ ?_
      rintro N s0 ⟨i, hi, rfl, hdi, rfl⟩
      by_cases hin : i < n
      · have h1 : (i : Int) < (n : Int) := by omega
        have h2 : (0 : Int) ≤ (i : Int) := by omega
        have h3 : IntKind.i64.wrap ((i : Int) + 1) = ((i + 1 : Nat) : Int) := by rw [wrap_i64 (by omega) (by omega)]; omega
        have hsub := sub_nums (k := .u8) (l := p) (i := i) (by omega)
        have hyU := hpU (p.getD i 0) (by simp [List.getD, show i < p.length by omega])
        have htd := Dig_take (l := p) (i := i) (by omega)
        have hts := sval_take (l := p) (i := i) (by omega)
        have hlt := sval_lt hdi
        rw [List.length_take, hpl, Nat.min_eq_left (by omega)] at hlt
        have h99 := hx90 i (by omega)
        have hps : 10 ^ (i + 1) = 10 * 10 ^ i := by rw [Nat.pow_succ, Nat.mul_comm]
        generalize p.getD i 0 = y at *
        have bad : ¬ (48 ≤ y ∧ y ≤ 57) → b = false := fun h => hfalse (fun hr => h (by
          have : Dig (l.take (j + n)) := fun z hz => hr.1 z (List.mem_of_mem_take hz)
          rw [htk, Dig_app] at this
          exact (htd.1 (fun z hz => this.2 z (List.mem_of_mem_take hz))).2))
        by_cases y1 : y < 48
        · have hbf := bad (by omega)
          subst hbf
          simp only [b73_1, us32, go_sem, ↓reduceIte, Nat.reduceEqDiff, Nat.reduceAdd, Nat.reduceMul, Nat.reduceLeDiff, Nat.reduceLT, Int.reduceToNat, Int.reduceLT, Int.reduceLE, reduceCtorEq, Nat.reduceBEq, fillAll, fillIn, shiftR, shiftV, List.take_succ_cons, List.take_zero, List.drop_succ_cons, List.drop_zero, List.append_nil, Nat.zero_add, h1, h2, Int.toNat_natCast, hsub, y1]
          simp only [i73, Out, resAll, geto, ints, List.getElem?_cons_zero, List.getElem?_cons_succ, resOf, outOf, snap, snapL, ev, getE, List.mapM_cons, List.mapM_nil, Option.bind_some, Option.pure_def, Option.bind_eq_bind, Option.map_some, reduceIte, Nat.reduceEqDiff, true_and, and_true, sub, fillAll, fillIn, shiftR, shiftV, List.take_succ_cons, List.take_zero, List.drop_succ_cons, List.drop_zero, List.append_nil, Nat.zero_add, List.length_cons, List.length_nil, Nat.le_refl, us32, if_false, Bool.false_eq_true, limG_zero]
          rfl
        · by_cases y2 : 57 < y
          · have hbf := bad (by omega)
            subst hbf
            simp only [b73_1, us32, go_sem, ↓reduceIte, Nat.reduceEqDiff, Nat.reduceAdd, Nat.reduceMul, Nat.reduceLeDiff, Nat.reduceLT, Int.reduceToNat, Int.reduceLT, Int.reduceLE, reduceCtorEq, Nat.reduceBEq, fillAll, fillIn, shiftR, shiftV, List.take_succ_cons, List.take_zero, List.drop_succ_cons, List.drop_zero, List.append_nil, Nat.zero_add, h1, h2, Int.toNat_natCast, hsub, y1, y2]
            simp only [i73, Out, resAll, geto, ints, List.getElem?_cons_zero, List.getElem?_cons_succ, resOf, outOf, snap, snapL, ev, getE, List.mapM_cons, List.mapM_nil, Option.bind_some, Option.pure_def, Option.bind_eq_bind, Option.map_some, reduceIte, Nat.reduceEqDiff, true_and, and_true, sub, fillAll, fillIn, shiftR, shiftV, List.take_succ_cons, List.take_zero, List.drop_succ_cons, List.drop_zero, List.append_nil, Nat.zero_add, List.length_cons, List.length_nil, Nat.le_refl, us32, if_false, Bool.false_eq_true, limG_zero]
            rfl
          · have w1 : IntKind.u8.wrap (y - 48) = (((y - 48).toNat : Nat) : Int) := by
              simp only [IntKind.wrap, IntKind.bits, IntKind.signed]
              simp
              omega
            have w2 : IntKind.u64.wrap (((y - 48).toNat : Nat) : Int) = (((y - 48).toNat : Nat) : Int) := wrap_u64 (by omega) (by omega)
            have w3 : IntKind.u64.wrap (10 * ((sval (p.take i) : Nat) : Int)) = ((10 * sval (p.take i) : Nat) : Int) := by rw [wrap_u64 (by omega) (by omega)]; omega
            have w4 : IntKind.u64.wrap (((10 * sval (p.take i) : Nat) : Int) + (((y - 48).toNat : Nat) : Int)) = ((sval (p.take (i + 1)) : Nat) : Int) := by rw [hts, wrap_u64 (by omega) (by omega)]; omega
            have w5 : IntKind.u64.wrap (10 * ((10 ^ i : Nat) : Int)) = ((10 ^ (i + 1) : Nat) : Int) := by rw [hps, wrap_u64 (by omega) (by omega)]; omega
            simp only [b73_1, us32, go_sem, ↓reduceIte, Nat.reduceEqDiff, Nat.reduceAdd, Nat.reduceMul, Nat.reduceLeDiff, Nat.reduceLT, Int.reduceToNat, Int.reduceLT, Int.reduceLE, reduceCtorEq, Nat.reduceBEq, h1, h2, h3, Int.toNat_natCast, hsub, y1, y2, w1, w2, w3, w4, w5]
            exact loopQ_go rfl (n - (i + 1)) (by omega) ⟨i + 1, by omega, rfl, htd.2 ⟨hdi, by omega, by omega⟩, rfl⟩
      · have h1 : ¬ (i : Int) < (n : Int) := by omega
        obtain rfl : i = n := by omega
        rw [List.take_of_length_le (by omega)] at hdi
        have hps : p.take p.length = p := List.take_length
        have hlt := sval_lt hdi
        rw [hpl] at hlt
        have h99 := hx90 i (by omega)
        have hdn : Dig (l.take (j + i)) := by rw [htk, Dig_app]; exact ⟨hd, hdi⟩
        have hln := hlim _ hdn
        have h90s := c37_nat (E := E) (n := 10 ^ i) (by omega)
        have h90x := c37_nat (E := E) (n := sval p) (by omega)
        have hv1 : sval (l.take j) * 10 ^ i < lim2000 := by omega
        have hl1 := lim2000_limbs hv1
        have hl2 : (limG (sval p)).length ≤ 2 := limG_len (by omega)
        have hl3 : (limG (10 ^ i)).length ≤ 2 := limG_len (by omega)
        have hl4 := lim2000_limbs (hlim _ hd)
        have h133 := c70_ok (E := E) (a := sval (l.take j)) (b := 10 ^ i) (by omega) (by omega)
        have h134 := c92_ok (E := E) (a := sval (l.take j) * 10 ^ i) (b := sval p) (by omega) (by omega)
        rw [← hsv] at h134
        have ht : p.take i = p := List.take_of_length_le (by omega)
        simp only [natC] at h90s h90x h133 h134
        simp only [us32] at h90s h90x h133 h134
        simp only [b73_1, k73_0, us32, go_sem, ↓reduceIte, Nat.reduceEqDiff, Nat.reduceAdd, Nat.reduceMul, Nat.reduceLeDiff, Nat.reduceLT, Int.reduceToNat, Int.reduceLT, Int.reduceLE, reduceCtorEq, Nat.reduceBEq, subB1, subT1, h1, ht, Int.toNat_natCast]
        refine goP h90s ?_
        simp only [us32, go_sem, ↓reduceIte, Nat.reduceEqDiff, Nat.reduceAdd, Nat.reduceMul, Nat.reduceLeDiff, Nat.reduceLT, Int.reduceToNat, Int.reduceLT, Int.reduceLE, reduceCtorEq, Nat.reduceBEq, subB1, subT1]
        refine goF h133 ?_
        simp only [us32, go_sem, ↓reduceIte, Nat.reduceEqDiff, Nat.reduceAdd, Nat.reduceMul, Nat.reduceLeDiff, Nat.reduceLT, Int.reduceToNat, Int.reduceLT, Int.reduceLE, reduceCtorEq, Nat.reduceBEq, subB1, subT1]
        refine goP h90x ?_
        simp only [us32, go_sem, ↓reduceIte, Nat.reduceEqDiff, Nat.reduceAdd, Nat.reduceMul, Nat.reduceLeDiff, Nat.reduceLT, Int.reduceToNat, Int.reduceLT, Int.reduceLE, reduceCtorEq, Nat.reduceBEq, subB1, subT1]
        refine goP h134 ?_
        simp only [us32, go_sem, ↓reduceIte, Nat.reduceEqDiff, Nat.reduceAdd, Nat.reduceMul, Nat.reduceLeDiff, Nat.reduceLT, Int.reduceToNat, Int.reduceLT, Int.reduceLE, reduceCtorEq, Nat.reduceBEq, fillAll, fillIn, shiftR, shiftV, List.take_succ_cons, List.take_zero, List.drop_succ_cons, List.drop_zero, List.append_nil, Nat.zero_add, subB1, subT1, bs_size, hdl, g2, g3, Int.toNat_natCast, hex2]
        exact loopQ_go rfl (l.length - (j + i)) (by omega) ⟨j + i, _, _, by omega, rfl, hdn, .inr rfl, rfl⟩
  · have g1 : ¬ (0 : Int) < ((l.length - j : Nat) : Int) := by omega
    obtain rfl : j = l.length := by omega
    rw [List.take_length] at hd hc
    have hbt : b = true := hb.2 ⟨hd, by
      rcases Nat.eq_zero_or_pos l.length with h | h
      · exact absurd (List.length_eq_zero_iff.1 h) h0
      · exact h, by omega⟩
    subst hbt
    rcases hc with ⟨rfl, rfl, hv⟩ | rfl
    · simp only [b73_0, k73_1, us32, go_sem, ↓reduceIte, Nat.reduceEqDiff, Nat.reduceAdd, Nat.reduceMul, Nat.reduceLeDiff, Nat.reduceLT, Int.reduceToNat, Int.reduceLT, Int.reduceLE, reduceCtorEq, Nat.reduceBEq, bs_size, hdl, g1, subB1, subT1, fillAll, fillIn, shiftR, shiftV, List.take_succ_cons, List.take_zero, List.drop_succ_cons, List.drop_zero, List.append_nil, Nat.zero_add]
      simp only [i73, Out, resAll, geto, ints, List.getElem?_cons_zero, List.getElem?_cons_succ, resOf, outOf, snap, snapL, ev, getE, List.mapM_cons, List.mapM_nil, Option.bind_some, Option.pure_def, Option.bind_eq_bind, Option.map_some, reduceIte, Nat.reduceEqDiff, true_and, and_true, sub, fillAll, fillIn, shiftR, shiftV, List.take_succ_cons, List.take_zero, List.drop_succ_cons, List.drop_zero, List.append_nil, Nat.zero_add, List.length_cons, List.length_nil, Nat.le_refl, us32, if_true, hv, limG_zero]
      rfl
    · simp only [b73_0, k73_1, us32, go_sem, ↓reduceIte, Nat.reduceEqDiff, Nat.reduceAdd, Nat.reduceMul, Nat.reduceLeDiff, Nat.reduceLT, Int.reduceToNat, Int.reduceLT, Int.reduceLE, reduceCtorEq, Nat.reduceBEq, bs_size, hdl, g1, subB1, subT1, fillAll, fillIn, shiftR, shiftV, List.take_succ_cons, List.take_zero, List.drop_succ_cons, List.drop_zero, List.append_nil, Nat.zero_add]
      simp only [i73, Out, resAll, geto, ints, List.getElem?_cons_zero, List.getElem?_cons_succ, resOf, outOf, snap, snapL, ev, getE, List.mapM_cons, List.mapM_nil, Option.bind_some, Option.pure_def, Option.bind_eq_bind, Option.map_some, reduceIte, Nat.reduceEqDiff, true_and, and_true, sub, fillAll, fillIn, shiftR, shiftV, List.take_succ_cons, List.take_zero, List.drop_succ_cons, List.drop_zero, List.append_nil, Nat.zero_add, List.length_cons, List.length_nil, Nat.le_refl, us32, if_true]
end
end Go.Proofs.YtcmbaabkfihdmaaGreat.I

/- Layer 3: exact numbers, made and told. -/
set_option linter.unusedVariables false
set_option linter.unusedSimpArgs false
namespace Go.Proofs.YtcmbaabkfihdmaaGreat.I
open Go Go.V
attribute [local go_sem] mNil nat0 beq_self_eq_true mSkip mRet mExit mReg mSeq mCond mTrue mFalse mBlock mLv mCodeE mCodeR mEndN mEndR mEndE mOps mSome mGuard mGtt mGff mGtf mGft mGu mCallP mCallR mCallF mCallO mCallZ mCallG mCallM mCallV loopQ_exit loopQ_ret mO_mov mO_newnil mO_pick mO_alloc mO_box mO_build mO_bsl mO_bslF mO_ldf mO_ld mO_st mO_sta mO_nilchk mO_bin mO_binb mO_binp mO_bins mO_neg mO_com mO_not mO_conv mO_mk mO_mk0 mO_s2b mO_b2s mO_cpy mO_cut mO_faddr mO_fld mO_iaddr mO_iaddrf mO_sidx mO_len mO_lenf mO_slen mO_scut mO_app mO_ext mO_mx mO_mn mO_mkfn evalOp cutOp argsE ev getE putE cellsOf adopt rowOf binV boolV nilV ar_add ar_sub ar_mul ar_quo ar_rem ar_eq ar_ne ar_lt ar_le ar_gt ar_ge ar_and ar_or ar_xor geto bound finRet finNrm ints List.length_cons List.length_nil List.length_append List.getElem?_cons_zero List.getElem?_cons_succ List.nil_append List.cons_append List.map_cons List.map_nil List.mapM_cons List.mapM_nil Option.map_some Option.map_none Option.bind_some Option.pure_def Option.bind_eq_bind List.drop_zero or_self or_false false_or or_true true_or true_and and_true and_self decide_true decide_false Bool.false_eq_true Bool.true_eq_false Bool.not_true Bool.not_false Nat.le_refl eq_self gt_iff_lt ge_iff_le ne_eq not_true_eq_false not_false_eq_true storeOp apartOf freeze_nil refsL refs List.flatMap_cons List.flatMap_nil List.append_nil List.contains_nil List.set_cons_zero List.set_cons_succ snap snapL fill_nums flat_nums nums_length Go.V.freeze List.mapIdx_cons List.mapIdx_nil List.contains_cons Bool.or_false Bool.false_or Bool.or_true Bool.true_or
/-- An exact number in the program: the sign, above and below the line; 0 below the line stands for 1. -/
def ratG (n : Bool) (p q : Nat) : List AV := [us32 (limG p), .bool n, us32 (limG q)]
/-- An exact number on the page. -/
def numG (n : Bool) (p q : Nat) : List AV := [.bool n, .str (dec p), .str (dec q)]
def dn (q : Nat) : Nat := if q = 0 then 1 else q
section
variable {E : CallRel}
theorem c64_nat {n : Nat} : Go.V.Call tab E 64 [natC n] [] (.bool (decide (n = 0))) [] := by
  have h := c64_ok (E := E) (l := limG n)
  by_cases h0 : n = 0
  · subst h0
    rw [limG_zero] at h
    rw [natC, limG_zero, decide_eq_true rfl]
    exact h
  · have : (((limG n).length : Int) == 0) = false := by
      rw [beq_eq_false_iff_ne]
      intro h1
      exact h0 (limG_len0 (by omega))
    rw [this] at h
    rw [decide_eq_false h0]
    exact h
theorem c69_gen {n : Bool} {p : Nat} : Go.V.Call tab E 69 [.agg [us32 (limG p), .bool n]] [] (.bool n) [] := by
  refine Go.V.Call.mach i69 c69 rfl rfl rfl rfl ?_
  simp only [c69, us32, go_sem, ↓reduceIte, Nat.reduceEqDiff, Nat.reduceAdd, Nat.reduceMul, Nat.reduceLeDiff, Nat.reduceLT, Int.reduceToNat, Int.reduceLT, Int.reduceLE, reduceCtorEq, Nat.reduceBEq, sub, fillAll, fillIn, shiftR, shiftV, List.take_succ_cons, List.take_zero, List.drop_succ_cons, List.drop_zero, List.append_nil, Nat.zero_add]
  simp only [i69, Out, resAll, geto, ints, List.getElem?_cons_zero, List.getElem?_cons_succ, resOf, outOf, snap, snapL, ev, getE, List.mapM_cons, List.mapM_nil, Option.bind_some, Option.pure_def, Option.bind_eq_bind, Option.map_some, reduceIte, Nat.reduceEqDiff, true_and, and_true]
theorem c66_gen {n : Bool} {p : Nat} : Go.V.Call tab E 66 [.agg [us32 (limG p), .bool n]] [] (natC p) [] := by
  refine Go.V.Call.mach i66 c66 rfl rfl rfl rfl ?_
  simp only [c66, natC, us32, go_sem, ↓reduceIte, Nat.reduceEqDiff, Nat.reduceAdd, Nat.reduceMul, Nat.reduceLeDiff, Nat.reduceLT, Int.reduceToNat, Int.reduceLT, Int.reduceLE, reduceCtorEq, Nat.reduceBEq, sub, fillAll, fillIn, shiftR, shiftV, List.take_succ_cons, List.take_zero, List.drop_succ_cons, List.drop_zero, List.append_nil, Nat.zero_add]
  simp only [i66, Out, resAll, geto, ints, List.getElem?_cons_zero, List.getElem?_cons_succ, resOf, outOf, snap, snapL, ev, getE, List.mapM_cons, List.mapM_nil, Option.bind_some, Option.pure_def, Option.bind_eq_bind, Option.map_some, reduceIte, Nat.reduceEqDiff, true_and, and_true, sub, fillAll, fillIn, shiftR, shiftV, List.take_succ_cons, List.take_zero, List.drop_succ_cons, List.drop_zero, List.append_nil, Nat.zero_add, List.length_cons, List.length_nil, Nat.le_refl, us32]
theorem c71_gen {n : Bool} {p q : Nat} : Go.V.Call tab E 71 [.agg (ratG n p q)] [] (natC (dn q)) [] := by
  refine Go.V.Call.mach i71 c71 rfl rfl rfl rfl ?_
  have h124 := c64_nat (E := E) (n := q)
  simp only [natC, us32] at h124
  simp only [c71, natC, ratG, us32, go_sem, ↓reduceIte, Nat.reduceEqDiff, Nat.reduceAdd, Nat.reduceMul, Nat.reduceLeDiff, Nat.reduceLT, Int.reduceToNat, Int.reduceLT, Int.reduceLE, reduceCtorEq, Nat.reduceBEq, sub, fillAll, fillIn, shiftR, shiftV, List.take_succ_cons, List.take_zero, List.drop_succ_cons, List.drop_zero, List.append_nil, Nat.zero_add]
  refine goP h124 ?_
  by_cases h : q = 0
  · subst h
    have h90 := c37_nat (E := E) (n := 1) (by omega)
    simp only [natC, us32] at h90
    simp only [dn, us32, go_sem, ↓reduceIte, Nat.reduceEqDiff, Nat.reduceAdd, Nat.reduceMul, Nat.reduceLeDiff, Nat.reduceLT, Int.reduceToNat, Int.reduceLT, Int.reduceLE, reduceCtorEq, Nat.reduceBEq, sub, fillAll, fillIn, shiftR, shiftV, List.take_succ_cons, List.take_zero, List.drop_succ_cons, List.drop_zero, List.append_nil, Nat.zero_add]
    refine goP h90 ?_
    simp only [us32, go_sem, ↓reduceIte, Nat.reduceEqDiff, Nat.reduceAdd, Nat.reduceMul, Nat.reduceLeDiff, Nat.reduceLT, Int.reduceToNat, Int.reduceLT, Int.reduceLE, reduceCtorEq, Nat.reduceBEq, sub, fillAll, fillIn, shiftR, shiftV, List.take_succ_cons, List.take_zero, List.drop_succ_cons, List.drop_zero, List.append_nil, Nat.zero_add]
    simp only [i71, Out, resAll, geto, ints, List.getElem?_cons_zero, List.getElem?_cons_succ, resOf, outOf, snap, snapL, ev, getE, List.mapM_cons, List.mapM_nil, Option.bind_some, Option.pure_def, Option.bind_eq_bind, Option.map_some, reduceIte, Nat.reduceEqDiff, true_and, and_true, sub, fillAll, fillIn, shiftR, shiftV, List.take_succ_cons, List.take_zero, List.drop_succ_cons, List.drop_zero, List.append_nil, Nat.zero_add, List.length_cons, List.length_nil, Nat.le_refl, us32]
  · simp only [dn, us32, go_sem, ↓reduceIte, Nat.reduceEqDiff, Nat.reduceAdd, Nat.reduceMul, Nat.reduceLeDiff, Nat.reduceLT, Int.reduceToNat, Int.reduceLT, Int.reduceLE, reduceCtorEq, Nat.reduceBEq, sub, fillAll, fillIn, shiftR, shiftV, List.take_succ_cons, List.take_zero, List.drop_succ_cons, List.drop_zero, List.append_nil, Nat.zero_add, h]
    simp only [i71, Out, resAll, geto, ints, List.getElem?_cons_zero, List.getElem?_cons_succ, resOf, outOf, snap, snapL, ev, getE, List.mapM_cons, List.mapM_nil, Option.bind_some, Option.pure_def, Option.bind_eq_bind, Option.map_some, reduceIte, Nat.reduceEqDiff, true_and, and_true, sub, fillAll, fillIn, shiftR, shiftV, List.take_succ_cons, List.take_zero, List.drop_succ_cons, List.drop_zero, List.append_nil, Nat.zero_add, List.length_cons, List.length_nil, Nat.le_refl, us32]
theorem dgs_small {n : Nat} (h : n < lim2000) : (dgs n).length ≤ 1000000 := by
  by_cases h0 : n = 0
  · subst h0; rw [dgs_zero]; simp
  · have := lim2000_len h
    unfold decL at this
    rw [if_neg h0, List.length_reverse, asc_len] at this
    omega
theorem c84_lim {n : Nat} (h : n < lim2000) : Go.V.Call tab E 84 [natC n] [] (.str (dec n)) [] :=
  c84_ok (Nat.le_trans (lim2000_limbs h) (by omega)) (dgs_small h)
theorem c57_gen {n : Bool} {p q : Nat} (hp : p < lim2000) (hq : dn q < lim2000) : Go.V.Call tab E 57 [.agg (ratG n p q)] [] (.agg (numG n p (dn q))) [] := by
  have h99 := c84_lim (E := E) hp
  have h991 := c84_lim (E := E) hq
  have h98 := c69_gen (E := E) (n := n) (p := p)
  have h100 := c71_gen (E := E) (n := n) (p := p) (q := q)
  simp only [natC, us32, ratG] at h99 h991 h98 h100
  refine Go.V.Call.mach i57 c57 rfl rfl rfl rfl ?_
  simp only [c57, ratG, us32, go_sem, ↓reduceIte, Nat.reduceEqDiff, Nat.reduceAdd, Nat.reduceMul, Nat.reduceLeDiff, Nat.reduceLT, Int.reduceToNat, Int.reduceLT, Int.reduceLE, reduceCtorEq, Nat.reduceBEq, sub, fillAll, fillIn, shiftR, shiftV, List.take_succ_cons, List.take_zero, List.drop_succ_cons, List.drop_zero, List.append_nil, Nat.zero_add]
  refine goP h98 ?_
  simp only [us32, go_sem, ↓reduceIte, Nat.reduceEqDiff, Nat.reduceAdd, Nat.reduceMul, Nat.reduceLeDiff, Nat.reduceLT, Int.reduceToNat, Int.reduceLT, Int.reduceLE, reduceCtorEq, Nat.reduceBEq, sub, fillAll, fillIn, shiftR, shiftV, List.take_succ_cons, List.take_zero, List.drop_succ_cons, List.drop_zero, List.append_nil, Nat.zero_add]
  refine goP h99 ?_
  simp only [us32, go_sem, ↓reduceIte, Nat.reduceEqDiff, Nat.reduceAdd, Nat.reduceMul, Nat.reduceLeDiff, Nat.reduceLT, Int.reduceToNat, Int.reduceLT, Int.reduceLE, reduceCtorEq, Nat.reduceBEq, sub, fillAll, fillIn, shiftR, shiftV, List.take_succ_cons, List.take_zero, List.drop_succ_cons, List.drop_zero, List.append_nil, Nat.zero_add]
  refine goP h100 ?_
  simp only [us32, go_sem, ↓reduceIte, Nat.reduceEqDiff, Nat.reduceAdd, Nat.reduceMul, Nat.reduceLeDiff, Nat.reduceLT, Int.reduceToNat, Int.reduceLT, Int.reduceLE, reduceCtorEq, Nat.reduceBEq, sub, fillAll, fillIn, shiftR, shiftV, List.take_succ_cons, List.take_zero, List.drop_succ_cons, List.drop_zero, List.append_nil, Nat.zero_add]
  refine goP h991 ?_
  simp only [us32, go_sem, ↓reduceIte, Nat.reduceEqDiff, Nat.reduceAdd, Nat.reduceMul, Nat.reduceLeDiff, Nat.reduceLT, Int.reduceToNat, Int.reduceLT, Int.reduceLE, reduceCtorEq, Nat.reduceBEq, sub, fillAll, fillIn, shiftR, shiftV, List.take_succ_cons, List.take_zero, List.drop_succ_cons, List.drop_zero, List.append_nil, Nat.zero_add]
  simp only [i57, Out, resAll, geto, ints, List.getElem?_cons_zero, List.getElem?_cons_succ, resOf, outOf, snap, snapL, ev, getE, List.mapM_cons, List.mapM_nil, Option.bind_some, Option.pure_def, Option.bind_eq_bind, Option.map_some, reduceIte, Nat.reduceEqDiff, true_and, and_true, sub, fillAll, fillIn, shiftR, shiftV, List.take_succ_cons, List.take_zero, List.drop_succ_cons, List.drop_zero, List.append_nil, Nat.zero_add, List.length_cons, List.length_nil, Nat.le_refl, numG]
theorem c68_ok {n : Bool} {p : Nat} : Go.V.Call tab E 68 [.bool n, natC p] [] (.agg [us32 (limG p), .bool (n && decide (p ≠ 0))]) [] := by
  refine Go.V.Call.mach i68 c68 rfl rfl rfl rfl ?_
  have h124 := c64_nat (E := E) (n := p)
  simp only [natC, us32] at h124
  cases n with
  | false =>
    simp only [c68, natC, us32, go_sem, ↓reduceIte, Nat.reduceEqDiff, Nat.reduceAdd, Nat.reduceMul, Nat.reduceLeDiff, Nat.reduceLT, Int.reduceToNat, Int.reduceLT, Int.reduceLE, reduceCtorEq, Nat.reduceBEq, sub, fillAll, fillIn, shiftR, shiftV, List.take_succ_cons, List.take_zero, List.drop_succ_cons, List.drop_zero, List.append_nil, Nat.zero_add]
    simp only [i68, Out, resAll, geto, ints, List.getElem?_cons_zero, List.getElem?_cons_succ, resOf, outOf, snap, snapL, ev, getE, List.mapM_cons, List.mapM_nil, Option.bind_some, Option.pure_def, Option.bind_eq_bind, Option.map_some, reduceIte, Nat.reduceEqDiff, true_and, and_true, sub, fillAll, fillIn, shiftR, shiftV, List.take_succ_cons, List.take_zero, List.drop_succ_cons, List.drop_zero, List.append_nil, Nat.zero_add, List.length_cons, List.length_nil, Nat.le_refl, us32, Bool.false_and]
  | true =>
    simp only [c68, natC, us32, go_sem, ↓reduceIte, Nat.reduceEqDiff, Nat.reduceAdd, Nat.reduceMul, Nat.reduceLeDiff, Nat.reduceLT, Int.reduceToNat, Int.reduceLT, Int.reduceLE, reduceCtorEq, Nat.reduceBEq, sub, fillAll, fillIn, shiftR, shiftV, List.take_succ_cons, List.take_zero, List.drop_succ_cons, List.drop_zero, List.append_nil, Nat.zero_add]
    refine goP h124 ?_
    by_cases h : p = 0
    · subst h
      simp only [us32, go_sem, ↓reduceIte, Nat.reduceEqDiff, Nat.reduceAdd, Nat.reduceMul, Nat.reduceLeDiff, Nat.reduceLT, Int.reduceToNat, Int.reduceLT, Int.reduceLE, reduceCtorEq, Nat.reduceBEq, sub, fillAll, fillIn, shiftR, shiftV, List.take_succ_cons, List.take_zero, List.drop_succ_cons, List.drop_zero, List.append_nil, Nat.zero_add]
      simp only [i68, Out, resAll, geto, ints, List.getElem?_cons_zero, List.getElem?_cons_succ, resOf, outOf, snap, snapL, ev, getE, List.mapM_cons, List.mapM_nil, Option.bind_some, Option.pure_def, Option.bind_eq_bind, Option.map_some, reduceIte, Nat.reduceEqDiff, true_and, and_true, sub, fillAll, fillIn, shiftR, shiftV, List.take_succ_cons, List.take_zero, List.drop_succ_cons, List.drop_zero, List.append_nil, Nat.zero_add, List.length_cons, List.length_nil, Nat.le_refl, us32, Bool.true_and, decide_false, not_true_eq_false, ne_eq]
    · simp only [us32, go_sem, ↓reduceIte, Nat.reduceEqDiff, Nat.reduceAdd, Nat.reduceMul, Nat.reduceLeDiff, Nat.reduceLT, Int.reduceToNat, Int.reduceLT, Int.reduceLE, reduceCtorEq, Nat.reduceBEq, sub, fillAll, fillIn, shiftR, shiftV, List.take_succ_cons, List.take_zero, List.drop_succ_cons, List.drop_zero, List.append_nil, Nat.zero_add, h]
      simp only [i68, Out, resAll, geto, ints, List.getElem?_cons_zero, List.getElem?_cons_succ, resOf, outOf, snap, snapL, ev, getE, List.mapM_cons, List.mapM_nil, Option.bind_some, Option.pure_def, Option.bind_eq_bind, Option.map_some, reduceIte, Nat.reduceEqDiff, true_and, and_true, sub, fillAll, fillIn, shiftR, shiftV, List.take_succ_cons, List.take_zero, List.drop_succ_cons, List.drop_zero, List.append_nil, Nat.zero_add, List.length_cons, List.length_nil, Nat.le_refl, us32, Bool.true_and, decide_true, h, not_false_eq_true, ne_eq]
theorem c38_ok {n1 n2 : Bool} {p q : Nat} (hq : q ≠ 0) (hpl : (limG p).length ≤ 1000000) (hql : (limG q).length ≤ 1000000) :
    Go.V.Call tab E 38 [.agg [us32 (limG p), .bool n1], .agg [us32 (limG q), .bool n2]] [] (.tup [.agg (ratG ((n1 != n2) && decide (p / Nat.gcd p q ≠ 0)) (p / Nat.gcd p q) (q / Nat.gcd p q)), .bool true]) [] := by
  refine Go.V.Call.mach i38 c38 rfl rfl rfl rfl ?_
  have h124 := c64_nat (E := E) (n := q)
  rw [decide_eq_false hq] at h124
  have h136 := c66_gen (E := E) (n := n2) (p := q)
  have h135 := c65_ok (E := E) hpl hql
  have hg0 : Nat.gcd p q ≠ 0 := fun h => hq (Nat.eq_zero_of_gcd_eq_zero_right h)
  have hgl : (limG (Nat.gcd p q)).length ≤ 1000000 := by
    have := limG_mono (Nat.gcd_le_right p (Nat.pos_of_ne_zero hq))
    omega
  have h137p := c67_ok (E := E) hpl hgl hg0
  have h137q := c67_ok (E := E) hql hgl hg0
  generalize Nat.gcd p q = g at *
  have h981 := c69_gen (E := E) (n := n1) (p := p)
  have h982 := c69_gen (E := E) (n := n2) (p := q)
  have h118 := c68_ok (E := E) (n := n1 != n2) (p := p / g)
  generalize p / g = x at *
  generalize q / g = y at *
  simp only [natC, us32] at h124 h136 h135 h137p h137q h981 h982 h118
  have hb : boolV .ne (.bool n1) (.bool n2) = some (.bool (n1 != n2)) := by cases n1 <;> cases n2 <;> rfl
  simp only [c38, natC, us32, go_sem, ↓reduceIte, Nat.reduceEqDiff, Nat.reduceAdd, Nat.reduceMul, Nat.reduceLeDiff, Nat.reduceLT, Int.reduceToNat, Int.reduceLT, Int.reduceLE, reduceCtorEq, Nat.reduceBEq, sub, fillAll, fillIn, shiftR, shiftV, List.take_succ_cons, List.take_zero, List.drop_succ_cons, List.drop_zero, List.append_nil, Nat.zero_add]
  refine goP h124 ?_
  simp only [us32, go_sem, ↓reduceIte, Nat.reduceEqDiff, Nat.reduceAdd, Nat.reduceMul, Nat.reduceLeDiff, Nat.reduceLT, Int.reduceToNat, Int.reduceLT, Int.reduceLE, reduceCtorEq, Nat.reduceBEq, sub, fillAll, fillIn, shiftR, shiftV, List.take_succ_cons, List.take_zero, List.drop_succ_cons, List.drop_zero, List.append_nil, Nat.zero_add]
  refine goP h136 ?_
  simp only [us32, go_sem, ↓reduceIte, Nat.reduceEqDiff, Nat.reduceAdd, Nat.reduceMul, Nat.reduceLeDiff, Nat.reduceLT, Int.reduceToNat, Int.reduceLT, Int.reduceLE, reduceCtorEq, Nat.reduceBEq, sub, fillAll, fillIn, shiftR, shiftV, List.take_succ_cons, List.take_zero, List.drop_succ_cons, List.drop_zero, List.append_nil, Nat.zero_add]
  refine goP h135 ?_
  simp only [us32, go_sem, ↓reduceIte, Nat.reduceEqDiff, Nat.reduceAdd, Nat.reduceMul, Nat.reduceLeDiff, Nat.reduceLT, Int.reduceToNat, Int.reduceLT, Int.reduceLE, reduceCtorEq, Nat.reduceBEq, sub, fillAll, fillIn, shiftR, shiftV, List.take_succ_cons, List.take_zero, List.drop_succ_cons, List.drop_zero, List.append_nil, Nat.zero_add]
  refine goF h137p ?_
  simp only [us32, go_sem, ↓reduceIte, Nat.reduceEqDiff, Nat.reduceAdd, Nat.reduceMul, Nat.reduceLeDiff, Nat.reduceLT, Int.reduceToNat, Int.reduceLT, Int.reduceLE, reduceCtorEq, Nat.reduceBEq, sub, fillAll, fillIn, shiftR, shiftV, List.take_succ_cons, List.take_zero, List.drop_succ_cons, List.drop_zero, List.append_nil, Nat.zero_add]
  refine goF h137q ?_
  simp only [us32, go_sem, ↓reduceIte, Nat.reduceEqDiff, Nat.reduceAdd, Nat.reduceMul, Nat.reduceLeDiff, Nat.reduceLT, Int.reduceToNat, Int.reduceLT, Int.reduceLE, reduceCtorEq, Nat.reduceBEq, sub, fillAll, fillIn, shiftR, shiftV, List.take_succ_cons, List.take_zero, List.drop_succ_cons, List.drop_zero, List.append_nil, Nat.zero_add]
  refine goP h981 ?_
  simp only [us32, go_sem, ↓reduceIte, Nat.reduceEqDiff, Nat.reduceAdd, Nat.reduceMul, Nat.reduceLeDiff, Nat.reduceLT, Int.reduceToNat, Int.reduceLT, Int.reduceLE, reduceCtorEq, Nat.reduceBEq, sub, fillAll, fillIn, shiftR, shiftV, List.take_succ_cons, List.take_zero, List.drop_succ_cons, List.drop_zero, List.append_nil, Nat.zero_add]
  refine goP h982 ?_
  simp only [us32, go_sem, ↓reduceIte, Nat.reduceEqDiff, Nat.reduceAdd, Nat.reduceMul, Nat.reduceLeDiff, Nat.reduceLT, Int.reduceToNat, Int.reduceLT, Int.reduceLE, reduceCtorEq, Nat.reduceBEq, sub, fillAll, fillIn, shiftR, shiftV, List.take_succ_cons, List.take_zero, List.drop_succ_cons, List.drop_zero, List.append_nil, Nat.zero_add, hb]
  refine goF h118 ?_
  simp only [us32, go_sem, ↓reduceIte, Nat.reduceEqDiff, Nat.reduceAdd, Nat.reduceMul, Nat.reduceLeDiff, Nat.reduceLT, Int.reduceToNat, Int.reduceLT, Int.reduceLE, reduceCtorEq, Nat.reduceBEq, sub, fillAll, fillIn, shiftR, shiftV, List.take_succ_cons, List.take_zero, List.drop_succ_cons, List.drop_zero, List.append_nil, Nat.zero_add]
  simp only [i38, Out, resAll, geto, ints, List.getElem?_cons_zero, List.getElem?_cons_succ, resOf, outOf, snap, snapL, ev, getE, List.mapM_cons, List.mapM_nil, Option.bind_some, Option.pure_def, Option.bind_eq_bind, Option.map_some, reduceIte, Nat.reduceEqDiff, true_and, and_true, sub, fillAll, fillIn, shiftR, shiftV, List.take_succ_cons, List.take_zero, List.drop_succ_cons, List.drop_zero, List.append_nil, Nat.zero_add, List.length_cons, List.length_nil, Nat.le_refl, ratG, us32]
theorem c38_zero {n1 n2 : Bool} {p : Nat} : Go.V.Call tab E 38 [.agg [us32 (limG p), .bool n1], .agg [us32 (limG 0), .bool n2]] [] (.tup [.agg (ratG false 0 0), .bool false]) [] := by
  have h124 := c64_nat (E := E) (n := 0)
  rw [decide_eq_true rfl] at h124
  simp only [natC, us32, limG_zero] at h124
  simp only [ratG, us32, limG_zero]
  refine Go.V.Call.mach i38 c38 rfl rfl rfl rfl ?_
  simp only [c38, natC, us32, go_sem, ↓reduceIte, Nat.reduceEqDiff, Nat.reduceAdd, Nat.reduceMul, Nat.reduceLeDiff, Nat.reduceLT, Int.reduceToNat, Int.reduceLT, Int.reduceLE, reduceCtorEq, Nat.reduceBEq, sub, fillAll, fillIn, shiftR, shiftV, List.take_succ_cons, List.take_zero, List.drop_succ_cons, List.drop_zero, List.append_nil, Nat.zero_add]
  refine goP h124 ?_
  simp only [us32, go_sem, ↓reduceIte, Nat.reduceEqDiff, Nat.reduceAdd, Nat.reduceMul, Nat.reduceLeDiff, Nat.reduceLT, Int.reduceToNat, Int.reduceLT, Int.reduceLE, reduceCtorEq, Nat.reduceBEq, sub, fillAll, fillIn, shiftR, shiftV, List.take_succ_cons, List.take_zero, List.drop_succ_cons, List.drop_zero, List.append_nil, Nat.zero_add]
  simp only [i38, Out, resAll, geto, ints, List.getElem?_cons_zero, List.getElem?_cons_succ, resOf, outOf, snap, snapL, ev, getE, List.mapM_cons, List.mapM_nil, Option.bind_some, Option.pure_def, Option.bind_eq_bind, Option.map_some, reduceIte, Nat.reduceEqDiff, true_and, and_true, sub, fillAll, fillIn, shiftR, shiftV, List.take_succ_cons, List.take_zero, List.drop_succ_cons, List.drop_zero, List.append_nil, Nat.zero_add, List.length_cons, List.length_nil, Nat.le_refl, ratG, us32]
  rfl
/-- A right number on the page. -/
def RightN (n : Bool) (a b : List Int) : Prop := RightS a ∧ RightS b ∧ trimS a = a ∧ trimS b = b ∧ b ≠ [48] ∧ Nat.gcd (sval a) (sval b) = 1 ∧ ¬ (n = true ∧ a = [48])
theorem right_dec {a : List Int} (h : RightS a) (ht : trimS a = a) : bs a = dec (sval a) := by
  rw [dec_eq, ← trimS_dec h.1 (fun h0 => by have := h.2.1; rw [h0] at this; simp at this), ht]
theorem right_zero {a : List Int} (h : RightS a) (ht : trimS a = a) : sval a = 0 ↔ a = [48] := by
  have h1 : a = decL (sval a) := by
    rw [← trimS_dec h.1 (fun h0 => by have := h.2.1; rw [h0] at this; simp at this), ht]
  refine ⟨fun h0 => ?_, fun h0 => by rw [h0]; rfl⟩
  rw [h1, h0]
  rfl
theorem trim_decL (n : Nat) : trimS (decL n) = decL n := by rw [trimS_dec (decL_dig n) (decL_ne n), sval_decL]
theorem str_eq' {a b : List Int} (ha : U8 a) (hb : U8 b) : strOp .eq (bs a) (bs b) = some (.bool (decide (a = b))) := by simp only [strOp, str_eq ha hb]
theorem str_ne' {a b : List Int} (ha : U8 a) (hb : U8 b) : strOp .ne (bs a) (bs b) = some (.bool (!decide (a = b))) := by simp only [strOp, str_eq ha hb]
theorem U8_48 {x : Int} (h : 0 ≤ x ∧ x < 256) : U8 [x] := fun y hy => by simp at hy; omega
theorem trimS_u8 {l : List Int} (h : U8 l) : U8 (trimS l) := by
  induction l with
  | nil => exact h
  | cons x l ih =>
    cases l with
    | nil => exact h
    | cons y l =>
      rw [trimS]
      split
      · exact ih (U8_cons.1 h).2
      · exact h
theorem c59_ok {n ok : Bool} {a b : List Int} (ha : U8 a) (hb : U8 b) (hal : a.length ≤ 1000000000) (hbl : b.length ≤ 1000000000) (hok : ok = true ↔ RightN n a b) :
    Go.V.Call tab E 59 [.agg [.bool n, .str (bs a), .str (bs b)]] [] (.bool ok) [] := by
  refine Go.V.Call.mach i59 c59 rfl rfl rfl rfl ?_
  have hfalse : ¬ RightN n a b → ok = false := fun h => by rw [← Bool.not_eq_true, hok]; exact h
  have e48 : (⟨#[48]⟩ : ByteArray) = bs [48] := rfl
  have e49 : (⟨#[49]⟩ : ByteArray) = bs [49] := rfl
  by_cases hRa : RightS a
  · have h119a := c85_ok (E := E) (b := true) ha hal ⟨fun _ => hRa, fun _ => rfl⟩
    by_cases hRb : RightS b
    · have h119b := c85_ok (E := E) (b := true) hb hbl ⟨fun _ => hRb, fun _ => rfl⟩
      have h120a := c86_S (E := E) ha hal
      have h120b := c86_S (E := E) hb hbl
      have na := str_ne' (trimS_u8 ha) ha
      have nb := str_ne' (trimS_u8 hb) hb
      have eb := str_eq' hb (U8_48 (x := 48) (by omega))
      have ea := str_eq' ha (U8_48 (x := 48) (by omega))
      rw [← e48] at eb ea
      by_cases hta : trimS a = a
      · by_cases htb : trimS b = b
        · by_cases hb48 : b = [48]
          · have := hfalse (fun h => h.2.2.2.2.1 hb48)
            subst this
            rw [decide_eq_true hta, Bool.not_true] at na
            rw [decide_eq_true htb, Bool.not_true] at nb
            rw [decide_eq_true hb48] at eb
            simp only [c59, go_sem, ↓reduceIte, Nat.reduceEqDiff, Nat.reduceAdd, Nat.reduceMul, Nat.reduceLeDiff, Nat.reduceLT, Int.reduceToNat, Int.reduceLT, Int.reduceLE, reduceCtorEq, Nat.reduceBEq, sub, fillAll, fillIn, shiftR, shiftV, List.take_succ_cons, List.take_zero, List.drop_succ_cons, List.drop_zero, List.append_nil, Nat.zero_add]
            refine goP h119a ?_
            simp only [go_sem, ↓reduceIte, Nat.reduceEqDiff, Nat.reduceAdd, Nat.reduceMul, Nat.reduceLeDiff, Nat.reduceLT, Int.reduceToNat, Int.reduceLT, Int.reduceLE, reduceCtorEq, Nat.reduceBEq, sub, fillAll, fillIn, shiftR, shiftV, List.take_succ_cons, List.take_zero, List.drop_succ_cons, List.drop_zero, List.append_nil, Nat.zero_add]
            refine goP h119b ?_
            simp only [go_sem, ↓reduceIte, Nat.reduceEqDiff, Nat.reduceAdd, Nat.reduceMul, Nat.reduceLeDiff, Nat.reduceLT, Int.reduceToNat, Int.reduceLT, Int.reduceLE, reduceCtorEq, Nat.reduceBEq, sub, fillAll, fillIn, shiftR, shiftV, List.take_succ_cons, List.take_zero, List.drop_succ_cons, List.drop_zero, List.append_nil, Nat.zero_add]
            refine goP h120a ?_
            simp only [go_sem, ↓reduceIte, Nat.reduceEqDiff, Nat.reduceAdd, Nat.reduceMul, Nat.reduceLeDiff, Nat.reduceLT, Int.reduceToNat, Int.reduceLT, Int.reduceLE, reduceCtorEq, Nat.reduceBEq, sub, fillAll, fillIn, shiftR, shiftV, List.take_succ_cons, List.take_zero, List.drop_succ_cons, List.drop_zero, List.append_nil, Nat.zero_add, na]
            refine goP h120b ?_
            simp only [go_sem, ↓reduceIte, Nat.reduceEqDiff, Nat.reduceAdd, Nat.reduceMul, Nat.reduceLeDiff, Nat.reduceLT, Int.reduceToNat, Int.reduceLT, Int.reduceLE, reduceCtorEq, Nat.reduceBEq, sub, fillAll, fillIn, shiftR, shiftV, List.take_succ_cons, List.take_zero, List.drop_succ_cons, List.drop_zero, List.append_nil, Nat.zero_add, nb, eb]
            simp only [i59, Out, resAll, geto, ints, List.getElem?_cons_zero, List.getElem?_cons_succ, resOf, outOf, snap, snapL, ev, getE, List.mapM_cons, List.mapM_nil, Option.bind_some, Option.pure_def, Option.bind_eq_bind, Option.map_some, reduceIte, Nat.reduceEqDiff, true_and, and_true]
          · have h121 := c76_ok (E := E) (a := sval a) (b := sval b) (Right_lim hRa) (Right_lim hRb)
            rw [← right_dec hRa hta, ← right_dec hRb htb, dec_eq] at h121
            have eg := str_eq' (decL_dig (Nat.gcd (sval a) (sval b))).u8 (U8_48 (x := 49) (by omega))
            rw [← e49] at eg
            have hg1 : decL (Nat.gcd (sval a) (sval b)) = [49] ↔ Nat.gcd (sval a) (sval b) = 1 := ⟨fun h => by rw [← sval_decL (Nat.gcd _ _), h]; rfl, fun h => by rw [h, decL_digit (by omega)]; rfl⟩
            rw [decide_eq_true hta, Bool.not_true] at na
            rw [decide_eq_true htb, Bool.not_true] at nb
            rw [decide_eq_false hb48] at eb
            have fin : ok = (decide (decL (Nat.gcd (sval a) (sval b)) = [49]) && !(n && decide (a = [48]))) := by
              rw [Bool.eq_iff_iff, hok]
              simp only [RightN, Bool.and_eq_true, decide_eq_true_eq, Bool.not_eq_true', Bool.and_eq_false_iff, decide_eq_false_iff_not, hg1]
              constructor
              · rintro ⟨_, _, _, _, _, h6, h7⟩
                refine ⟨h6, ?_⟩
                cases n with
                | false => exact .inl rfl
                | true => exact .inr (fun h => h7 ⟨rfl, h⟩)
              · rintro ⟨h6, h7⟩
                refine ⟨hRa, hRb, hta, htb, hb48, h6, ?_⟩
                rintro ⟨rfl, h8⟩
                rcases h7 with h7 | h7
                · cases h7
                · exact h7 h8
            simp only [c59, go_sem, ↓reduceIte, Nat.reduceEqDiff, Nat.reduceAdd, Nat.reduceMul, Nat.reduceLeDiff, Nat.reduceLT, Int.reduceToNat, Int.reduceLT, Int.reduceLE, reduceCtorEq, Nat.reduceBEq, sub, fillAll, fillIn, shiftR, shiftV, List.take_succ_cons, List.take_zero, List.drop_succ_cons, List.drop_zero, List.append_nil, Nat.zero_add]
            refine goP h119a ?_
            simp only [go_sem, ↓reduceIte, Nat.reduceEqDiff, Nat.reduceAdd, Nat.reduceMul, Nat.reduceLeDiff, Nat.reduceLT, Int.reduceToNat, Int.reduceLT, Int.reduceLE, reduceCtorEq, Nat.reduceBEq, sub, fillAll, fillIn, shiftR, shiftV, List.take_succ_cons, List.take_zero, List.drop_succ_cons, List.drop_zero, List.append_nil, Nat.zero_add]
            refine goP h119b ?_
            simp only [go_sem, ↓reduceIte, Nat.reduceEqDiff, Nat.reduceAdd, Nat.reduceMul, Nat.reduceLeDiff, Nat.reduceLT, Int.reduceToNat, Int.reduceLT, Int.reduceLE, reduceCtorEq, Nat.reduceBEq, sub, fillAll, fillIn, shiftR, shiftV, List.take_succ_cons, List.take_zero, List.drop_succ_cons, List.drop_zero, List.append_nil, Nat.zero_add]
            refine goP h120a ?_
            simp only [go_sem, ↓reduceIte, Nat.reduceEqDiff, Nat.reduceAdd, Nat.reduceMul, Nat.reduceLeDiff, Nat.reduceLT, Int.reduceToNat, Int.reduceLT, Int.reduceLE, reduceCtorEq, Nat.reduceBEq, sub, fillAll, fillIn, shiftR, shiftV, List.take_succ_cons, List.take_zero, List.drop_succ_cons, List.drop_zero, List.append_nil, Nat.zero_add, na]
            refine goP h120b ?_
            simp only [go_sem, ↓reduceIte, Nat.reduceEqDiff, Nat.reduceAdd, Nat.reduceMul, Nat.reduceLeDiff, Nat.reduceLT, Int.reduceToNat, Int.reduceLT, Int.reduceLE, reduceCtorEq, Nat.reduceBEq, sub, fillAll, fillIn, shiftR, shiftV, List.take_succ_cons, List.take_zero, List.drop_succ_cons, List.drop_zero, List.append_nil, Nat.zero_add, nb, eb]
            refine goP h121 ?_
            subst fin
            by_cases hg : decL (Nat.gcd (sval a) (sval b)) = [49]
            · rw [decide_eq_true hg] at eg ⊢
              cases n with
              | false =>
                simp only [go_sem, ↓reduceIte, Nat.reduceEqDiff, Nat.reduceAdd, Nat.reduceMul, Nat.reduceLeDiff, Nat.reduceLT, Int.reduceToNat, Int.reduceLT, Int.reduceLE, reduceCtorEq, Nat.reduceBEq, sub, fillAll, fillIn, shiftR, shiftV, List.take_succ_cons, List.take_zero, List.drop_succ_cons, List.drop_zero, List.append_nil, Nat.zero_add, eg]
                simp only [i59, Out, resAll, geto, ints, List.getElem?_cons_zero, List.getElem?_cons_succ, resOf, outOf, snap, snapL, ev, getE, List.mapM_cons, List.mapM_nil, Option.bind_some, Option.pure_def, Option.bind_eq_bind, Option.map_some, reduceIte, Nat.reduceEqDiff, true_and, and_true, Bool.false_and, Bool.not_false, Bool.true_and]
              | true =>
                cases hd : decide (a = [48])
                · rw [hd] at ea
                  simp only [go_sem, ↓reduceIte, Nat.reduceEqDiff, Nat.reduceAdd, Nat.reduceMul, Nat.reduceLeDiff, Nat.reduceLT, Int.reduceToNat, Int.reduceLT, Int.reduceLE, reduceCtorEq, Nat.reduceBEq, sub, fillAll, fillIn, shiftR, shiftV, List.take_succ_cons, List.take_zero, List.drop_succ_cons, List.drop_zero, List.append_nil, Nat.zero_add, eg, ea]
                  simp only [i59, Out, resAll, geto, ints, List.getElem?_cons_zero, List.getElem?_cons_succ, resOf, outOf, snap, snapL, ev, getE, List.mapM_cons, List.mapM_nil, Option.bind_some, Option.pure_def, Option.bind_eq_bind, Option.map_some, reduceIte, Nat.reduceEqDiff, true_and, and_true, Bool.true_and, Bool.not_false]
                · rw [hd] at ea
                  simp only [go_sem, ↓reduceIte, Nat.reduceEqDiff, Nat.reduceAdd, Nat.reduceMul, Nat.reduceLeDiff, Nat.reduceLT, Int.reduceToNat, Int.reduceLT, Int.reduceLE, reduceCtorEq, Nat.reduceBEq, sub, fillAll, fillIn, shiftR, shiftV, List.take_succ_cons, List.take_zero, List.drop_succ_cons, List.drop_zero, List.append_nil, Nat.zero_add, eg, ea]
                  simp only [i59, Out, resAll, geto, ints, List.getElem?_cons_zero, List.getElem?_cons_succ, resOf, outOf, snap, snapL, ev, getE, List.mapM_cons, List.mapM_nil, Option.bind_some, Option.pure_def, Option.bind_eq_bind, Option.map_some, reduceIte, Nat.reduceEqDiff, true_and, and_true, Bool.true_and, Bool.not_true]
            · rw [decide_eq_false hg] at eg ⊢
              simp only [go_sem, ↓reduceIte, Nat.reduceEqDiff, Nat.reduceAdd, Nat.reduceMul, Nat.reduceLeDiff, Nat.reduceLT, Int.reduceToNat, Int.reduceLT, Int.reduceLE, reduceCtorEq, Nat.reduceBEq, sub, fillAll, fillIn, shiftR, shiftV, List.take_succ_cons, List.take_zero, List.drop_succ_cons, List.drop_zero, List.append_nil, Nat.zero_add, eg]
              simp only [i59, Out, resAll, geto, ints, List.getElem?_cons_zero, List.getElem?_cons_succ, resOf, outOf, snap, snapL, ev, getE, List.mapM_cons, List.mapM_nil, Option.bind_some, Option.pure_def, Option.bind_eq_bind, Option.map_some, reduceIte, Nat.reduceEqDiff, true_and, and_true, Bool.false_and]
        · have := hfalse (fun h => htb h.2.2.2.1)
          subst this
          rw [decide_eq_true hta, Bool.not_true] at na
          rw [decide_eq_false htb, Bool.not_false] at nb
          simp only [c59, go_sem, ↓reduceIte, Nat.reduceEqDiff, Nat.reduceAdd, Nat.reduceMul, Nat.reduceLeDiff, Nat.reduceLT, Int.reduceToNat, Int.reduceLT, Int.reduceLE, reduceCtorEq, Nat.reduceBEq, sub, fillAll, fillIn, shiftR, shiftV, List.take_succ_cons, List.take_zero, List.drop_succ_cons, List.drop_zero, List.append_nil, Nat.zero_add]
          refine goP h119a ?_
          simp only [go_sem, ↓reduceIte, Nat.reduceEqDiff, Nat.reduceAdd, Nat.reduceMul, Nat.reduceLeDiff, Nat.reduceLT, Int.reduceToNat, Int.reduceLT, Int.reduceLE, reduceCtorEq, Nat.reduceBEq, sub, fillAll, fillIn, shiftR, shiftV, List.take_succ_cons, List.take_zero, List.drop_succ_cons, List.drop_zero, List.append_nil, Nat.zero_add]
          refine goP h119b ?_
          simp only [go_sem, ↓reduceIte, Nat.reduceEqDiff, Nat.reduceAdd, Nat.reduceMul, Nat.reduceLeDiff, Nat.reduceLT, Int.reduceToNat, Int.reduceLT, Int.reduceLE, reduceCtorEq, Nat.reduceBEq, sub, fillAll, fillIn, shiftR, shiftV, List.take_succ_cons, List.take_zero, List.drop_succ_cons, List.drop_zero, List.append_nil, Nat.zero_add]
          refine goP h120a ?_
          simp only [go_sem, ↓reduceIte, Nat.reduceEqDiff, Nat.reduceAdd, Nat.reduceMul, Nat.reduceLeDiff, Nat.reduceLT, Int.reduceToNat, Int.reduceLT, Int.reduceLE, reduceCtorEq, Nat.reduceBEq, sub, fillAll, fillIn, shiftR, shiftV, List.take_succ_cons, List.take_zero, List.drop_succ_cons, List.drop_zero, List.append_nil, Nat.zero_add, na]
          refine goP h120b ?_
          simp only [go_sem, ↓reduceIte, Nat.reduceEqDiff, Nat.reduceAdd, Nat.reduceMul, Nat.reduceLeDiff, Nat.reduceLT, Int.reduceToNat, Int.reduceLT, Int.reduceLE, reduceCtorEq, Nat.reduceBEq, sub, fillAll, fillIn, shiftR, shiftV, List.take_succ_cons, List.take_zero, List.drop_succ_cons, List.drop_zero, List.append_nil, Nat.zero_add, nb]
          simp only [i59, Out, resAll, geto, ints, List.getElem?_cons_zero, List.getElem?_cons_succ, resOf, outOf, snap, snapL, ev, getE, List.mapM_cons, List.mapM_nil, Option.bind_some, Option.pure_def, Option.bind_eq_bind, Option.map_some, reduceIte, Nat.reduceEqDiff, true_and, and_true]
      · have := hfalse (fun h => hta h.2.2.1)
        subst this
        rw [decide_eq_false hta, Bool.not_false] at na
        simp only [c59, go_sem, ↓reduceIte, Nat.reduceEqDiff, Nat.reduceAdd, Nat.reduceMul, Nat.reduceLeDiff, Nat.reduceLT, Int.reduceToNat, Int.reduceLT, Int.reduceLE, reduceCtorEq, Nat.reduceBEq, sub, fillAll, fillIn, shiftR, shiftV, List.take_succ_cons, List.take_zero, List.drop_succ_cons, List.drop_zero, List.append_nil, Nat.zero_add]
        refine goP h119a ?_
        simp only [go_sem, ↓reduceIte, Nat.reduceEqDiff, Nat.reduceAdd, Nat.reduceMul, Nat.reduceLeDiff, Nat.reduceLT, Int.reduceToNat, Int.reduceLT, Int.reduceLE, reduceCtorEq, Nat.reduceBEq, sub, fillAll, fillIn, shiftR, shiftV, List.take_succ_cons, List.take_zero, List.drop_succ_cons, List.drop_zero, List.append_nil, Nat.zero_add]
        refine goP h119b ?_
        simp only [go_sem, ↓reduceIte, Nat.reduceEqDiff, Nat.reduceAdd, Nat.reduceMul, Nat.reduceLeDiff, Nat.reduceLT, Int.reduceToNat, Int.reduceLT, Int.reduceLE, reduceCtorEq, Nat.reduceBEq, sub, fillAll, fillIn, shiftR, shiftV, List.take_succ_cons, List.take_zero, List.drop_succ_cons, List.drop_zero, List.append_nil, Nat.zero_add]
        refine goP h120a ?_
        simp only [go_sem, ↓reduceIte, Nat.reduceEqDiff, Nat.reduceAdd, Nat.reduceMul, Nat.reduceLeDiff, Nat.reduceLT, Int.reduceToNat, Int.reduceLT, Int.reduceLE, reduceCtorEq, Nat.reduceBEq, sub, fillAll, fillIn, shiftR, shiftV, List.take_succ_cons, List.take_zero, List.drop_succ_cons, List.drop_zero, List.append_nil, Nat.zero_add, na]
        simp only [i59, Out, resAll, geto, ints, List.getElem?_cons_zero, List.getElem?_cons_succ, resOf, outOf, snap, snapL, ev, getE, List.mapM_cons, List.mapM_nil, Option.bind_some, Option.pure_def, Option.bind_eq_bind, Option.map_some, reduceIte, Nat.reduceEqDiff, true_and, and_true]
    · have h119b := c85_ok (E := E) (b := false) hb hbl ⟨fun h => (by cases h), fun h => absurd h hRb⟩
      have := hfalse (fun h => hRb h.2.1)
      subst this
      simp only [c59, go_sem, ↓reduceIte, Nat.reduceEqDiff, Nat.reduceAdd, Nat.reduceMul, Nat.reduceLeDiff, Nat.reduceLT, Int.reduceToNat, Int.reduceLT, Int.reduceLE, reduceCtorEq, Nat.reduceBEq, sub, fillAll, fillIn, shiftR, shiftV, List.take_succ_cons, List.take_zero, List.drop_succ_cons, List.drop_zero, List.append_nil, Nat.zero_add]
      refine goP h119a ?_
      simp only [go_sem, ↓reduceIte, Nat.reduceEqDiff, Nat.reduceAdd, Nat.reduceMul, Nat.reduceLeDiff, Nat.reduceLT, Int.reduceToNat, Int.reduceLT, Int.reduceLE, reduceCtorEq, Nat.reduceBEq, sub, fillAll, fillIn, shiftR, shiftV, List.take_succ_cons, List.take_zero, List.drop_succ_cons, List.drop_zero, List.append_nil, Nat.zero_add]
      refine goP h119b ?_
      simp only [go_sem, ↓reduceIte, Nat.reduceEqDiff, Nat.reduceAdd, Nat.reduceMul, Nat.reduceLeDiff, Nat.reduceLT, Int.reduceToNat, Int.reduceLT, Int.reduceLE, reduceCtorEq, Nat.reduceBEq, sub, fillAll, fillIn, shiftR, shiftV, List.take_succ_cons, List.take_zero, List.drop_succ_cons, List.drop_zero, List.append_nil, Nat.zero_add]
      simp only [i59, Out, resAll, geto, ints, List.getElem?_cons_zero, List.getElem?_cons_succ, resOf, outOf, snap, snapL, ev, getE, List.mapM_cons, List.mapM_nil, Option.bind_some, Option.pure_def, Option.bind_eq_bind, Option.map_some, reduceIte, Nat.reduceEqDiff, true_and, and_true]
  · have h119a := c85_ok (E := E) (b := false) ha hal ⟨fun h => (by cases h), fun h => absurd h hRa⟩
    have := hfalse (fun h => hRa h.1)
    subst this
    simp only [c59, go_sem, ↓reduceIte, Nat.reduceEqDiff, Nat.reduceAdd, Nat.reduceMul, Nat.reduceLeDiff, Nat.reduceLT, Int.reduceToNat, Int.reduceLT, Int.reduceLE, reduceCtorEq, Nat.reduceBEq, sub, fillAll, fillIn, shiftR, shiftV, List.take_succ_cons, List.take_zero, List.drop_succ_cons, List.drop_zero, List.append_nil, Nat.zero_add]
    refine goP h119a ?_
    simp only [go_sem, ↓reduceIte, Nat.reduceEqDiff, Nat.reduceAdd, Nat.reduceMul, Nat.reduceLeDiff, Nat.reduceLT, Int.reduceToNat, Int.reduceLT, Int.reduceLE, reduceCtorEq, Nat.reduceBEq, sub, fillAll, fillIn, shiftR, shiftV, List.take_succ_cons, List.take_zero, List.drop_succ_cons, List.drop_zero, List.append_nil, Nat.zero_add]
    simp only [i59, Out, resAll, geto, ints, List.getElem?_cons_zero, List.getElem?_cons_succ, resOf, outOf, snap, snapL, ev, getE, List.mapM_cons, List.mapM_nil, Option.bind_some, Option.pure_def, Option.bind_eq_bind, Option.map_some, reduceIte, Nat.reduceEqDiff, true_and, and_true]
end
end Go.Proofs.YtcmbaabkfihdmaaGreat.I

/- Layer 7: the document's count. -/
set_option linter.unusedVariables false
set_option linter.unusedSimpArgs false
namespace Go.Proofs.YtcmbaabkfihdmaaGreat.I
open Go Go.V
section
variable {E : CallRel}

theorem max1 {d : Int} : max 1 d = if 1 ≤ d then d else 1 := by rw [Int.max_def]
theorem mul_bound {a b A B : Int} (h1 : 0 ≤ a) (h2 : a ≤ A) (h3 : 0 ≤ b) (h4 : b ≤ B) : 0 ≤ a * b ∧ a * b ≤ A * B :=
  ⟨Int.mul_nonneg h1 h3, Int.mul_le_mul h2 h4 h3 (by omega)⟩

theorem c58_ok {s : List Int} (hs : ∀ d ∈ s, In64 d) (hl : (s.length : Int) ≤ 9223372036854775806) : Go.V.Call tab E 58 [ints s] [] (optP (count s)) [] := by
  refine Go.V.Call.mach i58 c58 rfl rfl rfl rfl ?_
  simp only [c58, mNil, nat0, beq_self_eq_true, mSkip, mRet, mExit, mReg, mSeq, mCond, mTrue, mFalse, mBlock, mLv, mCodeE, mCodeR, mEndN, mEndR, mEndE, mOps, mSome, mGuard, mGtt, mGff, mGtf, mGft, mGu, mCallP, mCallR, mCallF, mCallO, mCallZ, mCallG, mCallM, mCallV, loopQ_exit, loopQ_ret, mO_mov, mO_newnil, mO_pick, mO_alloc, mO_box, mO_build, mO_bsl, mO_bslF, mO_ldf, mO_ld, mO_st, mO_sta, mO_nilchk, mO_bin, mO_binb, mO_binp, mO_bins, mO_neg, mO_com, mO_not, mO_conv, mO_mk, mO_mk0, mO_s2b, mO_b2s, mO_cpy, mO_cut, mO_faddr, mO_fld, mO_iaddr, mO_iaddrf, mO_sidx, mO_len, mO_lenf, mO_slen, mO_scut, mO_app, mO_ext, mO_mx, mO_mn, mO_mkfn, evalOp, cutOp, argsE, ev, getE, putE, cellsOf, adopt, rowOf, binV, boolV, nilV, ar_add, ar_sub, ar_mul, ar_quo, ar_rem, ar_eq, ar_ne, ar_lt, ar_le, ar_gt, ar_ge, ar_and, ar_or, ar_xor, geto, bound, finRet, finNrm, ints, List.length_cons, List.length_nil, List.length_append, List.getElem?_cons_zero, List.getElem?_cons_succ, List.nil_append, List.cons_append, List.map_cons, List.map_nil, List.mapM_cons, List.mapM_nil, Option.map_some, Option.map_none, Option.bind_some, Option.pure_def, Option.bind_eq_bind, List.drop_zero, ↓reduceIte, Nat.reduceEqDiff, Nat.reduceAdd, Nat.reduceMul, Nat.reduceLeDiff, Nat.reduceLT, Int.reduceToNat, Int.reduceLT, Int.reduceLE, reduceCtorEq, or_self, or_false, false_or, or_true, true_or, true_and, and_true, and_self, decide_true, decide_false, Bool.false_eq_true, Bool.true_eq_false, Bool.not_true, Bool.not_false, Nat.le_refl, eq_self, gt_iff_lt, ge_iff_le, ne_eq, not_true_eq_false, not_false_eq_true]
  refine mLoop (fun N st => ∃ (k : Nat) (most n : Int), k ≤ s.length ∧ k ≤ 8 ∧ N = s.length - k ∧ 1 ≤ most ∧ most ≤ 4096 ∧ 0 ≤ n ∧ n ≤ most ∧ cnt 1 1 s = cnt most n (s.drop k) ∧
    st = ⟨[(0, ints s), (4, .int .i64 most), (5, .int .i64 n), (6, .int .i64 k)], []⟩) s.length ⟨_, rfl, 0, 1, 1, by omega, by omega, by omega, by omega, by omega, by omega, by omega, by simp, rfl⟩ ?_
  rintro N s0 ⟨k, most, n, hk, hk8, rfl, h1, h2, h3, h4, h5, rfl⟩
  by_cases hlt : k < s.length
  · have hlt' : (k : Int) < (s.length : Int) := by omega
    have hk0 : (0 : Int) ≤ (k : Int) := by omega
    have hk1 : IntKind.i64.wrap ((k : Int) + 1) = ((k + 1 : Nat) : Int) := by rw [wrap_i64 (by omega) (by omega)]; omega
    have hd := getD_in hs hlt
    rw [getD_drop hlt] at h5
    have hsub := sub_nums (k := .i64) hlt
    generalize s.getD k 0 = d at *
    by_cases he8 : 8 ≤ k
    · have he8' : (8 : Int) ≤ (k : Int) := by omega
      have : count s = none := by rw [count, if_pos (by omega)]
      simp only [b58_0, mNil, nat0, beq_self_eq_true, mSkip, mRet, mExit, mReg, mSeq, mCond, mTrue, mFalse, mBlock, mLv, mCodeE, mCodeR, mEndN, mEndR, mEndE, mOps, mSome, mGuard, mGtt, mGff, mGtf, mGft, mGu, mCallP, mCallR, mCallF, mCallO, mCallZ, mCallG, mCallM, mCallV, loopQ_exit, loopQ_ret, mO_mov, mO_newnil, mO_pick, mO_alloc, mO_box, mO_build, mO_bsl, mO_bslF, mO_ldf, mO_ld, mO_st, mO_sta, mO_nilchk, mO_bin, mO_binb, mO_binp, mO_bins, mO_neg, mO_com, mO_not, mO_conv, mO_mk, mO_mk0, mO_s2b, mO_b2s, mO_cpy, mO_cut, mO_faddr, mO_fld, mO_iaddr, mO_iaddrf, mO_sidx, mO_len, mO_lenf, mO_slen, mO_scut, mO_app, mO_ext, mO_mx, mO_mn, mO_mkfn, evalOp, cutOp, argsE, ev, getE, putE, cellsOf, adopt, rowOf, binV, boolV, nilV, ar_add, ar_sub, ar_mul, ar_quo, ar_rem, ar_eq, ar_ne, ar_lt, ar_le, ar_gt, ar_ge, ar_and, ar_or, ar_xor, geto, bound, finRet, finNrm, ints, List.length_cons, List.length_nil, List.length_append, List.getElem?_cons_zero, List.getElem?_cons_succ, List.nil_append, List.cons_append, List.map_cons, List.map_nil, List.mapM_cons, List.mapM_nil, Option.map_some, Option.map_none, Option.bind_some, Option.pure_def, Option.bind_eq_bind, List.drop_zero, ↓reduceIte, Nat.reduceEqDiff, Nat.reduceAdd, Nat.reduceMul, Nat.reduceLeDiff, Nat.reduceLT, Int.reduceToNat, Int.reduceLT, Int.reduceLE, reduceCtorEq, or_self, or_false, false_or, or_true, true_or, true_and, and_true, and_self, decide_true, decide_false, Bool.false_eq_true, Bool.true_eq_false, Bool.not_true, Bool.not_false, Nat.le_refl, eq_self, gt_iff_lt, ge_iff_le, ne_eq, not_true_eq_false, not_false_eq_true, hlt', he8']
      simp only [i58, Out, resAll, geto, ints, List.getElem?_cons_zero, List.getElem?_cons_succ, resOf, outOf, snap, snapL, ev, getE, List.mapM_cons, List.mapM_nil, Option.bind_some, Option.pure_def, Option.bind_eq_bind, Option.map_some, reduceIte, Nat.reduceEqDiff, true_and, and_true, this, optP]
    · have he8' : ¬ (8 : Int) ≤ (k : Int) := by omega
      have none_of : (d < 0 ∨ 4096 < most * max 1 d) → count s = none := by
        intro h
        rw [count, h5, cnt, if_pos h]
        split <;> rfl
      by_cases hneg : d < 0
      · simp only [b58_0, mNil, nat0, beq_self_eq_true, mSkip, mRet, mExit, mReg, mSeq, mCond, mTrue, mFalse, mBlock, mLv, mCodeE, mCodeR, mEndN, mEndR, mEndE, mOps, mSome, mGuard, mGtt, mGff, mGtf, mGft, mGu, mCallP, mCallR, mCallF, mCallO, mCallZ, mCallG, mCallM, mCallV, loopQ_exit, loopQ_ret, mO_mov, mO_newnil, mO_pick, mO_alloc, mO_box, mO_build, mO_bsl, mO_bslF, mO_ldf, mO_ld, mO_st, mO_sta, mO_nilchk, mO_bin, mO_binb, mO_binp, mO_bins, mO_neg, mO_com, mO_not, mO_conv, mO_mk, mO_mk0, mO_s2b, mO_b2s, mO_cpy, mO_cut, mO_faddr, mO_fld, mO_iaddr, mO_iaddrf, mO_sidx, mO_len, mO_lenf, mO_slen, mO_scut, mO_app, mO_ext, mO_mx, mO_mn, mO_mkfn, evalOp, cutOp, argsE, ev, getE, putE, cellsOf, adopt, rowOf, binV, boolV, nilV, ar_add, ar_sub, ar_mul, ar_quo, ar_rem, ar_eq, ar_ne, ar_lt, ar_le, ar_gt, ar_ge, ar_and, ar_or, ar_xor, geto, bound, finRet, finNrm, ints, List.length_cons, List.length_nil, List.length_append, List.getElem?_cons_zero, List.getElem?_cons_succ, List.nil_append, List.cons_append, List.map_cons, List.map_nil, List.mapM_cons, List.mapM_nil, Option.map_some, Option.map_none, Option.bind_some, Option.pure_def, Option.bind_eq_bind, List.drop_zero, ↓reduceIte, Nat.reduceEqDiff, Nat.reduceAdd, Nat.reduceMul, Nat.reduceLeDiff, Nat.reduceLT, Int.reduceToNat, Int.reduceLT, Int.reduceLE, reduceCtorEq, or_self, or_false, false_or, or_true, true_or, true_and, and_true, and_self, decide_true, decide_false, Bool.false_eq_true, Bool.true_eq_false, Bool.not_true, Bool.not_false, Nat.le_refl, eq_self, gt_iff_lt, ge_iff_le, ne_eq, not_true_eq_false, not_false_eq_true, hlt', he8', hk0, Int.toNat_natCast, hsub, hneg]
        simp only [i58, Out, resAll, geto, ints, List.getElem?_cons_zero, List.getElem?_cons_succ, resOf, outOf, snap, snapL, ev, getE, List.mapM_cons, List.mapM_nil, Option.bind_some, Option.pure_def, Option.bind_eq_bind, Option.map_some, reduceIte, Nat.reduceEqDiff, true_and, and_true, none_of (.inl hneg), optP]
      · by_cases hbig : 4096 < d
        · have : count s = none := none_of (.inr (by
            rw [max1, if_pos (by omega)]
            have := Int.mul_le_mul_of_nonneg_right (a := 1) (b := most) (c := d) h1 (by omega)
            omega))
          simp only [b58_0, mNil, nat0, beq_self_eq_true, mSkip, mRet, mExit, mReg, mSeq, mCond, mTrue, mFalse, mBlock, mLv, mCodeE, mCodeR, mEndN, mEndR, mEndE, mOps, mSome, mGuard, mGtt, mGff, mGtf, mGft, mGu, mCallP, mCallR, mCallF, mCallO, mCallZ, mCallG, mCallM, mCallV, loopQ_exit, loopQ_ret, mO_mov, mO_newnil, mO_pick, mO_alloc, mO_box, mO_build, mO_bsl, mO_bslF, mO_ldf, mO_ld, mO_st, mO_sta, mO_nilchk, mO_bin, mO_binb, mO_binp, mO_bins, mO_neg, mO_com, mO_not, mO_conv, mO_mk, mO_mk0, mO_s2b, mO_b2s, mO_cpy, mO_cut, mO_faddr, mO_fld, mO_iaddr, mO_iaddrf, mO_sidx, mO_len, mO_lenf, mO_slen, mO_scut, mO_app, mO_ext, mO_mx, mO_mn, mO_mkfn, evalOp, cutOp, argsE, ev, getE, putE, cellsOf, adopt, rowOf, binV, boolV, nilV, ar_add, ar_sub, ar_mul, ar_quo, ar_rem, ar_eq, ar_ne, ar_lt, ar_le, ar_gt, ar_ge, ar_and, ar_or, ar_xor, geto, bound, finRet, finNrm, ints, List.length_cons, List.length_nil, List.length_append, List.getElem?_cons_zero, List.getElem?_cons_succ, List.nil_append, List.cons_append, List.map_cons, List.map_nil, List.mapM_cons, List.mapM_nil, Option.map_some, Option.map_none, Option.bind_some, Option.pure_def, Option.bind_eq_bind, List.drop_zero, ↓reduceIte, Nat.reduceEqDiff, Nat.reduceAdd, Nat.reduceMul, Nat.reduceLeDiff, Nat.reduceLT, Int.reduceToNat, Int.reduceLT, Int.reduceLE, reduceCtorEq, or_self, or_false, false_or, or_true, true_or, true_and, and_true, and_self, decide_true, decide_false, Bool.false_eq_true, Bool.true_eq_false, Bool.not_true, Bool.not_false, Nat.le_refl, eq_self, gt_iff_lt, ge_iff_le, ne_eq, not_true_eq_false, not_false_eq_true, hlt', he8', hk0, Int.toNat_natCast, hsub, hneg, hbig]
          simp only [i58, Out, resAll, geto, ints, List.getElem?_cons_zero, List.getElem?_cons_succ, resOf, outOf, snap, snapL, ev, getE, List.mapM_cons, List.mapM_nil, Option.bind_some, Option.pure_def, Option.bind_eq_bind, Option.map_some, reduceIte, Nat.reduceEqDiff, true_and, and_true, this, optP]
        · have hnd := mul_bound h3 (Int.le_trans h4 h2) (show 0 ≤ d by omega) (show d ≤ 4096 by omega)
          have hmd := mul_bound (show 0 ≤ most by omega) h2 (show 0 ≤ d by omega) (show d ≤ 4096 by omega)
          have hw1 : IntKind.i64.wrap (n * d) = n * d := wrap_i64 (by omega) (by omega)
          have hw2 : IntKind.i64.wrap (most * d) = most * d := wrap_i64 (by omega) (by omega)
          by_cases hpos : 0 < d
          · have hm : most * max 1 d = most * d := by rw [max1, if_pos (by omega)]
            by_cases hov : 4096 < most * d
            · simp only [b58_0, mNil, nat0, beq_self_eq_true, mSkip, mRet, mExit, mReg, mSeq, mCond, mTrue, mFalse, mBlock, mLv, mCodeE, mCodeR, mEndN, mEndR, mEndE, mOps, mSome, mGuard, mGtt, mGff, mGtf, mGft, mGu, mCallP, mCallR, mCallF, mCallO, mCallZ, mCallG, mCallM, mCallV, loopQ_exit, loopQ_ret, mO_mov, mO_newnil, mO_pick, mO_alloc, mO_box, mO_build, mO_bsl, mO_bslF, mO_ldf, mO_ld, mO_st, mO_sta, mO_nilchk, mO_bin, mO_binb, mO_binp, mO_bins, mO_neg, mO_com, mO_not, mO_conv, mO_mk, mO_mk0, mO_s2b, mO_b2s, mO_cpy, mO_cut, mO_faddr, mO_fld, mO_iaddr, mO_iaddrf, mO_sidx, mO_len, mO_lenf, mO_slen, mO_scut, mO_app, mO_ext, mO_mx, mO_mn, mO_mkfn, evalOp, cutOp, argsE, ev, getE, putE, cellsOf, adopt, rowOf, binV, boolV, nilV, ar_add, ar_sub, ar_mul, ar_quo, ar_rem, ar_eq, ar_ne, ar_lt, ar_le, ar_gt, ar_ge, ar_and, ar_or, ar_xor, geto, bound, finRet, finNrm, ints, List.length_cons, List.length_nil, List.length_append, List.getElem?_cons_zero, List.getElem?_cons_succ, List.nil_append, List.cons_append, List.map_cons, List.map_nil, List.mapM_cons, List.mapM_nil, Option.map_some, Option.map_none, Option.bind_some, Option.pure_def, Option.bind_eq_bind, List.drop_zero, ↓reduceIte, Nat.reduceEqDiff, Nat.reduceAdd, Nat.reduceMul, Nat.reduceLeDiff, Nat.reduceLT, Int.reduceToNat, Int.reduceLT, Int.reduceLE, reduceCtorEq, or_self, or_false, false_or, or_true, true_or, true_and, and_true, and_self, decide_true, decide_false, Bool.false_eq_true, Bool.true_eq_false, Bool.not_true, Bool.not_false, Nat.le_refl, eq_self, gt_iff_lt, ge_iff_le, ne_eq, not_true_eq_false, not_false_eq_true, hlt', he8', hk0, Int.toNat_natCast, hsub, hneg, hbig, hw1, hw2, hpos, hov]
              simp only [i58, Out, resAll, geto, ints, List.getElem?_cons_zero, List.getElem?_cons_succ, resOf, outOf, snap, snapL, ev, getE, List.mapM_cons, List.mapM_nil, Option.bind_some, Option.pure_def, Option.bind_eq_bind, Option.map_some, reduceIte, Nat.reduceEqDiff, true_and, and_true, none_of (.inr (by rw [hm]; exact hov)), optP]
            · have g1 : 1 ≤ most * d := by
                have := Int.mul_le_mul_of_nonneg_left (a := 1) (b := d) (c := most) (by omega) (by omega)
                omega
              have g2 : n * d ≤ most * d := Int.mul_le_mul_of_nonneg_right h4 (by omega)
              have g3 : cnt 1 1 s = cnt (most * d) (n * d) (s.drop (k + 1)) := by rw [h5, cnt, if_neg (by rw [hm]; omega), hm]
              simp only [b58_0, mNil, nat0, beq_self_eq_true, mSkip, mRet, mExit, mReg, mSeq, mCond, mTrue, mFalse, mBlock, mLv, mCodeE, mCodeR, mEndN, mEndR, mEndE, mOps, mSome, mGuard, mGtt, mGff, mGtf, mGft, mGu, mCallP, mCallR, mCallF, mCallO, mCallZ, mCallG, mCallM, mCallV, loopQ_exit, loopQ_ret, mO_mov, mO_newnil, mO_pick, mO_alloc, mO_box, mO_build, mO_bsl, mO_bslF, mO_ldf, mO_ld, mO_st, mO_sta, mO_nilchk, mO_bin, mO_binb, mO_binp, mO_bins, mO_neg, mO_com, mO_not, mO_conv, mO_mk, mO_mk0, mO_s2b, mO_b2s, mO_cpy, mO_cut, mO_faddr, mO_fld, mO_iaddr, mO_iaddrf, mO_sidx, mO_len, mO_lenf, mO_slen, mO_scut, mO_app, mO_ext, mO_mx, mO_mn, mO_mkfn, evalOp, cutOp, argsE, ev, getE, putE, cellsOf, adopt, rowOf, binV, boolV, nilV, ar_add, ar_sub, ar_mul, ar_quo, ar_rem, ar_eq, ar_ne, ar_lt, ar_le, ar_gt, ar_ge, ar_and, ar_or, ar_xor, geto, bound, finRet, finNrm, ints, List.length_cons, List.length_nil, List.length_append, List.getElem?_cons_zero, List.getElem?_cons_succ, List.nil_append, List.cons_append, List.map_cons, List.map_nil, List.mapM_cons, List.mapM_nil, Option.map_some, Option.map_none, Option.bind_some, Option.pure_def, Option.bind_eq_bind, List.drop_zero, ↓reduceIte, Nat.reduceEqDiff, Nat.reduceAdd, Nat.reduceMul, Nat.reduceLeDiff, Nat.reduceLT, Int.reduceToNat, Int.reduceLT, Int.reduceLE, reduceCtorEq, or_self, or_false, false_or, or_true, true_or, true_and, and_true, and_self, decide_true, decide_false, Bool.false_eq_true, Bool.true_eq_false, Bool.not_true, Bool.not_false, Nat.le_refl, eq_self, gt_iff_lt, ge_iff_le, ne_eq, not_true_eq_false, not_false_eq_true, hlt', he8', hk0, Int.toNat_natCast, hsub, hneg, hbig, hw1, hw2, hpos, hov, hk1]
              exact loopQ_go rfl (s.length - (k + 1)) (by omega) ⟨k + 1, most * d, n * d, by omega, by omega, rfl, g1, by omega, hnd.1, g2, g3, rfl⟩
          · obtain rfl : d = 0 := by omega
            have g3 : cnt 1 1 s = cnt most 0 (s.drop (k + 1)) := by rw [h5, cnt, if_neg (by rw [max1]; simp; omega)]; simp [max1]
            have hnov : ¬ 4096 < most := by omega
            simp only [b58_0, mNil, nat0, beq_self_eq_true, mSkip, mRet, mExit, mReg, mSeq, mCond, mTrue, mFalse, mBlock, mLv, mCodeE, mCodeR, mEndN, mEndR, mEndE, mOps, mSome, mGuard, mGtt, mGff, mGtf, mGft, mGu, mCallP, mCallR, mCallF, mCallO, mCallZ, mCallG, mCallM, mCallV, loopQ_exit, loopQ_ret, mO_mov, mO_newnil, mO_pick, mO_alloc, mO_box, mO_build, mO_bsl, mO_bslF, mO_ldf, mO_ld, mO_st, mO_sta, mO_nilchk, mO_bin, mO_binb, mO_binp, mO_bins, mO_neg, mO_com, mO_not, mO_conv, mO_mk, mO_mk0, mO_s2b, mO_b2s, mO_cpy, mO_cut, mO_faddr, mO_fld, mO_iaddr, mO_iaddrf, mO_sidx, mO_len, mO_lenf, mO_slen, mO_scut, mO_app, mO_ext, mO_mx, mO_mn, mO_mkfn, evalOp, cutOp, argsE, ev, getE, putE, cellsOf, adopt, rowOf, binV, boolV, nilV, ar_add, ar_sub, ar_mul, ar_quo, ar_rem, ar_eq, ar_ne, ar_lt, ar_le, ar_gt, ar_ge, ar_and, ar_or, ar_xor, geto, bound, finRet, finNrm, ints, List.length_cons, List.length_nil, List.length_append, List.getElem?_cons_zero, List.getElem?_cons_succ, List.nil_append, List.cons_append, List.map_cons, List.map_nil, List.mapM_cons, List.mapM_nil, Option.map_some, Option.map_none, Option.bind_some, Option.pure_def, Option.bind_eq_bind, List.drop_zero, ↓reduceIte, Nat.reduceEqDiff, Nat.reduceAdd, Nat.reduceMul, Nat.reduceLeDiff, Nat.reduceLT, Int.reduceToNat, Int.reduceLT, Int.reduceLE, reduceCtorEq, or_self, or_false, false_or, or_true, true_or, true_and, and_true, and_self, decide_true, decide_false, Bool.false_eq_true, Bool.true_eq_false, Bool.not_true, Bool.not_false, Nat.le_refl, eq_self, gt_iff_lt, ge_iff_le, ne_eq, not_true_eq_false, not_false_eq_true, hlt', he8', hk0, Int.toNat_natCast, hsub, hneg, hbig, hw1, hw2, hpos, hnov, hk1]
            exact loopQ_go rfl (s.length - (k + 1)) (by omega) ⟨k + 1, most, n * 0, by omega, by omega, rfl, h1, h2, by simp, by simp; omega, by simpa using g3, rfl⟩
  · have hlt' : ¬ (k : Int) < (s.length : Int) := by omega
    obtain rfl : k = s.length := by omega
    have : count s = some n := by rw [count, if_neg (by omega), h5, List.drop_length, cnt]
    simp only [b58_0, k58_0, mNil, nat0, beq_self_eq_true, mSkip, mRet, mExit, mReg, mSeq, mCond, mTrue, mFalse, mBlock, mLv, mCodeE, mCodeR, mEndN, mEndR, mEndE, mOps, mSome, mGuard, mGtt, mGff, mGtf, mGft, mGu, mCallP, mCallR, mCallF, mCallO, mCallZ, mCallG, mCallM, mCallV, loopQ_exit, loopQ_ret, mO_mov, mO_newnil, mO_pick, mO_alloc, mO_box, mO_build, mO_bsl, mO_bslF, mO_ldf, mO_ld, mO_st, mO_sta, mO_nilchk, mO_bin, mO_binb, mO_binp, mO_bins, mO_neg, mO_com, mO_not, mO_conv, mO_mk, mO_mk0, mO_s2b, mO_b2s, mO_cpy, mO_cut, mO_faddr, mO_fld, mO_iaddr, mO_iaddrf, mO_sidx, mO_len, mO_lenf, mO_slen, mO_scut, mO_app, mO_ext, mO_mx, mO_mn, mO_mkfn, evalOp, cutOp, argsE, ev, getE, putE, cellsOf, adopt, rowOf, binV, boolV, nilV, ar_add, ar_sub, ar_mul, ar_quo, ar_rem, ar_eq, ar_ne, ar_lt, ar_le, ar_gt, ar_ge, ar_and, ar_or, ar_xor, geto, bound, finRet, finNrm, ints, List.length_cons, List.length_nil, List.length_append, List.getElem?_cons_zero, List.getElem?_cons_succ, List.nil_append, List.cons_append, List.map_cons, List.map_nil, List.mapM_cons, List.mapM_nil, Option.map_some, Option.map_none, Option.bind_some, Option.pure_def, Option.bind_eq_bind, List.drop_zero, ↓reduceIte, Nat.reduceEqDiff, Nat.reduceAdd, Nat.reduceMul, Nat.reduceLeDiff, Nat.reduceLT, Int.reduceToNat, Int.reduceLT, Int.reduceLE, reduceCtorEq, or_self, or_false, false_or, or_true, true_or, true_and, and_true, and_self, decide_true, decide_false, Bool.false_eq_true, Bool.true_eq_false, Bool.not_true, Bool.not_false, Nat.le_refl, eq_self, gt_iff_lt, ge_iff_le, ne_eq, not_true_eq_false, not_false_eq_true, hlt']
    simp only [i58, Out, resAll, geto, ints, List.getElem?_cons_zero, List.getElem?_cons_succ, resOf, outOf, snap, snapL, ev, getE, List.mapM_cons, List.mapM_nil, Option.bind_some, Option.pure_def, Option.bind_eq_bind, Option.map_some, reduceIte, Nat.reduceEqDiff, true_and, and_true, this, optP]
end
end Go.Proofs.YtcmbaabkfihdmaaGreat.I

/- Two lists of numbers: are they the same? -/
set_option linter.unusedVariables false
set_option linter.unusedSimpArgs false
namespace Go.Proofs.YtcmbaabkfihdmaaGreat.I
open Go Go.V
section
variable {E : CallRel}
theorem c54_ok {s t : List Int} (hs : (s.length : Int) ≤ 1000000000000000) (ht : (t.length : Int) ≤ 1000000000000000) : Go.V.Call tab E 54 [ints s, ints t] [] (.bool (decide (s = t))) [] := by
  refine Go.V.Call.mach i54 c54 rfl rfl rfl rfl ?_
  by_cases hl : s.length = t.length
  · have hl' : (s.length : Int) = (t.length : Int) := by omega
    simp only [c54, mNil, nat0, beq_self_eq_true, mSkip, mRet, mExit, mReg, mSeq, mCond, mTrue, mFalse, mBlock, mLv, mCodeE, mCodeR, mEndN, mEndR, mEndE, mOps, mSome, mGuard, mGtt, mGff, mGtf, mGft, mGu, mCallP, mCallR, mCallF, mCallO, mCallZ, mCallG, mCallM, mCallV, loopQ_exit, loopQ_ret, mO_mov, mO_newnil, mO_pick, mO_alloc, mO_box, mO_build, mO_bsl, mO_bslF, mO_ldf, mO_ld, mO_st, mO_sta, mO_nilchk, mO_bin, mO_binb, mO_binp, mO_bins, mO_neg, mO_com, mO_not, mO_conv, mO_mk, mO_mk0, mO_s2b, mO_b2s, mO_cpy, mO_cut, mO_faddr, mO_fld, mO_iaddr, mO_iaddrf, mO_sidx, mO_len, mO_lenf, mO_slen, mO_scut, mO_app, mO_ext, mO_mx, mO_mn, mO_mkfn, evalOp, cutOp, argsE, ev, getE, putE, cellsOf, adopt, rowOf, binV, boolV, nilV, ar_add, ar_sub, ar_mul, ar_quo, ar_rem, ar_eq, ar_ne, ar_lt, ar_le, ar_gt, ar_ge, ar_and, ar_or, ar_xor, geto, bound, finRet, finNrm, ints, List.length_cons, List.length_nil, List.length_append, List.getElem?_cons_zero, List.getElem?_cons_succ, List.nil_append, List.cons_append, List.map_cons, List.map_nil, List.mapM_cons, List.mapM_nil, Option.map_some, Option.map_none, Option.bind_some, Option.pure_def, Option.bind_eq_bind, List.drop_zero, ↓reduceIte, Nat.reduceEqDiff, Nat.reduceAdd, Nat.reduceMul, Nat.reduceLeDiff, Nat.reduceLT, Int.reduceToNat, Int.reduceLT, Int.reduceLE, reduceCtorEq, or_self, or_false, false_or, or_true, true_or, true_and, and_true, and_self, decide_true, decide_false, Bool.false_eq_true, Bool.true_eq_false, Bool.not_true, Bool.not_false, Nat.le_refl, eq_self, gt_iff_lt, ge_iff_le, ne_eq, not_true_eq_false, not_false_eq_true, hl', bne_self_eq_false]
    refine mLoop (fun N st => ∃ (k : Nat), k ≤ s.length ∧ N = s.length - k ∧ s.take k = t.take k ∧
      st = ⟨[(0, ints s), (1, ints t), (5, .int .i64 k)], []⟩) s.length ⟨_, rfl, 0, by omega, by omega, by simp, rfl⟩ ?_
    rintro N s0 ⟨k, hk, rfl, hp, rfl⟩
    by_cases hlt : k < s.length
    · have hlt' : (k : Int) < (t.length : Int) := by omega
      have hlt2 : k < t.length := by omega
      have hk0 : (0 : Int) ≤ (k : Int) := by omega
      have hk1 : IntKind.i64.wrap ((k : Int) + 1) = ((k + 1 : Nat) : Int) := by rw [wrap_i64 (by omega) (by omega)]; omega
      have hsub := sub_nums (k := .i64) hlt
      have hsub2 := sub_nums (k := .i64) hlt2
      by_cases he : s.getD k 0 = t.getD k 0
      · simp only [b54_0, mNil, nat0, beq_self_eq_true, mSkip, mRet, mExit, mReg, mSeq, mCond, mTrue, mFalse, mBlock, mLv, mCodeE, mCodeR, mEndN, mEndR, mEndE, mOps, mSome, mGuard, mGtt, mGff, mGtf, mGft, mGu, mCallP, mCallR, mCallF, mCallO, mCallZ, mCallG, mCallM, mCallV, loopQ_exit, loopQ_ret, mO_mov, mO_newnil, mO_pick, mO_alloc, mO_box, mO_build, mO_bsl, mO_bslF, mO_ldf, mO_ld, mO_st, mO_sta, mO_nilchk, mO_bin, mO_binb, mO_binp, mO_bins, mO_neg, mO_com, mO_not, mO_conv, mO_mk, mO_mk0, mO_s2b, mO_b2s, mO_cpy, mO_cut, mO_faddr, mO_fld, mO_iaddr, mO_iaddrf, mO_sidx, mO_len, mO_lenf, mO_slen, mO_scut, mO_app, mO_ext, mO_mx, mO_mn, mO_mkfn, evalOp, cutOp, argsE, ev, getE, putE, cellsOf, adopt, rowOf, binV, boolV, nilV, ar_add, ar_sub, ar_mul, ar_quo, ar_rem, ar_eq, ar_ne, ar_lt, ar_le, ar_gt, ar_ge, ar_and, ar_or, ar_xor, geto, bound, finRet, finNrm, ints, List.length_cons, List.length_nil, List.length_append, List.getElem?_cons_zero, List.getElem?_cons_succ, List.nil_append, List.cons_append, List.map_cons, List.map_nil, List.mapM_cons, List.mapM_nil, Option.map_some, Option.map_none, Option.bind_some, Option.pure_def, Option.bind_eq_bind, List.drop_zero, ↓reduceIte, Nat.reduceEqDiff, Nat.reduceAdd, Nat.reduceMul, Nat.reduceLeDiff, Nat.reduceLT, Int.reduceToNat, Int.reduceLT, Int.reduceLE, reduceCtorEq, or_self, or_false, false_or, or_true, true_or, true_and, and_true, and_self, decide_true, decide_false, Bool.false_eq_true, Bool.true_eq_false, Bool.not_true, Bool.not_false, Nat.le_refl, eq_self, gt_iff_lt, ge_iff_le, ne_eq, not_true_eq_false, not_false_eq_true, hl', hlt', hk0, Int.toNat_natCast, hsub, hsub2, he, bne_self_eq_false, hk1]
        refine loopQ_go (rfl) (s.length - (k + 1)) (by omega) ⟨k + 1, by omega, rfl, ?_, rfl⟩
        rw [List.take_add_one, List.take_add_one, hp]
        congr 1
        have h1 : s[k]? = some (s.getD k 0) := by simp [List.getD, hlt]
        have h2 : t[k]? = some (t.getD k 0) := by simp [List.getD, hlt2]
        rw [h1, h2, he]
      · have he' : (s.getD k 0 != t.getD k 0) = true := by simpa using he
        have hne : s ≠ t := fun h => he (by rw [h])
        simp only [b54_0, mNil, nat0, beq_self_eq_true, mSkip, mRet, mExit, mReg, mSeq, mCond, mTrue, mFalse, mBlock, mLv, mCodeE, mCodeR, mEndN, mEndR, mEndE, mOps, mSome, mGuard, mGtt, mGff, mGtf, mGft, mGu, mCallP, mCallR, mCallF, mCallO, mCallZ, mCallG, mCallM, mCallV, loopQ_exit, loopQ_ret, mO_mov, mO_newnil, mO_pick, mO_alloc, mO_box, mO_build, mO_bsl, mO_bslF, mO_ldf, mO_ld, mO_st, mO_sta, mO_nilchk, mO_bin, mO_binb, mO_binp, mO_bins, mO_neg, mO_com, mO_not, mO_conv, mO_mk, mO_mk0, mO_s2b, mO_b2s, mO_cpy, mO_cut, mO_faddr, mO_fld, mO_iaddr, mO_iaddrf, mO_sidx, mO_len, mO_lenf, mO_slen, mO_scut, mO_app, mO_ext, mO_mx, mO_mn, mO_mkfn, evalOp, cutOp, argsE, ev, getE, putE, cellsOf, adopt, rowOf, binV, boolV, nilV, ar_add, ar_sub, ar_mul, ar_quo, ar_rem, ar_eq, ar_ne, ar_lt, ar_le, ar_gt, ar_ge, ar_and, ar_or, ar_xor, geto, bound, finRet, finNrm, ints, List.length_cons, List.length_nil, List.length_append, List.getElem?_cons_zero, List.getElem?_cons_succ, List.nil_append, List.cons_append, List.map_cons, List.map_nil, List.mapM_cons, List.mapM_nil, Option.map_some, Option.map_none, Option.bind_some, Option.pure_def, Option.bind_eq_bind, List.drop_zero, ↓reduceIte, Nat.reduceEqDiff, Nat.reduceAdd, Nat.reduceMul, Nat.reduceLeDiff, Nat.reduceLT, Int.reduceToNat, Int.reduceLT, Int.reduceLE, reduceCtorEq, or_self, or_false, false_or, or_true, true_or, true_and, and_true, and_self, decide_true, decide_false, Bool.false_eq_true, Bool.true_eq_false, Bool.not_true, Bool.not_false, Nat.le_refl, eq_self, gt_iff_lt, ge_iff_le, ne_eq, not_true_eq_false, not_false_eq_true, hl', hlt', hk0, Int.toNat_natCast, hsub, hsub2, he']
        simp only [i54, Out, resAll, geto, ints, List.getElem?_cons_zero, List.getElem?_cons_succ, resOf, outOf, snap, snapL, ev, getE, List.mapM_cons, List.mapM_nil, Option.bind_some, Option.pure_def, Option.bind_eq_bind, Option.map_some, reduceIte, Nat.reduceEqDiff, true_and, and_true, hne, decide_false]
    · have hlt' : ¬ (k : Int) < (t.length : Int) := by omega
      have heq : s = t := by
        rw [List.take_of_length_le (by omega), List.take_of_length_le (by omega)] at hp
        exact hp
      simp only [b54_0, k54_0, mNil, nat0, beq_self_eq_true, mSkip, mRet, mExit, mReg, mSeq, mCond, mTrue, mFalse, mBlock, mLv, mCodeE, mCodeR, mEndN, mEndR, mEndE, mOps, mSome, mGuard, mGtt, mGff, mGtf, mGft, mGu, mCallP, mCallR, mCallF, mCallO, mCallZ, mCallG, mCallM, mCallV, loopQ_exit, loopQ_ret, mO_mov, mO_newnil, mO_pick, mO_alloc, mO_box, mO_build, mO_bsl, mO_bslF, mO_ldf, mO_ld, mO_st, mO_sta, mO_nilchk, mO_bin, mO_binb, mO_binp, mO_bins, mO_neg, mO_com, mO_not, mO_conv, mO_mk, mO_mk0, mO_s2b, mO_b2s, mO_cpy, mO_cut, mO_faddr, mO_fld, mO_iaddr, mO_iaddrf, mO_sidx, mO_len, mO_lenf, mO_slen, mO_scut, mO_app, mO_ext, mO_mx, mO_mn, mO_mkfn, evalOp, cutOp, argsE, ev, getE, putE, cellsOf, adopt, rowOf, binV, boolV, nilV, ar_add, ar_sub, ar_mul, ar_quo, ar_rem, ar_eq, ar_ne, ar_lt, ar_le, ar_gt, ar_ge, ar_and, ar_or, ar_xor, geto, bound, finRet, finNrm, ints, List.length_cons, List.length_nil, List.length_append, List.getElem?_cons_zero, List.getElem?_cons_succ, List.nil_append, List.cons_append, List.map_cons, List.map_nil, List.mapM_cons, List.mapM_nil, Option.map_some, Option.map_none, Option.bind_some, Option.pure_def, Option.bind_eq_bind, List.drop_zero, ↓reduceIte, Nat.reduceEqDiff, Nat.reduceAdd, Nat.reduceMul, Nat.reduceLeDiff, Nat.reduceLT, Int.reduceToNat, Int.reduceLT, Int.reduceLE, reduceCtorEq, or_self, or_false, false_or, or_true, true_or, true_and, and_true, and_self, decide_true, decide_false, Bool.false_eq_true, Bool.true_eq_false, Bool.not_true, Bool.not_false, Nat.le_refl, eq_self, gt_iff_lt, ge_iff_le, ne_eq, not_true_eq_false, not_false_eq_true, hl', hlt']
      simp only [i54, Out, resAll, geto, ints, List.getElem?_cons_zero, List.getElem?_cons_succ, resOf, outOf, snap, snapL, ev, getE, List.mapM_cons, List.mapM_nil, Option.bind_some, Option.pure_def, Option.bind_eq_bind, Option.map_some, reduceIte, Nat.reduceEqDiff, true_and, and_true, heq, decide_true]
  · have hl' : ((s.length : Int) != (t.length : Int)) = true := by simp; omega
    have hne : s ≠ t := fun h => hl (by rw [h])
    simp only [c54, mNil, nat0, beq_self_eq_true, mSkip, mRet, mExit, mReg, mSeq, mCond, mTrue, mFalse, mBlock, mLv, mCodeE, mCodeR, mEndN, mEndR, mEndE, mOps, mSome, mGuard, mGtt, mGff, mGtf, mGft, mGu, mCallP, mCallR, mCallF, mCallO, mCallZ, mCallG, mCallM, mCallV, loopQ_exit, loopQ_ret, mO_mov, mO_newnil, mO_pick, mO_alloc, mO_box, mO_build, mO_bsl, mO_bslF, mO_ldf, mO_ld, mO_st, mO_sta, mO_nilchk, mO_bin, mO_binb, mO_binp, mO_bins, mO_neg, mO_com, mO_not, mO_conv, mO_mk, mO_mk0, mO_s2b, mO_b2s, mO_cpy, mO_cut, mO_faddr, mO_fld, mO_iaddr, mO_iaddrf, mO_sidx, mO_len, mO_lenf, mO_slen, mO_scut, mO_app, mO_ext, mO_mx, mO_mn, mO_mkfn, evalOp, cutOp, argsE, ev, getE, putE, cellsOf, adopt, rowOf, binV, boolV, nilV, ar_add, ar_sub, ar_mul, ar_quo, ar_rem, ar_eq, ar_ne, ar_lt, ar_le, ar_gt, ar_ge, ar_and, ar_or, ar_xor, geto, bound, finRet, finNrm, ints, List.length_cons, List.length_nil, List.length_append, List.getElem?_cons_zero, List.getElem?_cons_succ, List.nil_append, List.cons_append, List.map_cons, List.map_nil, List.mapM_cons, List.mapM_nil, Option.map_some, Option.map_none, Option.bind_some, Option.pure_def, Option.bind_eq_bind, List.drop_zero, ↓reduceIte, Nat.reduceEqDiff, Nat.reduceAdd, Nat.reduceMul, Nat.reduceLeDiff, Nat.reduceLT, Int.reduceToNat, Int.reduceLT, Int.reduceLE, reduceCtorEq, or_self, or_false, false_or, or_true, true_or, true_and, and_true, and_self, decide_true, decide_false, Bool.false_eq_true, Bool.true_eq_false, Bool.not_true, Bool.not_false, Nat.le_refl, eq_self, gt_iff_lt, ge_iff_le, ne_eq, not_true_eq_false, not_false_eq_true, hl']
    simp only [i54, Out, resAll, geto, ints, List.getElem?_cons_zero, List.getElem?_cons_succ, resOf, outOf, snap, snapL, ev, getE, List.mapM_cons, List.mapM_nil, Option.bind_some, Option.pure_def, Option.bind_eq_bind, Option.map_some, reduceIte, Nat.reduceEqDiff, true_and, and_true, hne, decide_false]
end
end Go.Proofs.YtcmbaabkfihdmaaGreat.I

/- Layer 6: arrays, and what the page says of them. -/
set_option linter.unusedVariables false
set_option linter.unusedSimpArgs false
namespace Go.Proofs.YtcmbaabkfihdmaaGreat.I
open Go Go.V
attribute [local go_sem] mNil nat0 beq_self_eq_true mSkip mRet mExit mReg mSeq mCond mTrue mFalse mBlock mLv mCodeE mCodeR mEndN mEndR mEndE mOps mSome mGuard mGtt mGff mGtf mGft mGu mCallP mCallR mCallF mCallO mCallZ mCallG mCallM mCallV loopQ_exit loopQ_ret mO_mov mO_newnil mO_pick mO_alloc mO_box mO_build mO_bsl mO_bslF mO_ldf mO_ld mO_st mO_sta mO_nilchk mO_bin mO_binb mO_binp mO_bins mO_neg mO_com mO_not mO_conv mO_mk mO_mk0 mO_s2b mO_b2s mO_cpy mO_cut mO_faddr mO_fld mO_iaddr mO_iaddrf mO_sidx mO_len mO_lenf mO_slen mO_scut mO_app mO_ext mO_mx mO_mn mO_mkfn evalOp cutOp argsE ev getE putE cellsOf adopt rowOf binV boolV nilV ar_add ar_sub ar_mul ar_quo ar_rem ar_eq ar_ne ar_lt ar_le ar_gt ar_ge ar_and ar_or ar_xor geto bound finRet finNrm ints List.length_cons List.length_nil List.length_append List.getElem?_cons_zero List.getElem?_cons_succ List.nil_append List.cons_append List.map_cons List.map_nil List.mapM_cons List.mapM_nil Option.map_some Option.map_none Option.bind_some Option.pure_def Option.bind_eq_bind List.drop_zero or_self or_false false_or or_true true_or true_and and_true and_self decide_true decide_false Bool.false_eq_true Bool.true_eq_false Bool.not_true Bool.not_false Nat.le_refl eq_self gt_iff_lt ge_iff_le ne_eq not_true_eq_false not_false_eq_true storeOp apartOf freeze_nil refsL refs List.flatMap_cons List.flatMap_nil List.append_nil List.contains_nil List.set_cons_zero List.set_cons_succ snap snapL fill_nums flat_nums nums_length Go.V.freeze List.mapIdx_cons List.mapIdx_nil List.contains_cons Bool.or_false Bool.false_or Bool.or_true Bool.true_or
def runes (t : List Int) : AV := .sl t.length 1 (nums .i32 t)
def arrG (s : List Int) (ch : Bool) (t l : List Int) : List AV := [ints s, .bool ch, runes t, .sl l.length 3 (ratsC l), .bool true]
def numsC (l : List Int) : List AV := l.flatMap numC
def plG (s : List Int) (ch : Bool) (t l : List Int) : List AV := [ints s, .bool ch, runes t, .sl l.length 3 (numsC l)]
def noA : List AV := [.sl 0 1 [], .bool false, .sl 0 1 [], .sl 0 3 [], .bool false]
theorem numsC_len {l : List Int} : (numsC l).length = l.length * 3 := by
  induction l with
  | nil => rfl
  | cons z l ih =>
    have : numsC (z :: l) = numC z ++ numsC l := rfl
    rw [this, List.length_append, ih]
    simp [numC]
    omega
theorem numsC_get : ∀ {l : List Int} {i : Nat}, i < l.length → ((numsC l).drop (i * 3)).take 3 = numC (l.getD i 0)
  | [], i, h => by simp at h
  | z :: l, 0, _ => by
    have : numsC (z :: l) = numC z ++ numsC l := rfl
    rw [this, Nat.zero_mul, List.drop_zero]
    simp [numC]
  | z :: l, i + 1, h => by
    have : numsC (z :: l) = numC z ++ numsC l := rfl
    rw [this, Nat.succ_mul, List.drop_append]
    have e : (numC z).length = 3 := rfl
    rw [List.drop_eq_nil_of_le (by rw [e]; omega), e, Nat.add_sub_cancel, List.nil_append, numsC_get (by simpa using h)]
    simp
theorem sub_numsC {l : List Int} {i : Nat} (h : i < l.length) : sub true 3 (numsC l) (i * 3) = some (.agg (numC (l.getD i 0))) := by
  simp only [sub, numsC_len, if_true]
  rw [if_pos (by omega), numsC_get h]
theorem numsC_snoc {l : List Int} {z : Int} : numsC (l ++ [z]) = numsC l ++ numC z := by simp [numsC]
theorem beqBA {a : ByteArray} : (a == a) = true := by
  obtain ⟨⟨l⟩⟩ := a
  show ((⟨l⟩ : Array UInt8) == ⟨l⟩) = true
  simp
theorem same_numC {z : Int} : structV .ne [0, 2, 2] (.agg (numC z)) (.agg (numC z)) = some (.bool false) := by
  simp [structV, numC, kindOf, scalarsEq, scalEq, beqBA]
theorem dgs_bound : ∀ {k n : Nat}, n < 10 ^ k → (dgs n).length ≤ k
  | 0, n, h => by
    have : n = 0 := by simpa using h
    subst this
    rw [dgs_zero]; simp
  | k + 1, n, h => by
    by_cases h0 : n = 0
    · subst h0; rw [dgs_zero]; simp
    · rw [dgs_pos h0, List.length_cons]
      have := dgs_bound (k := k) (n := n / 10) (by rw [Nat.pow_succ] at h; omega)
      omega
theorem lim_len {n : Nat} : (lim n).length ≤ 2 := by
  unfold lim
  split
  · simp
  · split <;> simp
theorem dec1 : dec 1 = ⟨#[49]⟩ := by
  have : dgs 1 = [1] := by rw [dgs_pos (by omega)]; rw [show 1 / 10 = 0 from rfl, dgs_zero]; rfl
  rw [dec, if_neg (by omega), this]
  rfl
section
variable {E : CallRel}
theorem c84_small {n : Nat} (h : n < 18446744073709551616) : Go.V.Call tab E 84 [.agg [us32 (lim n)]] [] (.str (dec n)) [] := by
  have h1 := lim_len (n := n)
  have h2 := dgs_bound (k := 20) (n := n) (by omega)
  have h3 := c84_ok (E := E) (n := n) (by rw [← lim_limG h]; omega) (by omega)
  rwa [← lim_limG h] at h3
theorem c57_ok {z : Int} (hz : In64 z) : Go.V.Call tab E 57 [.agg (ratC z)] [] (.agg (numC z)) [] := by
  have hz' := hz
  obtain ⟨hz1, hz2⟩ := hz'
  have h99 := c84_small (E := E) (n := z.natAbs) (by omega)
  have h991 := c84_small (E := E) (n := 1) (by omega)
  rw [dec1, lim1] at h991
  have h98 : Go.V.Call tab E 69 [.agg [us32 (lim z.natAbs), .bool (decide (z < 0))]] [] (.bool (decide (z < 0))) [] := by
    refine Go.V.Call.mach i69 c69 rfl rfl rfl rfl ?_
    simp only [c69, us32, go_sem, ↓reduceIte, Nat.reduceEqDiff, Nat.reduceAdd, Nat.reduceMul, Nat.reduceLeDiff, Nat.reduceLT, Int.reduceToNat, Int.reduceLT, Int.reduceLE, reduceCtorEq, Nat.reduceBEq, sub, fillAll, fillIn, shiftR, shiftV, List.take_succ_cons, List.take_zero, List.drop_succ_cons, List.drop_zero, List.append_nil, Nat.zero_add]
    simp only [i69, Out, resAll, geto, ints, List.getElem?_cons_zero, List.getElem?_cons_succ, resOf, outOf, snap, snapL, ev, getE, List.mapM_cons, List.mapM_nil, Option.bind_some, Option.pure_def, Option.bind_eq_bind, Option.map_some, reduceIte, Nat.reduceEqDiff, true_and, and_true]
  refine Go.V.Call.mach i57 c57 rfl rfl rfl rfl ?_
  simp only [c57, ratC, us32, go_sem, ↓reduceIte, Nat.reduceEqDiff, Nat.reduceAdd, Nat.reduceMul, Nat.reduceLeDiff, Nat.reduceLT, Int.reduceToNat, Int.reduceLT, Int.reduceLE, reduceCtorEq, Nat.reduceBEq, sub, fillAll, fillIn, shiftR, shiftV, List.take_succ_cons, List.take_zero, List.drop_succ_cons, List.drop_zero, List.append_nil, Nat.zero_add]
  refine goP h98 ?_
  simp only [us32, go_sem, ↓reduceIte, Nat.reduceEqDiff, Nat.reduceAdd, Nat.reduceMul, Nat.reduceLeDiff, Nat.reduceLT, Int.reduceToNat, Int.reduceLT, Int.reduceLE, reduceCtorEq, Nat.reduceBEq, sub, fillAll, fillIn, shiftR, shiftV, List.take_succ_cons, List.take_zero, List.drop_succ_cons, List.drop_zero, List.append_nil, Nat.zero_add]
  refine goP h99 ?_
  simp only [us32, go_sem, ↓reduceIte, Nat.reduceEqDiff, Nat.reduceAdd, Nat.reduceMul, Nat.reduceLeDiff, Nat.reduceLT, Int.reduceToNat, Int.reduceLT, Int.reduceLE, reduceCtorEq, Nat.reduceBEq, sub, fillAll, fillIn, shiftR, shiftV, List.take_succ_cons, List.take_zero, List.drop_succ_cons, List.drop_zero, List.append_nil, Nat.zero_add]
  refine goP c71_ok ?_
  simp only [us32, go_sem, ↓reduceIte, Nat.reduceEqDiff, Nat.reduceAdd, Nat.reduceMul, Nat.reduceLeDiff, Nat.reduceLT, Int.reduceToNat, Int.reduceLT, Int.reduceLE, reduceCtorEq, Nat.reduceBEq, sub, fillAll, fillIn, shiftR, shiftV, List.take_succ_cons, List.take_zero, List.drop_succ_cons, List.drop_zero, List.append_nil, Nat.zero_add]
  refine goP h991 ?_
  simp only [us32, go_sem, ↓reduceIte, Nat.reduceEqDiff, Nat.reduceAdd, Nat.reduceMul, Nat.reduceLeDiff, Nat.reduceLT, Int.reduceToNat, Int.reduceLT, Int.reduceLE, reduceCtorEq, Nat.reduceBEq, sub, fillAll, fillIn, shiftR, shiftV, List.take_succ_cons, List.take_zero, List.drop_succ_cons, List.drop_zero, List.append_nil, Nat.zero_add]
  simp only [i57, Out, resAll, geto, ints, List.getElem?_cons_zero, List.getElem?_cons_succ, resOf, outOf, snap, snapL, ev, getE, List.mapM_cons, List.mapM_nil, Option.bind_some, Option.pure_def, Option.bind_eq_bind, Option.map_some, reduceIte, Nat.reduceEqDiff, true_and, and_true, sub, fillAll, fillIn, shiftR, shiftV, List.take_succ_cons, List.take_zero, List.drop_succ_cons, List.drop_zero, List.append_nil, Nat.zero_add, List.length_cons, List.length_nil, Nat.le_refl, numC]
end
end Go.Proofs.YtcmbaabkfihdmaaGreat.I

/- Layer 3: the number that the page speaks of. -/
set_option linter.unusedVariables false
set_option linter.unusedSimpArgs false
namespace Go.Proofs.YtcmbaabkfihdmaaGreat.I
open Go Go.V
attribute [local go_sem] mNil nat0 beq_self_eq_true mSkip mRet mExit mReg mSeq mCond mTrue mFalse mBlock mLv mCodeE mCodeR mEndN mEndR mEndE mOps mSome mGuard mGtt mGff mGtf mGft mGu mCallP mCallR mCallF mCallO mCallZ mCallG mCallM mCallV loopQ_exit loopQ_ret mO_mov mO_newnil mO_pick mO_alloc mO_box mO_build mO_bsl mO_bslF mO_ldf mO_ld mO_st mO_sta mO_nilchk mO_bin mO_binb mO_binp mO_bins mO_neg mO_com mO_not mO_conv mO_mk mO_mk0 mO_s2b mO_b2s mO_cpy mO_cut mO_faddr mO_fld mO_iaddr mO_iaddrf mO_sidx mO_len mO_lenf mO_slen mO_scut mO_app mO_ext mO_mx mO_mn mO_mkfn evalOp cutOp argsE ev getE putE cellsOf adopt rowOf binV boolV nilV ar_add ar_sub ar_mul ar_quo ar_rem ar_eq ar_ne ar_lt ar_le ar_gt ar_ge ar_and ar_or ar_xor geto bound finRet finNrm ints List.length_cons List.length_nil List.length_append List.getElem?_cons_zero List.getElem?_cons_succ List.nil_append List.cons_append List.map_cons List.map_nil List.mapM_cons List.mapM_nil Option.map_some Option.map_none Option.bind_some Option.pure_def Option.bind_eq_bind List.drop_zero or_self or_false false_or or_true true_or true_and and_true and_self decide_true decide_false Bool.false_eq_true Bool.true_eq_false Bool.not_true Bool.not_false Nat.le_refl eq_self gt_iff_lt ge_iff_le ne_eq not_true_eq_false not_false_eq_true storeOp apartOf freeze_nil refsL refs List.flatMap_cons List.flatMap_nil List.append_nil List.contains_nil List.set_cons_zero List.set_cons_succ snap snapL fill_nums flat_nums nums_length Go.V.freeze List.mapIdx_cons List.mapIdx_nil List.contains_cons Bool.or_false Bool.false_or Bool.or_true Bool.true_or
theorem beq_bs {a b : List Int} (ha : U8 a) (hb : U8 b) : (bs a == bs b) = decide (a = b) := by
  by_cases h : a = b
  · subst h
    rw [beqBA, decide_eq_true rfl]
  · rw [decide_eq_false h]
    have h2 : u8l a ≠ u8l b := fun e => h (u8l_inj ha hb e)
    show (((u8l a).toArray : Array UInt8) == (u8l b).toArray) = false
    simpa using h2
theorem num_same {n m : Bool} {a b c d : List Int} (ha : U8 a) (hb : U8 b) (hc : U8 c) (hd : U8 d) :
    structV .eq [0, 2, 2] (.agg [.bool n, .str (bs a), .str (bs b)]) (.agg [.bool m, .str (bs c), .str (bs d)]) = some (.bool (decide (n = m ∧ a = c ∧ b = d))) := by
  have h1 : ([AV.bool n, AV.str (bs a), AV.str (bs b)]).map kindOf = [0, 2, 2] := rfl
  have h2 : ([AV.bool m, AV.str (bs c), AV.str (bs d)]).map kindOf = [0, 2, 2] := rfl
  simp only [structV, h1, h2, and_self, if_true, scalarsEq, scalEq, beq_bs ha hc, beq_bs hb hd]
  by_cases e1 : n = m
  · have : (n == m) = true := by rw [e1]; cases m <;> rfl
    rw [this]
    by_cases e2 : a = c
    · rw [decide_eq_true e2]
      by_cases e3 : b = d
      · rw [decide_eq_true e3]; simp [e1, e2, e3]
      · rw [decide_eq_false e3]; simp [e3]
    · rw [decide_eq_false e2]; simp [e2]
  · have : (n == m) = false := by revert e1; cases n <;> cases m <;> simp
    rw [this]; simp [e1]
section
variable {E : CallRel}
theorem c46_ok {n ok : Bool} {a b : List Int} (ha : U8 a) (hb : U8 b) (hal : a.length ≤ 1000000000) (hbl : b.length ≤ 1000000000) (hok : ok = true ↔ RightN n a b) :
    ∃ (n' : Bool) (p q : Nat), (ok = true → n' = n ∧ p = sval a ∧ q = sval b) ∧ Go.V.Call tab E 46 [.agg [.bool n, .str (bs a), .str (bs b)]] [] (.tup [.agg (ratG n' p q), .bool ok]) [] := by
  have hfalse : ¬ RightN n a b → ok = false := fun h => by rw [← Bool.not_eq_true, hok]; exact h
  have pa : ∀ b' : Bool, (b' = true ↔ RightS a) → _ := fun b' h => c73_ok (E := E) (b := b') ha hal h
  have pb : ∀ b' : Bool, (b' = true ↔ RightS b) → _ := fun b' h => c73_ok (E := E) (b := b') hb hbl h
  by_cases hRa : RightS a
  · have h116a := pa true ⟨fun _ => hRa, fun _ => rfl⟩
    by_cases hRb : RightS b
    · have h116b := pb true ⟨fun _ => hRb, fun _ => rfl⟩
      simp only [if_true] at h116a h116b
      have h118a := c68_ok (E := E) (n := n) (p := sval a)
      have h118b := c68_ok (E := E) (n := false) (p := sval b)
      have la := lim2000_limbs (Right_lim hRa)
      have lb := lim2000_limbs (Right_lim hRb)
      by_cases hq : sval b = 0
      · have := hfalse (fun h => h.2.2.2.2.1 ((right_zero hRb h.2.2.2.1).1 hq))
        subst this
        refine ⟨false, 0, 0, fun h => (by cases h), ?_⟩
        rw [hq] at h116b h118b
        have h117 := c38_zero (E := E) (n1 := n && decide (sval a ≠ 0)) (n2 := false && decide (0 ≠ 0)) (p := sval a)
        simp only [natC, us32, ratG] at h116a h116b h118a h118b h117 ⊢
        refine Go.V.Call.mach i46 c46 rfl rfl rfl rfl ?_
        simp only [c46, us32, go_sem, ↓reduceIte, Nat.reduceEqDiff, Nat.reduceAdd, Nat.reduceMul, Nat.reduceLeDiff, Nat.reduceLT, Int.reduceToNat, Int.reduceLT, Int.reduceLE, reduceCtorEq, Nat.reduceBEq, sub, fillAll, fillIn, shiftR, shiftV, List.take_succ_cons, List.take_zero, List.drop_succ_cons, List.drop_zero, List.append_nil, Nat.zero_add]
        refine goP h116a ?_
        simp only [us32, go_sem, ↓reduceIte, Nat.reduceEqDiff, Nat.reduceAdd, Nat.reduceMul, Nat.reduceLeDiff, Nat.reduceLT, Int.reduceToNat, Int.reduceLT, Int.reduceLE, reduceCtorEq, Nat.reduceBEq, sub, fillAll, fillIn, shiftR, shiftV, List.take_succ_cons, List.take_zero, List.drop_succ_cons, List.drop_zero, List.append_nil, Nat.zero_add]
        refine goP h116b ?_
        simp only [us32, go_sem, ↓reduceIte, Nat.reduceEqDiff, Nat.reduceAdd, Nat.reduceMul, Nat.reduceLeDiff, Nat.reduceLT, Int.reduceToNat, Int.reduceLT, Int.reduceLE, reduceCtorEq, Nat.reduceBEq, sub, fillAll, fillIn, shiftR, shiftV, List.take_succ_cons, List.take_zero, List.drop_succ_cons, List.drop_zero, List.append_nil, Nat.zero_add]
        refine goF h118a ?_
        simp only [us32, go_sem, ↓reduceIte, Nat.reduceEqDiff, Nat.reduceAdd, Nat.reduceMul, Nat.reduceLeDiff, Nat.reduceLT, Int.reduceToNat, Int.reduceLT, Int.reduceLE, reduceCtorEq, Nat.reduceBEq, sub, fillAll, fillIn, shiftR, shiftV, List.take_succ_cons, List.take_zero, List.drop_succ_cons, List.drop_zero, List.append_nil, Nat.zero_add]
        refine goF h118b ?_
        simp only [us32, go_sem, ↓reduceIte, Nat.reduceEqDiff, Nat.reduceAdd, Nat.reduceMul, Nat.reduceLeDiff, Nat.reduceLT, Int.reduceToNat, Int.reduceLT, Int.reduceLE, reduceCtorEq, Nat.reduceBEq, sub, fillAll, fillIn, shiftR, shiftV, List.take_succ_cons, List.take_zero, List.drop_succ_cons, List.drop_zero, List.append_nil, Nat.zero_add]
        refine goP h117 ?_
        simp only [us32, go_sem, ↓reduceIte, Nat.reduceEqDiff, Nat.reduceAdd, Nat.reduceMul, Nat.reduceLeDiff, Nat.reduceLT, Int.reduceToNat, Int.reduceLT, Int.reduceLE, reduceCtorEq, Nat.reduceBEq, sub, fillAll, fillIn, shiftR, shiftV, List.take_succ_cons, List.take_zero, List.drop_succ_cons, List.drop_zero, List.append_nil, Nat.zero_add, List.all_cons, List.all_nil, Nat.reduceBNe, Bool.and_true]
        simp only [i46, Out, resAll, geto, ints, List.getElem?_cons_zero, List.getElem?_cons_succ, resOf, outOf, snap, snapL, ev, getE, List.mapM_cons, List.mapM_nil, Option.bind_some, Option.pure_def, Option.bind_eq_bind, Option.map_some, reduceIte, Nat.reduceEqDiff, true_and, and_true, sub, fillAll, fillIn, shiftR, shiftV, List.take_succ_cons, List.take_zero, List.drop_succ_cons, List.drop_zero, List.append_nil, Nat.zero_add, List.length_cons, List.length_nil, Nat.le_refl, us32]
      · have hqp := Nat.pos_of_ne_zero hq
        have h117 := c38_ok (E := E) (n1 := n && decide (sval a ≠ 0)) (n2 := false && decide (sval b ≠ 0)) (p := sval a) (q := sval b) hq (by omega) (by omega)
        have hgp : 0 < Nat.gcd (sval a) (sval b) := Nat.gcd_pos_of_pos_right _ hqp
        have hy0 : sval b / Nat.gcd (sval a) (sval b) ≠ 0 := by
          have h1 := Nat.gcd_le_right (sval a) hqp
          have := (Nat.div_pos h1 hgp)
          omega
        have hxl : sval a / Nat.gcd (sval a) (sval b) < lim2000 := Nat.lt_of_le_of_lt (Nat.div_le_self _ _) (Right_lim hRa)
        have hyl : sval b / Nat.gcd (sval a) (sval b) < lim2000 := Nat.lt_of_le_of_lt (Nat.div_le_self _ _) (Right_lim hRb)
        have hdn : dn (sval b / Nat.gcd (sval a) (sval b)) = sval b / Nat.gcd (sval a) (sval b) := by rw [dn, if_neg hy0]
        have hdiv1 : sval b / Nat.gcd (sval a) (sval b) = sval b → Nat.gcd (sval a) (sval b) = 1 := fun h => by
          rcases Nat.lt_or_ge 1 (Nat.gcd (sval a) (sval b)) with h1 | h1
          · have := Nat.div_lt_self hqp h1
            omega
          · omega
        refine ⟨((n && decide (sval a ≠ 0)) != (false && decide (sval b ≠ 0))) && decide (sval a / Nat.gcd (sval a) (sval b) ≠ 0), sval a / Nat.gcd (sval a) (sval b), sval b / Nat.gcd (sval a) (sval b), ?_, ?_⟩
        rotate_left
        · have h74 := c57_gen (E := E) (n := ((n && decide (sval a ≠ 0)) != (false && decide (sval b ≠ 0))) && decide (sval a / Nat.gcd (sval a) (sval b) ≠ 0)) hxl (by rw [hdn]; exact hyl)
          have hsame := num_same (n := ((n && decide (sval a ≠ 0)) != (false && decide (sval b ≠ 0))) && decide (sval a / Nat.gcd (sval a) (sval b) ≠ 0)) (m := n) (decL_dig (sval a / Nat.gcd (sval a) (sval b))).u8 (decL_dig (sval b / Nat.gcd (sval a) (sval b))).u8 ha hb
          have hokd : decide ((((n && decide (sval a ≠ 0)) != (false && decide (sval b ≠ 0))) && decide (sval a / Nat.gcd (sval a) (sval b) ≠ 0)) = n ∧ decL (sval a / Nat.gcd (sval a) (sval b)) = a ∧ decL (sval b / Nat.gcd (sval a) (sval b)) = b) = ok := by
            rw [Bool.eq_iff_iff, hok, decide_eq_true_eq]
            constructor
            · rintro ⟨e1, e2, e3⟩
              have s1 := congrArg sval e2
              rw [sval_decL] at s1
              have s2 := congrArg sval e3
              rw [sval_decL] at s2
              refine ⟨hRa, hRb, by rw [← e2]; exact trim_decL _, by rw [← e3]; exact trim_decL _, ?_, hdiv1 s2, ?_⟩
              · rintro rfl
                exact hq rfl
              · rintro ⟨rfl, rfl⟩
                have : sval [48] = 0 := rfl
                rw [this] at e1
                simp at e1
            · rintro ⟨_, _, t1, t2, _, g1, g2⟩
              rw [g1, Nat.div_one, Nat.div_one]
              refine ⟨?_, ?_, ?_⟩
              · cases n with
                | false => simp
                | true =>
                  have : sval a ≠ 0 := fun h => g2 ⟨rfl, (right_zero hRa t1).1 h⟩
                  simp [this]
              · rw [← trimS_dec hRa.1 (fun h0 => by have := hRa.2.1; rw [h0] at this; simp at this), t1]
              · rw [← trimS_dec hRb.1 (fun h0 => by have := hRb.2.1; rw [h0] at this; simp at this), t2]
          rw [hokd, ← dec_eq, ← dec_eq] at hsame
          rw [hdn] at h74
          simp only [natC, us32, ratG, numG] at h116a h116b h118a h118b h117 h74 ⊢
          refine Go.V.Call.mach i46 c46 rfl rfl rfl rfl ?_
          simp only [c46, us32, go_sem, ↓reduceIte, Nat.reduceEqDiff, Nat.reduceAdd, Nat.reduceMul, Nat.reduceLeDiff, Nat.reduceLT, Int.reduceToNat, Int.reduceLT, Int.reduceLE, reduceCtorEq, Nat.reduceBEq, sub, fillAll, fillIn, shiftR, shiftV, List.take_succ_cons, List.take_zero, List.drop_succ_cons, List.drop_zero, List.append_nil, Nat.zero_add]
          refine goP h116a ?_
          simp only [us32, go_sem, ↓reduceIte, Nat.reduceEqDiff, Nat.reduceAdd, Nat.reduceMul, Nat.reduceLeDiff, Nat.reduceLT, Int.reduceToNat, Int.reduceLT, Int.reduceLE, reduceCtorEq, Nat.reduceBEq, sub, fillAll, fillIn, shiftR, shiftV, List.take_succ_cons, List.take_zero, List.drop_succ_cons, List.drop_zero, List.append_nil, Nat.zero_add]
          refine goP h116b ?_
          simp only [us32, go_sem, ↓reduceIte, Nat.reduceEqDiff, Nat.reduceAdd, Nat.reduceMul, Nat.reduceLeDiff, Nat.reduceLT, Int.reduceToNat, Int.reduceLT, Int.reduceLE, reduceCtorEq, Nat.reduceBEq, sub, fillAll, fillIn, shiftR, shiftV, List.take_succ_cons, List.take_zero, List.drop_succ_cons, List.drop_zero, List.append_nil, Nat.zero_add]
          refine goF h118a ?_
          simp only [us32, go_sem, ↓reduceIte, Nat.reduceEqDiff, Nat.reduceAdd, Nat.reduceMul, Nat.reduceLeDiff, Nat.reduceLT, Int.reduceToNat, Int.reduceLT, Int.reduceLE, reduceCtorEq, Nat.reduceBEq, sub, fillAll, fillIn, shiftR, shiftV, List.take_succ_cons, List.take_zero, List.drop_succ_cons, List.drop_zero, List.append_nil, Nat.zero_add]
          refine goF h118b ?_
          simp only [us32, go_sem, ↓reduceIte, Nat.reduceEqDiff, Nat.reduceAdd, Nat.reduceMul, Nat.reduceLeDiff, Nat.reduceLT, Int.reduceToNat, Int.reduceLT, Int.reduceLE, reduceCtorEq, Nat.reduceBEq, sub, fillAll, fillIn, shiftR, shiftV, List.take_succ_cons, List.take_zero, List.drop_succ_cons, List.drop_zero, List.append_nil, Nat.zero_add]
          refine goP h117 ?_
          simp only [us32, go_sem, ↓reduceIte, Nat.reduceEqDiff, Nat.reduceAdd, Nat.reduceMul, Nat.reduceLeDiff, Nat.reduceLT, Int.reduceToNat, Int.reduceLT, Int.reduceLE, reduceCtorEq, Nat.reduceBEq, sub, fillAll, fillIn, shiftR, shiftV, List.take_succ_cons, List.take_zero, List.drop_succ_cons, List.drop_zero, List.append_nil, Nat.zero_add]
          refine goR h74 rfl ?_
          simp only [us32, go_sem, ↓reduceIte, Nat.reduceEqDiff, Nat.reduceAdd, Nat.reduceMul, Nat.reduceLeDiff, Nat.reduceLT, Int.reduceToNat, Int.reduceLT, Int.reduceLE, reduceCtorEq, Nat.reduceBEq, sub, fillAll, fillIn, shiftR, shiftV, List.take_succ_cons, List.take_zero, List.drop_succ_cons, List.drop_zero, List.append_nil, Nat.zero_add, hsame, List.all_cons, List.all_nil, Nat.reduceBNe, Bool.and_true]
          simp only [i46, Out, resAll, geto, ints, List.getElem?_cons_zero, List.getElem?_cons_succ, resOf, outOf, snap, snapL, ev, getE, List.mapM_cons, List.mapM_nil, Option.bind_some, Option.pure_def, Option.bind_eq_bind, Option.map_some, reduceIte, Nat.reduceEqDiff, true_and, and_true, sub, fillAll, fillIn, shiftR, shiftV, List.take_succ_cons, List.take_zero, List.drop_succ_cons, List.drop_zero, List.append_nil, Nat.zero_add, List.length_cons, List.length_nil, Nat.le_refl, us32]
        · intro ht
          obtain ⟨_, _, t1, t2, _, g1, g2⟩ := hok.1 ht
          rw [g1, Nat.div_one, Nat.div_one]
          refine ⟨?_, rfl, rfl⟩
          cases n with
          | false => simp
          | true =>
            have : sval a ≠ 0 := fun h => g2 ⟨rfl, (right_zero hRa t1).1 h⟩
            simp [this]
    · have h116b := pb false ⟨fun h => (by cases h), fun h => absurd h hRb⟩
      have := hfalse (fun h => hRb h.2.1)
      subst this
      refine ⟨false, 0, 0, fun h => (by cases h), ?_⟩
      simp only [if_true, if_false, Bool.false_eq_true] at h116a h116b
      simp only [natC, us32, ratG, limG_zero] at h116a h116b ⊢
      refine Go.V.Call.mach i46 c46 rfl rfl rfl rfl ?_
      simp only [c46, us32, go_sem, ↓reduceIte, Nat.reduceEqDiff, Nat.reduceAdd, Nat.reduceMul, Nat.reduceLeDiff, Nat.reduceLT, Int.reduceToNat, Int.reduceLT, Int.reduceLE, reduceCtorEq, Nat.reduceBEq, sub, fillAll, fillIn, shiftR, shiftV, List.take_succ_cons, List.take_zero, List.drop_succ_cons, List.drop_zero, List.append_nil, Nat.zero_add]
      refine goP h116a ?_
      simp only [us32, go_sem, ↓reduceIte, Nat.reduceEqDiff, Nat.reduceAdd, Nat.reduceMul, Nat.reduceLeDiff, Nat.reduceLT, Int.reduceToNat, Int.reduceLT, Int.reduceLE, reduceCtorEq, Nat.reduceBEq, sub, fillAll, fillIn, shiftR, shiftV, List.take_succ_cons, List.take_zero, List.drop_succ_cons, List.drop_zero, List.append_nil, Nat.zero_add]
      refine goP h116b ?_
      simp only [us32, go_sem, ↓reduceIte, Nat.reduceEqDiff, Nat.reduceAdd, Nat.reduceMul, Nat.reduceLeDiff, Nat.reduceLT, Int.reduceToNat, Int.reduceLT, Int.reduceLE, reduceCtorEq, Nat.reduceBEq, sub, fillAll, fillIn, shiftR, shiftV, List.take_succ_cons, List.take_zero, List.drop_succ_cons, List.drop_zero, List.append_nil, Nat.zero_add]
      simp only [i46, Out, resAll, geto, ints, List.getElem?_cons_zero, List.getElem?_cons_succ, resOf, outOf, snap, snapL, ev, getE, List.mapM_cons, List.mapM_nil, Option.bind_some, Option.pure_def, Option.bind_eq_bind, Option.map_some, reduceIte, Nat.reduceEqDiff, true_and, and_true, sub, fillAll, fillIn, shiftR, shiftV, List.take_succ_cons, List.take_zero, List.drop_succ_cons, List.drop_zero, List.append_nil, Nat.zero_add, List.length_cons, List.length_nil, Nat.le_refl, us32]
      rfl
  · have h116a := pa false ⟨fun h => (by cases h), fun h => absurd h hRa⟩
    have := hfalse (fun h => hRa h.1)
    subst this
    have h116b : ∃ (x : Nat) (t : Bool), Go.V.Call tab E 73 [.str (bs b)] [] (.tup [natC x, .bool t]) [] := by
      by_cases hRb : RightS b
      · exact ⟨_, _, pb true ⟨fun _ => hRb, fun _ => rfl⟩⟩
      · exact ⟨_, _, pb false ⟨fun h => (by cases h), fun h => absurd h hRb⟩⟩
    obtain ⟨x, t, h116b⟩ := h116b
    refine ⟨false, 0, 0, fun h => (by cases h), ?_⟩
    simp only [if_true, if_false, Bool.false_eq_true] at h116a
    simp only [natC, us32, ratG, limG_zero] at h116a h116b ⊢
    refine Go.V.Call.mach i46 c46 rfl rfl rfl rfl ?_
    simp only [c46, us32, go_sem, ↓reduceIte, Nat.reduceEqDiff, Nat.reduceAdd, Nat.reduceMul, Nat.reduceLeDiff, Nat.reduceLT, Int.reduceToNat, Int.reduceLT, Int.reduceLE, reduceCtorEq, Nat.reduceBEq, sub, fillAll, fillIn, shiftR, shiftV, List.take_succ_cons, List.take_zero, List.drop_succ_cons, List.drop_zero, List.append_nil, Nat.zero_add]
    refine goP h116a ?_
    simp only [us32, go_sem, ↓reduceIte, Nat.reduceEqDiff, Nat.reduceAdd, Nat.reduceMul, Nat.reduceLeDiff, Nat.reduceLT, Int.reduceToNat, Int.reduceLT, Int.reduceLE, reduceCtorEq, Nat.reduceBEq, sub, fillAll, fillIn, shiftR, shiftV, List.take_succ_cons, List.take_zero, List.drop_succ_cons, List.drop_zero, List.append_nil, Nat.zero_add]
    refine goP h116b ?_
    simp only [us32, go_sem, ↓reduceIte, Nat.reduceEqDiff, Nat.reduceAdd, Nat.reduceMul, Nat.reduceLeDiff, Nat.reduceLT, Int.reduceToNat, Int.reduceLT, Int.reduceLE, reduceCtorEq, Nat.reduceBEq, sub, fillAll, fillIn, shiftR, shiftV, List.take_succ_cons, List.take_zero, List.drop_succ_cons, List.drop_zero, List.append_nil, Nat.zero_add]
    simp only [i46, Out, resAll, geto, ints, List.getElem?_cons_zero, List.getElem?_cons_succ, resOf, outOf, snap, snapL, ev, getE, List.mapM_cons, List.mapM_nil, Option.bind_some, Option.pure_def, Option.bind_eq_bind, Option.map_some, reduceIte, Nat.reduceEqDiff, true_and, and_true, sub, fillAll, fillIn, shiftR, shiftV, List.take_succ_cons, List.take_zero, List.drop_succ_cons, List.drop_zero, List.append_nil, Nat.zero_add, List.length_cons, List.length_nil, Nat.le_refl, us32]
    rfl
end
end Go.Proofs.YtcmbaabkfihdmaaGreat.I

/- Layer 6: arrays made, and told plainly. -/
set_option linter.unusedVariables false
set_option linter.unusedSimpArgs false
namespace Go.Proofs.YtcmbaabkfihdmaaGreat.I
open Go Go.V
attribute [local go_sem] mNil nat0 beq_self_eq_true mSkip mRet mExit mReg mSeq mCond mTrue mFalse mBlock mLv mCodeE mCodeR mEndN mEndR mEndE mOps mSome mGuard mGtt mGff mGtf mGft mGu mCallP mCallR mCallF mCallO mCallZ mCallG mCallM mCallV loopQ_exit loopQ_ret mO_mov mO_newnil mO_pick mO_alloc mO_box mO_build mO_bsl mO_bslF mO_ldf mO_ld mO_st mO_sta mO_nilchk mO_bin mO_binb mO_binp mO_bins mO_neg mO_com mO_not mO_conv mO_mk mO_mk0 mO_s2b mO_b2s mO_cpy mO_cut mO_faddr mO_fld mO_iaddr mO_iaddrf mO_sidx mO_len mO_lenf mO_slen mO_scut mO_app mO_ext mO_mx mO_mn mO_mkfn evalOp cutOp argsE ev getE putE cellsOf adopt rowOf binV boolV nilV ar_add ar_sub ar_mul ar_quo ar_rem ar_eq ar_ne ar_lt ar_le ar_gt ar_ge ar_and ar_or ar_xor geto bound finRet finNrm ints List.length_cons List.length_nil List.length_append List.getElem?_cons_zero List.getElem?_cons_succ List.nil_append List.cons_append List.map_cons List.map_nil List.mapM_cons List.mapM_nil Option.map_some Option.map_none Option.bind_some Option.pure_def Option.bind_eq_bind List.drop_zero or_self or_false false_or or_true true_or true_and and_true and_self decide_true decide_false Bool.false_eq_true Bool.true_eq_false Bool.not_true Bool.not_false Nat.le_refl eq_self gt_iff_lt ge_iff_le ne_eq not_true_eq_false not_false_eq_true storeOp apartOf freeze_nil refsL refs List.flatMap_cons List.flatMap_nil List.append_nil List.contains_nil List.set_cons_zero List.set_cons_succ snap snapL fill_nums flat_nums nums_length Go.V.freeze List.mapIdx_cons List.mapIdx_nil List.contains_cons Bool.or_false Bool.false_or Bool.or_true Bool.true_or
theorem c45_ok {t : List Int} (ht : (t.length : Int) ≤ 1000000000000) : Go.V.Call tab E 45 [runes t] [] (.arr 0 0) [⟨false, 21, 1, 0, t.length, nums .i32 t, false⟩] := by
  refine ⟨0, ?_⟩
  have h1 : t.length * 4 ≤ 140737488355328 := by omega
  have h2 : t.length ≤ 140737488355328 := by omega
  simp only [CallN, E, ext, cloneOf, runes, h1, h2, and_self, if_true]
theorem c44_ok {l : List Int} (hl : (l.length : Int) ≤ 1000000000000) : Go.V.Call tab E 44 [.sl l.length 3 (ratsC l)] [] (.arr 0 0) [⟨false, 62, 3, 0, l.length, ratsC l, false⟩] := by
  refine ⟨0, ?_⟩
  have h1 : l.length * 56 ≤ 140737488355328 := by omega
  have h2 : l.length ≤ 140737488355328 := by omega
  simp only [CallN, E, ext, cloneOf, h1, h2, and_self, if_true]
theorem c56_ok {s t l : List Int} {ch : Bool} (ht : (t.length : Int) ≤ 1000000000000) : Go.V.Call tab E 56 [.agg (arrG s ch t l)] [] (.arr 0 0) [⟨false, 21, 1, 0, t.length, nums .i32 t, false⟩] := by
  refine Go.V.Call.mach i56 c56 rfl rfl rfl rfl ?_
  simp only [c56, arrG, runes, go_sem, ↓reduceIte, Nat.reduceEqDiff, Nat.reduceAdd, Nat.reduceMul, Nat.reduceLeDiff, Nat.reduceLT, Int.reduceToNat, Int.reduceLT, Int.reduceLE, reduceCtorEq, Nat.reduceBEq, sub, fillAll, fillIn, shiftR, shiftV, List.take_succ_cons, List.take_zero, List.drop_succ_cons, List.drop_zero, List.append_nil, Nat.zero_add]
  refine goO (c45_ok ht) rfl rfl ?_
  simp only [go_sem, ↓reduceIte, Nat.reduceEqDiff, Nat.reduceAdd, Nat.reduceMul, Nat.reduceLeDiff, Nat.reduceLT, Int.reduceToNat, Int.reduceLT, Int.reduceLE, reduceCtorEq, Nat.reduceBEq, fillAll, fillIn, shiftR, shiftV, List.take_succ_cons, List.take_zero, List.drop_succ_cons, List.drop_zero, List.append_nil, Nat.zero_add]
  simp only [i56, Out, resAll, geto, ints, List.getElem?_cons_zero, List.getElem?_cons_succ, resOf, outOf, snap, snapL, ev, getE, List.mapM_cons, List.mapM_nil, Option.bind_some, Option.pure_def, Option.bind_eq_bind, Option.map_some, reduceIte, Nat.reduceEqDiff, true_and, and_true, ownOut, ownL, ownV, scalar, List.contains_nil, List.length_nil, List.length_cons, List.nil_append, List.cons_append, storeOp, apartOf, freeze_nil, refsL, refs, List.flatMap_cons, List.flatMap_nil, List.append_nil, List.contains_nil, List.set_cons_zero, List.set_cons_succ, snap, snapL, fill_nums, flat_nums, nums_length, reduceCtorEq, Bool.false_eq_true, and_self, not_false_eq_true, beq_self_eq_true, Nat.zero_add]
theorem c23_G {s t l : List Int} {ch : Bool} (hs : (s.length : Int) ≤ 1000000000000) : Go.V.Call tab E 23 [.agg (arrG s ch t l)] [] (ints s) [] := by
  refine Go.V.Call.mach i23 c23 rfl rfl rfl rfl ?_
  simp only [c23, arrG, runes, go_sem, ↓reduceIte, Nat.reduceEqDiff, Nat.reduceAdd, Nat.reduceMul, Nat.reduceLeDiff, Nat.reduceLT, Int.reduceToNat, Int.reduceLT, Int.reduceLE, reduceCtorEq, Nat.reduceBEq, sub, fillAll, fillIn, shiftR, shiftV, List.take_succ_cons, List.take_zero, List.drop_succ_cons, List.drop_zero, List.append_nil, Nat.zero_add]
  refine goO (c43_ok hs) rfl rfl ?_
  simp only [go_sem, ↓reduceIte, Nat.reduceEqDiff, Nat.reduceAdd, Nat.reduceMul, Nat.reduceLeDiff, Nat.reduceLT, Int.reduceToNat, Int.reduceLT, Int.reduceLE, reduceCtorEq, Nat.reduceBEq, fillAll, fillIn, shiftR, shiftV, List.take_succ_cons, List.take_zero, List.drop_succ_cons, List.drop_zero, List.append_nil, Nat.zero_add]
  simp only [i23, Out, resAll, geto, ints, List.getElem?_cons_zero, List.getElem?_cons_succ, resOf, outOf, snap, snapL, ev, getE, List.mapM_cons, List.mapM_nil, Option.bind_some, Option.pure_def, Option.bind_eq_bind, Option.map_some, reduceIte, Nat.reduceEqDiff, true_and, and_true]
section
variable {E : CallRel}
theorem c28_no : Go.V.Call tab E 28 [.agg noA] [] (.int .i64 0) [] := by
  refine Go.V.Call.mach i28 c28 rfl rfl rfl rfl ?_
  have hw : IntKind.i64.wrap (0 + 0) = 0 := by decide
  simp only [c28, noA, go_sem, ↓reduceIte, Nat.reduceEqDiff, Nat.reduceAdd, Nat.reduceMul, Nat.reduceLeDiff, Nat.reduceLT, Int.reduceToNat, Int.reduceLT, Int.reduceLE, reduceCtorEq, Nat.reduceBEq, sub, fillAll, fillIn, shiftR, shiftV, List.take_succ_cons, List.take_zero, List.drop_succ_cons, List.drop_zero, List.append_nil, Nat.zero_add, hw]
  simp only [i28, Out, resAll, geto, ints, List.getElem?_cons_zero, List.getElem?_cons_succ, resOf, outOf, snap, snapL, ev, getE, List.mapM_cons, List.mapM_nil, Option.bind_some, Option.pure_def, Option.bind_eq_bind, Option.map_some, reduceIte, Nat.reduceEqDiff, true_and, and_true]
theorem c55_ok {t : List Int} (ht : (t.length : Int) ≤ 1000000000000) : Go.V.Call tab E 55 [runes t, runes t] [] (.bool true) [] := by
  refine Go.V.Call.mach i55 c55 rfl rfl rfl rfl ?_
  simp only [c55, runes, go_sem, ↓reduceIte, Nat.reduceEqDiff, Nat.reduceAdd, Nat.reduceMul, Nat.reduceLeDiff, Nat.reduceLT, Int.reduceToNat, Int.reduceLT, Int.reduceLE, reduceCtorEq, Nat.reduceBEq, bne_self_eq_false]
  refine mLoop (fun N st => ∃ (k : Nat), k ≤ t.length ∧ N = t.length - k ∧
    st = ⟨[(0, runes t), (1, runes t), (5, .int .i64 k)], []⟩) t.length ⟨_, rfl, 0, by omega, by omega, rfl⟩ ?_
  rintro N s0 ⟨k, hk, rfl, rfl⟩
  by_cases hlt : k < t.length
  · have hlt' : (k : Int) < (t.length : Int) := by omega
    have hk0 : (0 : Int) ≤ (k : Int) := by omega
    have hk1 : IntKind.i64.wrap ((k : Int) + 1) = ((k + 1 : Nat) : Int) := by rw [wrap_i64 (by omega) (by omega)]; omega
    have hsub := sub_nums (k := .i32) hlt
    simp only [b55_0, runes, go_sem, ↓reduceIte, Nat.reduceEqDiff, Nat.reduceAdd, Nat.reduceMul, Nat.reduceLeDiff, Nat.reduceLT, Int.reduceToNat, Int.reduceLT, Int.reduceLE, reduceCtorEq, Nat.reduceBEq, hlt', hk0, Int.toNat_natCast, hsub, bne_self_eq_false, hk1]
    exact loopQ_go rfl (t.length - (k + 1)) (by omega) ⟨k + 1, by omega, rfl, rfl⟩
  · have hlt' : ¬ (k : Int) < (t.length : Int) := by omega
    simp only [b55_0, k55_0, runes, go_sem, ↓reduceIte, Nat.reduceEqDiff, Nat.reduceAdd, Nat.reduceMul, Nat.reduceLeDiff, Nat.reduceLT, Int.reduceToNat, Int.reduceLT, Int.reduceLE, reduceCtorEq, Nat.reduceBEq, hlt']
    simp only [i55, Out, resAll, geto, ints, List.getElem?_cons_zero, List.getElem?_cons_succ, resOf, outOf, snap, snapL, ev, getE, List.mapM_cons, List.mapM_nil, Option.bind_some, Option.pure_def, Option.bind_eq_bind, Option.map_some, reduceIte, Nat.reduceEqDiff, true_and, and_true]
/-- What is the same is the same. -/
theorem c29_ok {s t l : List Int} {ch : Bool} (hs : (s.length : Int) ≤ 1000000000000) (ht : (t.length : Int) ≤ 1000000000000) (hl : (l.length : Int) ≤ 1000000000000) : Go.V.Call tab E 29 [.agg (plG s ch t l), .agg (plG s ch t l)] [] (.bool true) [] := by
  refine Go.V.Call.mach i29 c29 rfl rfl rfl rfl ?_
  simp only [c29, plG, runes, go_sem, ↓reduceIte, Nat.reduceEqDiff, Nat.reduceAdd, Nat.reduceMul, Nat.reduceLeDiff, Nat.reduceLT, Int.reduceToNat, Int.reduceLT, Int.reduceLE, reduceCtorEq, Nat.reduceBEq, sub, fillAll, fillIn, shiftR, shiftV, List.take_succ_cons, List.take_zero, List.drop_succ_cons, List.drop_zero, List.append_nil, Nat.zero_add, beq_self_eq_true]
  refine goP (c54_ok (s := s) (t := s) (by omega) (by omega)) ?_
  simp only [go_sem, ↓reduceIte, Nat.reduceEqDiff, Nat.reduceAdd, Nat.reduceMul, Nat.reduceLeDiff, Nat.reduceLT, Int.reduceToNat, Int.reduceLT, Int.reduceLE, reduceCtorEq, Nat.reduceBEq, sub, fillAll, fillIn, shiftR, shiftV, List.take_succ_cons, List.take_zero, List.drop_succ_cons, List.drop_zero, List.append_nil, Nat.zero_add, decide_true]
  refine goP (c55_ok ht) ?_
  simp only [go_sem, ↓reduceIte, Nat.reduceEqDiff, Nat.reduceAdd, Nat.reduceMul, Nat.reduceLeDiff, Nat.reduceLT, Int.reduceToNat, Int.reduceLT, Int.reduceLE, reduceCtorEq, Nat.reduceBEq, sub, fillAll, fillIn, shiftR, shiftV, List.take_succ_cons, List.take_zero, List.drop_succ_cons, List.drop_zero, List.append_nil, Nat.zero_add, bne_self_eq_false]
  refine mLoop (fun N st => ∃ (k : Nat), k ≤ l.length ∧ N = l.length - k ∧
    st = ⟨[(2, .loc 0 0 0), (3, .loc 1 0 0), (5, .int .i64 k)], [⟨true, 26, 4, 0, 1, plG s ch t l, false⟩, ⟨true, 26, 4, 0, 1, plG s ch t l, false⟩]⟩) l.length ⟨_, rfl, 0, by omega, by omega, rfl⟩ ?_
  rintro N s0 ⟨k, hk, rfl, rfl⟩
  have sub43 : ∀ {a b c d : AV}, sub false 1 [a, b, c, d] (0 + 3) = some d := fun {a b c d} => rfl
  by_cases hlt : k < l.length
  · have hlt' : (k : Int) < (l.length : Int) := by omega
    have hk0 : (0 : Int) ≤ (k : Int) := by omega
    have hk1 : IntKind.i64.wrap ((k : Int) + 1) = ((k + 1 : Nat) : Int) := by rw [wrap_i64 (by omega) (by omega)]; omega
    have hsub := sub_numsC hlt
    have hsame := same_numC (z := l.getD k 0)
    simp only [b29_0, plG, runes, go_sem, ↓reduceIte, Nat.reduceEqDiff, Nat.reduceAdd, Nat.reduceMul, Nat.reduceLeDiff, Nat.reduceLT, Int.reduceToNat, Int.reduceLT, Int.reduceLE, reduceCtorEq, Nat.reduceBEq, sub43, Nat.zero_add, hlt', hk0, Int.toNat_natCast, hsub, hsame, hk1]
    exact loopQ_go rfl (l.length - (k + 1)) (by omega) ⟨k + 1, by omega, rfl, rfl⟩
  · have hlt' : ¬ (k : Int) < (l.length : Int) := by omega
    simp only [b29_0, k29_0, plG, runes, go_sem, ↓reduceIte, Nat.reduceEqDiff, Nat.reduceAdd, Nat.reduceMul, Nat.reduceLeDiff, Nat.reduceLT, Int.reduceToNat, Int.reduceLT, Int.reduceLE, reduceCtorEq, Nat.reduceBEq, sub43, hlt']
    simp only [i29, Out, resAll, geto, ints, List.getElem?_cons_zero, List.getElem?_cons_succ, resOf, outOf, snap, snapL, ev, getE, List.mapM_cons, List.mapM_nil, Option.bind_some, Option.pure_def, Option.bind_eq_bind, Option.map_some, reduceIte, Nat.reduceEqDiff, true_and, and_true]
end
theorem subP4 {a b c d : AV} : sub true 4 [a, b, c, d] 0 = some (.agg [a, b, c, d]) := rfl
theorem subP3 {a b c d : AV} : sub false 1 [a, b, c, d] (0 + 3) = some d := rfl
theorem subP3' {a b c d : AV} : sub false 1 [a, b, c, d] 3 = some d := rfl
/-- What is told of an array. -/
theorem c30_ok {s t l : List Int} {ch : Bool} (hs : (s.length : Int) ≤ 1000000000000) (ht : (t.length : Int) ≤ 1000000000000) (hl : (l.length : Int) ≤ 1000000000000) (hz : ∀ z ∈ l, In64 z) : Go.V.Call tab E 30 [.agg (arrG s ch t l)] [] (.agg (plG s ch t l)) [] := by
  refine Go.V.Call.mach i30 c30 rfl rfl rfl rfl ?_
  have hsubA : ∀ {a b c d e : AV}, sub false 1 [a, b, c, d, e] 1 = some b := fun {a b c d e} => rfl
  simp only [c30, arrG, runes, go_sem, ↓reduceIte, Nat.reduceEqDiff, Nat.reduceAdd, Nat.reduceMul, Nat.reduceLeDiff, Nat.reduceLT, Int.reduceToNat, Int.reduceLT, Int.reduceLE, reduceCtorEq, Nat.reduceBEq, subA5, hsubA, subA3, fillAll, fillIn, shiftR, shiftV, List.take_succ_cons, List.take_zero, List.drop_succ_cons, List.drop_zero, List.append_nil, Nat.zero_add]
  refine goP (c23_G (s := s) (t := t) (l := l) (ch := ch) hs) ?_
  simp only [go_sem, ↓reduceIte, Nat.reduceEqDiff, Nat.reduceAdd, Nat.reduceMul, Nat.reduceLeDiff, Nat.reduceLT, Int.reduceToNat, Int.reduceLT, Int.reduceLE, reduceCtorEq, Nat.reduceBEq, subA5, hsubA, subA3, fillAll, fillIn, shiftR, shiftV, List.take_succ_cons, List.take_zero, List.drop_succ_cons, List.drop_zero, List.append_nil, Nat.zero_add]
  refine goZ (r' := runes t) (c56_ok (s := s) (t := t) (l := l) (ch := ch) ht) rfl ?_
  simp only [runes, go_sem, ↓reduceIte, Nat.reduceEqDiff, Nat.reduceAdd, Nat.reduceMul, Nat.reduceLeDiff, Nat.reduceLT, Int.reduceToNat, Int.reduceLT, Int.reduceLE, reduceCtorEq, Nat.reduceBEq, subA5, hsubA, subA3, fillAll, fillIn, shiftR, shiftV, List.take_succ_cons, List.take_zero, List.drop_succ_cons, List.drop_zero, List.append_nil, Nat.zero_add]
  refine mLoop (fun N st => ∃ (i : Nat), i ≤ l.length ∧ N = l.length - i ∧
    st = ⟨[(2, .loc 4 0 0), (3, .loc 8 0 0), (14, .sl l.length 3 (ratsC l)), (15, .int .i64 l.length), (16, .int .i64 i)],
      [⟨true, 36, 5, 0, 1, arrG s ch t l, false⟩, ⟨false, 3, 1, 0, 0, [], false⟩, ⟨false, 21, 1, 0, 0, [], false⟩, ⟨false, 71, 3, 0, 0, [], false⟩, ⟨true, 26, 4, 0, 1, [.arr 1 0, .bool false, .arr 2 0, .arr 3 0], false⟩,
       ⟨false, 3, 1, 0, 0, [], false⟩, ⟨false, 21, 1, 0, 0, [], false⟩, ⟨false, 71, 3, 0, 0, [], false⟩, ⟨true, 26, 4, 0, 1, [ints s, .bool ch, runes t, .arr 9 i], false⟩, ⟨false, 71, 3, i, i, numsC (l.take i), false⟩]⟩) l.length
    ⟨_, rfl, 0, by omega, by omega, by simp [getE, ints, runes, arrG, numsC]⟩ ?_
  rintro N s0 ⟨i, hi, rfl, rfl⟩
  by_cases hlt : i < l.length
  · have hlt' : (i : Int) < (l.length : Int) := by omega
    have hi0 : (0 : Int) ≤ (i : Int) := by omega
    have hi1 : IntKind.i64.wrap ((i : Int) + 1) = ((i + 1 : Nat) : Int) := by rw [wrap_i64 (by omega) (by omega)]; omega
    have hsub := sub_rats hlt
    have hzi : In64 (l.getD i 0) := hz _ (by simp [List.getD, hlt])
    have htk := take_snoc hlt
    have e1 : (i + 1) * 40 ≤ 140737488355328 := by omega
    have e2 : i + 1 ≤ 140737488355328 := by omega
    have h74 := c57_ok (E := E) hzi
    simp only [b30_0, arrG, runes, go_sem, ↓reduceIte, Nat.reduceEqDiff, Nat.reduceAdd, Nat.reduceMul, Nat.reduceLeDiff, Nat.reduceLT, Int.reduceToNat, Int.reduceLT, Int.reduceLE, reduceCtorEq, Nat.reduceBEq, hlt', hi0, Int.toNat_natCast, hsub, ratC, us32, subT3, subP3, subP3', fillAll, fillIn, shiftR, shiftV, List.take_succ_cons, List.take_zero, List.drop_succ_cons, List.drop_zero, List.append_nil, Nat.zero_add]
    refine goR h74 rfl ?_
    simp only [go_sem, ↓reduceIte, Nat.reduceEqDiff, Nat.reduceAdd, Nat.reduceMul, Nat.reduceLeDiff, Nat.reduceLT, Int.reduceToNat, Int.reduceLT, Int.reduceLE, reduceCtorEq, Nat.reduceBEq, fillAll, fillIn, shiftR, shiftV, List.take_succ_cons, List.take_zero, List.drop_succ_cons, List.drop_zero, List.append_nil, Nat.zero_add, numC, hi1, e1, e2, List.flatten_cons, List.flatten_nil, Option.getD_some, subP3, subP3']
    refine loopQ_go rfl (l.length - (i + 1)) (by omega) ⟨i + 1, by omega, rfl, ?_⟩
    rw [htk, numsC_snoc]
    rfl
  · have hlt' : ¬ (i : Int) < (l.length : Int) := by omega
    obtain rfl : i = l.length := by omega
    simp only [b30_0, k30_0, arrG, runes, go_sem, ↓reduceIte, Nat.reduceEqDiff, Nat.reduceAdd, Nat.reduceMul, Nat.reduceLeDiff, Nat.reduceLT, Int.reduceToNat, Int.reduceLT, Int.reduceLE, reduceCtorEq, Nat.reduceBEq, hlt', List.take_length, subP4, fillAll, fillIn, shiftR, shiftV, List.take_succ_cons, List.take_zero, List.drop_succ_cons, List.drop_zero, List.append_nil, Nat.zero_add]
    simp only [i30, Out, resAll, geto, ints, List.getElem?_cons_zero, List.getElem?_cons_succ, resOf, outOf, snap, snapL, ev, getE, List.mapM_cons, List.mapM_nil, Option.bind_some, Option.pure_def, Option.bind_eq_bind, Option.map_some, reduceIte, Nat.reduceEqDiff, true_and, and_true, plG, runes, subP4]
/-- An array of numbers, if they are so many. -/
def fits (s : List Int) (n : Nat) : Bool := decide (count s = some (n : Int))
theorem c22_ok {s l : List Int} (hs : ∀ d ∈ s, In64 d) (hsl : (s.length : Int) ≤ 1000000000000) (hl : (l.length : Int) ≤ 1000000000000) : Go.V.Call tab E 22 [ints s, .sl l.length 3 (ratsC l)] [] (.tup [if fits s l.length then .agg (arrG s false [] l) else .agg noA, .bool (fits s l.length)]) [] := by
  refine Go.V.Call.mach i22 c22 rfl rfl rfl rfl ?_
  simp only [c22, go_sem, ↓reduceIte, Nat.reduceEqDiff, Nat.reduceAdd, Nat.reduceMul, Nat.reduceLeDiff, Nat.reduceLT, Int.reduceToNat, Int.reduceLT, Int.reduceLE, reduceCtorEq, Nat.reduceBEq, fillAll, fillIn, shiftR, shiftV, List.take_succ_cons, List.take_zero, List.drop_succ_cons, List.drop_zero, List.append_nil, Nat.zero_add]
  refine goP (c42_ok hs (by omega)) ?_
  cases hc : count s with
  | none =>
    have hf : fits s l.length = false := by simp [fits, hc]
    simp only [optP, go_sem, ↓reduceIte, Nat.reduceEqDiff, Nat.reduceAdd, Nat.reduceMul, Nat.reduceLeDiff, Nat.reduceLT, Int.reduceToNat, Int.reduceLT, Int.reduceLE, reduceCtorEq, Nat.reduceBEq, fillAll, fillIn, shiftR, shiftV, List.take_succ_cons, List.take_zero, List.drop_succ_cons, List.drop_zero, List.append_nil, Nat.zero_add]
    simp only [i22, Out, resAll, geto, ints, List.getElem?_cons_zero, List.getElem?_cons_succ, resOf, outOf, snap, snapL, ev, getE, List.mapM_cons, List.mapM_nil, Option.bind_some, Option.pure_def, Option.bind_eq_bind, Option.map_some, reduceIte, Nat.reduceEqDiff, true_and, and_true, subA5, hf, noA, Bool.false_eq_true]
  | some m =>
    by_cases hm : m = (l.length : Int)
    · subst hm
      have hf : fits s l.length = true := by simp [fits, hc]
      simp only [optP, go_sem, ↓reduceIte, Nat.reduceEqDiff, Nat.reduceAdd, Nat.reduceMul, Nat.reduceLeDiff, Nat.reduceLT, Int.reduceToNat, Int.reduceLT, Int.reduceLE, reduceCtorEq, Nat.reduceBEq, fillAll, fillIn, shiftR, shiftV, List.take_succ_cons, List.take_zero, List.drop_succ_cons, List.drop_zero, List.append_nil, Nat.zero_add, bne_self_eq_false]
      refine goO (c43_ok hsl) rfl rfl ?_
      simp only [go_sem, ↓reduceIte, Nat.reduceEqDiff, Nat.reduceAdd, Nat.reduceMul, Nat.reduceLeDiff, Nat.reduceLT, Int.reduceToNat, Int.reduceLT, Int.reduceLE, reduceCtorEq, Nat.reduceBEq, fillAll, fillIn, shiftR, shiftV, List.take_succ_cons, List.take_zero, List.drop_succ_cons, List.drop_zero, List.append_nil, Nat.zero_add]
      refine goO (c44_ok hl) rfl rfl ?_
      simp only [go_sem, ↓reduceIte, Nat.reduceEqDiff, Nat.reduceAdd, Nat.reduceMul, Nat.reduceLeDiff, Nat.reduceLT, Int.reduceToNat, Int.reduceLT, Int.reduceLE, reduceCtorEq, Nat.reduceBEq, fillAll, fillIn, shiftR, shiftV, List.take_succ_cons, List.take_zero, List.drop_succ_cons, List.drop_zero, List.append_nil, Nat.zero_add]
      simp only [i22, Out, resAll, geto, ints, List.getElem?_cons_zero, List.getElem?_cons_succ, resOf, outOf, snap, snapL, ev, getE, List.mapM_cons, List.mapM_nil, Option.bind_some, Option.pure_def, Option.bind_eq_bind, Option.map_some, reduceIte, Nat.reduceEqDiff, true_and, and_true, subA5, hf, arrG, runes]
      rfl
    · have hf : fits s l.length = false := by simp [fits, hc, hm]
      have hm' : (m != (l.length : Int)) = true := by simpa using hm
      simp only [optP, go_sem, ↓reduceIte, Nat.reduceEqDiff, Nat.reduceAdd, Nat.reduceMul, Nat.reduceLeDiff, Nat.reduceLT, Int.reduceToNat, Int.reduceLT, Int.reduceLE, reduceCtorEq, Nat.reduceBEq, fillAll, fillIn, shiftR, shiftV, List.take_succ_cons, List.take_zero, List.drop_succ_cons, List.drop_zero, List.append_nil, Nat.zero_add, hm']
      simp only [i22, Out, resAll, geto, ints, List.getElem?_cons_zero, List.getElem?_cons_succ, resOf, outOf, snap, snapL, ev, getE, List.mapM_cons, List.mapM_nil, Option.bind_some, Option.pure_def, Option.bind_eq_bind, Option.map_some, reduceIte, Nat.reduceEqDiff, true_and, and_true, subA5, hf, noA, Bool.false_eq_true]
section
variable {E : CallRel}
end
end Go.Proofs.YtcmbaabkfihdmaaGreat.I

/- Layer 6: arrays of exact numbers, and what the page says of them. -/
set_option linter.unusedVariables false
set_option linter.unusedSimpArgs false
namespace Go.Proofs.YtcmbaabkfihdmaaGreat.I
open Go Go.V
attribute [local go_sem] mNil nat0 beq_self_eq_true mSkip mRet mExit mReg mSeq mCond mTrue mFalse mBlock mLv mCodeE mCodeR mEndN mEndR mEndE mOps mSome mGuard mGtt mGff mGtf mGft mGu mCallP mCallR mCallF mCallO mCallZ mCallG mCallM mCallV loopQ_exit loopQ_ret mO_mov mO_newnil mO_pick mO_alloc mO_box mO_build mO_bsl mO_bslF mO_ldf mO_ld mO_st mO_sta mO_nilchk mO_bin mO_binb mO_binp mO_bins mO_neg mO_com mO_not mO_conv mO_mk mO_mk0 mO_s2b mO_b2s mO_cpy mO_cut mO_faddr mO_fld mO_iaddr mO_iaddrf mO_sidx mO_len mO_lenf mO_slen mO_scut mO_app mO_ext mO_mx mO_mn mO_mkfn evalOp cutOp argsE ev getE putE cellsOf adopt rowOf binV boolV nilV ar_add ar_sub ar_mul ar_quo ar_rem ar_eq ar_ne ar_lt ar_le ar_gt ar_ge ar_and ar_or ar_xor geto bound finRet finNrm ints List.length_cons List.length_nil List.length_append List.getElem?_cons_zero List.getElem?_cons_succ List.nil_append List.cons_append List.map_cons List.map_nil List.mapM_cons List.mapM_nil Option.map_some Option.map_none Option.bind_some Option.pure_def Option.bind_eq_bind List.drop_zero or_self or_false false_or or_true true_or true_and and_true and_self decide_true decide_false Bool.false_eq_true Bool.true_eq_false Bool.not_true Bool.not_false Nat.le_refl eq_self gt_iff_lt ge_iff_le ne_eq not_true_eq_false not_false_eq_true storeOp apartOf freeze_nil refsL refs List.flatMap_cons List.flatMap_nil List.append_nil List.contains_nil List.set_cons_zero List.set_cons_succ snap snapL fill_nums flat_nums nums_length Go.V.freeze List.mapIdx_cons List.mapIdx_nil List.contains_cons Bool.or_false Bool.false_or Bool.or_true Bool.true_or
/-- A number on the page: the sign, the bytes above and below the line. -/
abbrev Nm := Bool × List Int × List Int
/-- A number of the program: the sign, the size above and below the line. -/
abbrev Rt := Bool × Nat × Nat
def nmC (x : Nm) : List AV := [.bool x.1, .str (bs x.2.1), .str (bs x.2.2)]
def rtC (x : Rt) : List AV := ratG x.1 x.2.1 x.2.2
def nmsC (l : List Nm) : List AV := l.flatMap nmC
def rtsC (l : List Rt) : List AV := l.flatMap rtC
def nmAt (l : List Nm) (i : Nat) : Nm := l.getD i (false, [], [])
def rtAt (l : List Rt) (i : Nat) : Rt := l.getD i (false, 0, 0)
def arrX (s : List Int) (ch : Bool) (t : List Int) (l : List Rt) : List AV := [ints s, .bool ch, runes t, .sl l.length 3 (rtsC l), .bool true]
def plX (s : List Int) (ch : Bool) (t : List Int) (l : List Nm) : List AV := [ints s, .bool ch, runes t, .sl l.length 3 (nmsC l)]
def toNm (x : Rt) : Nm := (x.1, decL x.2.1, decL (dn x.2.2))
def toRt (x : Nm) : Rt := (x.1, sval x.2.1, sval x.2.2)
theorem flat_len {α : Type} {f : α → List AV} (hf : ∀ x, (f x).length = 3) : ∀ {l : List α}, (l.flatMap f).length = l.length * 3
  | [] => rfl
  | z :: l => by rw [List.flatMap_cons, List.length_append, hf, flat_len hf, List.length_cons]; omega
theorem flat_get {α : Type} {f : α → List AV} (hf : ∀ x, (f x).length = 3) {d : α} : ∀ {l : List α} {i : Nat}, i < l.length → ((l.flatMap f).drop (i * 3)).take 3 = f (l.getD i d)
  | [], i, h => by simp at h
  | z :: l, 0, _ => by
    rw [List.flatMap_cons, Nat.zero_mul, List.drop_zero, List.take_append_of_le_length (by rw [hf]; omega), List.take_of_length_le (by rw [hf]; omega)]
    rfl
  | z :: l, i + 1, h => by
    rw [List.flatMap_cons, Nat.succ_mul, List.drop_append, List.drop_eq_nil_of_le (by rw [hf]; omega), hf, Nat.add_sub_cancel, List.nil_append, flat_get hf (d := d) (by simpa using h)]
    simp
theorem sub_flat {α : Type} {f : α → List AV} (hf : ∀ x, (f x).length = 3) {d : α} {l : List α} {i : Nat} (h : i < l.length) : sub true 3 (l.flatMap f) (i * 3) = some (.agg (f (l.getD i d))) := by
  simp only [sub, flat_len hf, if_true]
  rw [if_pos (by omega), flat_get hf h]
theorem sub_flat1 {α : Type} {f : α → List AV} (hf : ∀ x, (f x).length = 3) {d : α} {l : List α} {i k : Nat} (h : i < l.length) (hk : k < 3) : sub false 1 (l.flatMap f) (i * 3 + k) = (f (l.getD i d))[k]? := by
  simp only [sub, flat_len hf, if_true, Bool.false_eq_true, if_false]
  rw [if_pos (by omega), ← flat_get hf h, List.getElem?_take, if_pos hk, List.getElem?_drop]
theorem sub_nms {l : List Nm} {i : Nat} (h : i < l.length) : sub true 3 (nmsC l) (i * 3) = some (.agg (nmC (nmAt l i))) := sub_flat (fun _ => rfl) h
theorem sub_rts {l : List Rt} {i : Nat} (h : i < l.length) : sub true 3 (rtsC l) (i * 3) = some (.agg (rtC (rtAt l i))) := sub_flat (fun _ => rfl) h
theorem sub_nms1 {l : List Nm} {i : Nat} (h : i < l.length) : sub false 1 (nmsC l) (i * 3 + 1) = some (.str (bs (nmAt l i).2.1)) := sub_flat1 (fun _ => rfl) h (by omega)
theorem sub_nms2 {l : List Nm} {i : Nat} (h : i < l.length) : sub false 1 (nmsC l) (i * 3 + 2) = some (.str (bs (nmAt l i).2.2)) := sub_flat1 (fun _ => rfl) h (by omega)
theorem takeAt {α : Type} {l : List α} {i : Nat} {d : α} (h : i < l.length) : l.take (i + 1) = l.take i ++ [l.getD i d] := by
  rw [List.take_add_one, List.getElem?_eq_getElem h]
  simp [List.getD, h]
theorem rtsC_snoc {l : List Rt} {x : Rt} : rtsC (l ++ [x]) = rtsC l ++ rtC x := by simp [rtsC]
theorem nmC_dec {x : Rt} : numG x.1 x.2.1 (dn x.2.2) = nmC (toNm x) := by
  simp only [numG, nmC, toNm, dec_eq]
theorem subX1 {a b c d e : AV} : sub false 1 [a, b, c, d, e] 1 = some b := rfl
theorem c28_X {s t : List Int} {l : List Rt} {ch : Bool} (ht : (t.length : Int) ≤ 1000000000000) (hl : (l.length : Int) ≤ 1000000000000) : Go.V.Call tab E 28 [.agg (arrX s ch t l)] [] (.int .i64 ((t.length + l.length : Nat) : Int)) [] := by
  refine Go.V.Call.mach i28 c28 rfl rfl rfl rfl ?_
  have w : IntKind.i64.wrap ((t.length : Int) + (l.length : Int)) = ((t.length + l.length : Nat) : Int) := by rw [wrap_i64 (by omega) (by omega)]; omega
  simp only [c28, arrX, runes, go_sem, ↓reduceIte, Nat.reduceEqDiff, Nat.reduceAdd, Nat.reduceMul, Nat.reduceLeDiff, Nat.reduceLT, Int.reduceToNat, Int.reduceLT, Int.reduceLE, reduceCtorEq, Nat.reduceBEq, sub, fillAll, fillIn, shiftR, shiftV, List.take_succ_cons, List.take_zero, List.drop_succ_cons, List.drop_zero, List.append_nil, Nat.zero_add, w]
  simp only [i28, Out, resAll, geto, ints, List.getElem?_cons_zero, List.getElem?_cons_succ, resOf, outOf, snap, snapL, ev, getE, List.mapM_cons, List.mapM_nil, Option.bind_some, Option.pure_def, Option.bind_eq_bind, Option.map_some, reduceIte, Nat.reduceEqDiff, true_and, and_true]
theorem c23_X {s t : List Int} {l : List Rt} {ch : Bool} (hs : (s.length : Int) ≤ 1000000000000) : Go.V.Call tab E 23 [.agg (arrX s ch t l)] [] (ints s) [] := by
  refine Go.V.Call.mach i23 c23 rfl rfl rfl rfl ?_
  simp only [c23, arrX, runes, go_sem, ↓reduceIte, Nat.reduceEqDiff, Nat.reduceAdd, Nat.reduceMul, Nat.reduceLeDiff, Nat.reduceLT, Int.reduceToNat, Int.reduceLT, Int.reduceLE, reduceCtorEq, Nat.reduceBEq, sub, fillAll, fillIn, shiftR, shiftV, List.take_succ_cons, List.take_zero, List.drop_succ_cons, List.drop_zero, List.append_nil, Nat.zero_add]
  refine goO (c43_ok hs) rfl rfl ?_
  simp only [go_sem, ↓reduceIte, Nat.reduceEqDiff, Nat.reduceAdd, Nat.reduceMul, Nat.reduceLeDiff, Nat.reduceLT, Int.reduceToNat, Int.reduceLT, Int.reduceLE, reduceCtorEq, Nat.reduceBEq, fillAll, fillIn, shiftR, shiftV, List.take_succ_cons, List.take_zero, List.drop_succ_cons, List.drop_zero, List.append_nil, Nat.zero_add]
  simp only [i23, Out, resAll, geto, ints, List.getElem?_cons_zero, List.getElem?_cons_succ, resOf, outOf, snap, snapL, ev, getE, List.mapM_cons, List.mapM_nil, Option.bind_some, Option.pure_def, Option.bind_eq_bind, Option.map_some, reduceIte, Nat.reduceEqDiff, true_and, and_true]
/-- An element that is a number; nought, if there is none. -/
def pickR (l : List Rt) (k : Int) : Rt := if 0 ≤ k ∧ k < l.length then rtAt l k.toNat else (false, 0, 0)
/-- Numbers that have a place on the page. -/
def RtOk (x : Rt) : Prop := x.2.1 < lim2000 ∧ dn x.2.2 < lim2000
end Go.Proofs.YtcmbaabkfihdmaaGreat.I

/- Layer 6: which arrays are right and the same, on the page; the arrays that the page speaks of. -/
set_option linter.unusedVariables false
set_option linter.unusedSimpArgs false
namespace Go.Proofs.YtcmbaabkfihdmaaGreat.I
open Go Go.V
attribute [local go_sem] mNil nat0 beq_self_eq_true mSkip mRet mExit mReg mSeq mCond mTrue mFalse mBlock mLv mCodeE mCodeR mEndN mEndR mEndE mOps mSome mGuard mGtt mGff mGtf mGft mGu mCallP mCallR mCallF mCallO mCallZ mCallG mCallM mCallV loopQ_exit loopQ_ret mO_mov mO_newnil mO_pick mO_alloc mO_box mO_build mO_bsl mO_bslF mO_ldf mO_ld mO_st mO_sta mO_nilchk mO_bin mO_binb mO_binp mO_bins mO_neg mO_com mO_not mO_conv mO_mk mO_mk0 mO_s2b mO_b2s mO_cpy mO_cut mO_faddr mO_fld mO_iaddr mO_iaddrf mO_sidx mO_len mO_lenf mO_slen mO_scut mO_app mO_ext mO_mx mO_mn mO_mkfn evalOp cutOp argsE ev getE putE cellsOf adopt rowOf binV boolV nilV ar_add ar_sub ar_mul ar_quo ar_rem ar_eq ar_ne ar_lt ar_le ar_gt ar_ge ar_and ar_or ar_xor geto bound finRet finNrm ints List.length_cons List.length_nil List.length_append List.getElem?_cons_zero List.getElem?_cons_succ List.nil_append List.cons_append List.map_cons List.map_nil List.mapM_cons List.mapM_nil Option.map_some Option.map_none Option.bind_some Option.pure_def Option.bind_eq_bind List.drop_zero or_self or_false false_or or_true true_or true_and and_true and_self decide_true decide_false Bool.false_eq_true Bool.true_eq_false Bool.not_true Bool.not_false Nat.le_refl eq_self gt_iff_lt ge_iff_le ne_eq not_true_eq_false not_false_eq_true storeOp apartOf freeze_nil refsL refs List.flatMap_cons List.flatMap_nil List.append_nil List.contains_nil List.set_cons_zero List.set_cons_succ snap snapL fill_nums flat_nums nums_length Go.V.freeze List.mapIdx_cons List.mapIdx_nil List.contains_cons Bool.or_false Bool.false_or Bool.or_true Bool.true_or
/-- A number's bytes are bytes, and not too many. -/
def NmU (x : Nm) : Prop := U8 x.2.1 ∧ U8 x.2.2 ∧ x.2.1.length ≤ 1000000000 ∧ x.2.2.length ≤ 1000000000
theorem subP4b {a b c d : AV} : sub false 1 [a, b, c, d] 1 = some b := rfl
theorem subP4c {a b c d : AV} : sub false 1 [a, b, c, d] 2 = some c := rfl
theorem subP4a {a b c d : AV} : sub false 1 [a, b, c, d] 0 = some a := rfl
/-- A right array on the page. -/
def Shapes (s : List Int) (ch : Bool) (t : List Int) (n : Nat) : Prop := if ch then count s = some (t.length : Int) ∧ n = 0 else count s = some (n : Int) ∧ t = []
def RightP (s : List Int) (ch : Bool) (t : List Int) (l : List Nm) : Prop := Shapes s ch t l.length ∧ ∀ x ∈ l, RightN x.1 x.2.1 x.2.2
theorem Shapes_iff {s t : List Int} {ch : Bool} {n : Nat} : Shapes s ch t n ↔ ∃ m, count s = some m ∧ (ch = true → (t.length : Int) = m ∧ n = 0) ∧ (ch = false → (n : Int) = m ∧ t.length = 0) := by
  cases ch with
  | true =>
    have e : Shapes s true t n ↔ count s = some (t.length : Int) ∧ n = 0 := by simp [Shapes]
    rw [e]
    exact ⟨fun ⟨h1, h2⟩ => ⟨_, h1, fun _ => ⟨rfl, h2⟩, fun h => (by cases h)⟩, fun ⟨m, h1, h2, _⟩ => ⟨by rw [(h2 rfl).1]; exact h1, (h2 rfl).2⟩⟩
  | false =>
    have e : Shapes s false t n ↔ count s = some (n : Int) ∧ t = [] := by simp [Shapes]
    rw [e]
    exact ⟨fun ⟨h1, h2⟩ => ⟨_, h1, fun h => (by cases h), fun _ => ⟨rfl, by rw [h2]; rfl⟩⟩, fun ⟨m, h1, _, h2⟩ => ⟨by rw [(h2 rfl).1]; exact h1, List.length_eq_zero_iff.1 (h2 rfl).2⟩⟩
theorem c31_ok {s t : List Int} {l : List Nm} {ch ok : Bool} (hs : ∀ d ∈ s, In64 d) (hsl : (s.length : Int) ≤ 1000000000000) (ht : (t.length : Int) ≤ 1000000000000) (hl : (l.length : Int) ≤ 1000000000000) (hu : ∀ x ∈ l, NmU x) (hok : ok = true ↔ RightP s ch t l) :
    Go.V.Call tab E 31 [.agg (plX s ch t l)] [] (.bool ok) [] := by
  refine Go.V.Call.mach i31 c31 rfl rfl rfl rfl ?_
  have hfalse : ¬ RightP s ch t l → ok = false := fun h => by rw [← Bool.not_eq_true, hok]; exact h
  have h17 := c58_ok (E := E) hs (by omega)
  simp only [ints] at h17
  have bad : ¬ Shapes s ch t l.length → ok = false := fun h => hfalse (fun hr => h hr.1)
  cases hc : count s with
  | none =>
    have := bad (fun h => by obtain ⟨m, h1, _⟩ := Shapes_iff.1 h; rw [hc] at h1; cases h1)
    subst this
    rw [hc] at h17
    simp only [optP] at h17
    simp only [c31, plX, runes, ints, go_sem, ↓reduceIte, Nat.reduceEqDiff, Nat.reduceAdd, Nat.reduceMul, Nat.reduceLeDiff, Nat.reduceLT, Int.reduceToNat, Int.reduceLT, Int.reduceLE, reduceCtorEq, Nat.reduceBEq, subP4a, subP4b, subP4c, subP3, subP3', fillAll, fillIn, shiftR, shiftV, List.take_succ_cons, List.take_zero, List.drop_succ_cons, List.drop_zero, List.append_nil, Nat.zero_add]
    refine goP h17 ?_
    simp only [go_sem, ↓reduceIte, Nat.reduceEqDiff, Nat.reduceAdd, Nat.reduceMul, Nat.reduceLeDiff, Nat.reduceLT, Int.reduceToNat, Int.reduceLT, Int.reduceLE, reduceCtorEq, Nat.reduceBEq, subP4a, subP4b, subP4c, subP3, subP3', fillAll, fillIn, shiftR, shiftV, List.take_succ_cons, List.take_zero, List.drop_succ_cons, List.drop_zero, List.append_nil, Nat.zero_add]
    simp only [i31, Out, resAll, geto, ints, List.getElem?_cons_zero, List.getElem?_cons_succ, resOf, outOf, snap, snapL, ev, getE, List.mapM_cons, List.mapM_nil, Option.bind_some, Option.pure_def, Option.bind_eq_bind, Option.map_some, reduceIte, Nat.reduceEqDiff, true_and, and_true]
  | some m =>
    rw [hc] at h17
    simp only [optP] at h17
    by_cases hsh : Shapes s ch t l.length
    · obtain ⟨m', h1, h2, h3⟩ := Shapes_iff.1 hsh
      rw [hc] at h1
      simp only [Option.some.injEq] at h1
      subst h1
      cases ch with
      | true =>
        obtain ⟨h4, h5⟩ := h2 rfl
        subst h4
        have hl0 : l = [] := List.length_eq_zero_iff.1 h5
        subst hl0
        have hokt : ok = true := hok.2 ⟨hsh, fun x hx => by simp at hx⟩
        subst hokt
        simp only [c31, plX, runes, ints, go_sem, ↓reduceIte, Nat.reduceEqDiff, Nat.reduceAdd, Nat.reduceMul, Nat.reduceLeDiff, Nat.reduceLT, Int.reduceToNat, Int.reduceLT, Int.reduceLE, reduceCtorEq, Nat.reduceBEq, subP4a, subP4b, subP4c, subP3, subP3', fillAll, fillIn, shiftR, shiftV, List.take_succ_cons, List.take_zero, List.drop_succ_cons, List.drop_zero, List.append_nil, Nat.zero_add]
        refine goP h17 ?_
        simp only [go_sem, ↓reduceIte, Nat.reduceEqDiff, Nat.reduceAdd, Nat.reduceMul, Nat.reduceLeDiff, Nat.reduceLT, Int.reduceToNat, Int.reduceLT, Int.reduceLE, reduceCtorEq, Nat.reduceBEq, subP4a, subP4b, subP4c, subP3, subP3', fillAll, fillIn, shiftR, shiftV, List.take_succ_cons, List.take_zero, List.drop_succ_cons, List.drop_zero, List.append_nil, Nat.zero_add, bne_self_eq_false]
        refine mLoop (fun N st => N = 0 ∧ st = ⟨[(1, .loc 0 0 0), (5, .int .i64 0)], [⟨true, 26, 4, 0, 1, plX s true t [], false⟩]⟩) 0 ⟨_, rfl, rfl, rfl⟩ ?_
        rintro N s0 ⟨rfl, rfl⟩
        simp only [b31_0, k31_0, plX, runes, ints, go_sem, ↓reduceIte, Nat.reduceEqDiff, Nat.reduceAdd, Nat.reduceMul, Nat.reduceLeDiff, Nat.reduceLT, Int.reduceToNat, Int.reduceLT, Int.reduceLE, reduceCtorEq, Nat.reduceBEq, subP3, subP3', Int.lt_irrefl]
        simp only [i31, Out, resAll, geto, ints, List.getElem?_cons_zero, List.getElem?_cons_succ, resOf, outOf, snap, snapL, ev, getE, List.mapM_cons, List.mapM_nil, Option.bind_some, Option.pure_def, Option.bind_eq_bind, Option.map_some, reduceIte, Nat.reduceEqDiff, true_and, and_true]
      | false =>
        obtain ⟨h4, h5⟩ := h3 rfl
        subst h4
        have ht0 : t = [] := List.length_eq_zero_iff.1 h5
        subst ht0
        simp only [c31, plX, runes, ints, go_sem, ↓reduceIte, Nat.reduceEqDiff, Nat.reduceAdd, Nat.reduceMul, Nat.reduceLeDiff, Nat.reduceLT, Int.reduceToNat, Int.reduceLT, Int.reduceLE, reduceCtorEq, Nat.reduceBEq, subP4a, subP4b, subP4c, subP3, subP3', fillAll, fillIn, shiftR, shiftV, List.take_succ_cons, List.take_zero, List.drop_succ_cons, List.drop_zero, List.append_nil, Nat.zero_add]
        refine goP h17 ?_
        simp only [go_sem, ↓reduceIte, Nat.reduceEqDiff, Nat.reduceAdd, Nat.reduceMul, Nat.reduceLeDiff, Nat.reduceLT, Int.reduceToNat, Int.reduceLT, Int.reduceLE, reduceCtorEq, Nat.reduceBEq, subP4a, subP4b, subP4c, subP3, subP3', fillAll, fillIn, shiftR, shiftV, List.take_succ_cons, List.take_zero, List.drop_succ_cons, List.drop_zero, List.append_nil, Nat.zero_add, bne_self_eq_false]
        refine mLoop (fun N st => ∃ (k : Nat), k ≤ l.length ∧ N = l.length - k ∧ (∀ x ∈ l.take k, RightN x.1 x.2.1 x.2.2) ∧
          st = ⟨[(1, .loc 0 0 0), (5, .int .i64 k)], [⟨true, 26, 4, 0, 1, plX s false [] l, false⟩]⟩) l.length ⟨_, rfl, 0, by omega, by omega, fun x hx => by simp at hx, rfl⟩ ?_
        rintro N s0 ⟨k, hk, rfl, hr, rfl⟩
        by_cases hlt : k < l.length
        · have hlt' : (k : Int) < (l.length : Int) := by omega
          have hk0 : (0 : Int) ≤ (k : Int) := by omega
          have hk1 : IntKind.i64.wrap ((k : Int) + 1) = ((k + 1 : Nat) : Int) := by rw [wrap_i64 (by omega) (by omega)]; omega
          have hsub := sub_nms hlt
          have h1 : l.take (k + 1) = l.take k ++ [nmAt l k] := takeAt hlt
          have hmem : nmAt l k ∈ l := by simp [nmAt, List.getD, hlt]
          obtain ⟨u1, u2, u3, u4⟩ := hu _ hmem
          have h96 := fun ok h => c59_ok (E := E) (n := (nmAt l k).1) (ok := ok) u1 u2 u3 u4 h
          by_cases hrn : RightN (nmAt l k).1 (nmAt l k).2.1 (nmAt l k).2.2
          · have h96t := h96 true ⟨fun _ => hrn, fun _ => rfl⟩
            simp only [b31_0, plX, runes, ints, go_sem, ↓reduceIte, Nat.reduceEqDiff, Nat.reduceAdd, Nat.reduceMul, Nat.reduceLeDiff, Nat.reduceLT, Int.reduceToNat, Int.reduceLT, Int.reduceLE, reduceCtorEq, Nat.reduceBEq, subP3, subP3', hlt', hk0, Int.toNat_natCast, hsub, nmC]
            refine goP h96t ?_
            simp only [go_sem, ↓reduceIte, Nat.reduceEqDiff, Nat.reduceAdd, Nat.reduceMul, Nat.reduceLeDiff, Nat.reduceLT, Int.reduceToNat, Int.reduceLT, Int.reduceLE, reduceCtorEq, Nat.reduceBEq, hk1]
            refine loopQ_go rfl (l.length - (k + 1)) (by omega) ⟨k + 1, by omega, rfl, ?_, rfl⟩
            intro x hx
            rw [h1] at hx
            rcases List.mem_append.1 hx with hx | hx
            · exact hr x hx
            · simp at hx; subst hx; exact hrn
          · have h96f := h96 false ⟨fun h => (by cases h), fun h => absurd h hrn⟩
            have := hfalse (fun h => hrn (h.2 _ hmem))
            subst this
            simp only [b31_0, plX, runes, ints, go_sem, ↓reduceIte, Nat.reduceEqDiff, Nat.reduceAdd, Nat.reduceMul, Nat.reduceLeDiff, Nat.reduceLT, Int.reduceToNat, Int.reduceLT, Int.reduceLE, reduceCtorEq, Nat.reduceBEq, subP3, subP3', hlt', hk0, Int.toNat_natCast, hsub, nmC]
            refine goP h96f ?_
            simp only [go_sem, ↓reduceIte, Nat.reduceEqDiff, Nat.reduceAdd, Nat.reduceMul, Nat.reduceLeDiff, Nat.reduceLT, Int.reduceToNat, Int.reduceLT, Int.reduceLE, reduceCtorEq, Nat.reduceBEq]
            simp only [i31, Out, resAll, geto, ints, List.getElem?_cons_zero, List.getElem?_cons_succ, resOf, outOf, snap, snapL, ev, getE, List.mapM_cons, List.mapM_nil, Option.bind_some, Option.pure_def, Option.bind_eq_bind, Option.map_some, reduceIte, Nat.reduceEqDiff, true_and, and_true]
        · have hlt' : ¬ (k : Int) < (l.length : Int) := by omega
          rw [List.take_of_length_le (by omega)] at hr
          have hokt : ok = true := hok.2 ⟨hsh, hr⟩
          subst hokt
          simp only [b31_0, k31_0, plX, runes, ints, go_sem, ↓reduceIte, Nat.reduceEqDiff, Nat.reduceAdd, Nat.reduceMul, Nat.reduceLeDiff, Nat.reduceLT, Int.reduceToNat, Int.reduceLT, Int.reduceLE, reduceCtorEq, Nat.reduceBEq, subP3, subP3', hlt']
          simp only [i31, Out, resAll, geto, ints, List.getElem?_cons_zero, List.getElem?_cons_succ, resOf, outOf, snap, snapL, ev, getE, List.mapM_cons, List.mapM_nil, Option.bind_some, Option.pure_def, Option.bind_eq_bind, Option.map_some, reduceIte, Nat.reduceEqDiff, true_and, and_true]
    · have := bad hsh
      subst this
      rw [Shapes_iff] at hsh
      cases ch with
      | true =>
        by_cases h1 : (t.length : Int) = m
        · have h2 : ¬ l.length = 0 := fun h => hsh ⟨m, hc, fun _ => ⟨h1, h⟩, fun h => by cases h⟩
          have q1 : ((t.length : Int) != m) = false := by rw [bne_eq_false_iff_eq]; exact h1
          have q2 : ((l.length : Int) != 0) = true := by rw [bne_iff_ne]; omega
          simp only [c31, plX, runes, ints, go_sem, ↓reduceIte, Nat.reduceEqDiff, Nat.reduceAdd, Nat.reduceMul, Nat.reduceLeDiff, Nat.reduceLT, Int.reduceToNat, Int.reduceLT, Int.reduceLE, reduceCtorEq, Nat.reduceBEq, subP4a, subP4b, subP4c, subP3, subP3', fillAll, fillIn, shiftR, shiftV, List.take_succ_cons, List.take_zero, List.drop_succ_cons, List.drop_zero, List.append_nil, Nat.zero_add]
          refine goP h17 ?_
          simp only [go_sem, ↓reduceIte, Nat.reduceEqDiff, Nat.reduceAdd, Nat.reduceMul, Nat.reduceLeDiff, Nat.reduceLT, Int.reduceToNat, Int.reduceLT, Int.reduceLE, reduceCtorEq, Nat.reduceBEq, subP4a, subP4b, subP4c, subP3, subP3', fillAll, fillIn, shiftR, shiftV, List.take_succ_cons, List.take_zero, List.drop_succ_cons, List.drop_zero, List.append_nil, Nat.zero_add, q1, q2]
          simp only [i31, Out, resAll, geto, ints, List.getElem?_cons_zero, List.getElem?_cons_succ, resOf, outOf, snap, snapL, ev, getE, List.mapM_cons, List.mapM_nil, Option.bind_some, Option.pure_def, Option.bind_eq_bind, Option.map_some, reduceIte, Nat.reduceEqDiff, true_and, and_true]
        · have q1 : ((t.length : Int) != m) = true := by rw [bne_iff_ne]; exact h1
          simp only [c31, plX, runes, ints, go_sem, ↓reduceIte, Nat.reduceEqDiff, Nat.reduceAdd, Nat.reduceMul, Nat.reduceLeDiff, Nat.reduceLT, Int.reduceToNat, Int.reduceLT, Int.reduceLE, reduceCtorEq, Nat.reduceBEq, subP4a, subP4b, subP4c, subP3, subP3', fillAll, fillIn, shiftR, shiftV, List.take_succ_cons, List.take_zero, List.drop_succ_cons, List.drop_zero, List.append_nil, Nat.zero_add]
          refine goP h17 ?_
          simp only [go_sem, ↓reduceIte, Nat.reduceEqDiff, Nat.reduceAdd, Nat.reduceMul, Nat.reduceLeDiff, Nat.reduceLT, Int.reduceToNat, Int.reduceLT, Int.reduceLE, reduceCtorEq, Nat.reduceBEq, subP4a, subP4b, subP4c, subP3, subP3', fillAll, fillIn, shiftR, shiftV, List.take_succ_cons, List.take_zero, List.drop_succ_cons, List.drop_zero, List.append_nil, Nat.zero_add, q1]
          simp only [i31, Out, resAll, geto, ints, List.getElem?_cons_zero, List.getElem?_cons_succ, resOf, outOf, snap, snapL, ev, getE, List.mapM_cons, List.mapM_nil, Option.bind_some, Option.pure_def, Option.bind_eq_bind, Option.map_some, reduceIte, Nat.reduceEqDiff, true_and, and_true]
      | false =>
        by_cases h1 : (l.length : Int) = m
        · have h2 : ¬ t.length = 0 := fun h => hsh ⟨m, hc, fun h => (by cases h), fun _ => ⟨h1, h⟩⟩
          have q1 : ((l.length : Int) != m) = false := by rw [bne_eq_false_iff_eq]; exact h1
          have q2 : ((t.length : Int) != 0) = true := by rw [bne_iff_ne]; omega
          simp only [c31, plX, runes, ints, go_sem, ↓reduceIte, Nat.reduceEqDiff, Nat.reduceAdd, Nat.reduceMul, Nat.reduceLeDiff, Nat.reduceLT, Int.reduceToNat, Int.reduceLT, Int.reduceLE, reduceCtorEq, Nat.reduceBEq, subP4a, subP4b, subP4c, subP3, subP3', fillAll, fillIn, shiftR, shiftV, List.take_succ_cons, List.take_zero, List.drop_succ_cons, List.drop_zero, List.append_nil, Nat.zero_add]
          refine goP h17 ?_
          simp only [go_sem, ↓reduceIte, Nat.reduceEqDiff, Nat.reduceAdd, Nat.reduceMul, Nat.reduceLeDiff, Nat.reduceLT, Int.reduceToNat, Int.reduceLT, Int.reduceLE, reduceCtorEq, Nat.reduceBEq, subP4a, subP4b, subP4c, subP3, subP3', fillAll, fillIn, shiftR, shiftV, List.take_succ_cons, List.take_zero, List.drop_succ_cons, List.drop_zero, List.append_nil, Nat.zero_add, q1, q2]
          simp only [i31, Out, resAll, geto, ints, List.getElem?_cons_zero, List.getElem?_cons_succ, resOf, outOf, snap, snapL, ev, getE, List.mapM_cons, List.mapM_nil, Option.bind_some, Option.pure_def, Option.bind_eq_bind, Option.map_some, reduceIte, Nat.reduceEqDiff, true_and, and_true]
        · have q1 : ((l.length : Int) != m) = true := by rw [bne_iff_ne]; exact h1
          simp only [c31, plX, runes, ints, go_sem, ↓reduceIte, Nat.reduceEqDiff, Nat.reduceAdd, Nat.reduceMul, Nat.reduceLeDiff, Nat.reduceLT, Int.reduceToNat, Int.reduceLT, Int.reduceLE, reduceCtorEq, Nat.reduceBEq, subP4a, subP4b, subP4c, subP3, subP3', fillAll, fillIn, shiftR, shiftV, List.take_succ_cons, List.take_zero, List.drop_succ_cons, List.drop_zero, List.append_nil, Nat.zero_add]
          refine goP h17 ?_
          simp only [go_sem, ↓reduceIte, Nat.reduceEqDiff, Nat.reduceAdd, Nat.reduceMul, Nat.reduceLeDiff, Nat.reduceLT, Int.reduceToNat, Int.reduceLT, Int.reduceLE, reduceCtorEq, Nat.reduceBEq, subP4a, subP4b, subP4c, subP3, subP3', fillAll, fillIn, shiftR, shiftV, List.take_succ_cons, List.take_zero, List.drop_succ_cons, List.drop_zero, List.append_nil, Nat.zero_add, q1]
          simp only [i31, Out, resAll, geto, ints, List.getElem?_cons_zero, List.getElem?_cons_succ, resOf, outOf, snap, snapL, ev, getE, List.mapM_cons, List.mapM_nil, Option.bind_some, Option.pure_def, Option.bind_eq_bind, Option.map_some, reduceIte, Nat.reduceEqDiff, true_and, and_true]
end Go.Proofs.YtcmbaabkfihdmaaGreat.I

/- Layer 6: the array that the page speaks of. -/
set_option linter.unusedVariables false
set_option linter.unusedSimpArgs false
namespace Go.Proofs.YtcmbaabkfihdmaaGreat.I
open Go Go.V
attribute [local go_sem] mNil nat0 beq_self_eq_true mSkip mRet mExit mReg mSeq mCond mTrue mFalse mBlock mLv mCodeE mCodeR mEndN mEndR mEndE mOps mSome mGuard mGtt mGff mGtf mGft mGu mCallP mCallR mCallF mCallO mCallZ mCallG mCallM mCallV loopQ_exit loopQ_ret mO_mov mO_newnil mO_pick mO_alloc mO_box mO_build mO_bsl mO_bslF mO_ldf mO_ld mO_st mO_sta mO_nilchk mO_bin mO_binb mO_binp mO_bins mO_neg mO_com mO_not mO_conv mO_mk mO_mk0 mO_s2b mO_b2s mO_cpy mO_cut mO_faddr mO_fld mO_iaddr mO_iaddrf mO_sidx mO_len mO_lenf mO_slen mO_scut mO_app mO_ext mO_mx mO_mn mO_mkfn evalOp cutOp argsE ev getE putE cellsOf adopt rowOf binV boolV nilV ar_add ar_sub ar_mul ar_quo ar_rem ar_eq ar_ne ar_lt ar_le ar_gt ar_ge ar_and ar_or ar_xor geto bound finRet finNrm ints List.length_cons List.length_nil List.length_append List.getElem?_cons_zero List.getElem?_cons_succ List.nil_append List.cons_append List.map_cons List.map_nil List.mapM_cons List.mapM_nil Option.map_some Option.map_none Option.bind_some Option.pure_def Option.bind_eq_bind List.drop_zero or_self or_false false_or or_true true_or true_and and_true and_self decide_true decide_false Bool.false_eq_true Bool.true_eq_false Bool.not_true Bool.not_false Nat.le_refl eq_self gt_iff_lt ge_iff_le ne_eq not_true_eq_false not_false_eq_true storeOp apartOf freeze_nil refsL refs List.flatMap_cons List.flatMap_nil List.append_nil List.contains_nil List.set_cons_zero List.set_cons_succ snap snapL fill_nums flat_nums nums_length Go.V.freeze List.mapIdx_cons List.mapIdx_nil List.contains_cons Bool.or_false Bool.false_or Bool.or_true Bool.true_or
theorem subA1' {a b c d e : AV} : sub false 1 [a, b, c, d, e] (0 + 3) = some d := rfl
theorem c24_ok {s t : List Int} {l : List Nm} {ch ok : Bool} (hs : ∀ d ∈ s, In64 d) (hsl : (s.length : Int) ≤ 1000000000000) (ht : (t.length : Int) ≤ 1000000000000) (hl : (l.length : Int) ≤ 1000000000000) (hu : ∀ x ∈ l, NmU x) (hok : ok = true ↔ RightP s ch t l) :
    Go.V.Call tab E 24 [.agg (plX s ch t l)] [] (.tup [.agg (if ok then arrX s ch t (l.map toRt) else noA), .bool ok]) [] := by
  refine Go.V.Call.mach i24 c24 rfl rfl rfl rfl ?_
  have hfalse : ¬ RightP s ch t l → ok = false := fun h => by rw [← Bool.not_eq_true, hok]; exact h
  have h35 := c42_ok (E := E) hs (by omega)
  have h85 := c43_ok hsl
  have h92 := c45_ok ht
  simp only [ints, runes] at h35 h85 h92
  have bad : ¬ Shapes s ch t l.length → ok = false := fun h => hfalse (fun hr => h hr.1)
  cases hc : count s with
  | none =>
    have := bad (fun h => by obtain ⟨m, h1, _⟩ := Shapes_iff.1 h; rw [hc] at h1; cases h1)
    subst this
    rw [hc] at h35
    simp only [optP] at h35
    simp only [c24, plX, runes, ints, go_sem, ↓reduceIte, Nat.reduceEqDiff, Nat.reduceAdd, Nat.reduceMul, Nat.reduceLeDiff, Nat.reduceLT, Int.reduceToNat, Int.reduceLT, Int.reduceLE, reduceCtorEq, Nat.reduceBEq, subP4a, subP4b, subP4c, subP3, subP3', fillAll, fillIn, shiftR, shiftV, List.take_succ_cons, List.take_zero, List.drop_succ_cons, List.drop_zero, List.append_nil, Nat.zero_add]
    refine goP h35 ?_
    simp only [go_sem, ↓reduceIte, Nat.reduceEqDiff, Nat.reduceAdd, Nat.reduceMul, Nat.reduceLeDiff, Nat.reduceLT, Int.reduceToNat, Int.reduceLT, Int.reduceLE, reduceCtorEq, Nat.reduceBEq, subP4a, subP4b, subP4c, subP3, subP3', fillAll, fillIn, shiftR, shiftV, List.take_succ_cons, List.take_zero, List.drop_succ_cons, List.drop_zero, List.append_nil, Nat.zero_add]
    simp only [i24, Out, resAll, geto, ints, List.getElem?_cons_zero, List.getElem?_cons_succ, resOf, outOf, snap, snapL, ev, getE, List.mapM_cons, List.mapM_nil, Option.bind_some, Option.pure_def, Option.bind_eq_bind, Option.map_some, reduceIte, Nat.reduceEqDiff, true_and, and_true, subA5, noA, Bool.false_eq_true, if_false]
  | some m =>
    rw [hc] at h35
    simp only [optP] at h35
    by_cases hsh : Shapes s ch t l.length
    · obtain ⟨m', h1, h2, h3⟩ := Shapes_iff.1 hsh
      rw [hc] at h1
      simp only [Option.some.injEq] at h1
      subst h1
      cases ch with
      | true =>
        obtain ⟨h4, h5⟩ := h2 rfl
        subst h4
        have hl0 : l = [] := List.length_eq_zero_iff.1 h5
        subst hl0
        have hokt : ok = true := hok.2 ⟨hsh, fun x hx => by simp at hx⟩
        subst hokt
        simp only [c24, plX, runes, ints, go_sem, ↓reduceIte, Nat.reduceEqDiff, Nat.reduceAdd, Nat.reduceMul, Nat.reduceLeDiff, Nat.reduceLT, Int.reduceToNat, Int.reduceLT, Int.reduceLE, reduceCtorEq, Nat.reduceBEq, subP4a, subP4b, subP4c, subP3, subP3', fillAll, fillIn, shiftR, shiftV, List.take_succ_cons, List.take_zero, List.drop_succ_cons, List.drop_zero, List.append_nil, Nat.zero_add]
        refine goP h35 ?_
        simp only [go_sem, ↓reduceIte, Nat.reduceEqDiff, Nat.reduceAdd, Nat.reduceMul, Nat.reduceLeDiff, Nat.reduceLT, Int.reduceToNat, Int.reduceLT, Int.reduceLE, reduceCtorEq, Nat.reduceBEq, subP4a, subP4b, subP4c, subP3, subP3', fillAll, fillIn, shiftR, shiftV, List.take_succ_cons, List.take_zero, List.drop_succ_cons, List.drop_zero, List.append_nil, Nat.zero_add, bne_self_eq_false, Int.lt_irrefl]
        refine goZ (r' := ints s) h85 rfl ?_
        simp only [ints, go_sem, ↓reduceIte, Nat.reduceEqDiff, Nat.reduceAdd, Nat.reduceMul, Nat.reduceLeDiff, Nat.reduceLT, Int.reduceToNat, Int.reduceLT, Int.reduceLE, reduceCtorEq, Nat.reduceBEq, subP4a, subP4b, subP4c, subP3, subP3', fillAll, fillIn, shiftR, shiftV, List.take_succ_cons, List.take_zero, List.drop_succ_cons, List.drop_zero, List.append_nil, Nat.zero_add]
        refine goZ (r' := runes t) h92 rfl ?_
        simp only [runes, go_sem, ↓reduceIte, Nat.reduceEqDiff, Nat.reduceAdd, Nat.reduceMul, Nat.reduceLeDiff, Nat.reduceLT, Int.reduceToNat, Int.reduceLT, Int.reduceLE, reduceCtorEq, Nat.reduceBEq, subP4a, subP4b, subP4c, subP3, subP3', fillAll, fillIn, shiftR, shiftV, List.take_succ_cons, List.take_zero, List.drop_succ_cons, List.drop_zero, List.append_nil, Nat.zero_add]
        refine mLoop (fun N st => N = 0 ∧ st = ⟨[(2, .loc 4 0 0), (6, .loc 8 0 0), (65, .sl 0 3 (nmsC [])), (66, .int .i64 0), (67, .int .i64 0)],
          [⟨true, 26, 4, 0, 1, plX s true t [], false⟩, ⟨false, 3, 1, 0, 0, [], false⟩, ⟨false, 21, 1, 0, 0, [], false⟩, ⟨false, 62, 3, 0, 0, [], false⟩, ⟨true, 36, 5, 0, 1, [.arr 1 0, .bool false, .arr 2 0, .arr 3 0, .bool false], false⟩,
           ⟨false, 3, 1, 0, 0, [], false⟩, ⟨false, 21, 1, 0, 0, [], false⟩, ⟨false, 62, 3, 0, 0, [], false⟩, ⟨true, 36, 5, 0, 1, [ints s, .bool true, runes t, .arr 9 0, .bool true], false⟩, ⟨false, 62, 3, 0, 0, [], false⟩]⟩) 0 ⟨_, rfl, rfl, rfl⟩ ?_
        rintro N s0 ⟨rfl, rfl⟩
        simp only [b24_0, k24_0, plX, runes, ints, go_sem, ↓reduceIte, Nat.reduceEqDiff, Nat.reduceAdd, Nat.reduceMul, Nat.reduceLeDiff, Nat.reduceLT, Int.reduceToNat, Int.reduceLT, Int.reduceLE, reduceCtorEq, Nat.reduceBEq, subA5, Int.lt_irrefl, fillAll, fillIn, shiftR, shiftV, List.take_succ_cons, List.take_zero, List.drop_succ_cons, List.drop_zero, List.append_nil, Nat.zero_add]
        simp only [i24, Out, resAll, geto, ints, List.getElem?_cons_zero, List.getElem?_cons_succ, resOf, outOf, snap, snapL, ev, getE, List.mapM_cons, List.mapM_nil, Option.bind_some, Option.pure_def, Option.bind_eq_bind, Option.map_some, reduceIte, Nat.reduceEqDiff, true_and, and_true, subA5, arrX, runes, if_true, List.map_nil]
        rfl
      | false =>
        obtain ⟨h4, h5⟩ := h3 rfl
        subst h4
        have ht0 : t = [] := List.length_eq_zero_iff.1 h5
        subst ht0
        simp only [c24, plX, runes, ints, go_sem, ↓reduceIte, Nat.reduceEqDiff, Nat.reduceAdd, Nat.reduceMul, Nat.reduceLeDiff, Nat.reduceLT, Int.reduceToNat, Int.reduceLT, Int.reduceLE, reduceCtorEq, Nat.reduceBEq, subP4a, subP4b, subP4c, subP3, subP3', fillAll, fillIn, shiftR, shiftV, List.take_succ_cons, List.take_zero, List.drop_succ_cons, List.drop_zero, List.append_nil, Nat.zero_add]
        refine goP h35 ?_
        simp only [go_sem, ↓reduceIte, Nat.reduceEqDiff, Nat.reduceAdd, Nat.reduceMul, Nat.reduceLeDiff, Nat.reduceLT, Int.reduceToNat, Int.reduceLT, Int.reduceLE, reduceCtorEq, Nat.reduceBEq, subP4a, subP4b, subP4c, subP3, subP3', fillAll, fillIn, shiftR, shiftV, List.take_succ_cons, List.take_zero, List.drop_succ_cons, List.drop_zero, List.append_nil, Nat.zero_add, bne_self_eq_false, Int.lt_irrefl]
        refine goZ (r' := ints s) h85 rfl ?_
        simp only [ints, go_sem, ↓reduceIte, Nat.reduceEqDiff, Nat.reduceAdd, Nat.reduceMul, Nat.reduceLeDiff, Nat.reduceLT, Int.reduceToNat, Int.reduceLT, Int.reduceLE, reduceCtorEq, Nat.reduceBEq, subP4a, subP4b, subP4c, subP3, subP3', fillAll, fillIn, shiftR, shiftV, List.take_succ_cons, List.take_zero, List.drop_succ_cons, List.drop_zero, List.append_nil, Nat.zero_add]
        refine goZ (r' := runes []) h92 rfl ?_
        simp only [runes, go_sem, ↓reduceIte, Nat.reduceEqDiff, Nat.reduceAdd, Nat.reduceMul, Nat.reduceLeDiff, Nat.reduceLT, Int.reduceToNat, Int.reduceLT, Int.reduceLE, reduceCtorEq, Nat.reduceBEq, subP4a, subP4b, subP4c, subP3, subP3', fillAll, fillIn, shiftR, shiftV, List.take_succ_cons, List.take_zero, List.drop_succ_cons, List.drop_zero, List.append_nil, Nat.zero_add]
        refine mLoop (fun N st => ∃ i : Nat, i ≤ l.length ∧ N = l.length - i ∧ (∀ x ∈ l.take i, RightN x.1 x.2.1 x.2.2) ∧ st = ⟨[(2, .loc 4 0 0), (6, .loc 8 0 0), (65, .sl l.length 3 (nmsC l)), (66, .int .i64 l.length), (67, .int .i64 i)],
          [⟨true, 26, 4, 0, 1, plX s false [] l, false⟩, ⟨false, 3, 1, 0, 0, [], false⟩, ⟨false, 21, 1, 0, 0, [], false⟩, ⟨false, 62, 3, 0, 0, [], false⟩, ⟨true, 36, 5, 0, 1, [.arr 1 0, .bool false, .arr 2 0, .arr 3 0, .bool false], false⟩,
           ⟨false, 3, 1, 0, 0, [], false⟩, ⟨false, 21, 1, 0, 0, [], false⟩, ⟨false, 62, 3, 0, 0, [], false⟩, ⟨true, 36, 5, 0, 1, [ints s, .bool false, runes [], .arr 9 i, .bool true], false⟩, ⟨false, 62, 3, i, i, rtsC ((l.take i).map toRt), false⟩]⟩) l.length
          ⟨_, rfl, 0, by omega, by omega, fun x hx => by simp at hx, by simp [getE, ints, runes, plX, rtsC]⟩ ?_
        rintro N s0 ⟨i, hi, rfl, hr, rfl⟩
        by_cases hlt : i < l.length
        · have hlt' : (i : Int) < (l.length : Int) := by omega
          have hi0 : (0 : Int) ≤ (i : Int) := by omega
          have hi1 : IntKind.i64.wrap ((i : Int) + 1) = ((i + 1 : Nat) : Int) := by rw [wrap_i64 (by omega) (by omega)]; omega
          have hsub := sub_nms hlt
          have hmem : nmAt l i ∈ l := by simp [nmAt, List.getD, hlt]
          obtain ⟨u1, u2, u3, u4⟩ := hu _ hmem
          have htk : l.take (i + 1) = l.take i ++ [nmAt l i] := takeAt hlt
          have hmt : rtsC ((l.take (i + 1)).map toRt) = rtsC ((l.take i).map toRt) ++ rtC (toRt (nmAt l i)) := by rw [htk, List.map_append, List.map_cons, List.map_nil, rtsC_snoc]
          have e1 : (i + 1) * 56 ≤ 140737488355328 := by omega
          have e2 : i + 1 ≤ 140737488355328 := by omega
          have h95 := fun ok h => c46_ok (E := E) (n := (nmAt l i).1) (ok := ok) u1 u2 u3 u4 h
          by_cases hrn : RightN (nmAt l i).1 (nmAt l i).2.1 (nmAt l i).2.2
          · obtain ⟨n', p', q', hn', h95t⟩ := h95 true ⟨fun _ => hrn, fun _ => rfl⟩
            obtain ⟨rfl, rfl, rfl⟩ := hn' rfl
            simp only [ratG, us32] at h95t
            simp only [b24_0, plX, runes, ints, go_sem, ↓reduceIte, Nat.reduceEqDiff, Nat.reduceAdd, Nat.reduceMul, Nat.reduceLeDiff, Nat.reduceLT, Int.reduceToNat, Int.reduceLT, Int.reduceLE, reduceCtorEq, Nat.reduceBEq, subT3, hlt', hi0, Int.toNat_natCast, hsub, nmC, fillAll, fillIn, shiftR, shiftV, List.take_succ_cons, List.take_zero, List.drop_succ_cons, List.drop_zero, List.append_nil, Nat.zero_add]
            refine goP h95t ?_
            simp only [go_sem, ↓reduceIte, Nat.reduceEqDiff, Nat.reduceAdd, Nat.reduceMul, Nat.reduceLeDiff, Nat.reduceLT, Int.reduceToNat, Int.reduceLT, Int.reduceLE, reduceCtorEq, Nat.reduceBEq, subA1', subA3, subT3, fillAll, fillIn, shiftR, shiftV, List.take_succ_cons, List.take_zero, List.drop_succ_cons, List.drop_zero, List.append_nil, Nat.zero_add, hi1, e1, e2, List.flatten_cons, List.flatten_nil, Option.getD_some]
            refine loopQ_go rfl (l.length - (i + 1)) (by omega) ⟨i + 1, by omega, rfl, ?_, ?_⟩
            · intro x hx
              rw [htk] at hx
              rcases List.mem_append.1 hx with hx | hx
              · exact hr x hx
              · simp at hx; subst hx; exact hrn
            · rw [hmt]
              rfl
          · obtain ⟨n', p', q', hn', h95f⟩ := h95 false ⟨fun h => (by cases h), fun h => absurd h hrn⟩
            have := hfalse (fun h => hrn (h.2 _ hmem))
            subst this
            simp only [ratG, us32] at h95f
            simp only [b24_0, plX, runes, ints, go_sem, ↓reduceIte, Nat.reduceEqDiff, Nat.reduceAdd, Nat.reduceMul, Nat.reduceLeDiff, Nat.reduceLT, Int.reduceToNat, Int.reduceLT, Int.reduceLE, reduceCtorEq, Nat.reduceBEq, subT3, hlt', hi0, Int.toNat_natCast, hsub, nmC, fillAll, fillIn, shiftR, shiftV, List.take_succ_cons, List.take_zero, List.drop_succ_cons, List.drop_zero, List.append_nil, Nat.zero_add]
            refine goP h95f ?_
            simp only [go_sem, ↓reduceIte, Nat.reduceEqDiff, Nat.reduceAdd, Nat.reduceMul, Nat.reduceLeDiff, Nat.reduceLT, Int.reduceToNat, Int.reduceLT, Int.reduceLE, reduceCtorEq, Nat.reduceBEq, subA5, subT3, fillAll, fillIn, shiftR, shiftV, List.take_succ_cons, List.take_zero, List.drop_succ_cons, List.drop_zero, List.append_nil, Nat.zero_add]
            simp only [i24, Out, resAll, geto, ints, List.getElem?_cons_zero, List.getElem?_cons_succ, resOf, outOf, snap, snapL, ev, getE, List.mapM_cons, List.mapM_nil, Option.bind_some, Option.pure_def, Option.bind_eq_bind, Option.map_some, reduceIte, Nat.reduceEqDiff, true_and, and_true, subA5, noA, Bool.false_eq_true, if_false]
        · have hlt' : ¬ (i : Int) < (l.length : Int) := by omega
          obtain rfl : i = l.length := by omega
          rw [List.take_length] at hr
          have hokt : ok = true := hok.2 ⟨hsh, hr⟩
          subst hokt
          simp only [b24_0, k24_0, plX, runes, ints, go_sem, ↓reduceIte, Nat.reduceEqDiff, Nat.reduceAdd, Nat.reduceMul, Nat.reduceLeDiff, Nat.reduceLT, Int.reduceToNat, Int.reduceLT, Int.reduceLE, reduceCtorEq, Nat.reduceBEq, subA5, hlt', List.take_length, fillAll, fillIn, shiftR, shiftV, List.take_succ_cons, List.take_zero, List.drop_succ_cons, List.drop_zero, List.append_nil, Nat.zero_add]
          simp only [i24, Out, resAll, geto, ints, List.getElem?_cons_zero, List.getElem?_cons_succ, resOf, outOf, snap, snapL, ev, getE, List.mapM_cons, List.mapM_nil, Option.bind_some, Option.pure_def, Option.bind_eq_bind, Option.map_some, reduceIte, Nat.reduceEqDiff, true_and, and_true, subA5, arrX, runes, if_true, List.length_map]
          rfl
    · have := bad hsh
      subst this
      rw [Shapes_iff] at hsh
      cases ch with
      | true =>
        by_cases h1 : (t.length : Int) = m
        · have h2 : ¬ l.length = 0 := fun h => hsh ⟨m, hc, fun _ => ⟨h1, h⟩, fun h => by cases h⟩
          have q1 : ((t.length : Int) != m) = false := by rw [bne_eq_false_iff_eq]; exact h1
          have q2 : (0 : Int) < (l.length : Int) := by omega
          simp only [c24, plX, runes, ints, go_sem, ↓reduceIte, Nat.reduceEqDiff, Nat.reduceAdd, Nat.reduceMul, Nat.reduceLeDiff, Nat.reduceLT, Int.reduceToNat, Int.reduceLT, Int.reduceLE, reduceCtorEq, Nat.reduceBEq, subP4a, subP4b, subP4c, subP3, subP3', fillAll, fillIn, shiftR, shiftV, List.take_succ_cons, List.take_zero, List.drop_succ_cons, List.drop_zero, List.append_nil, Nat.zero_add]
          refine goP h35 ?_
          simp only [go_sem, ↓reduceIte, Nat.reduceEqDiff, Nat.reduceAdd, Nat.reduceMul, Nat.reduceLeDiff, Nat.reduceLT, Int.reduceToNat, Int.reduceLT, Int.reduceLE, reduceCtorEq, Nat.reduceBEq, subP4a, subP4b, subP4c, subP3, subP3', fillAll, fillIn, shiftR, shiftV, List.take_succ_cons, List.take_zero, List.drop_succ_cons, List.drop_zero, List.append_nil, Nat.zero_add, q1, q2]
          simp only [i24, Out, resAll, geto, ints, List.getElem?_cons_zero, List.getElem?_cons_succ, resOf, outOf, snap, snapL, ev, getE, List.mapM_cons, List.mapM_nil, Option.bind_some, Option.pure_def, Option.bind_eq_bind, Option.map_some, reduceIte, Nat.reduceEqDiff, true_and, and_true, subA5, noA, Bool.false_eq_true, if_false]
        · have q1 : ((t.length : Int) != m) = true := by rw [bne_iff_ne]; exact h1
          simp only [c24, plX, runes, ints, go_sem, ↓reduceIte, Nat.reduceEqDiff, Nat.reduceAdd, Nat.reduceMul, Nat.reduceLeDiff, Nat.reduceLT, Int.reduceToNat, Int.reduceLT, Int.reduceLE, reduceCtorEq, Nat.reduceBEq, subP4a, subP4b, subP4c, subP3, subP3', fillAll, fillIn, shiftR, shiftV, List.take_succ_cons, List.take_zero, List.drop_succ_cons, List.drop_zero, List.append_nil, Nat.zero_add]
          refine goP h35 ?_
          simp only [go_sem, ↓reduceIte, Nat.reduceEqDiff, Nat.reduceAdd, Nat.reduceMul, Nat.reduceLeDiff, Nat.reduceLT, Int.reduceToNat, Int.reduceLT, Int.reduceLE, reduceCtorEq, Nat.reduceBEq, subP4a, subP4b, subP4c, subP3, subP3', fillAll, fillIn, shiftR, shiftV, List.take_succ_cons, List.take_zero, List.drop_succ_cons, List.drop_zero, List.append_nil, Nat.zero_add, q1]
          simp only [i24, Out, resAll, geto, ints, List.getElem?_cons_zero, List.getElem?_cons_succ, resOf, outOf, snap, snapL, ev, getE, List.mapM_cons, List.mapM_nil, Option.bind_some, Option.pure_def, Option.bind_eq_bind, Option.map_some, reduceIte, Nat.reduceEqDiff, true_and, and_true, subA5, noA, Bool.false_eq_true, if_false]
      | false =>
        by_cases h1 : (l.length : Int) = m
        · have h2 : ¬ t.length = 0 := fun h => hsh ⟨m, hc, fun h => (by cases h), fun _ => ⟨h1, h⟩⟩
          have q1 : ((l.length : Int) != m) = false := by rw [bne_eq_false_iff_eq]; exact h1
          have q2 : (0 : Int) < (t.length : Int) := by omega
          simp only [c24, plX, runes, ints, go_sem, ↓reduceIte, Nat.reduceEqDiff, Nat.reduceAdd, Nat.reduceMul, Nat.reduceLeDiff, Nat.reduceLT, Int.reduceToNat, Int.reduceLT, Int.reduceLE, reduceCtorEq, Nat.reduceBEq, subP4a, subP4b, subP4c, subP3, subP3', fillAll, fillIn, shiftR, shiftV, List.take_succ_cons, List.take_zero, List.drop_succ_cons, List.drop_zero, List.append_nil, Nat.zero_add]
          refine goP h35 ?_
          simp only [go_sem, ↓reduceIte, Nat.reduceEqDiff, Nat.reduceAdd, Nat.reduceMul, Nat.reduceLeDiff, Nat.reduceLT, Int.reduceToNat, Int.reduceLT, Int.reduceLE, reduceCtorEq, Nat.reduceBEq, subP4a, subP4b, subP4c, subP3, subP3', fillAll, fillIn, shiftR, shiftV, List.take_succ_cons, List.take_zero, List.drop_succ_cons, List.drop_zero, List.append_nil, Nat.zero_add, q1, q2]
          simp only [i24, Out, resAll, geto, ints, List.getElem?_cons_zero, List.getElem?_cons_succ, resOf, outOf, snap, snapL, ev, getE, List.mapM_cons, List.mapM_nil, Option.bind_some, Option.pure_def, Option.bind_eq_bind, Option.map_some, reduceIte, Nat.reduceEqDiff, true_and, and_true, subA5, noA, Bool.false_eq_true, if_false]
        · have q1 : ((l.length : Int) != m) = true := by rw [bne_iff_ne]; exact h1
          simp only [c24, plX, runes, ints, go_sem, ↓reduceIte, Nat.reduceEqDiff, Nat.reduceAdd, Nat.reduceMul, Nat.reduceLeDiff, Nat.reduceLT, Int.reduceToNat, Int.reduceLT, Int.reduceLE, reduceCtorEq, Nat.reduceBEq, subP4a, subP4b, subP4c, subP3, subP3', fillAll, fillIn, shiftR, shiftV, List.take_succ_cons, List.take_zero, List.drop_succ_cons, List.drop_zero, List.append_nil, Nat.zero_add]
          refine goP h35 ?_
          simp only [go_sem, ↓reduceIte, Nat.reduceEqDiff, Nat.reduceAdd, Nat.reduceMul, Nat.reduceLeDiff, Nat.reduceLT, Int.reduceToNat, Int.reduceLT, Int.reduceLE, reduceCtorEq, Nat.reduceBEq, subP4a, subP4b, subP4c, subP3, subP3', fillAll, fillIn, shiftR, shiftV, List.take_succ_cons, List.take_zero, List.drop_succ_cons, List.drop_zero, List.append_nil, Nat.zero_add, q1]
          simp only [i24, Out, resAll, geto, ints, List.getElem?_cons_zero, List.getElem?_cons_succ, resOf, outOf, snap, snapL, ev, getE, List.mapM_cons, List.mapM_nil, Option.bind_some, Option.pure_def, Option.bind_eq_bind, Option.map_some, reduceIte, Nat.reduceEqDiff, true_and, and_true, subA5, noA, Bool.false_eq_true, if_false]
theorem c9_ok {s t : List Int} {l : List Nm} {ch : Bool} (hs : ∀ d ∈ s, In64 d) (hsl : (s.length : Int) ≤ 1000000000000) (ht : (t.length : Int) ≤ 1000000000000) (hl : (l.length : Int) ≤ 1000000000000) (hu : ∀ x ∈ l, NmU x) (hr : RightP s ch t l) :
    Go.V.Call tab E 9 [.agg (plX s ch t l)] [] (.agg (arrX s ch t (l.map toRt))) [] := by
  refine Go.V.Call.mach i9 c9 rfl rfl rfl rfl ?_
  have h65 := c24_ok (ok := true) hs hsl ht hl hu ⟨fun _ => hr, fun _ => rfl⟩
  simp only [if_true, plX, arrX, runes, ints] at h65
  simp only [c9, plX, runes, ints, go_sem, ↓reduceIte, Nat.reduceEqDiff, Nat.reduceAdd, Nat.reduceMul, Nat.reduceLeDiff, Nat.reduceLT, Int.reduceToNat, Int.reduceLT, Int.reduceLE, reduceCtorEq, Nat.reduceBEq, subP4, fillAll, fillIn, shiftR, shiftV, List.take_succ_cons, List.take_zero, List.drop_succ_cons, List.drop_zero, List.append_nil, Nat.zero_add]
  refine goP h65 ?_
  simp only [go_sem, ↓reduceIte, Nat.reduceEqDiff, Nat.reduceAdd, Nat.reduceMul, Nat.reduceLeDiff, Nat.reduceLT, Int.reduceToNat, Int.reduceLT, Int.reduceLE, reduceCtorEq, Nat.reduceBEq, subA5, fillAll, fillIn, shiftR, shiftV, List.take_succ_cons, List.take_zero, List.drop_succ_cons, List.drop_zero, List.append_nil, Nat.zero_add]
  simp only [i9, Out, resAll, geto, ints, List.getElem?_cons_zero, List.getElem?_cons_succ, resOf, outOf, snap, snapL, ev, getE, List.mapM_cons, List.mapM_nil, Option.bind_some, Option.pure_def, Option.bind_eq_bind, Option.map_some, reduceIte, Nat.reduceEqDiff, true_and, and_true, subA5, arrX, runes]
/-- Is it an array of few elements, and short numbers? -/
def LightP (s : List Int) (ch : Bool) (t : List Int) (l : List Nm) (most : Int) : Prop := (t.length : Int) ≤ most ∧ (l.length : Int) ≤ most ∧ s.length ≤ 8 ∧ (∀ x ∈ l, x.2.1.length ≤ 40 ∧ x.2.2.length ≤ 40) ∧ RightP s ch t l
theorem c15_ok {s t : List Int} {l : List Nm} {ch ok : Bool} {most : Int} (hm : 0 ≤ most ∧ most ≤ 1000000) (hs : ∀ d ∈ s, In64 d)
    (hu : ∀ x ∈ l, U8 x.2.1 ∧ U8 x.2.2) (hok : ok = true ↔ LightP s ch t l most) :
    Go.V.Call tab E 15 [.agg (plX s ch t l), .int .i64 most] [] (.bool ok) [] := by
  refine Go.V.Call.mach i15 c15 rfl rfl rfl rfl ?_
  have hfalse : ¬ LightP s ch t l most → ok = false := fun h => by rw [← Bool.not_eq_true, hok]; exact h
  by_cases h1 : most < (t.length : Int)
  · have := hfalse (fun h => by have := h.1; omega)
    subst this
    simp only [c15, plX, runes, ints, go_sem, ↓reduceIte, Nat.reduceEqDiff, Nat.reduceAdd, Nat.reduceMul, Nat.reduceLeDiff, Nat.reduceLT, Int.reduceToNat, Int.reduceLT, Int.reduceLE, reduceCtorEq, Nat.reduceBEq, subP4a, subP4b, subP4c, subP3, subP3', fillAll, fillIn, shiftR, shiftV, List.take_succ_cons, List.take_zero, List.drop_succ_cons, List.drop_zero, List.append_nil, Nat.zero_add, h1]
    simp only [i15, Out, resAll, geto, ints, List.getElem?_cons_zero, List.getElem?_cons_succ, resOf, outOf, snap, snapL, ev, getE, List.mapM_cons, List.mapM_nil, Option.bind_some, Option.pure_def, Option.bind_eq_bind, Option.map_some, reduceIte, Nat.reduceEqDiff, true_and, and_true]
  by_cases h2 : most < (l.length : Int)
  · have := hfalse (fun h => by have := h.2.1; omega)
    subst this
    simp only [c15, plX, runes, ints, go_sem, ↓reduceIte, Nat.reduceEqDiff, Nat.reduceAdd, Nat.reduceMul, Nat.reduceLeDiff, Nat.reduceLT, Int.reduceToNat, Int.reduceLT, Int.reduceLE, reduceCtorEq, Nat.reduceBEq, subP4a, subP4b, subP4c, subP3, subP3', fillAll, fillIn, shiftR, shiftV, List.take_succ_cons, List.take_zero, List.drop_succ_cons, List.drop_zero, List.append_nil, Nat.zero_add, h1, h2]
    simp only [i15, Out, resAll, geto, ints, List.getElem?_cons_zero, List.getElem?_cons_succ, resOf, outOf, snap, snapL, ev, getE, List.mapM_cons, List.mapM_nil, Option.bind_some, Option.pure_def, Option.bind_eq_bind, Option.map_some, reduceIte, Nat.reduceEqDiff, true_and, and_true]
  by_cases h3 : (8 : Int) < (s.length : Int)
  · have := hfalse (fun h => by have := h.2.2.1; omega)
    subst this
    simp only [c15, plX, runes, ints, go_sem, ↓reduceIte, Nat.reduceEqDiff, Nat.reduceAdd, Nat.reduceMul, Nat.reduceLeDiff, Nat.reduceLT, Int.reduceToNat, Int.reduceLT, Int.reduceLE, reduceCtorEq, Nat.reduceBEq, subP4a, subP4b, subP4c, subP3, subP3', fillAll, fillIn, shiftR, shiftV, List.take_succ_cons, List.take_zero, List.drop_succ_cons, List.drop_zero, List.append_nil, Nat.zero_add, h1, h2, h3]
    simp only [i15, Out, resAll, geto, ints, List.getElem?_cons_zero, List.getElem?_cons_succ, resOf, outOf, snap, snapL, ev, getE, List.mapM_cons, List.mapM_nil, Option.bind_some, Option.pure_def, Option.bind_eq_bind, Option.map_some, reduceIte, Nat.reduceEqDiff, true_and, and_true]
  simp only [c15, plX, runes, ints, go_sem, ↓reduceIte, Nat.reduceEqDiff, Nat.reduceAdd, Nat.reduceMul, Nat.reduceLeDiff, Nat.reduceLT, Int.reduceToNat, Int.reduceLT, Int.reduceLE, reduceCtorEq, Nat.reduceBEq, subP4a, subP4b, subP4c, subP3, subP3', fillAll, fillIn, shiftR, shiftV, List.take_succ_cons, List.take_zero, List.drop_succ_cons, List.drop_zero, List.append_nil, Nat.zero_add, h1, h2, h3]
  refine mLoop (fun N st => ∃ k : Nat, k ≤ l.length ∧ N = l.length - k ∧ (∀ x ∈ l.take k, x.2.1.length ≤ 40 ∧ x.2.2.length ≤ 40) ∧ st = ⟨[(2, .loc 0 0 0), (5, .int .i64 k)], [⟨true, 26, 4, 0, 1, plX s ch t l, false⟩]⟩) l.length
    ⟨_, rfl, 0, by omega, by omega, fun x hx => by simp at hx, rfl⟩ ?_
  rintro N s0 ⟨k, hk, rfl, hr, rfl⟩
  by_cases hlt : k < l.length
  · have hlt' : (k : Int) < (l.length : Int) := by omega
    have hk0 : (0 : Int) ≤ (k : Int) := by omega
    have hk1 : IntKind.i64.wrap ((k : Int) + 1) = ((k + 1 : Nat) : Int) := by rw [wrap_i64 (by omega) (by omega)]; omega
    have hs1 := sub_nms1 hlt
    have hs2 := sub_nms2 hlt
    have hmem : nmAt l k ∈ l := by simp [nmAt, List.getD, hlt]
    have htk : l.take (k + 1) = l.take k ++ [nmAt l k] := takeAt hlt
    by_cases g1 : (40 : Int) < ((nmAt l k).2.1.length : Int)
    · have := hfalse (fun h => by have := (h.2.2.2.1 _ hmem).1; omega)
      subst this
      simp only [b15_0, plX, runes, ints, go_sem, ↓reduceIte, Nat.reduceEqDiff, Nat.reduceAdd, Nat.reduceMul, Nat.reduceLeDiff, Nat.reduceLT, Int.reduceToNat, Int.reduceLT, Int.reduceLE, reduceCtorEq, Nat.reduceBEq, subP3, subP3', hlt', hk0, Int.toNat_natCast, hs1, hs2, bs_size, g1]
      simp only [i15, Out, resAll, geto, ints, List.getElem?_cons_zero, List.getElem?_cons_succ, resOf, outOf, snap, snapL, ev, getE, List.mapM_cons, List.mapM_nil, Option.bind_some, Option.pure_def, Option.bind_eq_bind, Option.map_some, reduceIte, Nat.reduceEqDiff, true_and, and_true]
    · by_cases g2 : (40 : Int) < ((nmAt l k).2.2.length : Int)
      · have := hfalse (fun h => by have := (h.2.2.2.1 _ hmem).2; omega)
        subst this
        simp only [b15_0, plX, runes, ints, go_sem, ↓reduceIte, Nat.reduceEqDiff, Nat.reduceAdd, Nat.reduceMul, Nat.reduceLeDiff, Nat.reduceLT, Int.reduceToNat, Int.reduceLT, Int.reduceLE, reduceCtorEq, Nat.reduceBEq, subP3, subP3', hlt', hk0, Int.toNat_natCast, hs1, hs2, bs_size, g1, g2]
        simp only [i15, Out, resAll, geto, ints, List.getElem?_cons_zero, List.getElem?_cons_succ, resOf, outOf, snap, snapL, ev, getE, List.mapM_cons, List.mapM_nil, Option.bind_some, Option.pure_def, Option.bind_eq_bind, Option.map_some, reduceIte, Nat.reduceEqDiff, true_and, and_true]
      · simp only [b15_0, plX, runes, ints, go_sem, ↓reduceIte, Nat.reduceEqDiff, Nat.reduceAdd, Nat.reduceMul, Nat.reduceLeDiff, Nat.reduceLT, Int.reduceToNat, Int.reduceLT, Int.reduceLE, reduceCtorEq, Nat.reduceBEq, subP3, subP3', hlt', hk0, Int.toNat_natCast, hs1, hs2, bs_size, g1, g2, hk1]
        refine loopQ_go rfl (l.length - (k + 1)) (by omega) ⟨k + 1, by omega, rfl, ?_, rfl⟩
        intro x hx
        rw [htk] at hx
        rcases List.mem_append.1 hx with hx | hx
        · exact hr x hx
        · simp at hx; subst hx; omega
  · have hlt' : ¬ (k : Int) < (l.length : Int) := by omega
    rw [List.take_of_length_le (by omega)] at hr
    have h66 := c31_ok (s := s) (t := t) (l := l) (ch := ch) (ok := ok) hs (by omega) (by omega) (by omega) (fun x hx => ⟨(hu x hx).1, (hu x hx).2, by have := (hr x hx).1; omega, by have := (hr x hx).2; omega⟩) (by
      rw [hok]
      exact ⟨fun h => h.2.2.2.2, fun h => ⟨by omega, by omega, by omega, hr, h⟩⟩)
    simp only [plX, runes, ints] at h66
    simp only [b15_0, k15_0, plX, runes, ints, go_sem, ↓reduceIte, Nat.reduceEqDiff, Nat.reduceAdd, Nat.reduceMul, Nat.reduceLeDiff, Nat.reduceLT, Int.reduceToNat, Int.reduceLT, Int.reduceLE, reduceCtorEq, Nat.reduceBEq, subP4, subP3, subP3', hlt']
    refine goP h66 ?_
    simp only [go_sem, ↓reduceIte, Nat.reduceEqDiff, Nat.reduceAdd, Nat.reduceMul, Nat.reduceLeDiff, Nat.reduceLT, Int.reduceToNat, Int.reduceLT, Int.reduceLE, reduceCtorEq, Nat.reduceBEq]
    simp only [i15, Out, resAll, geto, ints, List.getElem?_cons_zero, List.getElem?_cons_succ, resOf, outOf, snap, snapL, ev, getE, List.mapM_cons, List.mapM_nil, Option.bind_some, Option.pure_def, Option.bind_eq_bind, Option.map_some, reduceIte, Nat.reduceEqDiff, true_and, and_true]
end Go.Proofs.YtcmbaabkfihdmaaGreat.I

/- Layer 6: elements at any places. -/
set_option linter.unusedVariables false
set_option linter.unusedSimpArgs false
namespace Go.Proofs.YtcmbaabkfihdmaaGreat.I
open Go Go.V
attribute [local go_sem] mNil nat0 beq_self_eq_true mSkip mRet mExit mReg mSeq mCond mTrue mFalse mBlock mLv mCodeE mCodeR mEndN mEndR mEndE mOps mSome mGuard mGtt mGff mGtf mGft mGu mCallP mCallR mCallF mCallO mCallZ mCallG mCallM mCallV loopQ_exit loopQ_ret mO_mov mO_newnil mO_pick mO_alloc mO_box mO_build mO_bsl mO_bslF mO_ldf mO_ld mO_st mO_sta mO_nilchk mO_bin mO_binb mO_binp mO_bins mO_neg mO_com mO_not mO_conv mO_mk mO_mk0 mO_s2b mO_b2s mO_cpy mO_cut mO_faddr mO_fld mO_iaddr mO_iaddrf mO_sidx mO_len mO_lenf mO_slen mO_scut mO_app mO_ext mO_mx mO_mn mO_mkfn evalOp cutOp argsE ev getE putE cellsOf adopt rowOf binV boolV nilV ar_add ar_sub ar_mul ar_quo ar_rem ar_eq ar_ne ar_lt ar_le ar_gt ar_ge ar_and ar_or ar_xor geto bound finRet finNrm ints List.length_cons List.length_nil List.length_append List.getElem?_cons_zero List.getElem?_cons_succ List.nil_append List.cons_append List.map_cons List.map_nil List.mapM_cons List.mapM_nil Option.map_some Option.map_none Option.bind_some Option.pure_def Option.bind_eq_bind List.drop_zero or_self or_false false_or or_true true_or true_and and_true and_self decide_true decide_false Bool.false_eq_true Bool.true_eq_false Bool.not_true Bool.not_false Nat.le_refl eq_self gt_iff_lt ge_iff_le ne_eq not_true_eq_false not_false_eq_true storeOp apartOf freeze_nil refsL refs List.flatMap_cons List.flatMap_nil List.append_nil List.contains_nil List.set_cons_zero List.set_cons_succ snap snapL fill_nums flat_nums nums_length Go.V.freeze List.mapIdx_cons List.mapIdx_nil List.contains_cons Bool.or_false Bool.false_or Bool.or_true Bool.true_or
/-- A character at a place; a blank, if there is none. -/
def pickT (t : List Int) (k : Int) : Int := if 0 ≤ k ∧ k < t.length then t.getD k.toNat 0 else 32
def picksT (ch : Bool) (t ks : List Int) : List Int := if ch then ks.map (pickT t) else []
def picksR (ch : Bool) (l : List Rt) (ks : List Int) : List Rt := if ch then [] else ks.map (pickR l)
end Go.Proofs.YtcmbaabkfihdmaaGreat.I
