/- The texts L08r L08s WSized LNum, one behind the other. Conditions: each text's own. -/
import Derived.Test.YtlejgleocnemoaaG07
import Derived.SizedLaws
import Derived.ChangeSlices
import Derived.Test.YtlejgleocnemoaaG02
import Derived.Test.YtlejgleocnemoaaG06
import Derived.Deep.Slices
import Derived.Deep.Fields
import Derived.ChangeArms
set_option linter.unusedSimpArgs false
set_option linter.unusedVariables false
namespace Go.Proofs.Ytlejgleocnemoaa.I
open Go Go.V
attribute [local go_sem_proc ↓] reduceIte
attribute [local go_sem_proc] Nat.reduceEqDiff Nat.reduceAdd Nat.reduceMul Nat.reduceLeDiff Nat.reduceLT Int.reduceToNat Int.reduceLT Int.reduceLE reduceCtorEq Nat.reduceBEq
attribute [local go_sem] mNil nat0 beq_self_eq_true mSkip mRet mExit mReg mSeq mCond mTrue mFalse mBlock mLv mCodeE mCodeR mEndN mEndR mEndE mOps mSome mGuard mGtt mGff mGtf mGft mGu mCallP mCallR mCallF mCallO mCallZ mCallG mCallM mCallV loopQ_exit loopQ_ret mO_mov mO_newnil mO_pick mO_alloc mO_box mO_build mO_bsl mO_bslF mO_ldf mO_ld mO_st mO_sta mO_nilchk mO_bin mO_binb mO_binp mO_bins mO_neg mO_com mO_not mO_conv mO_mk mO_mk0 mO_s2b mO_b2s mO_cpy mO_cut mO_faddr mO_fld mO_iaddr mO_iaddrf mO_sidx mO_len mO_lenf mO_slen mO_scut mO_app mO_ext mO_mx mO_mn mO_mkfn evalOp cutOp argsE ev getE putE cellsOf adopt rowOf binV boolV nilV ar_add ar_sub ar_mul ar_quo ar_rem ar_eq ar_ne ar_lt ar_le ar_gt ar_ge ar_and ar_or ar_xor geto bound finRet finNrm ints List.length_cons List.length_nil List.length_append List.getElem?_cons_zero List.getElem?_cons_succ List.nil_append List.cons_append List.map_cons List.map_nil List.mapM_cons List.mapM_nil Option.map_some Option.map_none Option.bind_some Option.pure_def Option.bind_eq_bind List.drop_zero or_self or_false false_or or_true true_or true_and and_true and_self decide_true decide_false Bool.false_eq_true Bool.true_eq_false Bool.not_true Bool.not_false Nat.le_refl eq_self gt_iff_lt ge_iff_le ne_eq not_true_eq_false not_false_eq_true storeOp apartOf freeze_nil refsL refs List.flatMap_cons List.flatMap_nil List.append_nil List.contains_nil List.set_cons_zero List.set_cons_succ snap snapL fill_nums flat_nums nums_length Go.V.freeze List.mapIdx_cons List.mapIdx_nil List.contains_cons Bool.or_false Bool.false_or Bool.or_true Bool.true_or
theorem c34_ok {s t s' T : List Int} {ch : Bool} {L R : List Rt} (hsl : (s.length : Int) ≤ 1000000)
    (h87 : Go.V.Call tab E 87 [ints (revl s.length), .agg (arrX s ch t L)] [] (.tup [.agg (arrX s' ch T R), .int .i64 0]) []) :
    Go.V.Call tab E 34 [.agg (arrX s ch t L)] [] (.agg (arrX s' ch T R)) [] := by
  refine Go.V.Call.mach i34 c34 rfl rfl rfl rfl ?_
  have h66 := c66_X (s := s) (t := t) (l := L) (ch := ch) (by omega)
  have z0 : (0 : Int) ≤ (s.length : Int) := by omega
  have z1 : 8 * s.length ≤ 140737488355328 := by omega
  have z2 : (s.length : Int) ≤ 140737488355328 := by omega
  simp only [arrX, runes, ints, revl_len] at h66 h87
  simp only [c34, arrX, runes, ints, go_sem, fillAll, fillIn, shiftR, shiftV, List.take_succ_cons, List.take_zero, List.drop_succ_cons, List.drop_zero, List.append_nil, Nat.zero_add, subA5]
  refine goP h66 ?_
  simp only [go_sem, fillAll, fillIn, shiftR, shiftV, List.take_succ_cons, List.take_zero, List.drop_succ_cons, List.drop_zero, List.append_nil, Nat.zero_add, subA5, Int.toNat_natCast, z0, z1, z2, flat_nums]
  refine mLoop (fun N st => ∃ i : Nat, i ≤ s.length ∧ N = s.length - i ∧ st = ⟨[(1, .loc 0 0 0), (2, .loc 4 0 0), (3, .arr 5 0), (11, .int .i64 s.length), (12, .int .i64 i)],
      [⟨true, 28, 5, 0, 1, arrX s ch t L, false⟩, ⟨false, 3, 1, 0, 0, [], false⟩, ⟨false, 21, 1, 0, 0, [], false⟩, ⟨false, 59, 3, 0, 0, [], false⟩, ⟨true, 28, 5, 0, 1, [.arr 1 0, .bool false, .arr 2 0, .arr 3 0, .bool false], false⟩, ⟨false, 3, 1, 0, s.length, nums .i64 ((revl s.length).take i ++ List.replicate (s.length - i) 0), false⟩]⟩) s.length ⟨_, rfl, 0, by omega, by omega, by simp [getE, arrX, ints, runes, nums]⟩ ?_
  rintro N s0 ⟨i, hi, rfl, rfl⟩
  by_cases hlt : i < s.length
  · have hlt' : (i : Int) < (s.length : Int) := by omega
    have hi0 : (0 : Int) ≤ (i : Int) := by omega
    have hi1 : IntKind.i64.wrap ((i : Int) + 1) = ((i + 1 : Nat) : Int) := by rw [wrap_i64 (by omega) (by omega)]; omega
    have w1 : IntKind.i64.wrap ((s.length : Int) - 1) = (s.length : Int) - 1 := wrap_i64 (by omega) (by omega)
    have w2 : IntKind.i64.wrap ((s.length : Int) - 1 - (i : Int)) = (revl s.length).getD i 0 := by
      rw [wrap_i64 (by omega) (by omega)]; simp [revl, List.getD, hlt]
    have hrow := fill_row (ks := revl s.length) (i := i) (n := s.length) revl_len hlt
    have hst : i * 1 + 1 ≤ ((revl s.length).take i ++ List.replicate (s.length - i) 0).length := by rw [row_len revl_len (by omega)]; omega
    simp only [b34_0, go_sem, subA5, hlt']
    simp only [arrX, runes, ints, go_sem, fillAll, fillIn, shiftR, shiftV, List.take_succ_cons, List.take_zero, List.drop_succ_cons, List.drop_zero, List.append_nil, Nat.zero_add, subA5]
    refine goP h66 ?_
    generalize (revl s.length).take i ++ List.replicate (s.length - i) 0 = y at *
    simp only [go_sem, fillAll, fillIn, shiftR, shiftV, List.take_succ_cons, List.take_zero, List.drop_succ_cons, List.drop_zero, List.append_nil, Nat.zero_add, subA5, hlt', hi0, Int.toNat_natCast, w1, w2, hst, hi1]
    refine loopQ_go rfl (s.length - (i + 1)) (by omega) ⟨i + 1, by omega, rfl, ?_⟩
    rw [← hrow]
    simp [getE, nums, List.map_take, List.map_drop, arrX, ints, runes]
  · have hlt' : ¬ (i : Int) < (s.length : Int) := by omega
    obtain rfl : i = s.length := by omega
    rw [List.take_of_length_le (by rw [revl_len]; omega), Nat.sub_self, List.replicate_zero, List.append_nil]
    simp only [b34_0, k34_0, arrX, runes, ints, go_sem, fillAll, fillIn, shiftR, shiftV, List.take_succ_cons, List.take_zero, List.drop_succ_cons, List.drop_zero, List.append_nil, Nat.zero_add, subA5, hlt']
    refine goF h87 ?_
    simp only [go_sem, fillAll, fillIn, shiftR, shiftV, List.take_succ_cons, List.take_zero, List.drop_succ_cons, List.drop_zero, List.append_nil, Nat.zero_add, subA5]
    simp only [i34, Out, resAll, geto, ints, List.getElem?_cons_zero, List.getElem?_cons_succ, resOf, outOf, snap, snapL, ev, getE, List.mapM_cons, List.mapM_nil, Option.bind_some, Option.pure_def, Option.bind_eq_bind, Option.map_some, reduceIte, Nat.reduceEqDiff, true_and, and_true, subA5]
theorem back_pick {α : Type} {d : α} {t : List α} {pk : List α → Int → α} (hp : ∀ (u : List α) (i : Nat), i < u.length → pk u i = u.getD i d) {k1 k2 : List Int} (h1 : k1.length = t.length) (h2 : k2.length = t.length)
    (hb : ∀ j : Nat, j < t.length → ∃ i : Nat, i < t.length ∧ k2.getD j 0 = (i : Int) ∧ k1.getD i 0 = (j : Int)) : k2.map (pk (k1.map (pk t))) = t := by
  refine List.ext_getElem (by simp [h2]) fun j g1 g2 => ?_
  obtain ⟨i, hi, e2, e1⟩ := hb j g2
  have q1 : i < k1.length := by omega
  have q2 : j < k2.length := by omega
  simp only [List.getD, List.getElem?_eq_getElem q1, List.getElem?_eq_getElem q2, Option.getD_some] at e1 e2
  rw [List.getElem_map, e2, hp _ _ (by simpa using q1)]
  simp only [List.getD, List.getElem?_map, List.getElem?_eq_getElem q1, Option.map_some, Option.getD_some]
  rw [e1, hp _ _ g2]
  simp [List.getD, g2]
theorem picks_back {t k1 k2 : List Int} {ch : Bool} {L : List Rt} (hch : (ch = true → L = []) ∧ (ch = false → t = [])) (h1 : k1.length = t.length + L.length) (h2 : k2.length = t.length + L.length)
    (hb : ∀ j : Nat, j < t.length + L.length → ∃ i : Nat, i < t.length + L.length ∧ k2.getD j 0 = (i : Int) ∧ k1.getD i 0 = (j : Int)) :
    picksT ch (picksT ch t k1) k2 = t ∧ picksR ch (picksR ch L k1) k2 = L := by
  cases ch with
  | true =>
    obtain rfl := hch.1 rfl
    simp only [List.length_nil, Nat.add_zero] at h1 h2 hb
    refine ⟨?_, rfl⟩
    simp only [picksT, if_true]
    exact back_pick (d := 0) (fun u i hi => by rw [pickT, if_pos ⟨by omega, by omega⟩, Int.toNat_natCast]) h1 h2 hb
  | false =>
    obtain rfl := hch.2 rfl
    simp only [List.length_nil, Nat.zero_add] at h1 h2 hb
    refine ⟨rfl, ?_⟩
    simp only [picksR, Bool.false_eq_true, if_false]
    exact back_pick (d := (false, 0, 0)) (fun u i hi => by rw [pickR, if_pos ⟨by omega, by omega⟩, Int.toNat_natCast]; rfl) h1 h2 hb
theorem picks_len2 {t ks : List Int} {ch : Bool} {L : List Rt} : (picksT ch t ks).length + (picksR ch L ks).length = ks.length := by
  cases ch <;> simp [picksT, picksR]
theorem picks_ch {t ks : List Int} {ch : Bool} {L : List Rt} : (ch = true → picksR ch L ks = []) ∧ (ch = false → picksT ch t ks = []) :=
  ⟨fun h => by subst h; rfl, fun h => by subst h; rfl⟩
theorem alos_back {q m n : Nat} {v1 v2 : Nat → Nat → Nat} (h4 : q * m * n ≤ 4096) (h : ∀ a i : Nat, a < q * n → i < m → v2 a i < m ∧ v1 a (v2 a i) = i) :
    ∀ j : Nat, j < q * m * n → ∃ i : Nat, i < q * m * n ∧ (alos m n v2 (q * m * n)).getD j 0 = (i : Int) ∧ (alos m n v1 (q * m * n)).getD i 0 = (j : Int) := by
  intro j hj
  have hg : ∀ (v : Nat → Nat → Nat) (j : Nat), j < q * m * n → (alos m n v (q * m * n)).getD j 0 = alo m n v j := fun v j hj => by simp [alos, List.getD, hj]
  have hnp : 0 < n := by rcases Nat.eq_zero_or_pos n with h | h; subst h; simp at hj; exact h
  have hmp : 0 < m := by rcases Nat.eq_zero_or_pos m with h | h; subst h; simp at hj; exact h
  have d1 := Nat.div_add_mod j n
  have d2 := Nat.div_add_mod (j / n) m
  have r1 := Nat.mod_lt j hnp
  have r2 := Nat.mod_lt (j / n) hmp
  have ho : j / n / m < q := by
    rw [Nat.div_div_eq_div_mul, Nat.div_lt_iff_lt_mul (Nat.mul_pos hnp hmp), Nat.mul_comm n m, ← Nat.mul_assoc]
    exact hj
  have ej : j = (j / n / m * m + j / n % m) * n + j % n := by
    rw [Nat.mul_comm (j / n / m) m, d2, Nat.mul_comm, d1]
  generalize j % n = r at *
  generalize j / n % m = i at *
  generalize j / n / m = o at *
  clear d1 d2
  obtain ⟨_, s1, _⟩ := alo_small h4 ho r2 r1 r2
  obtain ⟨g1, g2⟩ := h (o * n + r) i s1 r2
  obtain ⟨_, _, _, _, _, s6, _⟩ := alo_small h4 ho r2 r1 g1
  refine ⟨(o * m + v2 (o * n + r) i) * n + r, s6, ?_, ?_⟩
  · rw [hg _ _ hj, ej, alo_at r2 r1]
  · rw [hg _ _ s6, alo_at g1 r1, g2, ← ej]
theorem rev_rev {m a i : Nat} (h : i < m) : revV m a i < m ∧ revV m a (revV m a i) = i := by
  simp only [revV]; omega
theorem rot_rot {x : Int} {m a i : Nat} (h : i < m) : rotV [-x] true m a i < m ∧ rotV [x] true m a (rotV [-x] true m a i) = i := by
  obtain ⟨h1, h2⟩ := rotV_lt (w := [-x]) (one := true) (m := m) (a := a) (i := i) (by omega)
  obtain ⟨h3, h4⟩ := rotV_lt (w := [x]) (one := true) (m := m) (a := a) (i := rotV [-x] true m a i) (by omega)
  refine ⟨h1, ?_⟩
  simp only [if_true, List.getD_cons_zero] at h2 h4
  rw [h2, Int.emod_add_emod, show (i : Int) + -x + x = i by omega, Int.emod_eq_of_lt (by omega) (by omega)] at h4
  omega
theorem prd_app : ∀ {s t : List Int}, prd (s ++ t) = prd s * prd t
  | [], t => by rw [List.nil_append, prd, Int.one_mul]
  | d :: ds, t => by rw [List.cons_append, prd, prd, prd_app, Int.mul_assoc]
theorem prd_rev : ∀ {s : List Int}, prd s.reverse = prd s
  | [] => rfl
  | d :: ds => by rw [List.reverse_cons, prd_app, prd_rev, prd, prd, prd, Int.mul_one, Int.mul_comm]
section
variable {s t : List Int} {ch : Bool} {L : List Rt}
theorem tra_twice (hs : ∀ d ∈ s, In64 d) (ht : (t.length : Int) ≤ 1000000) (hL : (L.length : Int) ≤ 1000000) (hc : count s = some ((t.length + L.length : Nat) : Int)) (hch : (ch = true → L = []) ∧ (ch = false → t = [])) :
    ∃ s' T R, Go.V.Call tab E 34 [.agg (arrX s ch t L)] [] (.agg (arrX s' ch T R)) [] ∧ Go.V.Call tab E 34 [.agg (arrX s' ch T R)] [] (.agg (arrX s ch t L)) [] := by
  have hcs : count s ≠ none := by rw [hc]; simp
  obtain ⟨hl8, hd4, _⟩ := count_bound hc
  have hd : ∀ d ∈ s, d ≤ 4096 := fun d hd => (hd4 d hd).2
  have hdr : ∀ d ∈ s.reverse, d ≤ 4096 := fun d h => hd d (List.mem_reverse.1 h)
  have e1 := shpT_rev hd
  have e2 := shpT_rev hdr
  rw [List.length_reverse, List.reverse_reverse] at e2
  have hm : ∀ k : Nat, k < s.length → (k : Int) ∈ revl s.length := fun k hk => revl_mem.2 ⟨by omega, by omega⟩
  obtain ⟨n', hn'⟩ := shpT_count (l := revl s.length) (s := s) (m := s.length) hcs revl_len hm
  have hn := count_prd hc
  have hnr : (n' : Int) = ((t.length + L.length : Nat) : Int) := by
    have := count_prd hn'
    rw [e1, prd_rev, ← hn] at this
    exact this
  rw [hnr, e1] at hn'
  have hcr : count s.reverse ≠ none := by rw [hn']; simp
  generalize hN : t.length + L.length = N at *
  have hc2 := hn'
  rw [← e1] at hc2
  have hc1 := hc
  rw [← e2] at hc1
  have k1l := turnK_len (l := revl s.length) (s := s) (m := s.length) (n := N)
  have k2l := turnK_len (l := revl s.length) (s := s.reverse) (m := s.length) (n := N)
  have a1 := c87_ok (ch := ch) (t := t) (L := L) hs hcs revl_len (by omega) (by omega) (fun a h => revl_mem.1 h) hm hc2
  rw [e1] at a1
  have p1 := picks_len2 (t := t) (ks := turnK (revl s.length) s s.length N) (ch := ch) (L := L)
  have p2 := picks_ch (t := t) (ks := turnK (revl s.length) s s.length N) (ch := ch) (L := L)
  obtain ⟨g1, g2⟩ := picks_back (t := t) (L := L) (k1 := turnK (revl s.length) s s.length N) (k2 := turnK (revl s.length) s.reverse s.length N) hch (by rw [k1l, hN]) (by rw [k2l, hN]) fun j hj => by
    rw [hN] at hj ⊢
    have hN0 : ((N : Nat) : Int) ≠ 0 := by omega
    exact turn_back hd (count_pos hc hN0) hn.symm (by rw [prd_rev]; exact hn.symm) hj
  have a2 := c87_ok (ch := ch) (s := s.reverse) (l := revl s.length) (t := picksT ch t (turnK (revl s.length) s s.length N)) (L := picksR ch L (turnK (revl s.length) s s.length N)) (m := s.length) (n := N) (fun d h => hs d (List.mem_reverse.1 h)) hcr (by rw [revl_len, List.length_reverse]) (by omega) (by omega) (fun a h => revl_mem.1 h) hm hc1
  rw [e2, g1, g2] at a2
  exact ⟨_, _, _, c34_ok (by omega) a1, c34_ok (by rw [List.length_reverse]; omega) (by rw [List.length_reverse]; exact a2)⟩
theorem ax_last (h : s.length ≠ 0) (h2 : (s.length : Int) ≤ 1000000) : axB s (-1) = true ∧ axA s (-1) = ((s.length - 1 : Nat) : Int) := by
  have e : axA s (-1) = ((s.length - 1 : Nat) : Int) := by rw [axA, if_pos (by omega)]; omega
  exact ⟨by rw [axB, e, Bool.and_eq_true, decide_eq_true_eq, decide_eq_true_eq]; omega, e⟩
theorem rev_twice (hs : ∀ d ∈ s, In64 d) (ht : (t.length : Int) ≤ 1000000) (hL : (L.length : Int) ≤ 1000000) (hc : count s = some ((t.length + L.length : Nat) : Int)) (hch : (ch = true → L = []) ∧ (ch = false → t = [])) :
    ∃ T R, Go.V.Call tab E 36 [.agg (arrX s ch t L), .int .i64 (-1)] [] (.tup [.agg (arrX s ch T R), .int .i64 0]) [] ∧ Go.V.Call tab E 36 [.agg (arrX s ch T R), .int .i64 (-1)] [] (.tup [.agg (arrX s ch t L), .int .i64 0]) [] := by
  obtain ⟨hl8, _, _⟩ := count_bound hc
  by_cases h0 : s.length = 0
  · exact ⟨_, _, c36_same (by omega) ⟨h0, by omega⟩, c36_same (by omega) ⟨h0, by omega⟩⟩
  · obtain ⟨hb, hk⟩ := ax_last h0 (by omega)
    have hks : s.length - 1 < s.length := by omega
    obtain ⟨q, m, n, hq, hm, hn, he, h4, hq4, hm4, hn4⟩ := cut_shape hc hks
    have hc' := hc
    rw [he] at hc'
    have hal := alos_len (m := m) (n := n) (c := q * m * n) (v := revV m)
    have p1 := picks_len2 (t := t) (ks := alos m n (revV m) (q * m * n)) (ch := ch) (L := L)
    have h97 := c89_ok (s := s) (t := t) (ch := ch) (L := L) (f := 90) (caps := []) (v := revV m) hs he (by omega) (by omega) hc' hks hq hm hn h4 hq4 hm4 hn4 (fun _ => rfl) rfl (fun a i _ hi => by rw [revV]; omega) (fun a i _ hi => c90_ok hi hm4)
    have h97b := c89_ok (s := s) (t := picksT ch t (alos m n (revV m) (q * m * n))) (ch := ch) (L := picksR ch L (alos m n (revV m) (q * m * n))) (f := 90) (caps := []) (v := revV m) hs (by rw [p1, hal]) (by omega) (by omega) hc' hks hq hm hn h4 hq4 hm4 hn4 (fun _ => rfl) rfl (fun a i _ hi => by rw [revV]; omega) (fun a i _ hi => c90_ok hi hm4)
    have he' : t.length + L.length = q * m * n := by omega
    obtain ⟨g1, g2⟩ := picks_back (t := t) (L := L) (k1 := alos m n (revV m) (q * m * n)) (k2 := alos m n (revV m) (q * m * n)) hch (by rw [hal, he']) (by rw [hal, he']) (by rw [he']; exact alos_back h4 fun a i _ hi => rev_rev hi)
    have r1 := c36_alo (q := q) (m := m) (n := n) (by omega) (by omega) hb hk h97
    have r2 := c36_alo (q := q) (m := m) (n := n) (by omega) (by omega) hb hk h97b
    rw [g1, g2] at r2
    exact ⟨_, _, r1, r2⟩
theorem rot_twice {x y : Int} (hx : In64 x) (hy : In64 y) (hxy : y = -x) (hs : ∀ d ∈ s, In64 d) (ht : (t.length : Int) ≤ 1000000) (hL : (L.length : Int) ≤ 1000000) (hc : count s = some ((t.length + L.length : Nat) : Int)) (hch : (ch = true → L = []) ∧ (ch = false → t = [])) :
    ∃ T R, Go.V.Call tab E 37 [.agg (arrX [] false [] [zR x]), .agg (arrX s ch t L), .int .i64 (-1)] [] (.tup [.agg (arrX s ch T R), .int .i64 0]) [] ∧ Go.V.Call tab E 37 [.agg (arrX [] false [] [zR y]), .agg (arrX s ch T R), .int .i64 (-1)] [] (.tup [.agg (arrX s ch t L), .int .i64 0]) [] := by
  obtain ⟨hl8, _, _⟩ := count_bound hc
  have ok : ∀ z, In64 z → ¬ (false = true ∧ 0 < ([] : List Int).length + [zR z].length) ∧ WhO [zR z] := fun z hz => ⟨by simp, fun a ha => by
    obtain rfl := List.mem_singleton.1 ha
    rw [rint_zR hz]; rfl⟩
  have w : ∀ z, In64 z → [zR z].map rv = [z] := fun z hz => by rw [List.map_cons, List.map_nil, rv_zR hz]
  have ltb : ((([] : List Int).length : Nat) : Int) ≤ 1000000000 := by decide
  have llb : ∀ z, (([zR z].length : Nat) : Int) ≤ 1000000000 := fun z => by simp
  by_cases h0 : s.length = 0
  · have a1 := c37_none (sb := []) (s := s) (t := t) (ch := ch) (L := L) (a := -1) ltb (llb x) (ok x hx) (w x hx) (by omega) ⟨h0, by omega⟩
    have a2 := c37_none (sb := []) (s := s) (t := t) (ch := ch) (L := L) (a := -1) ltb (llb y) (ok y hy) (w y hy) (by omega) ⟨h0, by omega⟩
    rw [if_pos (show ([] : List Int).length + [zR x].length = 1 from rfl)] at a1
    rw [if_pos (show ([] : List Int).length + [zR y].length = 1 from rfl)] at a2
    exact ⟨_, _, a1, a2⟩
  · obtain ⟨hb, hk⟩ := ax_last h0 (by omega)
    have hks : s.length - 1 < s.length := by omega
    obtain ⟨q, m, n, hq, hm, hn, he, h4, hq4, hm4, hn4⟩ := cut_shape hc hks
    have hc' := hc
    rw [he] at hc'
    have hal := alos_len (m := m) (n := n) (c := q * m * n) (v := rotV [x] true m)
    have hal2 := alos_len (m := m) (n := n) (c := q * m * n) (v := rotV [y] true m)
    have p1 := picks_len2 (t := t) (ks := alos m n (rotV [x] true m) (q * m * n)) (ch := ch) (L := L)
    have i64 : ∀ z, In64 z → ∀ d ∈ [z], In64 d := fun z hz d hd => by obtain rfl := List.mem_singleton.1 hd; exact hz
    have h97 := c89_ok (s := s) (t := t) (ch := ch) (L := L) (f := 93) (caps := [.ptr [.bool true] 0, .ptr [ints [x]] 0]) (v := rotV [x] true m) hs he (by omega) (by omega) hc' hks hq hm hn h4 hq4 hm4 hn4 (fun _ => rfl) rfl (fun a i _ hi => (rotV_lt (by omega)).1) (fun a i _ hi => c93_ok (i64 x hx) (by simp) hi hm4)
    have h97b := c89_ok (s := s) (t := picksT ch t (alos m n (rotV [x] true m) (q * m * n))) (ch := ch) (L := picksR ch L (alos m n (rotV [x] true m) (q * m * n))) (f := 93) (caps := [.ptr [.bool true] 0, .ptr [ints [y]] 0]) (v := rotV [y] true m) hs (by rw [p1, hal]) (by omega) (by omega) hc' hks hq hm hn h4 hq4 hm4 hn4 (fun _ => rfl) rfl (fun a i _ hi => (rotV_lt (by omega)).1) (fun a i _ hi => c93_ok (i64 y hy) (by simp) hi hm4)
    have he' : t.length + L.length = q * m * n := by omega
    obtain ⟨g1, g2⟩ := picks_back (t := t) (L := L) (k1 := alos m n (rotV [x] true m) (q * m * n)) (k2 := alos m n (rotV [y] true m) (q * m * n)) hch (by rw [hal, he']) (by rw [hal2, he']) (by rw [he', hxy]; exact alos_back h4 fun a i _ hi => rot_rot hi)
    have r1 := c37_one (sb := []) (a := -1) (by decide) ltb (llb x) (ok x hx) (w x hx) (by omega) hks hb hk rfl h97
    have r2 := c37_one (sb := []) (a := -1) (by decide) ltb (llb y) (ok y hy) (w y hy) (by omega) hks hb hk rfl h97b
    rw [g1, g2] at r2
    exact ⟨_, _, r1, r2⟩
end
theorem int_X {z : Int} (hz : In64 z) : Go.V.Call tab E 12 [.int .i64 z] [] (.agg (arrX [] false [] [zR z])) [] := by
  have h := c12_ok (E := E) (z := z) hz
  rw [arrV_X fun d hd => by obtain rfl := List.mem_singleton.1 hd; exact hz] at h
  exact h
set_option maxHeartbeats 2000000 in
theorem c6_ok {s t : List Int} {l : List Nm} {ch : Bool} {n : Int} (hs : ∀ d ∈ s, In64 d) (hu : ∀ x ∈ l, U8 x.2.1 ∧ U8 x.2.2) (hn : -2147483648 ≤ n ∧ n ≤ 2147483647) :
    Go.V.Call tab E 6 [.agg (plX s ch t l), .int .i32 n] [] (.bool true) [] := by
  refine Go.V.Call.mach i6 c6 rfl rfl rfl rfl ?_
  have h27 := fun ok h => c27_ok (s := s) (t := t) (l := l) (ch := ch) (ok := ok) hs hu h
  by_cases hL : LightP s ch t l 250
  · have h27t := h27 true ⟨fun _ => hL, fun _ => rfl⟩
    obtain ⟨l1, l2, l3, l4, hR⟩ := hL
    have hU : ∀ x ∈ l, NmU x := fun x hx => ⟨(hu x hx).1, (hu x hx).2, by have := (l4 x hx).1; omega, by have := (l4 x hx).2; omega⟩
    have h19 := c19_ok hs (by omega) (by omega) (by omega) hU hR
    obtain ⟨_, g2, _, _⟩ := self_X hR
    have hlm : (l.map toRt).length = l.length := by simp
    rw [← hlm] at g2
    have hlk : ∀ z ∈ l.map toRt, RtOk z := fun z hz => by
      obtain ⟨x, hx, rfl⟩ := List.mem_map.1 hz
      exact right_ok (hR.2 x hx)
    have hch : (ch = true → l.map toRt = []) ∧ (ch = false → t = []) := by
      have h1 := hR.1
      unfold Shapes at h1
      refine ⟨fun h => ?_, fun h => ?_⟩
      · subst h; rw [List.length_eq_zero_iff.1 h1.2]; rfl
      · subst h; exact h1.2
    have hN : t.length + (l.map toRt).length ≤ 4096 := by
      obtain ⟨_, _, hp⟩ := count_bound g2
      have := (hp s.length).2
      rw [List.take_length, ← count_prd g2] at this
      omega
    have h35 := c35_X (s := s) (t := t) (l := l.map toRt) (ch := ch) (by omega) (by omega) (by omega) hlk
    have h33 := c33_gen (s := s) (s' := s) (t := t) (t' := t) (l := l) (l' := l) (ch := ch) (ch' := ch) (by omega) (by omega) (by omega) (by omega) (by omega) (by omega) hU hU
    rw [decide_eq_true ⟨rfl, rfl, rfl, rfl⟩] at h33
    have h32 := c32_yes (s := s) (t := t) (ch := ch) (L := l.map toRt) (by omega) (by omega) (by omega) hlk
    rw [back_nms hR.2] at h32 h35
    obtain ⟨s1, T1, R1, a1, a2⟩ := tra_twice hs (by omega) (by omega) g2 hch
    obtain ⟨T2, R2, b1, b2⟩ := rev_twice hs (by omega) (by omega) g2 hch
    obtain ⟨T3, R3, d1, d2⟩ := rot_twice (x := n) (y := -n) ⟨by omega, by omega⟩ ⟨by omega, by omega⟩ rfl hs (by omega) (by omega) g2 hch
    have e1 := int_X (z := n) ⟨by omega, by omega⟩
    have e2 := int_X (z := -n) ⟨by omega, by omega⟩
    have w1 : IntKind.i64.wrap n = n := wrap_i64 (by omega) (by omega)
    have w2 : IntKind.i64.wrap (0 - n) = -n := by rw [wrap_i64 (by omega) (by omega)]; omega
    clear hlk hch hN g2 hlm
    generalize l.map toRt = L at *
    generalize zR n = x1 at *
    generalize zR (-n) = x2 at *
    simp only [plX, arrX, runes, ints] at h27t h19 h35 h33 h32 a1 a2 b1 b2 d1 d2 e1 e2
    simp only [c6, plX, runes, ints, go_sem, fillAll, fillIn, shiftR, shiftV, List.take_succ_cons, List.take_zero, List.drop_succ_cons, List.drop_zero, List.append_nil, Nat.zero_add, subP4]
    refine goP h27t ?_
    simp only [go_sem, fillAll, fillIn, shiftR, shiftV, List.take_succ_cons, List.take_zero, List.drop_succ_cons, List.drop_zero, List.append_nil, Nat.zero_add, subP4]
    refine goP h19 ?_
    simp only [go_sem, fillAll, fillIn, shiftR, shiftV, List.take_succ_cons, List.take_zero, List.drop_succ_cons, List.drop_zero, List.append_nil, Nat.zero_add, subP4, subA5]
    refine goF a1 ?_
    simp only [go_sem, fillAll, fillIn, shiftR, shiftV, List.take_succ_cons, List.take_zero, List.drop_succ_cons, List.drop_zero, List.append_nil, Nat.zero_add, subP4, subA5]
    refine goP a2 ?_
    simp only [go_sem, fillAll, fillIn, shiftR, shiftV, List.take_succ_cons, List.take_zero, List.drop_succ_cons, List.drop_zero, List.append_nil, Nat.zero_add, subP4, subA5]
    refine goP h35 ?_
    simp only [go_sem, fillAll, fillIn, shiftR, shiftV, List.take_succ_cons, List.take_zero, List.drop_succ_cons, List.drop_zero, List.append_nil, Nat.zero_add, subP4, subA5]
    refine goP h33 ?_
    simp only [go_sem, fillAll, fillIn, shiftR, shiftV, List.take_succ_cons, List.take_zero, List.drop_succ_cons, List.drop_zero, List.append_nil, Nat.zero_add, subP4, subA5]
    refine goF b1 ?_
    simp only [go_sem, fillAll, fillIn, shiftR, shiftV, List.take_succ_cons, List.take_zero, List.drop_succ_cons, List.drop_zero, List.append_nil, Nat.zero_add, subP4, subA5]
    refine goF b2 ?_
    simp only [go_sem, fillAll, fillIn, shiftR, shiftV, List.take_succ_cons, List.take_zero, List.drop_succ_cons, List.drop_zero, List.append_nil, Nat.zero_add, subP4, subA5, w1]
    refine goP e1 ?_
    simp only [go_sem, fillAll, fillIn, shiftR, shiftV, List.take_succ_cons, List.take_zero, List.drop_succ_cons, List.drop_zero, List.append_nil, Nat.zero_add, subP4, subA5]
    refine goF d1 ?_
    simp only [go_sem, fillAll, fillIn, shiftR, shiftV, List.take_succ_cons, List.take_zero, List.drop_succ_cons, List.drop_zero, List.append_nil, Nat.zero_add, subP4, subA5, w1, w2]
    refine goP e2 ?_
    simp only [go_sem, fillAll, fillIn, shiftR, shiftV, List.take_succ_cons, List.take_zero, List.drop_succ_cons, List.drop_zero, List.append_nil, Nat.zero_add, subP4, subA5]
    refine goF d2 ?_
    simp only [go_sem, fillAll, fillIn, shiftR, shiftV, List.take_succ_cons, List.take_zero, List.drop_succ_cons, List.drop_zero, List.append_nil, Nat.zero_add, subP4, subA5, beq_self_eq_true]
    refine goR h32 rfl ?_
    simp only [go_sem, fillAll, fillIn, shiftR, shiftV, List.take_succ_cons, List.take_zero, List.drop_succ_cons, List.drop_zero, List.append_nil, Nat.zero_add, subP4, subA5]
    refine goR h32 rfl ?_
    simp only [go_sem, fillAll, fillIn, shiftR, shiftV, List.take_succ_cons, List.take_zero, List.drop_succ_cons, List.drop_zero, List.append_nil, Nat.zero_add, subP4, subA5]
    refine goP c28_awake ?_
    simp only [go_sem]
    simp only [i6, Out, resAll, geto, ints, List.getElem?_cons_zero, List.getElem?_cons_succ, resOf, outOf, snap, snapL, ev, getE, List.mapM_cons, List.mapM_nil, Option.bind_some, Option.pure_def, Option.bind_eq_bind, Option.map_some, reduceIte, Nat.reduceEqDiff, true_and, and_true]
  · have h27f := h27 false ⟨fun h => (by cases h), fun h => absurd h hL⟩
    simp only [plX, runes, ints] at h27f
    simp only [c6, plX, runes, ints, go_sem, fillAll, fillIn, shiftR, shiftV, List.take_succ_cons, List.take_zero, List.drop_succ_cons, List.drop_zero, List.append_nil, Nat.zero_add, subP4]
    refine goP h27f ?_
    simp only [go_sem]
    refine goP c28_awake ?_
    simp only [go_sem]
    simp only [i6, Out, resAll, geto, ints, List.getElem?_cons_zero, List.getElem?_cons_succ, resOf, outOf, snap, snapL, ev, getE, List.mapM_cons, List.mapM_nil, Option.bind_some, Option.pure_def, Option.bind_eq_bind, Option.map_some, reduceIte, Nat.reduceEqDiff, true_and, and_true]
end Go.Proofs.Ytlejgleocnemoaa.I

-- PRINTED BY print.sh 35421559b90ae4d0a3588c463048766b98c2df88dd9212a6774a882060cdf62d: not written by this session
-- PRINTED WORDS (module Derived/Print/Sized.lean): go-gate-2's, for the rows of laws over slices: an AI agent of Go's test side, Tue Nov 17 2026; no person has read it. Lean checks it.
namespace Go.Proofs.YtlejgleocnemoaaW.PrintWords
open Go.ChangeShapes Go.WideShapes
end Go.Proofs.YtlejgleocnemoaaW.PrintWords

namespace Go.Proofs.Ytlejgleocnemoaa.I
open Go Go.V Go.ChangeShapes Go.WideShapes Go.Deep
section
variable {H : Type} {enc : TypeId × Value → H} {P : Program} {w : World} {spare : Nat → Bool} {held : Bool}
theorem open_num1 {e : TypeId} {f0 f1 f2 : Field} {fuel : Nat} {a : Addr} {cs : List Value} {y : DataW H × List MemPlace} (he : P.underlying e = some (.struct #[f0, f1, f2])) (hone : oneCellFields P #[f0, f1, f2] = true)
    (h0 : P.underlying f0.type = some .bool) (h1 : P.underlying f1.type = some .string) (h2 : P.underlying f2.type = some .string) (hc : w.cells? 0 a 3 = some cs) (h : DataW.trod enc P w 0 spare held fuel e cs = some y) :
    ∃ q : Nm, (w.cell? (a.add 0) = some (.bool q.1) ∧ w.cell? (a.add 1) = some (.string (bs q.2.1)) ∧ w.cell? (a.add 2) = some (.string (bs q.2.2))) ∧ U8 q.2.1 ∧ U8 q.2.2 ∧ q.2.1.length ≤ maxLen ∧ q.2.2.length ≤ maxLen := by
  obtain ⟨_, hlen, hcell⟩ := World.cells?_some hc
  obtain ⟨xs, k, _, _, _, hxl, hf⟩ := DataW.trod_struct he h
  obtain ⟨o0, k0⟩ := hone_of hone 0 f0 rfl
  obtain ⟨o1, k1⟩ := hone_of hone 1 f1 rfl
  obtain ⟨o2, k2⟩ := hone_of hone 2 f2 rfl
  match xs, hxl, cs, hlen with
  | [y0, y1, y2], _, [v0, v1, v2], _ =>
    have g0 := hf 0 f0 rfl
    have g1 := hf 1 f1 rfl
    have g2 := hf 2 f2 rfl
    simp [o0, k0] at g0
    simp [o1, k1] at g1
    simp [o2, k2] at g2
    obtain ⟨b, hb, _⟩ := DataW.trod_bool h0 g0
    obtain ⟨s1, hs1, _, hm1⟩ := DataW.trod_string h1 g1
    obtain ⟨s2, hs2, _, hm2⟩ := DataW.trod_string h2 g2
    obtain ⟨l1, hu1, rfl⟩ := bs_all s1
    obtain ⟨l2, hu2, rfl⟩ := bs_all s2
    simp only [List.cons.injEq, and_true] at hb hs1 hs2
    subst hb; subst hs1; subst hs2
    have c0 := hcell 0 (by omega)
    have c1 := hcell 1 (by omega)
    have c2 := hcell 2 (by omega)
    rw [bs_size] at hm1 hm2
    exact ⟨(b, l1, l2), ⟨by simpa using c0, by simpa using c1, by simpa using c2⟩, hu1, hu2, hm1, hm2⟩
theorem open_nums {t e : TypeId} {f0 f1 f2 : Field} {fuel : Nat} {cs : List Value} {x : DataW H × List MemPlace} (ht : P.underlying t = some (.slice e)) (he : P.underlying e = some (.struct #[f0, f1, f2])) (hone : oneCellFields P #[f0, f1, f2] = true)
    (hC : P.cellsOf e = 3) (h0 : P.underlying f0.type = some .bool) (h1 : P.underlying f1.type = some .string) (h2 : P.underlying f2.type = some .string) (h : DataW.trod enc P w 0 spare held fuel t cs = some x) :
    ∃ (a : Option Addr) (len cap : Nat) (l : List Nm), cs = [.slice a len cap] ∧ l.length = len ∧ len ≤ maxLen ∧ (∀ q ∈ l, U8 q.2.1 ∧ U8 q.2.2 ∧ q.2.1.length ≤ maxLen ∧ q.2.2.length ≤ maxLen) ∧ RG w (fun b => b < w.heap.size) (.sl l.length 3 (nmsC l)) (.slice a len cap) := by
  rcases open_slice ht h with ⟨rfl, _⟩ | ⟨a, len, cap, m, n, D, Pl, rfl, _, hl, hm, hmm, _, hx⟩
  · exact ⟨none, 0, 0, [], rfl, rfl, Nat.zero_le _, fun q hq => by simp at hq, .sl0⟩
  have hlm : len ≤ m := by rw [hmm]; split <;> omega
  rw [hC] at hx
  have each : ∀ i, i < len → ∃ q : Nm, (w.cell? (a.add (i * 3)) = some (.bool q.1) ∧ w.cell? (a.add (i * 3 + 1)) = some (.string (bs q.2.1)) ∧ w.cell? (a.add (i * 3 + 2)) = some (.string (bs q.2.2))) ∧ U8 q.2.1 ∧ U8 q.2.2 ∧ q.2.1.length ≤ maxLen ∧ q.2.2.length ≤ maxLen := fun i hi => by
    obtain ⟨cs', hc, hy⟩ := hx i (by omega)
    obtain ⟨q, ⟨g0, g1, g2⟩, hq⟩ := open_num1 he hone h0 h1 h2 hc hy
    rw [add_add] at g0 g1 g2
    exact ⟨q, ⟨g0, g1, g2⟩, hq⟩
  obtain ⟨f, hf⟩ := choose_lt (α := Nm) each
  refine ⟨some a, len, cap, (List.range len).map f, rfl, by simp, Nat.le_trans hl hm, fun q hq => ?_, ?_⟩
  · obtain ⟨i, hi, rfl⟩ := List.mem_map.1 hq
    exact (hf i (List.mem_range.1 hi)).2
  · have hll : ((List.range len).map f).length = len := by simp
    rw [hll]
    by_cases hz : len = 0
    · subst hz; exact .sl0
    obtain ⟨b, o, sp⟩ := a
    have hc0 := (hf 0 (by omega)).1.1
    have hsp : sp = none := by
      simp only [Addr.add, Nat.zero_mul, if_true, World.cell?] at hc0
      split at hc0
      · split at hc0
        · cases hc0
        · rename_i hh; simpa using hh
      · cases hc0
    subst hsp
    have addE : ∀ i, (⟨b, o, none⟩ : Addr).add i = ⟨b, o + i, none⟩ := fun i => by
      unfold Addr.add
      split
      · rename_i h; rw [h]; rfl
      · rfl
    have hb : b < w.heap.size := by
      rw [addE] at hc0
      unfold World.cell? at hc0
      split at hc0
      · rename_i hh; exact (Array.getElem?_eq_some_iff.1 hh).1
      · cases hc0
    have hat : ∀ i, i < len → ((List.range len).map f).getD i (false, [], []) = f i := fun i hi => by simp [List.getD, hi]
    have vlen : ∀ l : List Nm, (l.flatMap fun q => [Value.bool q.1, .string (bs q.2.1), .string (bs q.2.2)]).length = l.length * 3 := fun l => by
      induction l with
      | nil => rfl
      | cons q l ih => rw [List.flatMap_cons, List.length_append, ih, List.length_cons]; simp; omega
    have vget : ∀ (l : List Nm) (i k : Nat), i < l.length → k < 3 → (l.flatMap fun q => [Value.bool q.1, .string (bs q.2.1), .string (bs q.2.2)])[i * 3 + k]? = ([Value.bool (l.getD i (false, [], [])).1, .string (bs (l.getD i (false, [], [])).2.1), .string (bs (l.getD i (false, [], [])).2.2)])[k]? := fun l => by
      induction l with
      | nil => intro i k h; simp at h
      | cons q l ih =>
        intro i k hi hk
        cases i with
        | zero => rw [List.flatMap_cons, Nat.zero_mul, Nat.zero_add, List.getElem?_append_left (by simp; omega)]; rfl
        | succ i =>
          rw [List.flatMap_cons, List.getElem?_append_right (by simp; omega)]
          have e : (i + 1) * 3 + k - [Value.bool q.1, .string (bs q.2.1), .string (bs q.2.2)].length = i * 3 + k := by simp; omega
          rw [e, ih i k (by simpa using hi) hk]
          rfl
    have cget : ∀ (l : List Nm) (i k : Nat), i < l.length → k < 3 → (nmsC l)[i * 3 + k]? = (nmC (l.getD i (false, [], [])))[k]? := fun l i k hi hk => by
      rw [← flat_get (f := nmC) (fun _ => rfl) hi, List.getElem?_take, if_pos hk, List.getElem?_drop]
      rfl
    have split3 : ∀ j, j < len * 3 → ∃ i k, i < len ∧ k < 3 ∧ j = i * 3 + k := fun j hj => ⟨j / 3, j % 3, by omega, by omega, by omega⟩
    refine .sl (vs := ((List.range len).map f).flatMap fun q => [Value.bool q.1, .string (bs q.2.1), .string (bs q.2.2)]) (by omega) hl (by rw [nmsC, flat_len (fun _ => rfl), hll]) (by rw [vlen, nmsC, flat_len (fun _ => rfl)]) hb (fun u hu => ?_) (fun j u hu => ?_) (fun j c u hc hu => ?_)
    · obtain ⟨q, _, hq⟩ := List.mem_flatMap.1 hu
      simp only [List.mem_cons, List.not_mem_nil, or_false] at hq
      rcases hq with rfl | rfl | rfl <;> rfl
    · have hj := (List.getElem?_eq_some_iff.1 hu).1
      rw [vlen, hll] at hj
      obtain ⟨i, k, hi, hk, rfl⟩ := split3 j hj
      rw [vget _ i k (by rw [hll]; exact hi) hk, hat i hi] at hu
      obtain ⟨⟨g0, g1, g2⟩, _⟩ := hf i hi
      rw [addE] at g0 g1 g2
      match k, hk with
      | 0, _ => simp at hu; subst hu; exact g0
      | 1, _ => simp at hu; subst hu; exact g1
      | 2, _ => simp at hu; subst hu; exact g2
    · have hj := (List.getElem?_eq_some_iff.1 hu).1
      rw [vlen, hll] at hj
      obtain ⟨i, k, hi, hk, rfl⟩ := split3 j hj
      rw [vget _ i k (by rw [hll]; exact hi) hk] at hu
      rw [cget _ i k (by rw [hll]; exact hi) hk] at hc
      match k, hk with
      | 0, _ => simp [nmC] at hu hc; subst hu; subst hc; exact .bool
      | 1, _ => simp [nmC] at hu hc; subst hu; subst hc; exact .str
      | 2, _ => simp [nmC] at hu hc; subst hu; subst hc; exact .str
end
end Go.Proofs.Ytlejgleocnemoaa.I
