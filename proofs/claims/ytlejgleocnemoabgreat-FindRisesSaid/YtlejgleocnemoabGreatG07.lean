/- The texts L15b L15c L15d L15e L15f L15g L15h WSized LNum, one behind the other. Conditions: each text's own. -/
import Derived.Test.YtlejgleocnemoabGreatG06
import Derived.SizedLaws
import Derived.ChangeSlices
import Derived.Test.YtlejgleocnemoabGreatG02
import Derived.Deep.Slices
import Derived.Deep.Fields
import Derived.ChangeArms
set_option linter.unusedSimpArgs false
set_option linter.unusedVariables false
namespace Go.Proofs.YtlejgleocnemoabGreat.I
open Go Go.V
attribute [local go_sem_proc ↓] reduceIte
attribute [local go_sem_proc] Nat.reduceEqDiff Nat.reduceAdd Nat.reduceMul Nat.reduceLeDiff Nat.reduceLT Int.reduceToNat Int.reduceLT Int.reduceLE reduceCtorEq Nat.reduceBEq
attribute [local go_sem] mNil nat0 beq_self_eq_true mSkip mRet mExit mReg mSeq mCond mTrue mFalse mBlock mLv mCodeE mCodeR mEndN mEndR mEndE mOps mSome mGuard mGtt mGff mGtf mGft mGu mCallP mCallR mCallF mCallO mCallZ mCallG mCallM mCallV loopQ_exit loopQ_ret mO_mov mO_newnil mO_pick mO_alloc mO_box mO_build mO_bsl mO_bslF mO_ldf mO_ld mO_st mO_sta mO_nilchk mO_bin mO_binb mO_binp mO_bins mO_neg mO_com mO_not mO_conv mO_mk mO_mk0 mO_s2b mO_b2s mO_cpy mO_cut mO_faddr mO_fld mO_iaddr mO_iaddrf mO_sidx mO_len mO_lenf mO_slen mO_scut mO_app mO_ext mO_mx mO_mn mO_mkfn evalOp cutOp argsE ev getE putE cellsOf adopt rowOf binV boolV nilV ar_add ar_sub ar_mul ar_quo ar_rem ar_eq ar_ne ar_lt ar_le ar_gt ar_ge ar_and ar_or ar_xor geto bound finRet finNrm ints List.length_cons List.length_nil List.length_append List.getElem?_cons_zero List.getElem?_cons_succ List.nil_append List.cons_append List.map_cons List.map_nil List.mapM_cons List.mapM_nil Option.map_some Option.map_none Option.bind_some Option.pure_def Option.bind_eq_bind List.drop_zero or_self or_false false_or or_true true_or true_and and_true and_self decide_true decide_false Bool.false_eq_true Bool.true_eq_false Bool.not_true Bool.not_false Nat.le_refl eq_self gt_iff_lt ge_iff_le ne_eq not_true_eq_false not_false_eq_true storeOp apartOf freeze_nil refsL refs List.flatMap_cons List.flatMap_nil List.append_nil List.contains_nil List.set_cons_zero List.set_cons_succ snap snapL fill_nums flat_nums nums_length Go.V.freeze List.mapIdx_cons List.mapIdx_nil List.contains_cons Bool.or_false Bool.false_or Bool.or_true Bool.true_or
structure Ord (lt : Int → Int → Prop) : Prop where
  tra : ∀ {x y z : Int}, lt x y → lt y z → lt x z
  tot : ∀ {x y : Int}, x ≠ y → lt x y ∨ lt y x
  irr : ∀ {x : Int}, ¬ lt x x
def Hc (c : Int → Int → Int) (lt : Int → Int → Prop) (x y : Int) : Prop := x ≠ y ∧ (c y x < 0 ↔ lt y x)
theorem Hc.not {c : Int → Int → Int} {lt : Int → Int → Prop} (hO : Ord lt) {x y : Int} (h : Hc c lt x y) (hn : ¬ lt y x) : lt x y := (hO.tot h.1).resolve_right hn
def CmpOk (C : CallRel) (M1 M2 : List AObj) (N f : Nat) (caps bs : List AV) (S : Int → Prop) (c : Int → Int → Int) : Prop :=
  (∀ l, caps.mapM (fun x => snap (rowM M1 M2 N l) 10 x) = some bs) ∧ ∀ x y, S x → S y → C f ([.int .i64 x, .int .i64 y] ++ bs) [] (.int .i64 (c x y)) []
theorem pw_get {lt : Int → Int → Prop} : ∀ {l : List Int} {i j : Nat}, l.Pairwise lt → i < j → j < l.length → lt (l.getD i 0) (l.getD j 0) := by
  intro l i j h hij hj
  have := List.pairwise_iff_getElem.1 h i j (by omega) hj hij
  simpa [List.getD, hj, show i < l.length by omega] using this
theorem mem_take {l : List Int} {t : Nat} {z : Int} (h : z ∈ l.take t) : ∃ k, k < t ∧ k < l.length ∧ l.getD k 0 = z := by
  obtain ⟨k, hk, rfl⟩ := List.getElem_of_mem h
  rw [List.length_take] at hk
  exact ⟨k, by omega, by omega, by simp [List.getD, show k < l.length by omega]⟩
theorem mem_drop {l : List Int} {t : Nat} {z : Int} (h : z ∈ l.drop t) : ∃ k, t ≤ k ∧ k < l.length ∧ l.getD k 0 = z := by
  obtain ⟨k, hk, rfl⟩ := List.getElem_of_mem h
  rw [List.length_drop] at hk
  exact ⟨t + k, by omega, by omega, by simp [List.getD, show t + k < l.length by omega]⟩
theorem cut_at {lt : Int → Int → Prop} (hO : Ord lt) {x : Int} : ∀ {B : List Int}, B.Pairwise lt → (∀ y ∈ B, y ≠ x) → ∃ t, t ≤ B.length ∧ (∀ z ∈ B.take t, lt z x) ∧ ∀ z ∈ B.drop t, lt x z
  | [], _, _ => ⟨0, Nat.le_refl _, by simp, by simp⟩
  | b :: B, h, hn => by
    rw [List.pairwise_cons] at h
    rcases hO.tot (hn b (by simp)) with hb | hb
    · obtain ⟨t, h1, h2, h3⟩ := cut_at hO h.2 fun y hy => hn y (by simp [hy])
      refine ⟨t + 1, by simpa using h1, fun z hz => ?_, by simpa using h3⟩
      rw [List.take_succ_cons] at hz
      rcases List.mem_cons.1 hz with rfl | hz
      · exact hb
      · exact h2 z hz
    · refine ⟨0, by omega, by simp, fun z hz => ?_⟩
      rw [List.drop_zero] at hz
      rcases List.mem_cons.1 hz with rfl | hz
      · exact hb
      · exact hO.tra hb (h.1 z hz)
theorem ins_pw {lt : Int → Int → Prop} {D1 D2 : List Int} {e : Int} (h : (D1 ++ D2).Pairwise lt) (h1 : ∀ z ∈ D1, lt z e) (h2 : ∀ z ∈ D2, lt e z) : (D1 ++ e :: D2).Pairwise lt := by
  rw [List.pairwise_append] at h ⊢
  refine ⟨h.1, List.pairwise_cons.2 ⟨h2, h.2.1⟩, fun a ha b hb => ?_⟩
  rcases List.mem_cons.1 hb with rfl | hb
  · exact h1 a ha
  · exact h.2.2 a ha b hb
theorem shr1 {n : Nat} : shiftOp .shr .u64 (n : Int) 1 = some (.int .u64 ((n / 2 : Nat) : Int)) := by
  simp [shiftOp, IntKind.bits, Int.fdiv_eq_ediv_of_nonneg]
theorem wu64 {n : Nat} (h : n ≤ 100000000) : IntKind.u64.wrap (n : Int) = (n : Int) := by
  simp only [IntKind.wrap, IntKind.bits, IntKind.signed]
  simp
  omega
theorem wi64 {n : Nat} (h : n ≤ 100000000) : IntKind.i64.wrap (n : Int) = (n : Int) := wrap_i64 (by omega) (by omega)
section
variable {E : CallRel} {M1 M2 : List AObj} {K N f : Nat} {caps bs : List AV} {Sd : Int → Prop} {c : Int → Int → Int} {lt : Int → Int → Prop}
set_option maxHeartbeats 1000000 in
theorem c139_ok {P S R : List Int} {a b : Nat} (hO : Ord lt) (hC : CmpOk (Go.V.Call tab E) M1 M2 N f caps bs Sd c) (hK : M1.length = K) (ha : P.length = a) (hb : a + S.length = b) (hN : b + R.length = N) (hN2 : N ≤ 1000000) (hS : ∀ x ∈ S, Sd x) (hp : S.Pairwise (Hc c lt)) :
    ∃ D, D.Perm S ∧ D.Pairwise lt ∧ Go.V.Call tab E 139 [.arr K 0, .int .i64 a, .int .i64 b, .fn f caps] (rowM M1 M2 N (P ++ (S ++ R))) (.tup []) (rowM M1 M2 N (P ++ (D ++ R))) := by
  suffices h : Mach (Go.V.Call tab E) (fun x st => ∃ D, (D.Perm S ∧ D.Pairwise lt) ∧ Fin i139 (rowM M1 M2 N (P ++ (S ++ R))) (.tup []) (rowM M1 M2 N (P ++ (D ++ R))) x st) [.code c139] .nrm ⟨argsE 0 [.arr K 0, .int .i64 a, .int .i64 b, .fn f caps], rowM M1 M2 N (P ++ (S ++ R))⟩ by
    obtain ⟨x, st, h1, h4⟩ := wp_exec h
    rw [mNil] at h4
    obtain ⟨D, h2, h3⟩ := h4
    exact ⟨D, h2.1, h2.2, Go.V.Call.go i139 c139 rfl rfl rfl rfl (exec_wp h1 h3)⟩
  have hg : ∀ o : AObj, (M1 ++ o :: M2)[K]? = some o := fun o => row_get hK
  have hst : ∀ o p : AObj, (M1 ++ o :: M2).set K p = M1 ++ p :: M2 := fun o p => row_set hK
  have a1 : IntKind.i64.wrap ((a : Int) + 1) = ((a + 1 : Nat) : Int) := by rw [wrap_i64 (by omega) (by omega)]; omega
  simp only [c139, go_sem, a1]
  refine mLoop (fun M st => ∃ (j : Nat) (D : List Int), 1 ≤ j ∧ (j ≤ S.length ∨ j = 1) ∧ M = S.length + 1 - j ∧ D.Perm (S.take j) ∧ D.Pairwise lt ∧
    st = ⟨[(0, .arr K 0), (1, .int .i64 a), (2, .int .i64 b), (3, .fn f caps), (8, .int .i64 (a + j : Nat))], rowM M1 M2 N (P ++ (D ++ (S.drop j ++ R)))⟩) S.length
    ⟨_, rfl, 1, S.take 1, by omega, by omega, by omega, List.Perm.refl _, by cases S <;> simp, by
      rw [← List.append_assoc (S.take 1), List.take_append_drop]; simp [getE]⟩ ?_
  rintro M s0 ⟨j, D, hj, hj2, rfl, hD, hDs, rfl⟩
  have hDl : D.length = min j S.length := by rw [hD.length_eq, List.length_take]
  by_cases hlt : j < S.length
  · have hlt' : ((a + j : Nat) : Int) < (b : Int) := by omega
    have hDl' : D.length = j := by omega
    have hdr := getD_drop hlt
    have htk := tk_getD hlt
    have heS : S.getD j 0 ∈ S := by simp [List.getD, hlt]
    have hHc : ∀ w ∈ D, Hc c lt w (S.getD j 0) := fun w hw => by
      obtain ⟨k, hk, hk2, rfl⟩ := mem_take (hD.mem_iff.1 hw)
      exact pw_get hp hk hlt
    have hSd : ∀ w ∈ D, Sd w := fun w hw => hS w (List.mem_of_mem_take (hD.mem_iff.1 hw))
    have hSe := hS _ heS
    have hlen : (D ++ S.getD j 0 :: S.drop (j + 1)).length = S.length := by simp; omega
    rw [hdr]
    generalize S.getD j 0 = e at *
    simp only [b139_0, go_sem, hlt']
    refine mLoop (fun M st => ∃ D1 D2 : List Int, D1 ++ D2 = D ∧ (∀ z ∈ D2, lt e z) ∧ M = D1.length ∧
      st = ⟨[(0, .arr K 0), (1, .int .i64 a), (2, .int .i64 b), (3, .fn f caps), (8, .int .i64 (a + j : Nat)), (9, .int .i64 (a + D1.length : Nat))], rowM M1 M2 N (P ++ (D1 ++ (e :: (D2 ++ (S.drop (j + 1) ++ R)))))⟩) D.length
      ⟨_, rfl, D, [], by simp, by simp, rfl, by simp [getE, hDl']⟩ ?_
    rintro M s0 ⟨D1, D2, h12, h2, rfl, rfl⟩
    have fin : ∀ s1 : St, (∀ z ∈ D1, lt z e) → s1.mem = rowM M1 M2 N (P ++ (D1 ++ (e :: (D2 ++ (S.drop (j + 1) ++ R))))) → ∃ D', D'.Perm (S.take (j + 1)) ∧ D'.Pairwise lt ∧ rowM M1 M2 N (P ++ (D1 ++ (e :: (D2 ++ (S.drop (j + 1) ++ R))))) = rowM M1 M2 N (P ++ (D' ++ (S.drop (j + 1) ++ R))) := fun s1 h1 _ => by
      refine ⟨D1 ++ e :: D2, ?_, ins_pw (by rw [h12]; exact hDs) h1 h2, by simp⟩
      rw [htk]
      refine List.perm_middle.trans ?_
      rw [h12]
      exact (List.perm_append_singleton e D).symm.trans (hD.append_right [e])
    have hj1 : IntKind.i64.wrap (((a + j : Nat) : Int) + 1) = ((a + (j + 1) : Nat) : Int) := by rw [wrap_i64 (by omega) (by omega)]; omega
    rcases List.eq_nil_or_concat D1 with rfl | ⟨D0, w, rfl⟩
    · have hz : ¬ (a : Int) < ((a + 0 : Nat) : Int) := by omega
      obtain ⟨D', g1, g2, g3⟩ := fin ⟨[], _⟩ (by simp) rfl
      rw [g3]
      simp only [b139_1, k139_0, go_sem, hz, hj1]
      exact loopQ_go rfl (S.length + 1 - (j + 1)) (by omega) ⟨j + 1, D', by omega, by omega, rfl, g1, g2, rfl⟩
    · rw [List.concat_eq_append] at *
      have hz : (a : Int) < ((a + (D0 ++ [w]).length : Nat) : Int) := by simp; omega
      have hwD : w ∈ D := by rw [← h12]; simp
      have hcall := hC.2 e w hSe (hSd w hwD)
      obtain ⟨hne, hcw⟩ := hHc w hwD
      have hl : P ++ ((D0 ++ [w]) ++ (e :: (D2 ++ (S.drop (j + 1) ++ R)))) = (P ++ D0) ++ w :: ([] ++ e :: (D2 ++ (S.drop (j + 1) ++ R))) := by simp
      obtain ⟨q1, q2, q3, q4, l1, q5, q6, q7⟩ := swp_dn (p := a + D0.length) (q := a + (D0 ++ [w]).length) hl (by simp; omega) (by simp; omega)
      have hl2 : (P ++ D0) ++ e :: ([] ++ w :: (D2 ++ (S.drop (j + 1) ++ R))) = P ++ (D0 ++ (e :: ((w :: D2) ++ (S.drop (j + 1) ++ R)))) := by simp
      rw [hl2] at q7
      have hlenN : (P ++ ((D0 ++ [w]) ++ (e :: (D2 ++ (S.drop (j + 1) ++ R))))).length = N := by
        have : D.length = (D0 ++ [w]).length + D2.length := by rw [← h12, List.length_append]
        simp at this hlen ⊢
        omega
      have hq0 : IntKind.i64.wrap (((a + (D0 ++ [w]).length : Nat) : Int) - 1) = ((a + D0.length : Nat) : Int) := by rw [wrap_i64 (by simp; omega) (by simp at hlenN ⊢; omega)]; simp; omega
      have hcaps := hC.1 (P ++ ((D0 ++ [w]) ++ (e :: (D2 ++ (S.drop (j + 1) ++ R)))))
      by_cases hltw : lt e w
      · have hcl : c e w < 0 := hcw.2 hltw
        clear fin hl hl2
        generalize hwl : (D0 ++ [w]).length = wl at *
        generalize P ++ ((D0 ++ [w]) ++ (e :: (D2 ++ (S.drop (j + 1) ++ R)))) = l at *
        have s1 := sub_nums (k := .i64) (l := l) (i := a + D0.length) (by omega)
        have s2 := sub_nums (k := .i64) (l := l) (i := a + wl) (by omega)
        rw [q1] at s1
        rw [q2] at s2
        have k1 : (0 : Int) ≤ ((a + D0.length : Nat) : Int) := by omega
        have k2 : (0 : Int) ≤ ((a + wl : Nat) : Int) := by omega
        have k3 : ((a + D0.length : Nat) : Int) < (N : Int) := by omega
        have k4 : ((a + wl : Nat) : Int) < (N : Int) := by omega
        have hwl2 : wl = D0.length + 1 := by rw [← hwl]; simp
        generalize hp0 : a + D0.length = p0 at *
        generalize hq0' : a + wl = q0 at *
        simp only [rowM] at hcaps
        simp only [b139_1, rowM, go_sem, mapI, hz, hg, hst, hq0, k1, k2, k3, k4, Int.toNat_natCast, s1, s2]
        refine goFn hcaps hcall rfl ?_
        simp only [rowM, go_sem, mapI, hcl, hg, hst, hq0, k1, k2, k3, k4, Int.toNat_natCast, s1, s2, q3, q4, q6, put_nums, q5, q7]
        exact loopQ_go rfl D0.length (by omega) ⟨D0, w :: D2, by rw [← h12]; simp, fun z hz => (List.mem_cons.1 hz).elim (fun h => h ▸ hltw) (h2 z), rfl, by rw [hp0]; rfl⟩
      · have hcl : ¬ c e w < 0 := fun h => hltw (hcw.1 h)
        have hwe : lt w e := (hO.tot hne).resolve_right hltw
        obtain ⟨D', g1, g2, g3⟩ := fin ⟨[], _⟩ (fun z hz => by
          rcases List.mem_append.1 hz with hz | hz
          · rw [← h12, List.append_assoc, List.pairwise_append] at hDs
            exact hO.tra (hDs.2.2 z hz w (by simp)) hwe
          · obtain rfl := List.mem_singleton.1 hz
            exact hwe) rfl
        clear fin hl hl2
        generalize hwl : (D0 ++ [w]).length = wl at *
        generalize P ++ ((D0 ++ [w]) ++ (e :: (D2 ++ (S.drop (j + 1) ++ R)))) = l at *
        have s1 := sub_nums (k := .i64) (l := l) (i := a + D0.length) (by omega)
        have s2 := sub_nums (k := .i64) (l := l) (i := a + wl) (by omega)
        rw [q1] at s1
        rw [q2] at s2
        have k1 : (0 : Int) ≤ ((a + D0.length : Nat) : Int) := by omega
        have k2 : (0 : Int) ≤ ((a + wl : Nat) : Int) := by omega
        have k3 : ((a + D0.length : Nat) : Int) < (N : Int) := by omega
        have k4 : ((a + wl : Nat) : Int) < (N : Int) := by omega
        simp only [rowM] at hcaps g3
        simp only [b139_1, rowM, go_sem, mapI, hz, hg, hst, hq0, k1, k2, k3, k4, Int.toNat_natCast, s1, s2]
        refine goFn hcaps hcall rfl ?_
        simp only [b139_1, k139_0, rowM, go_sem, hcl, hj1]
        rw [g3]
        exact loopQ_go rfl (S.length + 1 - (j + 1)) (by omega) ⟨j + 1, D', by omega, by omega, rfl, g1, g2, rfl⟩
  · have hlt' : ¬ ((a + j : Nat) : Int) < (b : Int) := by omega
    rw [List.take_of_length_le (by omega)] at hD
    rw [List.drop_eq_nil_of_le (by omega), List.nil_append]
    simp only [b139_0, rowM, go_sem, hlt']
    exact ⟨D, ⟨hD, hDs⟩, by simp only [i139, Out, resAll, geto, ints, List.getElem?_cons_zero, List.getElem?_cons_succ, resOf, outOf, snap, snapL, ev, getE, List.mapM_cons, List.mapM_nil, Option.bind_some, Option.pure_def, Option.bind_eq_bind, Option.map_some, reduceIte, Nat.reduceEqDiff, true_and, and_true]⟩
end
theorem Ord.asm {lt : Int → Int → Prop} (hO : Ord lt) {x y : Int} (h : lt x y) : ¬ lt y x := fun h2 => hO.irr (hO.tra h h2)
section
variable {E : CallRel} {M1 M2 : List AObj} {K N f : Nat} {caps bs : List AV} {Sd : Int → Prop} {c : Int → Int → Int} {lt : Int → Int → Prop}
set_option maxHeartbeats 1000000 in
theorem c140_one {P B R : List Int} {x : Int} {a m b : Nat} (hO : Ord lt) (hC : CmpOk (Go.V.Call tab E) M1 M2 N f caps bs Sd c) (hK : M1.length = K) (ha : P.length = a) (hm : a + 1 = m) (hb : m + B.length = b) (hN : b + R.length = N) (hN2 : N ≤ 1000000) (hSx : Sd x) (hSB : ∀ y ∈ B, Sd y) (hB : B.Pairwise lt) (hH : ∀ y ∈ B, Hc c lt x y) :
    ∃ C, C.Perm (x :: B) ∧ C.Pairwise lt ∧ Go.V.Call tab E 140 [.arr K 0, .int .i64 a, .int .i64 m, .int .i64 b, .fn f caps] (rowM M1 M2 N (P ++ (x :: (B ++ R)))) (.tup []) (rowM M1 M2 N (P ++ (C ++ R))) := by
  obtain ⟨t, ht, h1, h2⟩ := cut_at hO hB fun y hy => (hH y hy).1.symm
  refine ⟨B.take t ++ x :: B.drop t, by have := List.perm_middle (a := x) (l₁ := B.take t) (l₂ := B.drop t); rwa [List.take_append_drop] at this, ins_pw (by rwa [List.take_append_drop]) h1 h2, ?_⟩
  refine Go.V.Call.mach i140 c140 rfl rfl rfl rfl ?_
  have hg : ∀ o : AObj, (M1 ++ o :: M2)[K]? = some o := fun o => row_get hK
  have hst : ∀ o p : AObj, (M1 ++ o :: M2).set K p = M1 ++ p :: M2 := fun o p => row_set hK
  have w1 : IntKind.i64.wrap ((m : Int) - (a : Int)) = 1 := by rw [wrap_i64 (by omega) (by omega)]; omega
  have hlen : (P ++ (x :: (B ++ R))).length = N := by simp; omega
  have hxa : (P ++ (x :: (B ++ R))).getD a 0 = x := at_get ha
  have hcaps := hC.1 (P ++ (x :: (B ++ R)))
  simp only [c140, go_sem, w1]
  refine mLoop (fun M st => ∃ lo hi : Nat, lo ≤ t ∧ t ≤ hi ∧ hi ≤ B.length ∧ M = hi - lo ∧ st = ⟨[(0, .arr K 0), (1, .int .i64 a), (4, .fn f caps), (10, .int .i64 (m + lo : Nat)), (11, .int .i64 (m + hi : Nat))], rowM M1 M2 N (P ++ (x :: (B ++ R)))⟩) B.length
    ⟨_, rfl, 0, B.length, by omega, ht, by omega, by omega, by simp [getE]; omega⟩ ?_
  rintro M s0 ⟨lo, hi, hlo, hhi, hhB, rfl, rfl⟩
  by_cases hlt : lo < hi
  · have hlt' : ((m + lo : Nat) : Int) < ((m + hi : Nat) : Int) := by omega
    have e0 := wad (a := m + lo) (b := m + hi) (by omega)
    have e1 := wu64 (n := m + lo + (m + hi)) (by omega)
    have e2 : (m + lo + (m + hi)) / 2 = m + (lo + hi) / 2 := by omega
    have e3 := wi64 (n := (m + lo + (m + hi)) / 2) (by omega)
    rw [e2] at e3
    have hh : (lo + hi) / 2 < hi ∧ lo ≤ (lo + hi) / 2 := by omega
    generalize (lo + hi) / 2 = h at *
    have hhB2 : h < B.length := by omega
    have hyB : B.getD h 0 ∈ B := by simp [List.getD, hhB2]
    have hl : P ++ (x :: (B ++ R)) = (P ++ x :: B.take h) ++ B.getD h 0 :: (B.drop (h + 1) ++ R) := by
      conv => lhs; rw [← List.take_append_drop h B, getD_drop hhB2]
      simp
    have hyh : (P ++ (x :: (B ++ R))).getD (m + h) 0 = B.getD h 0 := by rw [hl]; exact at_get (by simp; omega)
    have hcall := hC.2 (B.getD h 0) x (hSB _ hyB) hSx
    have hcw := (hH _ hyB).2
    have hiff : lt (B.getD h 0) x ↔ h < t := by
      constructor
      · intro hl2
        rcases Nat.lt_or_ge h t with h3 | h3
        · exact h3
        · refine absurd hl2 (hO.asm (h2 _ ?_))
          rw [List.mem_drop_iff_getElem]
          exact ⟨h - t, by omega, by simp [List.getD, hhB2, show t + (h - t) = h by omega]⟩
      · intro h3
        refine h1 _ ?_
        rw [List.mem_take_iff_getElem]
        exact ⟨h, by omega, by simp [List.getD, hhB2]⟩
    have s1 := sub_nums (k := .i64) (l := P ++ (x :: (B ++ R))) (i := a) (by omega)
    have s2 := sub_nums (k := .i64) (l := P ++ (x :: (B ++ R))) (i := m + h) (by omega)
    rw [hxa] at s1
    rw [hyh] at s2
    have k1 : (0 : Int) ≤ (a : Int) := by omega
    have k2 : (0 : Int) ≤ ((m + h : Nat) : Int) := by omega
    have k3 : (a : Int) < (N : Int) := by omega
    have k4 : ((m + h : Nat) : Int) < (N : Int) := by omega
    have e4 : IntKind.i64.wrap (((m + h : Nat) : Int) + 1) = ((m + (h + 1) : Nat) : Int) := by rw [wrap_i64 (by omega) (by omega)]; omega
    clear hl
    generalize P ++ (x :: (B ++ R)) = l at *
    generalize B.getD h 0 = y at *
    simp only [rowM] at hcaps
    simp only [b140_0, rowM, go_sem, mapI, hlt', e0, e1, shr1, e2, e3, hg, k1, k2, k3, k4, Int.toNat_natCast, s1, s2]
    refine goFn hcaps hcall rfl ?_
    by_cases hty : h < t
    · have hcl : c y x < 0 := hcw.2 (hiff.2 hty)
      simp only [b140_0, rowM, go_sem, hcl, e4]
      exact loopQ_go rfl (hi - (h + 1)) (by omega) ⟨h + 1, hi, by omega, hhi, hhB, rfl, rfl⟩
    · have hcl : ¬ c y x < 0 := fun h3 => hty (hiff.1 (hcw.1 h3))
      simp only [b140_0, rowM, go_sem, hcl]
      exact loopQ_go rfl (h - lo) (by omega) ⟨lo, h, hlo, by omega, by omega, rfl, rfl⟩
  · have hlt' : ¬ ((m + lo : Nat) : Int) < ((m + hi : Nat) : Int) := by omega
    obtain rfl : lo = t := by omega
    simp only [b140_0, k140_1, go_sem, hlt']
    refine mLoop (fun M st => ∃ s : Nat, s ≤ lo ∧ M = lo - s ∧ st = ⟨[(0, .arr K 0), (10, .int .i64 (m + lo : Nat)), (13, .int .i64 (a + s : Nat))], rowM M1 M2 N (P ++ (B.take s ++ (x :: (B.drop s ++ R))))⟩) lo
      ⟨_, rfl, 0, by omega, by omega, by simp [getE]⟩ ?_
    rintro M s0 ⟨s, hs, rfl, rfl⟩
    have e5 : IntKind.i64.wrap (((m + lo : Nat) : Int) - 1) = ((a + lo : Nat) : Int) := by rw [wrap_i64 (by omega) (by omega)]; omega
    by_cases hslt : s < lo
    · have hslt' : ((a + s : Nat) : Int) < ((a + lo : Nat) : Int) := by omega
      have hsB : s < B.length := by omega
      have hl : P ++ (B.take s ++ (x :: (B.drop s ++ R))) = (P ++ B.take s) ++ x :: ([] ++ B.getD s 0 :: (B.drop (s + 1) ++ R)) := by rw [getD_drop hsB]; simp
      have hl2 : (P ++ B.take s) ++ B.getD s 0 :: ([] ++ x :: (B.drop (s + 1) ++ R)) = P ++ (B.take (s + 1) ++ (x :: (B.drop (s + 1) ++ R))) := by rw [tk_getD hsB]; simp
      obtain ⟨q1, q2, q3, q4, l1, q5, q6, q7⟩ := swp_up (p := a + s) (q := a + (s + 1)) hl (by simp; omega) (by simp; omega)
      rw [hl2] at q7
      have hlen2 : (P ++ (B.take s ++ (x :: (B.drop s ++ R)))).length = N := by simp; omega
      have e6 : IntKind.i64.wrap (((a + s : Nat) : Int) + 1) = ((a + (s + 1) : Nat) : Int) := by rw [wrap_i64 (by omega) (by omega)]; omega
      clear hl hl2
      generalize P ++ (B.take s ++ (x :: (B.drop s ++ R))) = l at *
      generalize B.getD s 0 = y at *
      have s1 := sub_nums (k := .i64) (l := l) (i := a + s) (by omega)
      have s2 := sub_nums (k := .i64) (l := l) (i := a + (s + 1)) (by omega)
      rw [q1] at s1
      rw [q2] at s2
      have k1 : (0 : Int) ≤ ((a + s : Nat) : Int) := by omega
      have k2 : (0 : Int) ≤ ((a + (s + 1) : Nat) : Int) := by omega
      have k3 : ((a + s : Nat) : Int) < (N : Int) := by omega
      have k4 : ((a + (s + 1) : Nat) : Int) < (N : Int) := by omega
      generalize hp0 : a + s = p0 at *
      generalize hq0 : a + (s + 1) = q0 at *
      simp only [b140_1, rowM, go_sem, mapI, e5, hslt', e6, hg, hst, k1, k2, k3, k4, Int.toNat_natCast, s1, s2, q3, q4, q6, put_nums, q5, q7]
      exact loopQ_go rfl (lo - (s + 1)) (by omega) ⟨s + 1, by omega, rfl, by rw [hq0]; rfl⟩
    · have hslt' : ¬ ((a + s : Nat) : Int) < ((a + lo : Nat) : Int) := by omega
      obtain rfl : s = lo := by omega
      simp only [b140_1, k140_0, rowM, go_sem, e5, hslt']
      simp only [i140, Out, resAll, geto, ints, List.getElem?_cons_zero, List.getElem?_cons_succ, resOf, outOf, snap, snapL, ev, getE, List.mapM_cons, List.mapM_nil, Option.bind_some, Option.pure_def, Option.bind_eq_bind, Option.map_some, reduceIte, Nat.reduceEqDiff, true_and, and_true, List.append_assoc, List.cons_append]
set_option maxHeartbeats 1000000 in
theorem c140_last {P A R : List Int} {y : Int} {a m b : Nat} (hO : Ord lt) (hC : CmpOk (Go.V.Call tab E) M1 M2 N f caps bs Sd c) (hK : M1.length = K) (ha : P.length = a) (hm : a + A.length = m) (hA1 : A.length ≠ 1) (hb : m + 1 = b) (hN : b + R.length = N) (hN2 : N ≤ 1000000) (hSy : Sd y) (hSA : ∀ x ∈ A, Sd x) (hA : A.Pairwise lt) (hH : ∀ x ∈ A, Hc c lt x y) :
    ∃ C, C.Perm (A ++ [y]) ∧ C.Pairwise lt ∧ Go.V.Call tab E 140 [.arr K 0, .int .i64 a, .int .i64 m, .int .i64 b, .fn f caps] (rowM M1 M2 N (P ++ (A ++ (y :: R)))) (.tup []) (rowM M1 M2 N (P ++ (C ++ R))) := by
  obtain ⟨t, ht, h1, h2⟩ := cut_at hO hA fun x hx => (hH x hx).1
  refine ⟨A.take t ++ y :: A.drop t, by
    have := List.perm_middle (a := y) (l₁ := A.take t) (l₂ := A.drop t)
    rw [List.take_append_drop] at this
    exact this.trans (List.perm_append_singleton y A).symm, ins_pw (by rwa [List.take_append_drop]) h1 h2, ?_⟩
  refine Go.V.Call.mach i140 c140 rfl rfl rfl rfl ?_
  have hg : ∀ o : AObj, (M1 ++ o :: M2)[K]? = some o := fun o => row_get hK
  have hst : ∀ o p : AObj, (M1 ++ o :: M2).set K p = M1 ++ p :: M2 := fun o p => row_set hK
  have w1 : IntKind.i64.wrap ((m : Int) - (a : Int)) = (A.length : Int) := by rw [wrap_i64 (by omega) (by omega)]; omega
  have w2 : IntKind.i64.wrap ((b : Int) - (m : Int)) = 1 := by rw [wrap_i64 (by omega) (by omega)]; omega
  have w3 : ((A.length : Int) == 1) = false := beq_eq_false_iff_ne.2 (by omega)
  have hlen : (P ++ (A ++ (y :: R))).length = N := by simp; omega
  have hym : (P ++ (A ++ (y :: R))).getD m 0 = y := by rw [← List.append_assoc]; exact at_get (by simp; omega)
  have hcaps := hC.1 (P ++ (A ++ (y :: R)))
  simp only [c140, k140_6, go_sem, w1, w2, w3]
  refine mLoop (fun M st => ∃ lo hi : Nat, lo ≤ t ∧ t ≤ hi ∧ hi ≤ A.length ∧ M = hi - lo ∧ st = ⟨[(0, .arr K 0), (2, .int .i64 m), (4, .fn f caps), (14, .int .i64 (a + lo : Nat)), (15, .int .i64 (a + hi : Nat))], rowM M1 M2 N (P ++ (A ++ (y :: R)))⟩) A.length
    ⟨_, rfl, 0, A.length, by omega, ht, by omega, by omega, by simp [getE]; omega⟩ ?_
  rintro M s0 ⟨lo, hi, hlo, hhi, hhB, rfl, rfl⟩
  by_cases hlt : lo < hi
  · have hlt' : ((a + lo : Nat) : Int) < ((a + hi : Nat) : Int) := by omega
    have e0 := wad (a := a + lo) (b := a + hi) (by omega)
    have e1 := wu64 (n := a + lo + (a + hi)) (by omega)
    have e2 : (a + lo + (a + hi)) / 2 = a + (lo + hi) / 2 := by omega
    have e3 := wi64 (n := (a + lo + (a + hi)) / 2) (by omega)
    rw [e2] at e3
    have hh : (lo + hi) / 2 < hi ∧ lo ≤ (lo + hi) / 2 := by omega
    generalize (lo + hi) / 2 = h at *
    have hhB2 : h < A.length := by omega
    have hyB : A.getD h 0 ∈ A := by simp [List.getD, hhB2]
    have hl : P ++ (A ++ (y :: R)) = (P ++ A.take h) ++ A.getD h 0 :: (A.drop (h + 1) ++ (y :: R)) := by
      conv => lhs; rw [← List.take_append_drop h A, getD_drop hhB2]
      simp
    have hyh : (P ++ (A ++ (y :: R))).getD (a + h) 0 = A.getD h 0 := by rw [hl]; exact at_get (by simp; omega)
    have hcall := hC.2 y (A.getD h 0) hSy (hSA _ hyB)
    have hcw := (hH _ hyB).2
    have hiff : lt y (A.getD h 0) ↔ t ≤ h := by
      constructor
      · intro hl2
        rcases Nat.lt_or_ge h t with h3 | h3
        · refine absurd hl2 (hO.asm (h1 _ ?_))
          rw [List.mem_take_iff_getElem]
          exact ⟨h, by omega, by simp [List.getD, hhB2]⟩
        · exact h3
      · intro h3
        refine h2 _ ?_
        rw [List.mem_drop_iff_getElem]
        exact ⟨h - t, by omega, by simp [List.getD, hhB2, show t + (h - t) = h by omega]⟩
    have s1 := sub_nums (k := .i64) (l := P ++ (A ++ (y :: R))) (i := m) (by omega)
    have s2 := sub_nums (k := .i64) (l := P ++ (A ++ (y :: R))) (i := a + h) (by omega)
    rw [hym] at s1
    rw [hyh] at s2
    have k1 : (0 : Int) ≤ (m : Int) := by omega
    have k2 : (0 : Int) ≤ ((a + h : Nat) : Int) := by omega
    have k3 : (m : Int) < (N : Int) := by omega
    have k4 : ((a + h : Nat) : Int) < (N : Int) := by omega
    have e4 : IntKind.i64.wrap (((a + h : Nat) : Int) + 1) = ((a + (h + 1) : Nat) : Int) := by rw [wrap_i64 (by omega) (by omega)]; omega
    clear hl
    generalize P ++ (A ++ (y :: R)) = l at *
    generalize A.getD h 0 = z at *
    simp only [rowM] at hcaps
    simp only [b140_2, rowM, go_sem, mapI, hlt', e0, e1, shr1, e2, e3, hg, k1, k2, k3, k4, Int.toNat_natCast, s1, s2]
    refine goFn hcaps hcall rfl ?_
    by_cases hty : t ≤ h
    · have hcl : c y z < 0 := hcw.2 (hiff.2 hty)
      simp only [b140_2, rowM, go_sem, hcl]
      exact loopQ_go rfl (h - lo) (by omega) ⟨lo, h, hlo, by omega, by omega, rfl, rfl⟩
    · have hcl : ¬ c y z < 0 := fun h3 => hty (hiff.1 (hcw.1 h3))
      simp only [b140_2, rowM, go_sem, hcl, e4]
      exact loopQ_go rfl (hi - (h + 1)) (by omega) ⟨h + 1, hi, by omega, hhi, hhB, rfl, rfl⟩
  · have hlt' : ¬ ((a + lo : Nat) : Int) < ((a + hi : Nat) : Int) := by omega
    obtain rfl : lo = t := by omega
    simp only [b140_2, k140_3, go_sem, hlt']
    refine mLoop (fun M st => ∃ s : Nat, lo ≤ s ∧ s ≤ A.length ∧ M = s ∧ st = ⟨[(0, .arr K 0), (14, .int .i64 (a + lo : Nat)), (17, .int .i64 (a + s : Nat))], rowM M1 M2 N (P ++ (A.take s ++ (y :: (A.drop s ++ R))))⟩) A.length
      ⟨_, rfl, A.length, ht, by omega, rfl, by simp [getE]; omega⟩ ?_
    rintro s s0 ⟨_, hs, hsA, rfl, rfl⟩
    by_cases hslt : lo < s
    · obtain ⟨r, rfl⟩ : ∃ r, s = r + 1 := ⟨s - 1, by omega⟩
      have hslt' : ((a + lo : Nat) : Int) < ((a + (r + 1) : Nat) : Int) := by omega
      have hsB : r < A.length := by omega
      have hl : P ++ (A.take (r + 1) ++ (y :: (A.drop (r + 1) ++ R))) = (P ++ A.take r) ++ A.getD r 0 :: ([] ++ y :: (A.drop (r + 1) ++ R)) := by rw [tk_getD hsB]; simp
      have hl2 : (P ++ A.take r) ++ y :: ([] ++ A.getD r 0 :: (A.drop (r + 1) ++ R)) = P ++ (A.take r ++ (y :: (A.drop r ++ R))) := by rw [getD_drop hsB]; simp
      obtain ⟨q1, q2, q3, q4, l1, q5, q6, q7⟩ := swp_dn (p := a + r) (q := a + (r + 1)) hl (by simp; omega) (by simp; omega)
      rw [hl2] at q7
      have hlen2 : (P ++ (A.take (r + 1) ++ (y :: (A.drop (r + 1) ++ R)))).length = N := by simp; omega
      have e6 : IntKind.i64.wrap (((a + (r + 1) : Nat) : Int) - 1) = ((a + r : Nat) : Int) := by rw [wrap_i64 (by omega) (by omega)]; omega
      clear hl hl2
      generalize P ++ (A.take (r + 1) ++ (y :: (A.drop (r + 1) ++ R))) = l at *
      generalize A.getD r 0 = z at *
      have s1 := sub_nums (k := .i64) (l := l) (i := a + r) (by omega)
      have s2 := sub_nums (k := .i64) (l := l) (i := a + (r + 1)) (by omega)
      rw [q1] at s1
      rw [q2] at s2
      have k1 : (0 : Int) ≤ ((a + r : Nat) : Int) := by omega
      have k2 : (0 : Int) ≤ ((a + (r + 1) : Nat) : Int) := by omega
      have k3 : ((a + r : Nat) : Int) < (N : Int) := by omega
      have k4 : ((a + (r + 1) : Nat) : Int) < (N : Int) := by omega
      generalize hp0 : a + r = p0 at *
      generalize hq0 : a + (r + 1) = q0 at *
      simp only [b140_3, rowM, go_sem, mapI, hslt', e6, hg, hst, k1, k2, k3, k4, Int.toNat_natCast, s1, s2, q3, q4, q6, put_nums, q5, q7]
      exact loopQ_go rfl r (by omega) ⟨r, by omega, by omega, rfl, by rw [hp0]; rfl⟩
    · have hslt' : ¬ ((a + lo : Nat) : Int) < ((a + s : Nat) : Int) := by omega
      obtain rfl : s = lo := by omega
      simp only [b140_3, k140_2, rowM, go_sem, hslt']
      simp only [i140, Out, resAll, geto, ints, List.getElem?_cons_zero, List.getElem?_cons_succ, resOf, outOf, snap, snapL, ev, getE, List.mapM_cons, List.mapM_nil, Option.bind_some, Option.pure_def, Option.bind_eq_bind, Option.map_some, reduceIte, Nat.reduceEqDiff, true_and, and_true, List.append_assoc, List.cons_append]
end
section
variable {E : CallRel} {M1 M2 : List AObj} {K N f : Nat} {caps bs : List AV} {Sd : Int → Prop} {c : Int → Int → Int} {lt : Int → Int → Prop}
def SymP (E : CallRel) (M1 M2 : List AObj) (K N f : Nat) (caps : List AV) (Sd : Int → Prop) (c : Int → Int → Int) (lt : Int → Int → Prop) (sz : Nat) : Prop :=
  ∀ (P A B R : List Int) (a m b : Nat), A.length + B.length ≤ sz → P.length = a → a + A.length = m → m + B.length = b → b + R.length = N → 0 < A.length → 0 < B.length → (∀ x ∈ A, Sd x) → (∀ y ∈ B, Sd y) → A.Pairwise lt → B.Pairwise lt → (∀ x ∈ A, ∀ y ∈ B, Hc c lt x y) →
    ∃ C, C.Perm (A ++ B) ∧ C.Pairwise lt ∧ Go.V.Call tab E 140 [.arr K 0, .int .i64 a, .int .i64 m, .int .i64 b, .fn f caps] (rowM M1 M2 N (P ++ (A ++ (B ++ R)))) (.tup []) (rowM M1 M2 N (P ++ (C ++ R)))
theorem sym_right {Q : List Int → Prop} {mem0 : List AObj} {P A2 B2 R : List Int} {mid e b sz : Nat} (ih : SymP E M1 M2 K N f caps Sd c lt sz) (hsz : A2.length + B2.length ≤ sz) (hp : P.length = mid) (he : mid + A2.length = e) (hb : e + B2.length = b) (hN : b + R.length = N) (hN2 : N ≤ 1000000)
    (h1 : ∀ x ∈ A2, Sd x) (h2 : ∀ y ∈ B2, Sd y) (h3 : A2.Pairwise lt) (h4 : B2.Pairwise lt) (h5 : ∀ x ∈ A2, ∀ y ∈ B2, Hc c lt x y)
    (hQ : ∀ C2 : List Int, C2.Perm (A2 ++ B2) → C2.Pairwise lt → ∃ C, Q C ∧ P ++ (C2 ++ R) = C) :
    Mach (Go.V.Call tab E) (fun x st => ∃ C, Q C ∧ Fin i140 mem0 (.tup []) (rowM M1 M2 N C) x st) [.code t140_0] .nrm ⟨[(0, .arr K 0), (3, .int .i64 b), (4, .fn f caps), (18, .int .i64 mid), (24, .int .i64 e)], rowM M1 M2 N (P ++ (A2 ++ (B2 ++ R)))⟩ := by
  by_cases c1 : mid < e
  · have c1' : (mid : Int) < (e : Int) := by omega
    by_cases c2 : e < b
    · have c2' : (e : Int) < (b : Int) := by omega
      obtain ⟨C2, g1, g2, g3⟩ := ih P A2 B2 R mid e b hsz hp he hb hN (by omega) (by omega) h1 h2 h3 h4 h5
      obtain ⟨C, q1, q2⟩ := hQ C2 g1 g2
      rw [q2] at g3
      simp only [t140_0, go_sem, c1', c2']
      refine goM g3 ?_
      simp only [go_sem]
      exact ⟨C, q1, by simp only [i140, Out, resAll, geto, ints, List.getElem?_cons_zero, List.getElem?_cons_succ, resOf, outOf, snap, snapL, ev, getE, List.mapM_cons, List.mapM_nil, Option.bind_some, Option.pure_def, Option.bind_eq_bind, Option.map_some, reduceIte, Nat.reduceEqDiff, true_and, and_true]⟩
    · have c2' : ¬ (e : Int) < (b : Int) := by omega
      obtain rfl : B2 = [] := List.length_eq_zero_iff.1 (by omega)
      obtain ⟨C, q1, q2⟩ := hQ A2 (by simp) h3
      rw [List.nil_append, q2]
      simp only [t140_0, go_sem, c1', c2']
      exact ⟨C, q1, by simp only [i140, Out, resAll, geto, ints, List.getElem?_cons_zero, List.getElem?_cons_succ, resOf, outOf, snap, snapL, ev, getE, List.mapM_cons, List.mapM_nil, Option.bind_some, Option.pure_def, Option.bind_eq_bind, Option.map_some, reduceIte, Nat.reduceEqDiff, true_and, and_true]⟩
  · have c1' : ¬ (mid : Int) < (e : Int) := by omega
    obtain rfl : A2 = [] := List.length_eq_zero_iff.1 (by omega)
    obtain ⟨C, q1, q2⟩ := hQ B2 (by simp) h4
    rw [List.nil_append, q2]
    simp only [t140_0, go_sem, c1']
    exact ⟨C, q1, by simp only [i140, Out, resAll, geto, ints, List.getElem?_cons_zero, List.getElem?_cons_succ, resOf, outOf, snap, snapL, ev, getE, List.mapM_cons, List.mapM_nil, Option.bind_some, Option.pure_def, Option.bind_eq_bind, Option.map_some, reduceIte, Nat.reduceEqDiff, true_and, and_true]⟩
theorem sym_both {Q : List Int → Prop} {mem0 : List AObj} {P A1 B1 A2 B2 R : List Int} {a s mid e b sz : Nat} (ih : SymP E M1 M2 K N f caps Sd c lt sz) (hsz : A1.length + B1.length ≤ sz) (hsz2 : A2.length + B2.length ≤ sz) (hp : P.length = a) (hs : a + A1.length = s) (hmid : s + B1.length = mid) (he : mid + A2.length = e) (hb : e + B2.length = b) (hN : b + R.length = N) (hN2 : N ≤ 1000000)
    (hA1 : ∀ x ∈ A1, Sd x) (hB1 : ∀ x ∈ B1, Sd x) (hA2 : ∀ x ∈ A2, Sd x) (hB2 : ∀ x ∈ B2, Sd x) (pA : (A1 ++ A2).Pairwise lt) (pB : (B1 ++ B2).Pairwise lt) (h11 : ∀ x ∈ A1, ∀ y ∈ B1, Hc c lt x y) (h22 : ∀ x ∈ A2, ∀ y ∈ B2, Hc c lt x y) (h12 : ∀ x ∈ A1, ∀ y ∈ B2, lt x y) (h21 : ∀ x ∈ B1, ∀ y ∈ A2, lt x y)
    (hQ : ∀ C : List Int, C.Perm ((A1 ++ A2) ++ (B1 ++ B2)) → C.Pairwise lt → Q (P ++ (C ++ R))) :
    Mach (Go.V.Call tab E) (fun x st => ∃ C, Q C ∧ Fin i140 mem0 (.tup []) (rowM M1 M2 N C) x st) [.code t140_1] .nrm ⟨[(0, .arr K 0), (1, .int .i64 a), (3, .int .i64 b), (4, .fn f caps), (18, .int .i64 mid), (20, .int .i64 s), (24, .int .i64 e)], rowM M1 M2 N (P ++ (A1 ++ (B1 ++ (A2 ++ (B2 ++ R)))))⟩ := by
  obtain ⟨pA1, pA2, pA3⟩ := List.pairwise_append.1 pA
  obtain ⟨pB1, pB2, pB3⟩ := List.pairwise_append.1 pB
  have rest : ∀ C1 : List Int, C1.Perm (A1 ++ B1) → C1.Pairwise lt → Mach (Go.V.Call tab E) (fun x st => ∃ C, Q C ∧ Fin i140 mem0 (.tup []) (rowM M1 M2 N C) x st) [.code t140_0] .nrm ⟨[(0, .arr K 0), (3, .int .i64 b), (4, .fn f caps), (18, .int .i64 mid), (24, .int .i64 e)], rowM M1 M2 N (P ++ (C1 ++ (A2 ++ (B2 ++ R))))⟩ := by
    intro C1 q1 q2
    have hl1 := q1.length_eq
    rw [List.length_append] at hl1
    rw [← List.append_assoc]
    refine sym_right ih hsz2 (by rw [List.length_append]; omega) he hb hN hN2 hA2 hB2 pA2 pB2 h22 fun C2 q3 q4 => ⟨_, hQ (C1 ++ C2) ?_ ?_, by simp⟩
    · refine (q1.append q3).trans ?_
      have h : (A1 ++ B1 ++ (A2 ++ B2)).Perm (A1 ++ (A2 ++ (B1 ++ B2))) := by
        rw [List.append_assoc]
        refine List.Perm.append_left _ ?_
        rw [← List.append_assoc, ← List.append_assoc]
        exact List.Perm.append_right _ List.perm_append_comm
      rwa [← List.append_assoc A1] at h
    · refine List.pairwise_append.2 ⟨q2, q4, fun x hx y hy => ?_⟩
      rcases List.mem_append.1 (q1.mem_iff.1 hx) with hx | hx <;> rcases List.mem_append.1 (q3.mem_iff.1 hy) with hy | hy
      · exact pA3 x hx y hy
      · exact h12 x hx y hy
      · exact h21 x hx y hy
      · exact pB3 x hx y hy
  by_cases c1 : a < s
  · have c1' : (a : Int) < (s : Int) := by omega
    by_cases c2 : s < mid
    · have c2' : (s : Int) < (mid : Int) := by omega
      obtain ⟨C1, g1, g2, g3⟩ := ih P A1 B1 (A2 ++ (B2 ++ R)) a s mid hsz hp hs hmid (by simp; omega) (by omega) (by omega) hA1 hB1 pA1 pB1 h11
      simp only [t140_1, go_sem, c1', c2']
      refine goM g3 ?_
      simp only [go_sem]
      exact rest C1 g1 g2
    · have c2' : ¬ (s : Int) < (mid : Int) := by omega
      obtain rfl : B1 = [] := List.length_eq_zero_iff.1 (by omega)
      rw [List.nil_append]
      simp only [t140_1, go_sem, c1', c2']
      exact rest A1 (by simp) pA1
  · have c1' : ¬ (a : Int) < (s : Int) := by omega
    obtain rfl : A1 = [] := List.length_eq_zero_iff.1 (by omega)
    rw [List.nil_append]
    simp only [t140_1, go_sem, c1']
    exact rest B1 (by simp) pB1
theorem mid_A {P A X : List Int} {q : Nat} (h : P.length ≤ q) (h2 : q < P.length + A.length) : (P ++ (A ++ X)).getD q 0 = A.getD (q - P.length) 0 := by
  simp only [List.getD]
  rw [List.getElem?_append_right h, List.getElem?_append_left (by omega)]
theorem mid_B {P A B X : List Int} {q : Nat} (h : P.length + A.length ≤ q) (h2 : q < P.length + A.length + B.length) : (P ++ (A ++ (B ++ X))).getD q 0 = B.getD (q - P.length - A.length) 0 := by
  simp only [List.getD]
  rw [List.getElem?_append_right (by omega), List.getElem?_append_right (by omega), List.getElem?_append_left (by omega)]
theorem getD_memI {A : List Int} {i : Nat} (h : i < A.length) : A.getD i 0 ∈ A := by simp [List.getD, h]
theorem le_get {A : List Int} (hO : Ord lt) (h : A.Pairwise lt) {i j : Nat} (hij : i ≤ j) (hj : j < A.length) : A.getD i 0 = A.getD j 0 ∨ lt (A.getD i 0) (A.getD j 0) := by
  rcases Nat.lt_or_ge i j with h1 | h1
  · exact .inr (pw_get h h1 hj)
  · exact .inl (by rw [show i = j by omega])
set_option maxHeartbeats 2000000 in
theorem sym_tail {P A B R : List Int} {a m b mid s0 r0 sz : Nat} (hO : Ord lt) (hC : CmpOk (Go.V.Call tab E) M1 M2 N f caps bs Sd c) (hK : M1.length = K) (ih : SymP E M1 M2 K N f caps Sd c lt sz) (hsz : A.length + B.length ≤ sz + 1)
    (ha : P.length = a) (hm : a + A.length = m) (hb : m + B.length = b) (hN : b + R.length = N) (hN2 : N ≤ 1000000) (hA2 : 2 ≤ A.length) (hB2 : 2 ≤ B.length) (hSA : ∀ x ∈ A, Sd x) (hSB : ∀ y ∈ B, Sd y) (hA : A.Pairwise lt) (hB : B.Pairwise lt) (hH : ∀ x ∈ A, ∀ y ∈ B, Hc c lt x y)
    (hmid : mid = (a + b) / 2) (h1 : s0 ≤ r0) (h2 : a ≤ s0) (h3 : mid + m ≤ s0 + b) (h4 : r0 ≤ m) (h5 : r0 ≤ mid) (h6 : s0 = a ∨ s0 + b = mid + m) (h7 : r0 = m ∨ r0 = mid) :
    Mach (Go.V.Call tab E) (fun x st => ∃ C, (∃ C', C'.Perm (A ++ B) ∧ C'.Pairwise lt ∧ C = P ++ (C' ++ R)) ∧ Fin i140 (rowM M1 M2 N (P ++ (A ++ (B ++ R)))) (.tup []) (rowM M1 M2 N C) x st)
      [.code (.loop [0, 1, 2, 3, 4, 18, 19, 20, 21, 22] none b140_4), .endb 8, .code k140_4] .nrm
      ⟨[(0, .arr K 0), (1, .int .i64 a), (2, .int .i64 m), (3, .int .i64 b), (4, .fn f caps), (18, .int .i64 mid), (19, .int .i64 (mid + m : Nat)), (20, .int .i64 s0), (21, .int .i64 r0), (22, .int .i64 (mid + m - 1 : Nat))], rowM M1 M2 N (P ++ (A ++ (B ++ R)))⟩ := by
  generalize hmem0 : rowM M1 M2 N (P ++ (A ++ (B ++ R))) = mem0
  have hmid1 : a < mid ∧ mid < b := by omega
  have hg : ∀ o : AObj, (M1 ++ o :: M2)[K]? = some o := fun o => row_get hK
  have hlen : (P ++ (A ++ (B ++ R))).length = N := by simp; omega
  have hcaps := hC.1 (P ++ (A ++ (B ++ R)))
  have gA : ∀ q : Nat, a ≤ q → q < m → (P ++ (A ++ (B ++ R))).getD q 0 = A.getD (q - a) 0 := fun q g1 g2 => by rw [mid_A (by omega) (by omega), ha]
  have gB : ∀ q : Nat, m ≤ q → q < b → (P ++ (A ++ (B ++ R))).getD q 0 = B.getD (q - m) 0 := fun q g1 g2 => by rw [mid_B (by omega) (by omega)]; congr 1; omega
  refine mLoop (fun M st => ∃ lo hi : Nat, s0 ≤ lo ∧ lo ≤ hi ∧ hi ≤ r0 ∧ M = hi - lo ∧ (lo = s0 ∨ ¬ lt ((P ++ (A ++ (B ++ R))).getD (mid + m - lo) 0) ((P ++ (A ++ (B ++ R))).getD (lo - 1) 0)) ∧ (hi = r0 ∨ lt ((P ++ (A ++ (B ++ R))).getD (mid + m - 1 - hi) 0) ((P ++ (A ++ (B ++ R))).getD hi 0)) ∧
    st = ⟨[(0, .arr K 0), (1, .int .i64 a), (2, .int .i64 m), (3, .int .i64 b), (4, .fn f caps), (18, .int .i64 mid), (19, .int .i64 (mid + m : Nat)), (20, .int .i64 lo), (21, .int .i64 hi), (22, .int .i64 (mid + m - 1 : Nat))], mem0⟩) (r0 - s0)
    ⟨_, rfl, s0, r0, Nat.le_refl _, h1, Nat.le_refl _, rfl, .inl rfl, .inl rfl, rfl⟩ ?_
  rintro M s1 ⟨lo, hi, g1, g2, g3, rfl, g4, g5, rfl⟩
  by_cases hlt : lo < hi
  · have hlt' : (lo : Int) < (hi : Int) := by omega
    have e0 := wad (a := lo) (b := hi) (by omega)
    have e1 := wu64 (n := lo + hi) (by omega)
    have e3 := wi64 (n := (lo + hi) / 2) (by omega)
    have hh : (lo + hi) / 2 < hi ∧ lo ≤ (lo + hi) / 2 := by omega
    generalize hhe : (lo + hi) / 2 = h at *
    have e4 := wsb (a := mid + m - 1) (b := h) (by omega) (by omega)
    have e5 : IntKind.i64.wrap ((h : Int) + 1) = ((h + 1 : Nat) : Int) := by rw [wrap_i64 (by omega) (by omega)]; omega
    have x1 := gA h (by omega) (by omega)
    have x2 := gB (mid + m - 1 - h) (by omega) (by omega)
    have mA := getD_memI (A := A) (i := h - a) (by omega)
    have mB := getD_memI (A := B) (i := mid + m - 1 - h - m) (by omega)
    rw [← x1] at mA
    rw [← x2] at mB
    have hcall := hC.2 _ _ (hSB _ mB) (hSA _ mA)
    have hcw := (hH _ mA _ mB).2
    have n1 : mid + m - (h + 1) = mid + m - 1 - h := by omega
    have n2 : h + 1 - 1 = h := by omega
    have s1 := sub_nums (k := .i64) (l := P ++ (A ++ (B ++ R))) (i := h) (by omega)
    have s2 := sub_nums (k := .i64) (l := P ++ (A ++ (B ++ R))) (i := mid + m - 1 - h) (by omega)
    have k1 : (0 : Int) ≤ (h : Int) := by omega
    have k2 : (0 : Int) ≤ ((mid + m - 1 - h : Nat) : Int) := by omega
    have k3 : (h : Int) < (N : Int) := by omega
    have k4 : ((mid + m - 1 - h : Nat) : Int) < (N : Int) := by omega
    clear x1 x2 mA mB gA gB
    by_cases hty : lt ((P ++ (A ++ (B ++ R))).getD (mid + m - 1 - h) 0) ((P ++ (A ++ (B ++ R))).getD h 0)
    · have hcl := hcw.2 hty
      have fin : LoopQ [0, 1, 2, 3, 4, 18, 19, 20, 21, 22] none (fun M st => ∃ lo hi : Nat, s0 ≤ lo ∧ lo ≤ hi ∧ hi ≤ r0 ∧ M = hi - lo ∧ (lo = s0 ∨ ¬ lt ((P ++ (A ++ (B ++ R))).getD (mid + m - lo) 0) ((P ++ (A ++ (B ++ R))).getD (lo - 1) 0)) ∧ (hi = r0 ∨ lt ((P ++ (A ++ (B ++ R))).getD (mid + m - 1 - hi) 0) ((P ++ (A ++ (B ++ R))).getD hi 0)) ∧
          st = ⟨[(0, .arr K 0), (1, .int .i64 a), (2, .int .i64 m), (3, .int .i64 b), (4, .fn f caps), (18, .int .i64 mid), (19, .int .i64 (mid + m : Nat)), (20, .int .i64 lo), (21, .int .i64 hi), (22, .int .i64 (mid + m - 1 : Nat))], mem0⟩) (hi - lo) (Mach (Go.V.Call tab E) (fun x st => ∃ C, (∃ C', C'.Perm (A ++ B) ∧ C'.Pairwise lt ∧ C = P ++ (C' ++ R)) ∧ Fin i140 mem0 (.tup []) (rowM M1 M2 N C) x st) [.endb 8, .code k140_4]) .nrm
          ⟨[(0, .arr K 0), (1, .int .i64 a), (2, .int .i64 m), (3, .int .i64 b), (4, .fn f caps), (18, .int .i64 mid), (19, .int .i64 (mid + m : Nat)), (20, .int .i64 lo), (21, .int .i64 h), (22, .int .i64 (mid + m - 1 : Nat))], mem0⟩ :=
        loopQ_go rfl (h - lo) (by omega) ⟨lo, h, g1, by omega, by omega, rfl, g4, .inr hty, rfl⟩
      clear g4 g5 hcw hty
      generalize (P ++ (A ++ (B ++ R))).getD h 0 = xa at *
      generalize (P ++ (A ++ (B ++ R))).getD (mid + m - 1 - h) 0 = xb at *
      subst hmem0
      simp only [rowM] at hcaps
      generalize P ++ (A ++ (B ++ R)) = l at *
      simp only [b140_4, rowM, go_sem, mapI, hlt', e0, e1, shr1, hhe, e3, e4, hg, k1, k2, k3, k4, Int.toNat_natCast, s1, s2]
      refine goFn hcaps hcall rfl ?_
      simp only [b140_4, rowM, go_sem, hcl]
      simp only [rowM] at fin
      exact fin
    · have hcl : ¬ c _ _ < 0 := fun h => hty (hcw.1 h)
      have fin : LoopQ [0, 1, 2, 3, 4, 18, 19, 20, 21, 22] none (fun M st => ∃ lo hi : Nat, s0 ≤ lo ∧ lo ≤ hi ∧ hi ≤ r0 ∧ M = hi - lo ∧ (lo = s0 ∨ ¬ lt ((P ++ (A ++ (B ++ R))).getD (mid + m - lo) 0) ((P ++ (A ++ (B ++ R))).getD (lo - 1) 0)) ∧ (hi = r0 ∨ lt ((P ++ (A ++ (B ++ R))).getD (mid + m - 1 - hi) 0) ((P ++ (A ++ (B ++ R))).getD hi 0)) ∧
          st = ⟨[(0, .arr K 0), (1, .int .i64 a), (2, .int .i64 m), (3, .int .i64 b), (4, .fn f caps), (18, .int .i64 mid), (19, .int .i64 (mid + m : Nat)), (20, .int .i64 lo), (21, .int .i64 hi), (22, .int .i64 (mid + m - 1 : Nat))], mem0⟩) (hi - lo) (Mach (Go.V.Call tab E) (fun x st => ∃ C, (∃ C', C'.Perm (A ++ B) ∧ C'.Pairwise lt ∧ C = P ++ (C' ++ R)) ∧ Fin i140 mem0 (.tup []) (rowM M1 M2 N C) x st) [.endb 8, .code k140_4]) .nrm
          ⟨[(0, .arr K 0), (1, .int .i64 a), (2, .int .i64 m), (3, .int .i64 b), (4, .fn f caps), (18, .int .i64 mid), (19, .int .i64 (mid + m : Nat)), (20, .int .i64 (h + 1 : Nat)), (21, .int .i64 hi), (22, .int .i64 (mid + m - 1 : Nat))], mem0⟩ :=
        loopQ_go rfl (hi - (h + 1)) (by omega) ⟨h + 1, hi, by omega, by omega, g3, rfl, .inr (by rw [n1, n2]; exact hty), g5, rfl⟩
      clear g4 g5 hcw hty
      generalize (P ++ (A ++ (B ++ R))).getD h 0 = xa at *
      generalize (P ++ (A ++ (B ++ R))).getD (mid + m - 1 - h) 0 = xb at *
      subst hmem0
      simp only [rowM] at hcaps
      generalize P ++ (A ++ (B ++ R)) = l at *
      simp only [b140_4, rowM, go_sem, mapI, hlt', e0, e1, shr1, hhe, e3, e4, hg, k1, k2, k3, k4, Int.toNat_natCast, s1, s2]
      refine goFn hcaps hcall rfl ?_
      simp only [b140_4, rowM, go_sem, hcl, e5]
      simp only [rowM] at fin
      exact fin
  · have hlt' : ¬ (lo : Int) < (hi : Int) := by omega
    obtain rfl : hi = lo := by omega
    have e6 := wsb (a := mid + m) (b := hi) (by omega) (by omega)
    -- the four parts
    have lA1 : (A.take (hi - a)).length = hi - a := by rw [List.length_take]; omega
    have lA2 : (A.drop (hi - a)).length = m - hi := by rw [List.length_drop]; omega
    have lB1 : (B.take (mid - hi)).length = mid - hi := by rw [List.length_take]; omega
    have lB2 : (B.drop (mid - hi)).length = b - (mid + m - hi) := by rw [List.length_drop]; omega
    have cA := List.take_append_drop (hi - a) A
    have cB := List.take_append_drop (mid - hi) B
    have c12 : ∀ x ∈ A.take (hi - a), ∀ y ∈ B.drop (mid - hi), lt x y := by
      intro x hx y hy
      obtain ⟨i, hi1, hi2, rfl⟩ := mem_take hx
      obtain ⟨k, hk1, hk2, rfl⟩ := mem_drop hy
      have hne : ¬ lt ((P ++ (A ++ (B ++ R))).getD (mid + m - hi) 0) ((P ++ (A ++ (B ++ R))).getD (hi - 1) 0) := g4.resolve_left fun h => by
        rcases h6 with h6 | h6 <;> omega
      rw [gA (hi - 1) (by omega) (by omega), gB (mid + m - hi) (by omega) (by omega)] at hne
      have hx2 := (hH _ (getD_memI (i := hi - 1 - a) (by omega)) _ (getD_memI (i := mid + m - hi - m) (by omega))).not hO hne
      have hx3 := le_get hO hA (i := i) (j := hi - 1 - a) (by omega) (by omega)
      have hx4 := le_get hO hB (i := mid + m - hi - m) (j := k) (by omega) (by omega)
      have hx5 : lt (A.getD i 0) (B.getD (mid + m - hi - m) 0) := by
        rcases hx3 with e | e
        · rw [e]; exact hx2
        · exact hO.tra e hx2
      rcases hx4 with e | e
      · rw [← e]; exact hx5
      · exact hO.tra hx5 e
    have c21 : ∀ x ∈ B.take (mid - hi), ∀ y ∈ A.drop (hi - a), lt x y := by
      intro x hx y hy
      obtain ⟨k, hk1, hk2, rfl⟩ := mem_take hx
      obtain ⟨i, hi1, hi2, rfl⟩ := mem_drop hy
      have hne : lt ((P ++ (A ++ (B ++ R))).getD (mid + m - 1 - hi) 0) ((P ++ (A ++ (B ++ R))).getD hi 0) := g5.resolve_left fun h => by
        rcases h7 with h7 | h7 <;> omega
      rw [gA hi (by omega) (by omega), gB (mid + m - 1 - hi) (by omega) (by omega)] at hne
      have hx3 := le_get hO hB (i := k) (j := mid + m - 1 - hi - m) (by omega) (by omega)
      have hx4 := le_get hO hA (i := hi - a) (j := i) (by omega) (by omega)
      have hx5 : lt (B.getD k 0) (A.getD (hi - a) 0) := by
        rcases hx3 with e | e
        · rw [e]; exact hne
        · exact hO.tra e hne
      rcases hx4 with e | e
      · rw [← e]; exact hx5
      · exact hO.tra hx5 e
    have mA1 : ∀ x ∈ A.take (hi - a), x ∈ A := fun x hx => List.mem_of_mem_take hx
    have mA2 : ∀ x ∈ A.drop (hi - a), x ∈ A := fun x hx => List.mem_of_mem_drop hx
    have mB1 : ∀ x ∈ B.take (mid - hi), x ∈ B := fun x hx => List.mem_of_mem_take hx
    have mB2 : ∀ x ∈ B.drop (mid - hi), x ∈ B := fun x hx => List.mem_of_mem_drop hx
    have pA := hA
    have pB := hB
    rw [← cA] at pA
    rw [← cB] at pB
    have hrest : Mach (Go.V.Call tab E) (fun x st => ∃ C, (∃ C', C'.Perm (A ++ B) ∧ C'.Pairwise lt ∧ C = P ++ (C' ++ R)) ∧ Fin i140 mem0 (.tup []) (rowM M1 M2 N C) x st) [.code t140_1] .nrm ⟨[(0, .arr K 0), (1, .int .i64 a), (3, .int .i64 b), (4, .fn f caps), (18, .int .i64 mid), (20, .int .i64 hi), (24, .int .i64 (mid + m - hi : Nat))], rowM M1 M2 N (P ++ (A.take (hi - a) ++ (B.take (mid - hi) ++ (A.drop (hi - a) ++ (B.drop (mid - hi) ++ R)))))⟩ :=
      sym_both (Q := fun C => ∃ C', C'.Perm (A ++ B) ∧ C'.Pairwise lt ∧ C = P ++ (C' ++ R)) (mem0 := mem0) (P := P) (A1 := A.take (hi - a)) (B1 := B.take (mid - hi)) (A2 := A.drop (hi - a)) (B2 := B.drop (mid - hi)) (R := R) (a := a) (s := hi) (mid := mid) (e := mid + m - hi) (b := b) (sz := sz) ih (by omega) (by omega) ha (by omega) (by omega) (by omega) (by omega) hN hN2 (fun x hx => hSA x (mA1 x hx)) (fun x hx => hSB x (mB1 x hx)) (fun x hx => hSA x (mA2 x hx)) (fun x hx => hSB x (mB2 x hx)) pA pB
        (fun x hx y hy => hH x (mA1 x hx) y (mB1 y hy)) (fun x hx y hy => hH x (mA2 x hx) y (mB2 y hy)) c12 c21 fun C q1 q2 => ⟨C, by rwa [cA, cB] at q1, q2, rfl⟩
    have hmem1 : mem0 = rowM M1 M2 N (P ++ (A.take (hi - a) ++ (A.drop (hi - a) ++ (B.take (mid - hi) ++ (B.drop (mid - hi) ++ R))))) := by
      rw [← hmem0, ← List.append_assoc (A.take (hi - a)), cA, ← List.append_assoc (B.take (mid - hi)), cB]
    clear gA gB g4 g5 c12 c21 mA1 mA2 mB1 mB2 pA pB
    by_cases d1 : hi < m ∧ hi < mid
    · have d1' : (hi : Int) < (m : Int) := by omega
      have d2' : (m : Int) < ((mid + m - hi : Nat) : Int) := by omega
      have h162 := c162_ok (E := E) (fn := .fn f caps) (M1 := M1) (M2 := M2) (K := K) (N := N) (P := P ++ A.take (hi - a)) (X := A.drop (hi - a)) (Y := B.take (mid - hi)) (R := B.drop (mid - hi) ++ R) (a := hi) (m := m) (b := mid + m - hi) hK (by rw [List.length_append]; omega) (by omega) (by omega) (by rw [List.length_append]; omega) hN2 (by omega) (by omega)
      rw [List.append_assoc, List.append_assoc, ← hmem1] at h162
      simp only [b140_4, k140_4, go_sem, hlt', e6, d1', d2']
      refine goM h162 ?_
      simp only [go_sem]
      exact hrest
    · have hsame : mem0 = rowM M1 M2 N (P ++ (A.take (hi - a) ++ (B.take (mid - hi) ++ (A.drop (hi - a) ++ (B.drop (mid - hi) ++ R))))) := by
        rw [hmem1]
        rcases Nat.lt_or_ge hi m with q | q
        · rw [List.length_eq_zero_iff.1 (show (B.take (mid - hi)).length = 0 by omega)]; simp
        · rw [List.length_eq_zero_iff.1 (show (A.drop (hi - a)).length = 0 by omega)]; simp
      rw [← hsame] at hrest
      by_cases d2 : hi < m
      · have d2' : (hi : Int) < (m : Int) := by omega
        have d3' : ¬ (m : Int) < ((mid + m - hi : Nat) : Int) := by omega
        simp only [b140_4, k140_4, go_sem, hlt', e6, d2', d3']
        exact hrest
      · have d2' : ¬ (hi : Int) < (m : Int) := by omega
        simp only [b140_4, k140_4, go_sem, hlt', e6, d2']
        exact hrest
set_option maxHeartbeats 1000000 in
theorem c140_ok (hO : Ord lt) (hC : CmpOk (Go.V.Call tab E) M1 M2 N f caps bs Sd c) (hK : M1.length = K) (hN2 : N ≤ 1000000) : ∀ sz : Nat, SymP E M1 M2 K N f caps Sd c lt sz
  | 0 => fun P A B R a m b h _ _ _ _ hA _ => by omega
  | sz + 1 => fun P A B R a m b hsz ha hm hb hN hA0 hB0 hSA hSB hA hB hH => by
    have ih := c140_ok hO hC hK hN2 sz
    by_cases hA1 : A.length = 1
    · obtain ⟨x, rfl⟩ := List.length_eq_one_iff.1 hA1
      exact c140_one hO hC hK ha hm hb hN hN2 (hSA x (by simp)) hSB hB fun y hy => hH x (by simp) y hy
    by_cases hB1 : B.length = 1
    · obtain ⟨y, rfl⟩ := List.length_eq_one_iff.1 hB1
      exact c140_last hO hC hK ha hm hA1 hb hN hN2 (hSB y (by simp)) hSA hA fun x hx => hH x hx y (by simp)
    suffices h : Mach (Go.V.Call tab E) (fun x st => ∃ C, (∃ C', C'.Perm (A ++ B) ∧ C'.Pairwise lt ∧ C = P ++ (C' ++ R)) ∧ Fin i140 (rowM M1 M2 N (P ++ (A ++ (B ++ R)))) (.tup []) (rowM M1 M2 N C) x st) [.code c140] .nrm ⟨argsE 0 [.arr K 0, .int .i64 a, .int .i64 m, .int .i64 b, .fn f caps], rowM M1 M2 N (P ++ (A ++ (B ++ R)))⟩ by
      obtain ⟨x, st, h1, h4⟩ := wp_exec h
      rw [mNil] at h4
      obtain ⟨_, ⟨C, h2, h3, rfl⟩, h5⟩ := h4
      exact ⟨C, h2, h3, Go.V.Call.go i140 c140 rfl rfl rfl rfl (exec_wp h1 h5)⟩
    have tail := fun {s0 r0 : Nat} => sym_tail (s0 := s0) (r0 := r0) (mid := (a + b) / 2) hO hC hK ih hsz ha hm hb hN hN2 (by omega) (by omega) hSA hSB hA hB hH rfl
    have w1 : IntKind.i64.wrap ((m : Int) - (a : Int)) = (A.length : Int) := by rw [wrap_i64 (by omega) (by omega)]; omega
    have w2 : IntKind.i64.wrap ((b : Int) - (m : Int)) = (B.length : Int) := by rw [wrap_i64 (by omega) (by omega)]; omega
    have w3 : ((A.length : Int) == 1) = false := beq_eq_false_iff_ne.2 (by omega)
    have w4 : ((B.length : Int) == 1) = false := beq_eq_false_iff_ne.2 (by omega)
    have e0 := wad (a := a) (b := b) (by omega)
    have e1 := wu64 (n := a + b) (by omega)
    have e3 := wi64 (n := (a + b) / 2) (by omega)
    have hmid : a < (a + b) / 2 ∧ (a + b) / 2 < b ∧ 2 * ((a + b) / 2) ≤ a + b ∧ a + b ≤ 2 * ((a + b) / 2) + 1 := by omega
    generalize hme : (a + b) / 2 = mid at *
    have e4 := wad (a := mid) (b := m) (by omega)
    have e5 : IntKind.i64.wrap (((mid + m : Nat) : Int) - 1) = ((mid + m - 1 : Nat) : Int) := by rw [wrap_i64 (by omega) (by omega)]; omega
    by_cases hgt : mid < m
    · have hgt' : (mid : Int) < (m : Int) := by omega
      have e6 := wsb (a := mid + m) (b := b) (by omega) (by omega)
      simp only [c140, k140_6, k140_5, go_sem, w1, w2, w3, w4, e0, e1, shr1, hme, e3, e4, e5, hgt', e6]
      exact tail (by omega) (by omega) (by omega) (by omega) (by omega) (.inr (by omega)) (.inr rfl)
    · have hgt' : ¬ (mid : Int) < (m : Int) := by omega
      simp only [c140, k140_6, k140_5, go_sem, w1, w2, w3, w4, e0, e1, shr1, hme, e3, e4, e5, hgt']
      exact tail (by omega) (by omega) (by omega) (by omega) (by omega) (.inl rfl) (.inl rfl)
end
def seg (l : List Int) (p q : Nat) : List Int := (l.drop p).take (q - p)
theorem seg_len {l : List Int} {p q : Nat} : (seg l p q).length = min (q - p) (l.length - p) := by simp [seg]
theorem seg_split {l : List Int} {p m q : Nat} (h : p ≤ m) (h2 : m ≤ q) : seg l p q = seg l p m ++ seg l m q := by
  simp only [seg]
  have e : l.drop m = (l.drop p).drop (m - p) := by rw [List.drop_drop, show p + (m - p) = m by omega]
  rw [e]
  generalize l.drop p = x
  conv => lhs; rw [← List.take_append_drop (m - p) x]
  rw [List.take_append]
  congr 1
  · rw [List.take_take, Nat.min_eq_right (by omega)]
  · rw [List.length_take]
    rcases Nat.le_total (m - p) x.length with h3 | h3
    · rw [Nat.min_eq_left h3, show q - p - (m - p) = q - m by omega]
    · rw [List.drop_eq_nil_of_le h3]; simp
theorem cut3 {l : List Int} {p q : Nat} (h : p ≤ q) : l = l.take p ++ (seg l p q ++ l.drop q) := by
  have e : l.drop q = (l.drop p).drop (q - p) := by rw [List.drop_drop, show p + (q - p) = q by omega]
  rw [seg, e, List.take_append_drop, List.take_append_drop]
theorem seg_end {l : List Int} {p q r : Nat} (h : l.length ≤ q) (h2 : l.length ≤ r) : seg l p q = seg l p r := by
  rw [seg, seg, List.take_of_length_le (by simp; omega), List.take_of_length_le (by simp; omega)]
theorem seg_left {P X : List Int} {p q : Nat} (h : q ≤ P.length) : seg (P ++ X) p q = seg P p q := by
  rw [seg, seg]
  rcases Nat.le_total p P.length with h3 | h3
  · rw [List.drop_append_of_le_length h3, List.take_append_of_le_length (by simp; omega)]
  · rw [show q - p = 0 by omega, List.take_zero, List.take_zero]
theorem seg_right {P S D R : List Int} {p q : Nat} (h : P.length + S.length ≤ p) (hD : D.length = S.length) : seg (P ++ (D ++ R)) p q = seg (P ++ (S ++ R)) p q := by
  have d1 : ∀ x : List Int, x.length ≤ p - P.length → x.drop (p - P.length) = [] := fun x h => List.drop_eq_nil_of_le h
  rw [seg, seg, List.drop_append, List.drop_append, List.drop_append, List.drop_append, d1 D (by omega), d1 S (by omega), hD]
theorem seg_mid {P D R : List Int} {p q : Nat} (h : P.length = p) (h2 : p + D.length = q) : seg (P ++ (D ++ R)) p q = D := by
  subst h; subst h2
  rw [seg, List.drop_left, Nat.add_sub_cancel_left, List.take_left]
theorem mem_seg {l : List Int} {p q : Nat} {z : Int} (h : z ∈ seg l p q) : ∃ k, p ≤ k ∧ k < q ∧ k < l.length ∧ l.getD k 0 = z := by
  obtain ⟨k, hk, hk2, rfl⟩ := mem_take h
  rw [List.length_drop] at hk2
  exact ⟨p + k, by omega, by omega, by omega, by simp [List.getD]⟩
def Gd (lt : Int → Int → Prop) (l0 l : List Int) (p q : Nat) : Prop := (seg l p q).Perm (seg l0 p q) ∧ (seg l p q).Pairwise lt
theorem Gd.put {lt : Int → Int → Prop} {l0 P S D R : List Int} {p q p' q' : Nat} (hp : P.length = p) (hq : p + S.length = q) (hD : D.length = S.length) (h : q' ≤ p ∨ q ≤ p') (hG : Gd lt l0 (P ++ (S ++ R)) p' q') : Gd lt l0 (P ++ (D ++ R)) p' q' := by
  have e : seg (P ++ (D ++ R)) p' q' = seg (P ++ (S ++ R)) p' q' := by
    rcases h with h | h
    · rw [seg_left (by omega), seg_left (by omega)]
    · exact seg_right (by omega) hD
  rw [Gd, e]
  exact hG
def Blk (W p : Nat) : Prop := ∃ t, p = t * W
theorem Blk.zero {W : Nat} : Blk W 0 := ⟨0, by simp⟩
theorem Blk.next {W p : Nat} (h : Blk W p) : Blk W (p + W) := by
  obtain ⟨t, rfl⟩ := h
  exact ⟨t + 1, by rw [Nat.succ_mul]⟩
theorem Blk.half {W p : Nat} (h : Blk (2 * W) p) : Blk W p := by
  obtain ⟨t, rfl⟩ := h
  exact ⟨2 * t, by rw [Nat.mul_comm 2 t, Nat.mul_assoc]⟩
theorem Blk.le {W p a : Nat} (hp : Blk W p) (ha : Blk W a) (h : p < a) : p + W ≤ a := by
  obtain ⟨t, rfl⟩ := hp
  obtain ⟨u, rfl⟩ := ha
  have h1 : t < u := Nat.lt_of_mul_lt_mul_right h
  have := Nat.mul_le_mul_right W (show t + 1 ≤ u from h1)
  rwa [Nat.succ_mul] at this
section
variable {E : CallRel} {M1 M2 : List AObj} {K N f : Nat} {caps bs : List AV} {Sd : Int → Prop} {c : Int → Int → Int} {lt : Int → Int → Prop}
theorem ins_step {l0 l : List Int} {a b : Nat} (hO : Ord lt) (hC : CmpOk (Go.V.Call tab E) M1 M2 N f caps bs Sd c) (hK : M1.length = K) (hN2 : N ≤ 1000000) (h0 : l0.length = N) (hl : l.length = N) (hS : ∀ x ∈ l0, Sd x) (hp : l0.Pairwise (Hc c lt)) (hab : a ≤ b) (hb : b ≤ N) (hd : l.drop a = l0.drop a) :
    ∃ l', l'.length = N ∧ Gd lt l0 l' a b ∧ l'.drop b = l0.drop b ∧ (∀ p q, q ≤ a → Gd lt l0 l p q → Gd lt l0 l' p q) ∧ Go.V.Call tab E 139 [.arr K 0, .int .i64 a, .int .i64 b, .fn f caps] (rowM M1 M2 N l) (.tup []) (rowM M1 M2 N l') := by
  have hc := cut3 (l := l) hab
  have e1 : seg l a b = seg l0 a b := by rw [seg, seg, hd]
  have e2 : l.drop b = l0.drop b := by
    have x1 : l.drop b = (l.drop a).drop (b - a) := by rw [List.drop_drop, show a + (b - a) = b by omega]
    rw [x1, hd, List.drop_drop, show a + (b - a) = b by omega]
  have sl := seg_len (l := l) (p := a) (q := b)
  have tl : (l.take a).length = a := by rw [List.length_take]; omega
  obtain ⟨D, g1, g2, g3⟩ := c139_ok (P := l.take a) (S := seg l a b) (R := l.drop b) (a := a) (b := b) hO hC hK tl (by omega) (by rw [List.length_drop]; omega) hN2 (fun x hx => by
    rw [e1] at hx
    exact hS x (List.mem_of_mem_drop (List.mem_of_mem_take hx))) (by
    rw [e1]
    exact (hp.sublist (List.drop_sublist _ _)).sublist (List.take_sublist _ _))
  rw [← hc] at g3
  have gl := g1.length_eq
  refine ⟨_, ?_, ⟨?_, ?_⟩, ?_, fun p q hq hG => ?_, g3⟩
  · rw [List.length_append, List.length_append, List.length_drop]; omega
  · rw [seg_mid tl (by omega), ← e1]; exact g1
  · rw [seg_mid tl (by omega)]; exact g2
  · rw [← List.append_assoc, List.drop_left' (by rw [List.length_append]; omega), e2]
  · rw [hc] at hG
    exact Gd.put (q := b) tl (by omega) gl (.inl hq) hG
theorem mrg_step {l0 l : List Int} {a m b : Nat} (hO : Ord lt) (hC : CmpOk (Go.V.Call tab E) M1 M2 N f caps bs Sd c) (hK : M1.length = K) (hN2 : N ≤ 1000000) (h0 : l0.length = N) (hl : l.length = N) (hS : ∀ x ∈ l0, Sd x) (hp : l0.Pairwise (Hc c lt)) (ham : a < m) (hmb : m < b) (hb : b ≤ N) (hA : Gd lt l0 l a m) (hB : Gd lt l0 l m b) :
    ∃ l', l'.length = N ∧ Gd lt l0 l' a b ∧ (∀ p q, q ≤ a ∨ b ≤ p → Gd lt l0 l p q → Gd lt l0 l' p q) ∧ Go.V.Call tab E 140 [.arr K 0, .int .i64 a, .int .i64 m, .int .i64 b, .fn f caps] (rowM M1 M2 N l) (.tup []) (rowM M1 M2 N l') := by
  have hc := cut3 (l := l) (show a ≤ b by omega)
  have hsp := seg_split (l := l) (show a ≤ m by omega) (show m ≤ b by omega)
  have hsp0 := seg_split (l := l0) (show a ≤ m by omega) (show m ≤ b by omega)
  have sl := seg_len (l := l) (p := a) (q := b)
  have sA := seg_len (l := l) (p := a) (q := m)
  have sB := seg_len (l := l) (p := m) (q := b)
  have tl : (l.take a).length = a := by rw [List.length_take]; omega
  have inS : ∀ p q x, x ∈ seg l0 p q → Sd x := fun p q x hx => hS x (List.mem_of_mem_drop (List.mem_of_mem_take hx))
  obtain ⟨C, g1, g2, g3⟩ := c140_ok hO hC hK hN2 ((seg l a m).length + (seg l m b).length) (l.take a) (seg l a m) (seg l m b) (l.drop b) a m b (Nat.le_refl _) tl (by omega) (by omega) (by rw [List.length_drop]; omega) (by omega) (by omega)
    (fun x hx => inS a m x (hA.1.mem_iff.1 hx)) (fun x hx => inS m b x (hB.1.mem_iff.1 hx)) hA.2 hB.2 (fun x hx y hy => by
      obtain ⟨i, i1, i2, i3, rfl⟩ := mem_seg (hA.1.mem_iff.1 hx)
      obtain ⟨j, j1, j2, j3, rfl⟩ := mem_seg (hB.1.mem_iff.1 hy)
      exact pw_get hp (by omega) j3)
  have hc2 : l = l.take a ++ (seg l a m ++ (seg l m b ++ l.drop b)) := by
    conv => lhs; rw [hc, hsp]
    rw [List.append_assoc]
  rw [← hc2] at g3
  have gl := g1.length_eq
  rw [List.length_append] at gl
  refine ⟨_, ?_, ⟨?_, ?_⟩, fun p q hq hG => ?_, g3⟩
  · rw [List.length_append, List.length_append, List.length_drop]; omega
  · rw [seg_mid tl (by omega), hsp0]; exact g1.trans (hA.1.append hB.1)
  · rw [seg_mid tl (by omega)]; exact g2
  · rw [hc] at hG
    exact Gd.put (q := b) tl (by omega) (by omega) hq hG
set_option maxHeartbeats 2000000 in
theorem c102_ok {l0 : List Int} (hO : Ord lt) (hC : CmpOk (Go.V.Call tab E) M1 M2 N f caps bs Sd c) (hK : M1.length = K) (hN2 : N ≤ 1000000) (h0 : l0.length = N) (hS : ∀ x ∈ l0, Sd x) (hp : l0.Pairwise (Hc c lt)) :
    ∃ l, l.Perm l0 ∧ l.Pairwise lt ∧ Go.V.Call tab E 102 [.arr K 0, .int .i64 N, .fn f caps] (rowM M1 M2 N l0) (.tup []) (rowM M1 M2 N l) := by
  suffices h : Mach (Go.V.Call tab E) (fun x st => ∃ l, (l.Perm l0 ∧ l.Pairwise lt) ∧ Fin i102 (rowM M1 M2 N l0) (.tup []) (rowM M1 M2 N l) x st) [.code c102] .nrm ⟨argsE 0 [.arr K 0, .int .i64 N, .fn f caps], rowM M1 M2 N l0⟩ by
    obtain ⟨x, st, h1, h4⟩ := wp_exec h
    rw [mNil] at h4
    obtain ⟨l, ⟨h2, h3⟩, h5⟩ := h4
    exact ⟨l, h2, h3, Go.V.Call.go i102 c102 rfl rfl rfl rfl (exec_wp h1 h5)⟩
  simp only [c102, go_sem]
  refine mLoop (fun M st => ∃ (a : Nat) (l : List Int), Blk 20 a ∧ a ≤ N ∧ M = N - a ∧ l.length = N ∧ l.drop a = l0.drop a ∧ (∀ p, Blk 20 p → p < a → Gd lt l0 l p (p + 20)) ∧
    st = ⟨[(0, .arr K 0), (1, .int .i64 N), (2, .fn f caps), (6, .int .i64 20), (7, .int .i64 a), (8, .int .i64 (a + 20 : Nat))], rowM M1 M2 N l⟩) N ⟨_, rfl, 0, l0, Blk.zero, by omega, by omega, h0, rfl, fun p _ h => by omega, rfl⟩ ?_
  rintro M s0 ⟨a, l, ha, haN, rfl, hl, hd, hG, rfl⟩
  by_cases hlt : a + 20 ≤ N
  · have hlt' : ((a + 20 : Nat) : Int) ≤ (N : Int) := by omega
    have w1 : IntKind.i64.wrap (((a + 20 : Nat) : Int) + 20) = ((a + 20 + 20 : Nat) : Int) := by rw [wrap_i64 (by omega) (by omega)]; omega
    obtain ⟨l', g1, g2, g3, g4, g5⟩ := ins_step (a := a) (b := a + 20) hO hC hK hN2 h0 hl hS hp (by omega) hlt hd
    simp only [b102_0, go_sem, hlt']
    refine goM g5 ?_
    simp only [go_sem, w1]
    refine loopQ_go rfl (N - (a + 20)) (by omega) ⟨a + 20, l', ha.next, by omega, rfl, g1, g3, fun p hpb hpa => ?_, rfl⟩
    rcases Nat.lt_or_ge p a with h | h
    · exact g4 p (p + 20) (hpb.le ha h) (hG p hpb h)
    · have : p + 20 ≤ a + 20 := hpb.le ha.next hpa
      rw [show p = a by omega]
      exact g2
  · have hlt' : ¬ ((a + 20 : Nat) : Int) ≤ (N : Int) := by omega
    obtain ⟨l', g1, g2, g3, g4, g5⟩ := ins_step (a := a) (b := N) hO hC hK hN2 h0 hl hS hp haN (Nat.le_refl _) hd
    have hAll : ∀ p, Blk 20 p → Gd lt l0 l' p (p + 20) := fun p hpb => by
      rcases Nat.lt_or_ge p a with h | h
      · exact g4 p (p + 20) (hpb.le ha h) (hG p hpb h)
      · rcases Nat.lt_or_ge p (a + 20) with h2 | h2
        · have : p + 20 ≤ a + 20 := hpb.le ha.next h2
          rw [show p = a by omega, Gd, seg_end (l := l') (r := N) (by omega) (by omega), seg_end (l := l0) (r := N) (by omega) (by omega)]
          exact g2
        · have e1 : seg l' p (p + 20) = [] := List.length_eq_zero_iff.1 (by rw [seg_len]; omega)
          have e2 : seg l0 p (p + 20) = [] := List.length_eq_zero_iff.1 (by rw [seg_len]; omega)
          rw [Gd, e1, e2]
          exact ⟨List.Perm.refl _, List.Pairwise.nil⟩
    simp only [b102_0, k102_1, go_sem, hlt']
    refine goM g5 ?_
    simp only [go_sem]
    clear hG g2 g3 g4 g5 hd hl
    refine mLoop (fun M st => ∃ (w : Nat) (l : List Int), 20 ≤ w ∧ w ≤ 4000000 ∧ M = N - w ∧ l.length = N ∧ (∀ p, Blk w p → Gd lt l0 l p (p + w)) ∧ st = ⟨[(0, .arr K 0), (1, .int .i64 N), (2, .fn f caps), (6, .int .i64 w)], rowM M1 M2 N l⟩) (N - 20) ⟨_, rfl, 20, l', by omega, by omega, rfl, g1, hAll, rfl⟩ ?_
    rintro M s1 ⟨w, l, hw, hw4, rfl, hl, hG, rfl⟩
    by_cases hwn : w < N
    · have hwn' : (w : Int) < (N : Int) := by omega
      have w1 : IntKind.i64.wrap (2 * (w : Int)) = ((2 * w : Nat) : Int) := by rw [wrap_i64 (by omega) (by omega)]; omega
      have w2 : IntKind.i64.wrap ((w : Int) * 2) = ((2 * w : Nat) : Int) := by rw [wrap_i64 (by omega) (by omega)]; omega
      simp only [b102_1, go_sem, hwn', w1]
      refine mLoop (fun M st => ∃ (a : Nat) (l : List Int), Blk (2 * w) a ∧ a ≤ N ∧ M = N - a ∧ l.length = N ∧ (∀ p, Blk (2 * w) p → p < a → Gd lt l0 l p (p + 2 * w)) ∧ (∀ p, Blk w p → a ≤ p → Gd lt l0 l p (p + w)) ∧
        st = ⟨[(0, .arr K 0), (1, .int .i64 N), (2, .fn f caps), (6, .int .i64 w), (7, .int .i64 a), (8, .int .i64 (a + 2 * w : Nat))], rowM M1 M2 N l⟩) N ⟨_, rfl, 0, l, Blk.zero, by omega, by omega, hl, fun p _ h => by omega, fun p hpb _ => hG p hpb, by simp [getE]⟩ ?_
      rintro M s2 ⟨a, l, ha, haN, rfl, hl, hG1, hG2, rfl⟩
      have v1 := wad (a := a) (b := w) (by omega)
      by_cases hlt : a + 2 * w ≤ N
      · have hlt' : ((a + 2 * w : Nat) : Int) ≤ (N : Int) := by omega
        have v2 := wad (a := a + 2 * w) (b := 2 * w) (by omega)
        have gA := hG2 a ha.half (Nat.le_refl _)
        have gB := hG2 (a + w) ha.half.next (by omega)
        rw [show a + w + w = a + 2 * w by omega] at gB
        obtain ⟨l', g1, g2, g3, g4⟩ := mrg_step (a := a) (m := a + w) (b := a + 2 * w) hO hC hK hN2 h0 hl hS hp (by omega) (by omega) hlt gA gB
        simp only [b102_2, go_sem, hlt', v1]
        refine goM g4 ?_
        simp only [go_sem, w1, v2]
        refine loopQ_go rfl (N - (a + 2 * w)) (by omega) ⟨a + 2 * w, l', ha.next, hlt, rfl, g1, fun p hpb hpa => ?_, fun p hpb hpa => g3 p (p + w) (.inr hpa) (hG2 p hpb (by omega)), rfl⟩
        rcases Nat.lt_or_ge p a with h | h
        · exact g3 p (p + 2 * w) (.inl (hpb.le ha h)) (hG1 p hpb h)
        · have : p + 2 * w ≤ a + 2 * w := hpb.le ha.next hpa
          rw [show p = a by omega]
          exact g2
      · have hlt' : ¬ ((a + 2 * w : Nat) : Int) ≤ (N : Int) := by omega
        have gA := hG2 a ha.half (Nat.le_refl _)
        have gB := hG2 (a + w) ha.half.next (by omega)
        have fin : ∀ l', l'.length = N → Gd lt l0 l' a N → (∀ p, Blk (2 * w) p → p < a → Gd lt l0 l' p (p + 2 * w)) → ∀ p, Blk (2 * w) p → Gd lt l0 l' p (p + 2 * w) := fun l' q1 q2 q3 p hpb => by
          rcases Nat.lt_or_ge p a with h | h
          · exact q3 p hpb h
          · rcases Nat.lt_or_ge p (a + 2 * w) with h2 | h2
            · have : p + 2 * w ≤ a + 2 * w := hpb.le ha.next h2
              rw [show p = a by omega, Gd, seg_end (l := l') (r := N) (by omega) (by omega), seg_end (l := l0) (r := N) (by omega) (by omega)]
              exact q2
            · have e1 : seg l' p (p + 2 * w) = [] := List.length_eq_zero_iff.1 (by rw [seg_len]; omega)
              have e2 : seg l0 p (p + 2 * w) = [] := List.length_eq_zero_iff.1 (by rw [seg_len]; omega)
              rw [Gd, e1, e2]
              exact ⟨List.Perm.refl _, List.Pairwise.nil⟩
        by_cases hm : a + w < N
        · have hm' : ((a + w : Nat) : Int) < (N : Int) := by omega
          rw [Gd, seg_end (l := l) (r := N) (by omega) (by omega), seg_end (l := l0) (r := N) (by omega) (by omega)] at gB
          obtain ⟨l', g1, g2, g3, g4⟩ := mrg_step (a := a) (m := a + w) (b := N) hO hC hK hN2 h0 hl hS hp (by omega) hm (Nat.le_refl _) gA gB
          simp only [b102_2, k102_0, go_sem, hlt', v1, hm']
          refine goM g4 ?_
          simp only [go_sem, w2]
          exact loopQ_go rfl (N - 2 * w) (by omega) ⟨2 * w, l', by omega, by omega, rfl, g1, fin l' g1 g2 fun p hpb h => g3 p (p + 2 * w) (.inl (hpb.le ha h)) (hG1 p hpb h), rfl⟩
        · have hm' : ¬ ((a + w : Nat) : Int) < (N : Int) := by omega
          rw [Gd, seg_end (l := l) (r := N) (by omega) (by omega), seg_end (l := l0) (r := N) (by omega) (by omega)] at gA
          simp only [b102_2, k102_0, go_sem, hlt', v1, hm', w2]
          exact loopQ_go rfl (N - 2 * w) (by omega) ⟨2 * w, l, by omega, by omega, rfl, hl, fin l hl gA hG1, rfl⟩
    · have hwn' : ¬ (w : Int) < (N : Int) := by omega
      have g := hG 0 Blk.zero
      have e : ∀ x : List Int, x.length = N → seg x 0 (0 + w) = x := fun x hx => by rw [seg, List.drop_zero, List.take_of_length_le (by omega)]
      rw [Gd, e l hl, e l0 h0] at g
      simp only [b102_1, go_sem, hwn']
      exact ⟨l, g, by simp only [i102, Out, resAll, geto, ints, List.getElem?_cons_zero, List.getElem?_cons_succ, resOf, outOf, snap, snapL, ev, getE, List.mapM_cons, List.mapM_nil, Option.bind_some, Option.pure_def, Option.bind_eq_bind, Option.map_some, reduceIte, Nat.reduceEqDiff, true_and, and_true]⟩
theorem c58_ok {l0 : List Int} (hO : Ord lt) (hC : CmpOk (Go.V.Call tab E) M1 M2 N f caps bs Sd c) (hK : M1.length = K) (hN2 : N ≤ 1000000) (h0 : l0.length = N) (hS : ∀ x ∈ l0, Sd x) (hp : l0.Pairwise (Hc c lt)) :
    ∃ l, l.Perm l0 ∧ l.Pairwise lt ∧ Go.V.Call tab E 58 [.arr K 0, .fn f caps] (rowM M1 M2 N l0) (.tup []) (rowM M1 M2 N l) := by
  obtain ⟨l, g1, g2, g3⟩ := c102_ok hO hC hK hN2 h0 hS hp
  refine ⟨l, g1, g2, Go.V.Call.mach i58 c58 rfl rfl rfl rfl ?_⟩
  have hg : ∀ o : AObj, (M1 ++ o :: M2)[K]? = some o := fun o => row_get hK
  simp only [rowM] at g3
  simp only [c58, rowM, go_sem, hg]
  refine goM g3 ?_
  simp only [go_sem]
  simp only [i58, Out, resAll, geto, ints, List.getElem?_cons_zero, List.getElem?_cons_succ, resOf, outOf, snap, snapL, ev, getE, List.mapM_cons, List.mapM_nil, Option.bind_some, Option.pure_def, Option.bind_eq_bind, Option.map_some, reduceIte, Nat.reduceEqDiff, true_and, and_true]
end
structure Cf {α : Type} (v : α → α → Int) : Prop where
  anti : ∀ {x y : α}, v x y < 0 ↔ 0 < v y x
  neg : ∀ {x y : α} (z : α), v x y < 0 → v x z < 0 ∨ v z y < 0
theorem Cf.irr {α : Type} {v : α → α → Int} (h : Cf v) {x : α} : ¬ v x x < 0 := fun hx => by
  have := h.anti.1 hx
  omega
theorem Cf.tra {α : Type} {v : α → α → Int} (h : Cf v) {x y z : α} (h1 : v x y < 0) (h2 : v y z < 0) : v x z < 0 := by
  rcases h.neg z h1 with h3 | h3
  · exact h3
  · have := h.anti.1 h2
    omega
theorem Cf.flip {α : Type} {v : α → α → Int} (h : Cf v) : Cf fun x y => v y x := ⟨h.anti, fun z h1 => (h.neg z h1).symm⟩
def cmpI (x y : Int) : Int := if x < y then -1 else if y < x then 1 else 0
theorem cmpI_cf : Cf cmpI := by
  constructor
  · intro x y; unfold cmpI; split <;> split <;> (try split) <;> (try split) <;> omega
  · intro x y z; unfold cmpI; split <;> split <;> split <;> (try split) <;> (try split) <;> (try split) <;> omega
def sg (x : Rt) : Int := if x.1 then -(x.2.1 : Int) else x.2.1
def dnI (x : Rt) : Int := (dn x.2.2 : Nat)
theorem dnI_pos {x : Rt} : 0 < dnI x := by
  unfold dnI dn
  split <;> omega
theorem wcmp_sg {b d : Bool} {p q : Nat} : (wcmp ((b != false) && decide (p ≠ 0)) p ((d != false) && decide (q ≠ 0)) q < 0 ↔ (if b then -(p : Int) else p) < (if d then -(q : Int) else q)) ∧
    (0 < wcmp ((b != false) && decide (p ≠ 0)) p ((d != false) && decide (q ≠ 0)) q ↔ (if d then -(q : Int) else q) < (if b then -(p : Int) else p)) := by
  by_cases hp : p = 0 <;> by_cases hq : q = 0 <;> cases b <;> cases d <;> simp [wcmp, cmpZ, hp, hq] <;> (try split) <;> (try split) <;> (try omega)
theorem rcmp_sg {x y : Rt} : (rcmp x y < 0 ↔ sg x * dnI y < sg y * dnI x) ∧ (0 < rcmp x y ↔ sg y * dnI x < sg x * dnI y) := by
  have h := wcmp_sg (b := x.1) (d := y.1) (p := x.2.1 * dn y.2.2) (q := y.2.1 * dn x.2.2)
  have e : ∀ (b : Bool) (p d : Nat), (if b then -((p * d : Nat) : Int) else ((p * d : Nat) : Int)) = (if b then -(p : Int) else p) * (d : Int) := fun b p d => by
    cases b
    · simp
    · simp [Int.neg_mul]
  rw [e, e] at h
  exact h
theorem rcmp_cf : Cf rcmp := by
  constructor
  · intro x y
    rw [rcmp_sg.1, rcmp_sg.2]
  · intro x y z
    rw [rcmp_sg.1, rcmp_sg.1, rcmp_sg.1]
    intro h
    by_cases h1 : sg x * dnI z < sg z * dnI x
    · exact .inl h1
    · refine .inr ?_
      have hx := dnI_pos (x := x)
      have hy := dnI_pos (x := y)
      have hz := dnI_pos (x := z)
      have a1 := Int.mul_le_mul_of_nonneg_right (show sg z * dnI x ≤ sg x * dnI z by omega) (Int.le_of_lt hy)
      have a2 := Int.mul_lt_mul_of_pos_right h hz
      refine Int.lt_of_mul_lt_mul_right (a := dnI x) ?_ (Int.le_of_lt hx)
      have e1 : sg z * dnI y * dnI x = sg z * dnI x * dnI y := by rw [Int.mul_assoc, Int.mul_comm (dnI y), ← Int.mul_assoc]
      have e2 : sg x * dnI z * dnI y = sg x * dnI y * dnI z := by rw [Int.mul_assoc, Int.mul_comm (dnI z), ← Int.mul_assoc]
      have e3 : sg y * dnI z * dnI x = sg y * dnI x * dnI z := by rw [Int.mul_assoc, Int.mul_comm (dnI z), ← Int.mul_assoc]
      rw [e1, e3]
      omega
def ordV (ch : Bool) (t : List Int) (L : List Rt) (i : Int) (t' : List Int) (L' : List Rt) (k : Int) : Int := if ch then cmpI (runeAt t i) (runeAt t' k) else rcmp (pickR L i) (pickR L' k)
theorem ordV_cf {ch : Bool} {t : List Int} {L : List Rt} : Cf fun i k : Int => ordV ch t L i t L k := by
  cases ch with
  | true => exact ⟨cmpI_cf.anti, fun z => cmpI_cf.neg _⟩
  | false => exact ⟨rcmp_cf.anti, fun z => rcmp_cf.neg _⟩
def stb (v : Int → Int → Int) (i k : Int) : Prop := v i k < 0 ∨ (v i k = 0 ∧ i < k)
theorem Cf.zero {α : Type} {v : α → α → Int} (h : Cf v) {x y : α} : v x y = 0 ↔ ¬ v x y < 0 ∧ ¬ v y x < 0 := by
  have h1 := h.anti (x := x) (y := y)
  have h2 := h.anti (x := y) (y := x)
  omega
theorem stb_ord {v : Int → Int → Int} (h : Cf v) : Ord (stb v) := by
  constructor
  · intro x y z h1 h2
    unfold stb at *
    rw [h.zero] at *
    rcases h1 with h1 | ⟨⟨a1, a2⟩, a3⟩ <;> rcases h2 with h2 | ⟨⟨b1, b2⟩, b3⟩
    · exact .inl (h.tra h1 h2)
    · rcases h.neg z h1 with h3 | h3
      · exact .inl h3
      · exact absurd h3 b2
    · rcases h.neg x h2 with h3 | h3
      · exact absurd h3 a2
      · exact .inl h3
    · refine .inr ⟨⟨fun h3 => ?_, fun h3 => ?_⟩, by omega⟩
      · rcases h.neg y h3 with h4 | h4
        · exact a1 h4
        · exact b1 h4
      · rcases h.neg y h3 with h4 | h4
        · exact b2 h4
        · exact a2 h4
  · intro x y hxy
    unfold stb
    have h1 := h.anti (x := x) (y := y)
    have h2 := h.anti (x := y) (y := x)
    omega
  · intro x hx
    unfold stb at hx
    have := h.irr (x := x)
    omega
section
variable {E : CallRel}
theorem c105_ok {x : Int} : Go.V.Call tab E 105 [.int .i64 x] [] (.bool false) [] := by
  refine Go.V.Call.mach i105 c105 rfl rfl rfl rfl ?_
  simp only [c105, go_sem, bne_self_eq_false]
  simp only [i105, Out, resAll, geto, ints, List.getElem?_cons_zero, List.getElem?_cons_succ, resOf, outOf, snap, snapL, ev, getE, List.mapM_cons, List.mapM_nil, Option.bind_some, Option.pure_def, Option.bind_eq_bind, Option.map_some, reduceIte, Nat.reduceEqDiff, true_and, and_true]
theorem c141_ok {x : Int} : Go.V.Call tab E 141 [.int .i32 x] [] (.bool false) [] := by
  refine Go.V.Call.mach i141 c141 rfl rfl rfl rfl ?_
  simp only [c141, go_sem, bne_self_eq_false]
  simp only [i141, Out, resAll, geto, ints, List.getElem?_cons_zero, List.getElem?_cons_succ, resOf, outOf, snap, snapL, ev, getE, List.mapM_cons, List.mapM_nil, Option.bind_some, Option.pure_def, Option.bind_eq_bind, Option.map_some, reduceIte, Nat.reduceEqDiff, true_and, and_true]
theorem c62_ok {x y : Int} : Go.V.Call tab E 62 [.int .i64 x, .int .i64 y] [] (.int .i64 (cmpI x y)) [] := by
  refine Go.V.Call.mach i62 c62 rfl rfl rfl rfl ?_
  simp only [c62, go_sem, snap]
  refine goP c105_ok ?_
  simp only [go_sem, snap]
  refine goP c105_ok ?_
  by_cases h1 : x < y
  · simp only [go_sem, h1]
    simp only [i62, Out, resAll, geto, ints, List.getElem?_cons_zero, List.getElem?_cons_succ, resOf, outOf, snap, snapL, ev, getE, List.mapM_cons, List.mapM_nil, Option.bind_some, Option.pure_def, Option.bind_eq_bind, Option.map_some, reduceIte, Nat.reduceEqDiff, true_and, and_true, cmpI, h1, if_true]
  · by_cases h2 : y < x
    · simp only [go_sem, h1, h2]
      simp only [i62, Out, resAll, geto, ints, List.getElem?_cons_zero, List.getElem?_cons_succ, resOf, outOf, snap, snapL, ev, getE, List.mapM_cons, List.mapM_nil, Option.bind_some, Option.pure_def, Option.bind_eq_bind, Option.map_some, reduceIte, Nat.reduceEqDiff, true_and, and_true, cmpI, h1, h2, if_true, if_false]
    · simp only [go_sem, h1, h2]
      simp only [i62, Out, resAll, geto, ints, List.getElem?_cons_zero, List.getElem?_cons_succ, resOf, outOf, snap, snapL, ev, getE, List.mapM_cons, List.mapM_nil, Option.bind_some, Option.pure_def, Option.bind_eq_bind, Option.map_some, reduceIte, Nat.reduceEqDiff, true_and, and_true, cmpI, h1, h2, if_false]
theorem c103_ok {x y : Int} : Go.V.Call tab E 103 [.int .i32 x, .int .i32 y] [] (.int .i64 (cmpI x y)) [] := by
  refine Go.V.Call.mach i103 c103 rfl rfl rfl rfl ?_
  simp only [c103, go_sem, snap]
  refine goP c141_ok ?_
  simp only [go_sem, snap]
  refine goP c141_ok ?_
  by_cases h1 : x < y
  · simp only [go_sem, h1]
    simp only [i103, Out, resAll, geto, ints, List.getElem?_cons_zero, List.getElem?_cons_succ, resOf, outOf, snap, snapL, ev, getE, List.mapM_cons, List.mapM_nil, Option.bind_some, Option.pure_def, Option.bind_eq_bind, Option.map_some, reduceIte, Nat.reduceEqDiff, true_and, and_true, cmpI, h1, if_true]
  · by_cases h2 : y < x
    · simp only [go_sem, h1, h2]
      simp only [i103, Out, resAll, geto, ints, List.getElem?_cons_zero, List.getElem?_cons_succ, resOf, outOf, snap, snapL, ev, getE, List.mapM_cons, List.mapM_nil, Option.bind_some, Option.pure_def, Option.bind_eq_bind, Option.map_some, reduceIte, Nat.reduceEqDiff, true_and, and_true, cmpI, h1, h2, if_true, if_false]
    · simp only [go_sem, h1, h2]
      simp only [i103, Out, resAll, geto, ints, List.getElem?_cons_zero, List.getElem?_cons_succ, resOf, outOf, snap, snapL, ev, getE, List.mapM_cons, List.mapM_nil, Option.bind_some, Option.pure_def, Option.bind_eq_bind, Option.map_some, reduceIte, Nat.reduceEqDiff, true_and, and_true, cmpI, h1, h2, if_false]
end
theorem pick_RtOk {L : List Rt} (h : ∀ x ∈ L, RtOk x) {k : Int} : RtOk (pickR L k) := by
  rw [pickR]
  split
  · exact h _ (rtAt_mem (by omega))
  · exact ⟨(zR_ok (z := 0) ⟨by omega, by omega⟩).1, (zR_ok (z := 0) ⟨by omega, by omega⟩).2⟩
section
variable {s t s' t' : List Int} {ch ch' : Bool} {L L' : List Rt} {i k : Int}
theorem c61_ok (ht : (t.length : Int) ≤ 1000000000) (ht' : (t'.length : Int) ≤ 1000000000) (hL : (L.length : Int) ≤ 1000000000) (hL' : (L'.length : Int) ≤ 1000000000) (hk : ∀ x ∈ L, RtOk x) (hk' : ∀ x ∈ L', RtOk x) :
    Go.V.Call tab E 61 [.agg (arrX s ch t L), .int .i64 i, .agg (arrX s' ch' t' L'), .int .i64 k] [] (.int .i64 (ordV ch t L i t' L' k)) [] := by
  refine Go.V.Call.mach i61 c61 rfl rfl rfl rfl ?_
  have h39 := c39_ok (s := s) (t := t) (l := L) (ch := ch)
  cases ch with
  | true =>
    have h1 := c104_ok (s := s) (t := t) (l := L) (ch := true) (k := i) (by omega)
    have h2 := c104_ok (s := s') (t := t') (l := L') (ch := ch') (k := k) (by omega)
    simp only [arrX, runes, ints] at h39 h1 h2
    simp only [c61, arrX, runes, ints, go_sem, fillAll, fillIn, shiftR, shiftV, List.take_succ_cons, List.take_zero, List.drop_succ_cons, List.drop_zero, List.append_nil, Nat.zero_add, subA5]
    refine goP h39 ?_
    simp only [go_sem, fillAll, fillIn, shiftR, shiftV, List.take_succ_cons, List.take_zero, List.drop_succ_cons, List.drop_zero, List.append_nil, Nat.zero_add, subA5]
    refine goP h1 ?_
    simp only [go_sem, fillAll, fillIn, shiftR, shiftV, List.take_succ_cons, List.take_zero, List.drop_succ_cons, List.drop_zero, List.append_nil, Nat.zero_add, subA5]
    refine goP h2 ?_
    simp only [go_sem, fillAll, fillIn, shiftR, shiftV, List.take_succ_cons, List.take_zero, List.drop_succ_cons, List.drop_zero, List.append_nil, Nat.zero_add, subA5]
    refine goP c103_ok ?_
    simp only [go_sem]
    simp only [i61, Out, resAll, geto, ints, List.getElem?_cons_zero, List.getElem?_cons_succ, resOf, outOf, snap, snapL, ev, getE, List.mapM_cons, List.mapM_nil, Option.bind_some, Option.pure_def, Option.bind_eq_bind, Option.map_some, reduceIte, Nat.reduceEqDiff, true_and, and_true, ordV, if_true]
  | false =>
    have h1 := c24_ok (s := s) (t := t) (l := L) (ch := false) (k := i) (by omega)
    have h2 := c24_ok (s := s') (t := t') (l := L') (ch := ch') (k := k) (by omega)
    have h3 := c25_ok (E := E) (pick_RtOk hk (k := i)) (pick_RtOk hk' (k := k))
    have e : ordV false t L i t' L' k = rcmp (pickR L i) (pickR L' k) := rfl
    rw [e]
    generalize pickR L i = a at *
    generalize pickR L' k = b at *
    simp only [arrX, runes, ints, rtC, ratG, us32] at h39 h1 h2 h3
    simp only [c61, arrX, runes, ints, go_sem, fillAll, fillIn, shiftR, shiftV, List.take_succ_cons, List.take_zero, List.drop_succ_cons, List.drop_zero, List.append_nil, Nat.zero_add, subA5]
    refine goP h39 ?_
    simp only [go_sem, fillAll, fillIn, shiftR, shiftV, List.take_succ_cons, List.take_zero, List.drop_succ_cons, List.drop_zero, List.append_nil, Nat.zero_add, subA5]
    refine goP h1 ?_
    simp only [go_sem, fillAll, fillIn, shiftR, shiftV, List.take_succ_cons, List.take_zero, List.drop_succ_cons, List.drop_zero, List.append_nil, Nat.zero_add, subA5]
    refine goP h2 ?_
    simp only [go_sem, fillAll, fillIn, shiftR, shiftV, List.take_succ_cons, List.take_zero, List.drop_succ_cons, List.drop_zero, List.append_nil, Nat.zero_add, subA5]
    refine goP h3 ?_
    simp only [go_sem]
    simp only [i61, Out, resAll, geto, ints, List.getElem?_cons_zero, List.getElem?_cons_succ, resOf, outOf, snap, snapL, ev, getE, List.mapM_cons, List.mapM_nil, Option.bind_some, Option.pure_def, Option.bind_eq_bind, Option.map_some, reduceIte, Nat.reduceEqDiff, true_and, and_true]
theorem c101_ok (ht : (t.length : Int) ≤ 1000000000) (hL : (L.length : Int) ≤ 1000000000) (hk : ∀ x ∈ L, RtOk x) :
    Go.V.Call tab E 101 [.int .i64 i, .int .i64 k, .ptr (arrX s ch t L) 0] [] (.int .i64 (ordV ch t L i t L k)) [] := by
  refine Go.V.Call.mach i101 c101 rfl rfl rfl rfl ?_
  have h := c61_ok (s := s) (s' := s) (t := t) (t' := t) (ch := ch) (ch' := ch) (L := L) (L' := L) (i := i) (k := k) ht ht hL hL hk hk
  simp only [arrX, runes, ints] at h
  simp only [c101, arrX, runes, ints, go_sem, fillAll, fillIn, shiftR, shiftV, List.take_succ_cons, List.take_zero, List.drop_succ_cons, List.drop_zero, List.append_nil, Nat.zero_add, subA5]
  refine goP h ?_
  simp only [go_sem]
  simp only [i101, Out, resAll, geto, ints, List.getElem?_cons_zero, List.getElem?_cons_succ, resOf, outOf, snap, snapL, ev, getE, List.mapM_cons, List.mapM_nil, Option.bind_some, Option.pure_def, Option.bind_eq_bind, Option.map_some, reduceIte, Nat.reduceEqDiff, true_and, and_true, ownOut, ownL, ownV, scalar, Nat.zero_add]
def rng (n : Nat) : List Int := (List.range n).map fun i : Nat => (i : Int)
theorem rng_len {n : Nat} : (rng n).length = n := by simp [rng]
theorem rng_mem {n : Nat} {x : Int} : x ∈ rng n ↔ 0 ≤ x ∧ x < n := by
  rw [rng, List.mem_map]
  constructor
  · rintro ⟨i, hi, rfl⟩
    have := List.mem_range.1 hi
    omega
  · intro h
    exact ⟨x.toNat, List.mem_range.2 (by omega), by omega⟩
theorem rng_pw {n : Nat} : (rng n).Pairwise (· < ·) := by
  rw [rng, List.pairwise_map]
  exact List.pairwise_lt_range.imp fun h => by omega
theorem Hc_stb {v : Int → Int → Int} {x y : Int} (h : x < y) : Hc v (stb v) x y := by
  refine ⟨by omega, ?_⟩
  unfold stb
  omega
theorem c57_ok (hsl : (s.length : Int) ≤ 1000000000) (hn : t.length + L.length ≤ 1000000) (hk : ∀ x ∈ L, RtOk x) :
    ∃ l, l.Perm (rng (t.length + L.length)) ∧ l.Pairwise (stb fun i k => ordV ch t L i t L k) ∧ Go.V.Call tab E 57 [.agg (arrX s ch t L)] [] (.arr 0 0) [rowI l] := by
  obtain ⟨l, g1, g2, g3⟩ := c58_ok (E := E) (M1 := [⟨true, 31, 5, 0, 1, arrX s ch t L, false⟩, ⟨false, 3, 1, 0, 0, [], false⟩]) (M2 := []) (K := 2) (N := t.length + L.length) (f := 101) (caps := [.loc 0 0 0]) (bs := [.ptr (arrX s ch t L) 0]) (Sd := fun _ => True) (c := fun i k => ordV ch t L i t L k) (lt := stb fun i k => ordV ch t L i t L k) (l0 := rng (t.length + L.length))
    (stb_ord ordV_cf) ⟨fun _ => rfl, fun x y _ _ => c101_ok (by omega) (by omega) hk⟩ rfl hn rng_len (fun _ _ => trivial) (rng_pw.imp fun h => Hc_stb h)
  have hll : l.length = t.length + L.length := by rw [g1.length_eq, rng_len]
  refine ⟨l, g1, g2, Go.V.Call.mach i57 c57 rfl rfl rfl rfl ?_⟩
  have h23 := c23_X (s := s) (t := t) (l := L) (ch := ch) (by omega) (by omega)
  generalize hN : t.length + L.length = N at *
  have z0 : (0 : Int) ≤ (N : Int) := by omega
  have z1 : 8 * N ≤ 140737488355328 := by omega
  have z2 : (N : Int) ≤ 140737488355328 := by omega
  simp only [arrX, runes, ints] at h23
  simp only [c57, arrX, runes, ints, go_sem, fillAll, fillIn, shiftR, shiftV, List.take_succ_cons, List.take_zero, List.drop_succ_cons, List.drop_zero, List.append_nil, Nat.zero_add, subA5]
  refine goP h23 ?_
  simp only [go_sem, fillAll, fillIn, shiftR, shiftV, List.take_succ_cons, List.take_zero, List.drop_succ_cons, List.drop_zero, List.append_nil, Nat.zero_add, subA5, Int.toNat_natCast, z0, z1, z2, flat_nums]
  refine mLoop (fun M st => ∃ i : Nat, i ≤ N ∧ M = N - i ∧ st = ⟨[(1, .loc 0 0 0), (3, .arr 2 0), (9, .int .i64 N), (10, .int .i64 i)],
    [⟨true, 31, 5, 0, 1, arrX s ch t L, false⟩, ⟨false, 3, 1, 0, 0, [], false⟩, ⟨false, 3, 1, 0, N, nums .i64 ((rng N).take i ++ List.replicate (N - i) 0), false⟩]⟩) N ⟨_, rfl, 0, by omega, by omega, by simp [getE, arrX, ints, runes, nums]⟩ ?_
  rintro M s0 ⟨i, hi, rfl, rfl⟩
  by_cases hlt : i < N
  · have hlt' : (i : Int) < (N : Int) := by omega
    have hi0 : (0 : Int) ≤ (i : Int) := by omega
    have hi1 : IntKind.i64.wrap ((i : Int) + 1) = ((i + 1 : Nat) : Int) := by rw [wrap_i64 (by omega) (by omega)]; omega
    have hrow : ((rng N).take i ++ List.replicate (N - i) 0).take i ++ (i : Int) :: ((rng N).take i ++ List.replicate (N - i) 0).drop (i + 1) = (rng N).take (i + 1) ++ List.replicate (N - (i + 1)) 0 := by
      have e : ((rng N).take i).length = i := by rw [List.length_take, rng_len]; omega
      rw [List.take_left' e, tk_getD (l := rng N) (by rw [rng_len]; omega), List.drop_append, List.drop_eq_nil_of_le (by omega), e]
      simp [rng, List.getD, hlt]
      omega
    have hst : i * 1 + 1 ≤ ((rng N).take i ++ List.replicate (N - i) 0).length := by
      rw [List.length_append, List.length_take, rng_len, List.length_replicate]; omega
    generalize (rng N).take i ++ List.replicate (N - i) 0 = y at *
    simp only [b57_0, go_sem, mapI, hlt', hi0, Int.toNat_natCast, hst, put_nums, hrow, hi1]
    exact loopQ_go rfl (N - (i + 1)) (by omega) ⟨i + 1, by omega, rfl, rfl⟩
  · have hlt' : ¬ (i : Int) < (N : Int) := by omega
    obtain rfl : i = N := by omega
    rw [List.take_of_length_le (by rw [rng_len]; omega), Nat.sub_self, List.replicate_zero, List.append_nil]
    simp only [rowM, arrX, runes, ints, List.cons_append, List.nil_append] at g3
    simp only [b57_0, k57_0, arrX, runes, ints, go_sem, fillAll, fillIn, shiftR, shiftV, List.take_succ_cons, List.take_zero, List.drop_succ_cons, List.drop_zero, List.append_nil, Nat.zero_add, hlt']
    refine goM g3 ?_
    simp only [go_sem]
    simp only [i57, Out, resAll, geto, ints, List.getElem?_cons_zero, List.getElem?_cons_succ, resOf, outOf, snap, snapL, ev, getE, List.mapM_cons, List.mapM_nil, Option.bind_some, Option.pure_def, Option.bind_eq_bind, Option.map_some, reduceIte, Nat.reduceEqDiff, true_and, and_true, ownOut, ownL, ownV, scalar, List.contains_nil, List.length_nil, List.length_cons, List.nil_append, List.cons_append, storeOp, apartOf, freeze_nil, refsL, refs, List.flatMap_cons, List.flatMap_nil, List.append_nil, List.contains_nil, List.set_cons_zero, List.set_cons_succ, snap, snapL, fill_nums, flat_nums, nums_length, reduceCtorEq, Bool.false_eq_true, and_self, not_false_eq_true, beq_self_eq_true, Nat.zero_add, rowI, hll]
end
def orI : List Int → Int
  | [] => 0
  | a :: l => if a ≠ 0 then a else orI l
section
variable {E : CallRel}
theorem c60_ok {l : List Int} (hl : (l.length : Int) ≤ 1000000) : Go.V.Call tab E 60 [ints l] [] (.int .i64 (orI l)) [] := by
  refine Go.V.Call.mach i60 c60 rfl rfl rfl rfl ?_
  simp only [c60, go_sem]
  refine mLoop (fun N st => ∃ i : Nat, i ≤ l.length ∧ N = l.length - i ∧ orI l = orI (l.drop i) ∧ st = ⟨[(3, .int .i64 0), (6, ints l), (7, .int .i64 l.length), (8, .int .i64 i)], []⟩) l.length ⟨_, rfl, 0, by omega, by omega, rfl, rfl⟩ ?_
  rintro N s0 ⟨i, hi, rfl, hx, rfl⟩
  by_cases hlt : i < l.length
  · have hlt' : (i : Int) < (l.length : Int) := by omega
    have hi0 : (0 : Int) ≤ (i : Int) := by omega
    have hi1 : IntKind.i64.wrap ((i : Int) + 1) = ((i + 1 : Nat) : Int) := by rw [wrap_i64 (by omega) (by omega)]; omega
    have hsub := sub_nums (k := .i64) hlt
    rw [getD_drop hlt, orI] at hx
    by_cases he : l.getD i 0 = 0
    · rw [if_neg (by omega)] at hx
      have he' : (l.getD i 0 != 0) = false := by rw [he]; rfl
      simp only [b60_0, go_sem, hlt', hi0, Int.toNat_natCast, hsub, he', hi1]
      exact loopQ_go rfl (l.length - (i + 1)) (by omega) ⟨i + 1, by omega, rfl, hx, rfl⟩
    · rw [if_pos he] at hx
      have he' : (l.getD i 0 != 0) = true := by rw [bne_iff_ne]; exact he
      simp only [b60_0, go_sem, hlt', hi0, Int.toNat_natCast, hsub, he']
      simp only [i60, Out, resAll, geto, ints, List.getElem?_cons_zero, List.getElem?_cons_succ, resOf, outOf, snap, snapL, ev, getE, List.mapM_cons, List.mapM_nil, Option.bind_some, Option.pure_def, Option.bind_eq_bind, Option.map_some, reduceIte, Nat.reduceEqDiff, true_and, and_true, hx]
  · have hlt' : ¬ (i : Int) < (l.length : Int) := by omega
    rw [List.drop_eq_nil_of_le (by omega), orI] at hx
    simp only [b60_0, k60_0, go_sem, hlt']
    simp only [i60, Out, resAll, geto, ints, List.getElem?_cons_zero, List.getElem?_cons_succ, resOf, outOf, snap, snapL, ev, getE, List.mapM_cons, List.mapM_nil, Option.bind_some, Option.pure_def, Option.bind_eq_bind, Option.map_some, reduceIte, Nat.reduceEqDiff, true_and, and_true, hx]
end
def dwnV (v : Int → Int → Int) (i k : Int) : Int := orI [v k i, cmpI i k]
theorem Hc_dwn {v : Int → Int → Int} (hv : Cf v) {x y : Int} (h : x ≠ y) : Hc (dwnV v) (stb fun i k => v k i) x y := by
  refine ⟨h, ?_⟩
  have e : dwnV v y x = if v x y ≠ 0 then v x y else cmpI y x := by
    simp only [dwnV, orI]
    split
    · rfl
    · split
      · rfl
      · omega
  rw [e]
  simp only [stb, cmpI]
  split <;> (try split) <;> (try split) <;> omega
section
variable {s t : List Int} {ch : Bool} {L : List Rt} {i k o : Int}
theorem c59_ok (ht : (t.length : Int) ≤ 1000000000) (hL : (L.length : Int) ≤ 1000000000) (hk : ∀ x ∈ L, RtOk x) :
    Go.V.Call tab E 59 [.int .i64 i, .int .i64 k, .ptr (arrX s ch t L) 0] [] (.int .i64 (dwnV (fun i k => ordV ch t L i t L k) i k)) [] := by
  refine Go.V.Call.mach i59 c59 rfl rfl rfl rfl ?_
  have h := c61_ok (s := s) (s' := s) (t := t) (t' := t) (ch := ch) (ch' := ch) (L := L) (L' := L) (i := k) (k := i) ht ht hL hL hk hk
  have h60 := c60_ok (E := E) (l := [ordV ch t L k t L i, cmpI i k]) (by simp)
  simp only [arrX, runes, ints, nums, List.map_cons, List.map_nil, List.length_cons, List.length_nil] at h h60
  simp only [c59, arrX, runes, ints, go_sem, fillAll, fillIn, shiftR, shiftV, List.take_succ_cons, List.take_zero, List.drop_succ_cons, List.drop_zero, List.append_nil, Nat.zero_add, subA5]
  refine goP h ?_
  simp only [go_sem, fillAll, fillIn, shiftR, shiftV, List.take_succ_cons, List.take_zero, List.drop_succ_cons, List.drop_zero, List.append_nil, Nat.zero_add]
  refine goP c62_ok ?_
  simp only [go_sem, fillAll, fillIn, shiftR, shiftV, List.take_succ_cons, List.take_zero, List.drop_succ_cons, List.drop_zero, List.append_nil, Nat.zero_add, List.flatten_cons, List.flatten_nil]
  refine goR h60 rfl ?_
  simp only [go_sem]
  simp only [i59, Out, resAll, geto, ints, List.getElem?_cons_zero, List.getElem?_cons_succ, resOf, outOf, snap, snapL, ev, getE, List.mapM_cons, List.mapM_nil, Option.bind_some, Option.pure_def, Option.bind_eq_bind, Option.map_some, reduceIte, Nat.reduceEqDiff, true_and, and_true, dwnV]
def grdM (s t : List Int) (ch : Bool) (L : List Rt) : List AObj :=
  [⟨true, 31, 5, 0, 1, arrX s ch t L, false⟩, ⟨false, 3, 1, 0, 0, [], false⟩, ⟨false, 21, 1, 0, 0, [], false⟩, ⟨false, 57, 3, 0, 0, [], false⟩, ⟨true, 31, 5, 0, 1, [.arr 1 0, .bool false, .arr 2 0, .arr 3 0, .bool false], false⟩]
def plus (l : List Int) (o : Int) : List Int := l.map fun z => z + o
theorem plus_len {l : List Int} {o : Int} : (plus l o).length = l.length := by simp [plus]
theorem grd_tail {l : List Int} {N : Nat} (hN : l.length = N) (hN2 : N ≤ 1000000) (ho : 0 ≤ o ∧ o ≤ 1) (hl : ∀ z ∈ l, 0 ≤ z ∧ z < N) :
    Mach (Go.V.Call tab E) (Fin i18 [] (.tup [.agg (arrX [(N : Int)] false [] ((plus l o).map zR)), .int .i64 0]) []) [.code (.loop [2, 6, 8, 21, 22] (some (6, [])) b18_0), .endb 0, .code k18_0] .nrm
      ⟨[(2, .int .i64 o), (6, .loc 4 0 0), (8, .arr 5 0), (21, .int .i64 N), (22, .int .i64 0)], rowM (grdM s t ch L) [] N l⟩ := by
  have hp64 : ∀ z ∈ plus l o, In64 z := fun z hz => by
    obtain ⟨x, hx, rfl⟩ := List.mem_map.1 hz
    have := hl x hx
    exact ⟨by omega, by omega⟩
  have h34 := c34_X (l := plus l o) (by rw [plus_len]; omega) hp64
  rw [plus_len, hN] at h34
  refine mLoop (fun M st => ∃ i : Nat, i ≤ N ∧ M = N - i ∧ st = ⟨[(2, .int .i64 o), (6, .loc 4 0 0), (8, .arr 5 0), (21, .int .i64 N), (22, .int .i64 i)], rowM (grdM s t ch L) [] N ((plus l o).take i ++ l.drop i)⟩) N ⟨_, rfl, 0, by omega, by omega, by simp [getE, grdM, rowM, arrX, ints, runes]⟩ ?_
  rintro M s0 ⟨i, hi, rfl, rfl⟩
  by_cases hlt : i < N
  · have hlt' : (i : Int) < (N : Int) := by omega
    have hi0 : (0 : Int) ≤ (i : Int) := by omega
    have hi1 : IntKind.i64.wrap ((i : Int) + 1) = ((i + 1 : Nat) : Int) := by rw [wrap_i64 (by omega) (by omega)]; omega
    have hlm := hl (l.getD i 0) (getD_memI (by omega))
    have e : ((plus l o).take i).length = i := by rw [List.length_take, plus_len]; omega
    have e1 : (plus l o).take i ++ l.drop i = (plus l o).take i ++ l.getD i 0 :: l.drop (i + 1) := by rw [getD_drop (by omega)]
    have e2 : (plus l o).take (i + 1) = (plus l o).take i ++ [l.getD i 0 + o] := by
      rw [tk_getD (by rw [plus_len]; omega)]
      simp [plus, List.getD, show i < l.length by omega]
    have g1 : ((plus l o).take i ++ l.drop i).getD i 0 = l.getD i 0 := by rw [e1]; exact at_get e
    have g2 : ((plus l o).take i ++ l.drop i).take i ++ (l.getD i 0 + o) :: ((plus l o).take i ++ l.drop i).drop (i + 1) = (plus l o).take (i + 1) ++ l.drop (i + 1) := by
      rw [e1, at_put e, e2]; simp
    have g3 : ((plus l o).take i ++ l.drop i).length = N := by rw [List.length_append, e, List.length_drop]; omega
    have w1 : IntKind.i64.wrap (l.getD i 0 + o) = l.getD i 0 + o := wrap_i64 (by omega) (by omega)
    generalize (plus l o).take i ++ l.drop i = y at *
    have hsub := sub_nums (k := .i64) (l := y) (i := i) (by omega)
    rw [g1] at hsub
    have hst : i * 1 + 1 ≤ y.length := by omega
    simp only [b18_0, rowM, grdM, go_sem, fillAll, fillIn, shiftR, shiftV, List.take_succ_cons, List.take_zero, List.drop_succ_cons, List.drop_zero, List.append_nil, Nat.zero_add, hlt', hi0, Int.toNat_natCast, hsub, w1, hst, put_nums, g2, hi1]
    exact loopQ_go rfl (N - (i + 1)) (by omega) ⟨i + 1, by omega, rfl, rfl⟩
  · have hlt' : ¬ (i : Int) < (N : Int) := by omega
    obtain rfl : i = N := by omega
    rw [List.take_of_length_le (by rw [plus_len]; omega), List.drop_eq_nil_of_le (by omega), List.append_nil]
    simp only [arrX, runes, ints, plus_len, hN] at h34
    simp only [b18_0, k18_0, rowM, grdM, arrX, runes, ints, go_sem, fillAll, fillIn, shiftR, shiftV, List.take_succ_cons, List.take_zero, List.drop_succ_cons, List.drop_zero, List.append_nil, Nat.zero_add, hlt']
    refine goF h34 ?_
    simp only [go_sem, fillAll, fillIn, shiftR, shiftV, List.take_succ_cons, List.take_zero, List.drop_succ_cons, List.drop_zero, List.append_nil, Nat.zero_add, subA5]
    simp only [i18, Out, resAll, geto, ints, List.getElem?_cons_zero, List.getElem?_cons_succ, resOf, outOf, snap, snapL, ev, getE, List.mapM_cons, List.mapM_nil, Option.bind_some, Option.pure_def, Option.bind_eq_bind, Option.map_some, reduceIte, Nat.reduceEqDiff, true_and, and_true, subA5]
theorem hone1 : (((1 : Nat) : Int) != 1) = false := rfl
def grdO (down : Bool) (ch : Bool) (t : List Int) (L : List Rt) : Int → Int → Prop := stb fun i k => if down then ordV ch t L k t L i else ordV ch t L i t L k
theorem c18_ok {down : Bool} (hs1 : s.length = 1) (hn : t.length + L.length ≤ 1000000) (hk : ∀ x ∈ L, RtOk x) (ho : 0 ≤ o ∧ o ≤ 1) :
    ∃ l, l.Perm (rng (t.length + L.length)) ∧ l.Pairwise (grdO down ch t L) ∧ Go.V.Call tab E 18 [.agg (arrX s ch t L), .bool down, .int .i64 o] [] (.tup [.agg (arrX [((t.length + L.length : Nat) : Int)] false [] ((plus l o).map zR)), .int .i64 0]) [] := by
  obtain ⟨l, g1, g2, g3⟩ := c57_ok (s := s) (t := t) (ch := ch) (L := L) (by omega) hn hk
  have h38 := c38_X (s := s) (t := t) (l := L) (ch := ch) (by omega)
  rw [hs1] at h38
  have hll : l.length = t.length + L.length := by rw [g1.length_eq, rng_len]
  have hmem : ∀ x : List Int, x.Perm (rng (t.length + L.length)) → ∀ z ∈ x, 0 ≤ z ∧ z < ((t.length + L.length : Nat) : Int) := fun x hx z hz => rng_mem.1 (hx.mem_iff.1 hz)
  cases down with
  | false =>
    refine ⟨l, g1, g2, Go.V.Call.mach i18 c18 rfl rfl rfl rfl ?_⟩
    have tail := grd_tail (s := s) (t := t) (ch := ch) (L := L) (o := o) hll hn ho (hmem l g1)
    simp only [rowM, grdM, List.cons_append, List.nil_append] at tail
    simp only [arrX, runes, ints, rowI, hll] at h38 g3 tail
    simp only [c18, arrX, runes, ints, go_sem, fillAll, fillIn, shiftR, shiftV, List.take_succ_cons, List.take_zero, List.drop_succ_cons, List.drop_zero, List.append_nil, Nat.zero_add, subA5]
    refine goP h38 ?_
    simp only [go_sem, fillAll, fillIn, shiftR, shiftV, List.take_succ_cons, List.take_zero, List.drop_succ_cons, List.drop_zero, List.append_nil, Nat.zero_add, subA5, hone1]
    refine goO g3 rfl rfl ?_
    simp only [go_sem, fillAll, fillIn, shiftR, shiftV, List.take_succ_cons, List.take_zero, List.drop_succ_cons, List.drop_zero, List.append_nil, Nat.zero_add, subA5]
    exact tail
  | true =>
    have hnd : l.Pairwise fun x y => x ≠ y := (g1.symm.pairwise (rng_pw.imp fun h => (by omega))) (fun h => h.symm)
    obtain ⟨l2, q1, q2, q3⟩ := c58_ok (E := E) (M1 := grdM s t ch L) (M2 := []) (K := 5) (N := t.length + L.length) (f := 59) (caps := [.loc 0 0 0]) (bs := [.ptr (arrX s ch t L) 0]) (Sd := fun _ => True) (c := dwnV fun i k => ordV ch t L i t L k) (lt := grdO true ch t L) (l0 := l)
      (stb_ord ordV_cf.flip) ⟨fun _ => rfl, fun x y _ _ => c59_ok (by omega) (by omega) hk⟩ rfl hn hll (fun _ _ => trivial) (hnd.imp fun h => Hc_dwn ordV_cf h)
    have hll2 : l2.length = t.length + L.length := by rw [q1.length_eq, hll]
    refine ⟨l2, q1.trans g1, q2, Go.V.Call.mach i18 c18 rfl rfl rfl rfl ?_⟩
    have tail := grd_tail (s := s) (t := t) (ch := ch) (L := L) (o := o) hll2 hn ho (hmem l2 (q1.trans g1))
    simp only [rowM, grdM, List.cons_append, List.nil_append] at tail q3
    simp only [arrX, runes, ints, rowI, hll] at h38 g3 tail q3
    simp only [c18, arrX, runes, ints, go_sem, fillAll, fillIn, shiftR, shiftV, List.take_succ_cons, List.take_zero, List.drop_succ_cons, List.drop_zero, List.append_nil, Nat.zero_add, subA5]
    refine goP h38 ?_
    simp only [go_sem, fillAll, fillIn, shiftR, shiftV, List.take_succ_cons, List.take_zero, List.drop_succ_cons, List.drop_zero, List.append_nil, Nat.zero_add, subA5, hone1]
    refine goO g3 rfl rfl ?_
    simp only [go_sem, fillAll, fillIn, shiftR, shiftV, List.take_succ_cons, List.take_zero, List.drop_succ_cons, List.drop_zero, List.append_nil, Nat.zero_add, subA5]
    refine goM q3 ?_
    simp only [go_sem, fillAll, fillIn, shiftR, shiftV, List.take_succ_cons, List.take_zero, List.drop_succ_cons, List.drop_zero, List.append_nil, Nat.zero_add, subA5]
    exact tail
end
theorem c17_awake : Go.V.Call tab E 17 [] [] (.bool true) [] := Go.V.Call.run (ext := ext) (fun h => h) (fuel := 1000) (n := 60) (by kernel_rfl)
theorem c16_ok {s t : List Int} {l : List Nm} {ch ok : Bool} (hs : ∀ d ∈ s, In64 d) (hu : ∀ x ∈ l, U8 x.2.1 ∧ U8 x.2.2) (hok : ok = true ↔ LightP s ch t l 120) : Go.V.Call tab E 16 [.agg (plX s ch t l)] [] (.bool ok) [] := by
  refine Go.V.Call.mach i16 c16 rfl rfl rfl rfl ?_
  have h := c32_ok (s := s) (t := t) (l := l) (ch := ch) (ok := ok) (most := 120) (by omega) hs hu hok
  simp only [plX, runes, ints] at h
  simp only [c16, plX, runes, ints, go_sem, fillAll, fillIn, shiftR, shiftV, List.take_succ_cons, List.take_zero, List.drop_succ_cons, List.drop_zero, List.append_nil, Nat.zero_add, subP4]
  refine goP h ?_
  simp only [go_sem]
  simp only [i16, Out, resAll, geto, ints, List.getElem?_cons_zero, List.getElem?_cons_succ, resOf, outOf, snap, snapL, ev, getE, List.mapM_cons, List.mapM_nil, Option.bind_some, Option.pure_def, Option.bind_eq_bind, Option.map_some, reduceIte, Nat.reduceEqDiff, true_and, and_true]
def metC (g : List Int) (n : Nat) : List AV := (List.range n).map fun j : Nat => .bool (decide ((j : Int) ∈ g))
theorem metC_len {g : List Int} {n : Nat} : (metC g n).length = n := by simp [metC]
theorem metC_nil : ∀ {n : Nat}, (List.replicate n [AV.bool false]).flatten = metC [] n
  | 0 => rfl
  | n + 1 => by
    rw [List.replicate_succ', List.flatten_append, metC_nil, metC, metC, List.range_succ, List.map_append]
    simp
theorem met_get {g : List Int} {n q : Nat} (h : q < n) : sub false 1 (metC g n) (q * 1) = some (.bool (decide ((q : Int) ∈ g))) := by
  simp [sub, metC, h]
  omega
theorem met_put {g : List Int} {n q : Nat} (h : q < n) : List.take (q * 1) (metC g n) ++ [.bool true] ++ List.drop (q * 1 + 1) (metC g n) = metC (g ++ [(q : Int)]) n := by
  rw [Nat.mul_one, List.append_assoc, List.singleton_append]
  have e : (metC g n).set q (.bool true) = List.take q (metC g n) ++ AV.bool true :: List.drop (q + 1) (metC g n) := by
    rw [List.set_eq_take_append_cons_drop, if_pos (by rw [metC_len]; exact h)]
  rw [← e]
  refine List.ext_getElem (by simp [metC]) fun j h1 h2 => ?_
  have hj : j < n := by simpa [metC] using h2
  rw [List.getElem_set]
  simp only [metC, List.getElem_map, List.getElem_range, List.mem_append, List.mem_singleton]
  split
  · rename_i hq; subst hq; simp
  · rename_i hq
    congr 1
    have : ¬ (j : Int) = (q : Int) := by omega
    simp [this]
theorem subQ1 {a b c d : AV} : sub false 1 [a, b, c, d] 1 = some b := rfl
theorem subQ2 {a b c d : AV} : sub false 1 [a, b, c, d] 2 = some c := rfl
def risM (s t : List Int) (ch : Bool) (l : List Nm) (L : List Rt) (n : Nat) (g : List Int) (i : Nat) : List AObj :=
  [⟨true, 26, 4, 0, 1, plX s ch t l, false⟩, ⟨false, 3, 1, 0, 0, [], false⟩, ⟨false, 21, 1, 0, 0, [], false⟩, ⟨false, 57, 3, 0, 0, [], false⟩, ⟨true, 31, 5, 0, 1, arrX s ch t L, false⟩, ⟨false, 3, 1, 0, 0, [], false⟩, ⟨false, 21, 1, 0, 0, [], false⟩, ⟨false, 57, 3, 0, 0, [], false⟩, ⟨true, 31, 5, 0, 1, arrX [(n : Int)] false [] (g.map zR), false⟩,
    ⟨false, 3, 1, 0, n, nums .i64 g, false⟩, ⟨false, 4, 1, 0, n, metC (g.take i) n, false⟩]
theorem rises_get {ch : Bool} {t : List Int} {L : List Rt} {g : List Int} (h : g.Pairwise (grdO false ch t L)) {i : Nat} (hi : i + 1 < g.length) : ¬ 0 < ordV ch t L (g.getD i 0) t L (g.getD (i + 1) 0) := by
  have h1 := pw_get h (show i < i + 1 by omega) hi
  simp only [grdO, stb, Bool.false_eq_true, if_false] at h1
  omega
theorem cmpI_not {x y : Int} (h : ¬ 0 < cmpI x y) : ¬ y < x := fun h2 => h (by unfold cmpI; rw [if_neg (by omega), if_pos h2]; omega)
set_option maxHeartbeats 4000000 in
theorem c6_rises {s t : List Int} {l : List Nm} {ch : Bool} (hs : ∀ d ∈ s, In64 d) (hu : ∀ x ∈ l, U8 x.2.1 ∧ U8 x.2.2) : Go.V.Call tab E 6 [.agg (plX s ch t l)] [] (.bool true) [] := by
  refine Go.V.Call.mach i6 c6 rfl rfl rfl rfl ?_
  have h16 := fun ok h => c16_ok (s := s) (t := t) (l := l) (ch := ch) (ok := ok) hs hu h
  by_cases hL : LightP s ch t l 120
  · have h16t := h16 true ⟨fun _ => hL, fun _ => rfl⟩
    by_cases hs1 : s.length = 1
    · obtain ⟨l1, l2, l3, l4, hR⟩ := hL
      have hU : ∀ x ∈ l, NmU x := fun x hx => ⟨(hu x hx).1, (hu x hx).2, by have := (l4 x hx).1; omega, by have := (l4 x hx).2; omega⟩
      have h11 := c11_ok hs (by omega) (by omega) (by omega) hU hR
      have hlm : (l.map toRt).length = l.length := by simp
      have hlk : ∀ z ∈ l.map toRt, RtOk z := fun z hz => by
        obtain ⟨x, hx, rfl⟩ := List.mem_map.1 hz
        exact right_ok (hR.2 x hx)
      have hch : (ch = true → l.map toRt = []) ∧ (ch = false → t = []) := by
        have h1 := hR.1
        unfold Shapes at h1
        refine ⟨fun h => ?_, fun h => ?_⟩
        · subst h; rw [List.length_eq_zero_iff.1 h1.2]; rfl
        · subst h; exact h1.2
      obtain ⟨g, g1, g2, g3⟩ := c18_ok (s := s) (t := t) (ch := ch) (L := l.map toRt) (down := false) (o := 0) hs1 (by omega) hlk ⟨by omega, by omega⟩
      rw [show plus g 0 = g by simp [plus]] at g3
      have hgl : g.length = t.length + (l.map toRt).length := by rw [g1.length_eq, rng_len]
      have hgm : ∀ z ∈ g, 0 ≤ z ∧ z < ((t.length + (l.map toRt).length : Nat) : Int) := fun z hz => rng_mem.1 (g1.mem_iff.1 hz)
      have hnd : g.Pairwise fun x y => x ≠ y := (g1.symm.pairwise (rng_pw.imp fun h => (by omega))) (fun h => h.symm)
      have hg64 : ∀ z ∈ g, In64 z := fun z hz => by have := hgm z hz; exact ⟨by omega, by omega⟩
      have h22 := c22_X (s := [((t.length + (l.map toRt).length : Nat) : Int)]) (t := []) (l := g.map zR) (ch := false) (ok := true) (by simp) (by simp; omega) ⟨fun _ => ⟨by simp, fun x hx => by
        obtain ⟨d, hd, rfl⟩ := List.mem_map.1 hx
        rw [rint_zR (hg64 d hd)]; rfl⟩, fun _ => rfl⟩
      rw [if_pos rfl, map_rv_zR hg64] at h22
      have h23 := c23_X (s := s) (t := t) (l := l.map toRt) (ch := ch) (by omega) (by omega)
      have h24 := fun k => c24_ok (s := s) (t := t) (l := l.map toRt) (ch := ch) (k := k) (by omega)
      have h25 := fun i k => c25_ok (E := E) (pick_RtOk hlk (k := i)) (pick_RtOk hlk (k := k))
      have hsne : ((s.length : Int) != 1) = false := by rw [hs1]; rfl
      have hNs : t.length + (l.map toRt).length ≤ 1000 := by omega
      have hnt : ch = true → (t.length + (l.map toRt).length) = t.length := fun h => by rw [hch.1 h]; rfl
      generalize l.map toRt = L at *
      generalize hN : t.length + L.length = N at *
      have z0 : (0 : Int) ≤ (N : Int) := by omega
      have z1 : 1 * N ≤ 140737488355328 := by omega
      have z2 : (N : Int) ≤ 140737488355328 := by omega
      have hnn : ((N : Int) != (N : Int)) = false := by rw [bne_self_eq_false]
      simp only [plX, arrX, runes, ints, rowI, hgl] at h16t h11 g3 h22 h23
      simp only [c6, plX, runes, ints, go_sem, fillAll, fillIn, shiftR, shiftV, List.take_succ_cons, List.take_zero, List.drop_succ_cons, List.drop_zero, List.append_nil, Nat.zero_add, subP4]
      refine goP h16t ?_
      simp only [go_sem, fillAll, fillIn, shiftR, shiftV, List.take_succ_cons, List.take_zero, List.drop_succ_cons, List.drop_zero, List.append_nil, Nat.zero_add, subP4, subP4a, hsne]
      refine goP h11 ?_
      simp only [go_sem, fillAll, fillIn, shiftR, shiftV, List.take_succ_cons, List.take_zero, List.drop_succ_cons, List.drop_zero, List.append_nil, Nat.zero_add, subP4, subA5]
      refine goF g3 ?_
      simp only [go_sem, fillAll, fillIn, shiftR, shiftV, List.take_succ_cons, List.take_zero, List.drop_succ_cons, List.drop_zero, List.append_nil, Nat.zero_add, subP4, subA5]
      refine goO h22 rfl rfl ?_
      simp only [go_sem, fillAll, fillIn, shiftR, shiftV, List.take_succ_cons, List.take_zero, List.drop_succ_cons, List.drop_zero, List.append_nil, Nat.zero_add, subP4, subA5, bne_self_eq_false]
      refine goR h23 rfl ?_
      simp only [go_sem, fillAll, fillIn, shiftR, shiftV, List.take_succ_cons, List.take_zero, List.drop_succ_cons, List.drop_zero, List.append_nil, Nat.zero_add, subP4, subA5, hnn, Int.toNat_natCast, z0, z1, z2, metC_nil]
      refine mLoop (fun M st => ∃ i : Nat, i ≤ N ∧ M = N - i ∧ st = ⟨[(1, .loc 0 0 0), (3, .loc 4 0 0), (6, .arr 9 0), (8, .arr 10 0), (9, .int .i64 i)], risM s t ch l L N g i⟩) N ⟨_, rfl, 0, by omega, by omega, by simp [getE, risM, arrX, plX, ints, runes]⟩ ?_
      rintro M s0 ⟨i, hi, rfl, rfl⟩
      by_cases hlt : i < N
      · have hlt' : (i : Int) < (N : Int) := by omega
        have hi0 : (0 : Int) ≤ (i : Int) := by omega
        have hi1 : IntKind.i64.wrap ((i : Int) + 1) = ((i + 1 : Nat) : Int) := by rw [wrap_i64 (by omega) (by omega)]; omega
        have hsub := sub_nums (k := .i64) (l := g) (i := i) (by omega)
        have hm := hgm (g.getD i 0) (getD_memI (by omega))
        have hnm : g.getD i 0 ∉ g.take i := fun h => by
          obtain ⟨k, hk1, hk2, hk3⟩ := mem_take h
          exact pw_get hnd hk1 (by omega) hk3
        have htk := tk_getD (l := g) (i := i) (by omega)
        obtain ⟨q, hq⟩ := Int.eq_ofNat_of_zero_le hm.1
        rw [hq] at hsub hm hnm htk
        have hqN : q < N := by omega
        have hmg := met_get (g := g.take i) hqN
        rw [decide_eq_false hnm] at hmg
        have hmp := met_put (g := g.take i) hqN
        rw [← htk] at hmp
        have m1 : ¬ (q : Int) < 0 := by omega
        have m2 : ¬ (N : Int) ≤ (q : Int) := by omega
        have m3 : (0 : Int) ≤ (q : Int) := by omega
        have m4 : (q : Int) < (N : Int) := by omega
        have hst : q * 1 + 1 ≤ (metC (g.take i) N).length := by rw [metC_len]; omega
        by_cases hz : i = 0
        · have p0 : ¬ (0 : Int) < (i : Int) := by omega
          simp only [b6_0, risM, plX, arrX, runes, ints, go_sem, fillAll, fillIn, shiftR, shiftV, List.take_succ_cons, List.take_zero, List.drop_succ_cons, List.drop_zero, List.append_nil, Nat.zero_add, subP4, subP4a, subQ1, subQ2, subA5, hlt', hi0, Int.toNat_natCast, hsub, m1, m2, m3, m4, hmg, hst, hmp, p0, hi1]
          exact loopQ_go rfl (N - (i + 1)) (by omega) ⟨i + 1, by omega, rfl, rfl⟩
        · obtain ⟨r, hr⟩ : ∃ r, r + 1 = i := ⟨i - 1, by omega⟩
          have p0 : (0 : Int) < (i : Int) := by omega
          have p1 : IntKind.i64.wrap ((i : Int) - 1) = (r : Int) := by rw [wrap_i64 (by omega) (by omega)]; omega
          have p2 : (0 : Int) ≤ (r : Int) := by omega
          have p3 : (r : Int) < (N : Int) := by omega
          have hsub2 := sub_nums (k := .i64) (l := g) (i := r) (by omega)
          have hm2 := hgm (g.getD r 0) (getD_memI (by omega))
          obtain ⟨u, hu2⟩ := Int.eq_ofNat_of_zero_le hm2.1
          have hris := rises_get g2 (i := r) (by omega)
          rw [hr, hu2, hq] at hris
          rw [hu2] at hsub2
          have u3 : (0 : Int) ≤ (u : Int) := by omega
          cases ch with
          | true =>
            have htN := hnt rfl
            have e1 : ordV true t L u t L q = cmpI (t.getD u 0) (t.getD q 0) := by
              rw [ordV, if_pos rfl, runeAt, runeAt, if_pos (by omega), if_pos (by omega), Int.toNat_natCast, Int.toNat_natCast]
            rw [e1] at hris
            have hge := cmpI_not hris
            have q4 : (q : Int) < (t.length : Int) := by omega
            have u4 : (u : Int) < (t.length : Int) := by omega
            have t1 := sub_nums (k := .i32) (l := t) (i := u) (by omega)
            have t2 := sub_nums (k := .i32) (l := t) (i := q) (by omega)
            simp only [b6_0, risM, plX, arrX, runes, ints, go_sem, fillAll, fillIn, shiftR, shiftV, List.take_succ_cons, List.take_zero, List.drop_succ_cons, List.drop_zero, List.append_nil, Nat.zero_add, subP4, subP4a, subQ1, subQ2, subA5, hlt', hi0, Int.toNat_natCast, hsub, m1, m2, m3, m4, hmg, hst, hmp, p0, p1, p2, p3, hsub2, u3, u4, q4, t1, t2, hge, hi1]
            exact loopQ_go rfl (N - (i + 1)) (by omega) ⟨i + 1, by omega, rfl, rfl⟩
          | false =>
            have hA := h24 u
            have hB := h24 q
            have hC := h25 u q
            have e1 : ordV false t L u t L q = rcmp (pickR L u) (pickR L q) := rfl
            rw [e1] at hris
            clear h24 h25
            generalize rcmp (pickR L u) (pickR L q) = cv at *
            generalize pickR L u = ra at *
            generalize pickR L q = rb at *
            simp only [arrX, runes, ints, rtC, ratG, us32] at hA hB hC
            simp only [b6_0, risM, plX, arrX, runes, ints, go_sem, fillAll, fillIn, shiftR, shiftV, List.take_succ_cons, List.take_zero, List.drop_succ_cons, List.drop_zero, List.append_nil, Nat.zero_add, subP4, subP4a, subQ1, subQ2, subA5, hlt', hi0, Int.toNat_natCast, hsub, m1, m2, m3, m4, hmg, hst, hmp, p0, p1, p2, p3, hsub2]
            refine goF hA ?_
            simp only [go_sem, fillAll, fillIn, shiftR, shiftV, List.take_succ_cons, List.take_zero, List.drop_succ_cons, List.drop_zero, List.append_nil, Nat.zero_add, subP4, subP4a, subQ1, subQ2, subA5]
            refine goF hB ?_
            simp only [go_sem, fillAll, fillIn, shiftR, shiftV, List.take_succ_cons, List.take_zero, List.drop_succ_cons, List.drop_zero, List.append_nil, Nat.zero_add, subP4, subP4a, subQ1, subQ2, subA5]
            refine goP hC ?_
            simp only [go_sem, fillAll, fillIn, shiftR, shiftV, List.take_succ_cons, List.take_zero, List.drop_succ_cons, List.drop_zero, List.append_nil, Nat.zero_add, hris, hi1]
            exact loopQ_go rfl (N - (i + 1)) (by omega) ⟨i + 1, by omega, rfl, rfl⟩
      · have hlt' : ¬ (i : Int) < (N : Int) := by omega
        simp only [b6_0, k6_0, risM, go_sem, hlt']
        refine goP c17_awake ?_
        simp only [go_sem]
        simp only [i6, Out, resAll, geto, ints, List.getElem?_cons_zero, List.getElem?_cons_succ, resOf, outOf, snap, snapL, ev, getE, List.mapM_cons, List.mapM_nil, Option.bind_some, Option.pure_def, Option.bind_eq_bind, Option.map_some, reduceIte, Nat.reduceEqDiff, true_and, and_true]
    · have hsne : ((s.length : Int) != 1) = true := by rw [bne_iff_ne]; omega
      simp only [plX, runes, ints] at h16t
      simp only [c6, plX, runes, ints, go_sem, fillAll, fillIn, shiftR, shiftV, List.take_succ_cons, List.take_zero, List.drop_succ_cons, List.drop_zero, List.append_nil, Nat.zero_add, subP4]
      refine goP h16t ?_
      simp only [go_sem, fillAll, fillIn, shiftR, shiftV, List.take_succ_cons, List.take_zero, List.drop_succ_cons, List.drop_zero, List.append_nil, Nat.zero_add, subP4, subP4a, hsne]
      refine goP c17_awake ?_
      simp only [go_sem]
      simp only [i6, Out, resAll, geto, ints, List.getElem?_cons_zero, List.getElem?_cons_succ, resOf, outOf, snap, snapL, ev, getE, List.mapM_cons, List.mapM_nil, Option.bind_some, Option.pure_def, Option.bind_eq_bind, Option.map_some, reduceIte, Nat.reduceEqDiff, true_and, and_true]
  · have h16f := h16 false ⟨fun h => (by cases h), fun h => absurd h hL⟩
    simp only [plX, runes, ints] at h16f
    simp only [c6, plX, runes, ints, go_sem, fillAll, fillIn, shiftR, shiftV, List.take_succ_cons, List.take_zero, List.drop_succ_cons, List.drop_zero, List.append_nil, Nat.zero_add, subP4]
    refine goP h16f ?_
    simp only [go_sem]
    refine goP c17_awake ?_
    simp only [go_sem]
    simp only [i6, Out, resAll, geto, ints, List.getElem?_cons_zero, List.getElem?_cons_succ, resOf, outOf, snap, snapL, ev, getE, List.mapM_cons, List.mapM_nil, Option.bind_some, Option.pure_def, Option.bind_eq_bind, Option.map_some, reduceIte, Nat.reduceEqDiff, true_and, and_true]
end Go.Proofs.YtlejgleocnemoabGreat.I

-- PRINTED BY print.sh 35421559b90ae4d0a3588c463048766b98c2df88dd9212a6774a882060cdf62d: not written by this session
-- PRINTED WORDS (module Derived/Print/Sized.lean): go-gate-2's, for the rows of laws over slices: an AI agent of Go's test side, Tue Nov 17 2026; no person has read it. Lean checks it.
namespace Go.Proofs.YtlejgleocnemoabGreatW.PrintWords
open Go.ChangeShapes Go.WideShapes
end Go.Proofs.YtlejgleocnemoabGreatW.PrintWords

namespace Go.Proofs.YtlejgleocnemoabGreat.I
open Go Go.V Go.ChangeShapes Go.WideShapes Go.Deep
section
variable {H : Type} {enc : TypeId × Value → H} {P : Program} {w : World} {spare : Nat → Bool} {held : Bool}
theorem open_num1 {e : TypeId} {f0 f1 f2 : Field} {fuel : Nat} {a : Addr} {cs : List Value} {y : DataW H × List MemPlace} (he : P.underlying e = some (.struct #[f0, f1, f2])) (hone : oneCellFields P #[f0, f1, f2] = true)
    (h0 : P.underlying f0.type = some .bool) (h1 : P.underlying f1.type = some .string) (h2 : P.underlying f2.type = some .string) (hc : w.cells? 0 a 3 = some cs) (h : DataW.trod enc P w 0 spare held fuel e cs = some y) :
    ∃ q : Nm, (w.cell? (a.add 0) = some (.bool q.1) ∧ w.cell? (a.add 1) = some (.string (bs q.2.1)) ∧ w.cell? (a.add 2) = some (.string (bs q.2.2))) ∧ U8 q.2.1 ∧ U8 q.2.2 ∧ q.2.1.length ≤ maxLen ∧ q.2.2.length ≤ maxLen := by
  obtain ⟨_, hlen, hcell⟩ := World.cells?_some hc
  obtain ⟨xs, k, _, _, _, hxl, hf⟩ := DataW.trod_struct he h
  obtain ⟨o0, k0⟩ := hone_of hone 0 f0 rfl
  obtain ⟨o1, k1⟩ := hone_of hone 1 f1 rfl
  obtain ⟨o2, k2⟩ := hone_of hone 2 f2 rfl
  match xs, hxl, cs, hlen with
  | [y0, y1, y2], _, [v0, v1, v2], _ =>
    have g0 := hf 0 f0 rfl
    have g1 := hf 1 f1 rfl
    have g2 := hf 2 f2 rfl
    simp [o0, k0] at g0
    simp [o1, k1] at g1
    simp [o2, k2] at g2
    obtain ⟨b, hb, _⟩ := DataW.trod_bool h0 g0
    obtain ⟨s1, hs1, _, hm1⟩ := DataW.trod_string h1 g1
    obtain ⟨s2, hs2, _, hm2⟩ := DataW.trod_string h2 g2
    obtain ⟨l1, hu1, rfl⟩ := bs_all s1
    obtain ⟨l2, hu2, rfl⟩ := bs_all s2
    simp only [List.cons.injEq, and_true] at hb hs1 hs2
    subst hb; subst hs1; subst hs2
    have c0 := hcell 0 (by omega)
    have c1 := hcell 1 (by omega)
    have c2 := hcell 2 (by omega)
    rw [bs_size] at hm1 hm2
    exact ⟨(b, l1, l2), ⟨by simpa using c0, by simpa using c1, by simpa using c2⟩, hu1, hu2, hm1, hm2⟩
theorem open_nums {t e : TypeId} {f0 f1 f2 : Field} {fuel : Nat} {cs : List Value} {x : DataW H × List MemPlace} (ht : P.underlying t = some (.slice e)) (he : P.underlying e = some (.struct #[f0, f1, f2])) (hone : oneCellFields P #[f0, f1, f2] = true)
    (hC : P.cellsOf e = 3) (h0 : P.underlying f0.type = some .bool) (h1 : P.underlying f1.type = some .string) (h2 : P.underlying f2.type = some .string) (h : DataW.trod enc P w 0 spare held fuel t cs = some x) :
    ∃ (a : Option Addr) (len cap : Nat) (l : List Nm), cs = [.slice a len cap] ∧ l.length = len ∧ len ≤ maxLen ∧ (∀ q ∈ l, U8 q.2.1 ∧ U8 q.2.2 ∧ q.2.1.length ≤ maxLen ∧ q.2.2.length ≤ maxLen) ∧ RG w (fun b => b < w.heap.size) (.sl l.length 3 (nmsC l)) (.slice a len cap) := by
  rcases open_slice ht h with ⟨rfl, _⟩ | ⟨a, len, cap, m, n, D, Pl, rfl, _, hl, hm, hmm, _, hx⟩
  · exact ⟨none, 0, 0, [], rfl, rfl, Nat.zero_le _, fun q hq => by simp at hq, .sl0⟩
  have hlm : len ≤ m := by rw [hmm]; split <;> omega
  rw [hC] at hx
  have each : ∀ i, i < len → ∃ q : Nm, (w.cell? (a.add (i * 3)) = some (.bool q.1) ∧ w.cell? (a.add (i * 3 + 1)) = some (.string (bs q.2.1)) ∧ w.cell? (a.add (i * 3 + 2)) = some (.string (bs q.2.2))) ∧ U8 q.2.1 ∧ U8 q.2.2 ∧ q.2.1.length ≤ maxLen ∧ q.2.2.length ≤ maxLen := fun i hi => by
    obtain ⟨cs', hc, hy⟩ := hx i (by omega)
    obtain ⟨q, ⟨g0, g1, g2⟩, hq⟩ := open_num1 he hone h0 h1 h2 hc hy
    rw [add_add] at g0 g1 g2
    exact ⟨q, ⟨g0, g1, g2⟩, hq⟩
  obtain ⟨f, hf⟩ := choose_lt (α := Nm) each
  refine ⟨some a, len, cap, (List.range len).map f, rfl, by simp, Nat.le_trans hl hm, fun q hq => ?_, ?_⟩
  · obtain ⟨i, hi, rfl⟩ := List.mem_map.1 hq
    exact (hf i (List.mem_range.1 hi)).2
  · have hll : ((List.range len).map f).length = len := by simp
    rw [hll]
    by_cases hz : len = 0
    · subst hz; exact .sl0
    obtain ⟨b, o, sp⟩ := a
    have hc0 := (hf 0 (by omega)).1.1
    have hsp : sp = none := by
      simp only [Addr.add, Nat.zero_mul, if_true, World.cell?] at hc0
      split at hc0
      · split at hc0
        · cases hc0
        · rename_i hh; simpa using hh
      · cases hc0
    subst hsp
    have addE : ∀ i, (⟨b, o, none⟩ : Addr).add i = ⟨b, o + i, none⟩ := fun i => by
      unfold Addr.add
      split
      · rename_i h; rw [h]; rfl
      · rfl
    have hb : b < w.heap.size := by
      rw [addE] at hc0
      unfold World.cell? at hc0
      split at hc0
      · rename_i hh; exact (Array.getElem?_eq_some_iff.1 hh).1
      · cases hc0
    have hat : ∀ i, i < len → ((List.range len).map f).getD i (false, [], []) = f i := fun i hi => by simp [List.getD, hi]
    have vlen : ∀ l : List Nm, (l.flatMap fun q => [Value.bool q.1, .string (bs q.2.1), .string (bs q.2.2)]).length = l.length * 3 := fun l => by
      induction l with
      | nil => rfl
      | cons q l ih => rw [List.flatMap_cons, List.length_append, ih, List.length_cons]; simp; omega
    have vget : ∀ (l : List Nm) (i k : Nat), i < l.length → k < 3 → (l.flatMap fun q => [Value.bool q.1, .string (bs q.2.1), .string (bs q.2.2)])[i * 3 + k]? = ([Value.bool (l.getD i (false, [], [])).1, .string (bs (l.getD i (false, [], [])).2.1), .string (bs (l.getD i (false, [], [])).2.2)])[k]? := fun l => by
      induction l with
      | nil => intro i k h; simp at h
      | cons q l ih =>
        intro i k hi hk
        cases i with
        | zero => rw [List.flatMap_cons, Nat.zero_mul, Nat.zero_add, List.getElem?_append_left (by simp; omega)]; rfl
        | succ i =>
          rw [List.flatMap_cons, List.getElem?_append_right (by simp; omega)]
          have e : (i + 1) * 3 + k - [Value.bool q.1, .string (bs q.2.1), .string (bs q.2.2)].length = i * 3 + k := by simp; omega
          rw [e, ih i k (by simpa using hi) hk]
          rfl
    have cget : ∀ (l : List Nm) (i k : Nat), i < l.length → k < 3 → (nmsC l)[i * 3 + k]? = (nmC (l.getD i (false, [], [])))[k]? := fun l i k hi hk => by
      rw [← flat_get (f := nmC) (fun _ => rfl) hi, List.getElem?_take, if_pos hk, List.getElem?_drop]
      rfl
    have split3 : ∀ j, j < len * 3 → ∃ i k, i < len ∧ k < 3 ∧ j = i * 3 + k := fun j hj => ⟨j / 3, j % 3, by omega, by omega, by omega⟩
    refine .sl (vs := ((List.range len).map f).flatMap fun q => [Value.bool q.1, .string (bs q.2.1), .string (bs q.2.2)]) (by omega) hl (by rw [nmsC, flat_len (fun _ => rfl), hll]) (by rw [vlen, nmsC, flat_len (fun _ => rfl)]) hb (fun u hu => ?_) (fun j u hu => ?_) (fun j c u hc hu => ?_)
    · obtain ⟨q, _, hq⟩ := List.mem_flatMap.1 hu
      simp only [List.mem_cons, List.not_mem_nil, or_false] at hq
      rcases hq with rfl | rfl | rfl <;> rfl
    · have hj := (List.getElem?_eq_some_iff.1 hu).1
      rw [vlen, hll] at hj
      obtain ⟨i, k, hi, hk, rfl⟩ := split3 j hj
      rw [vget _ i k (by rw [hll]; exact hi) hk, hat i hi] at hu
      obtain ⟨⟨g0, g1, g2⟩, _⟩ := hf i hi
      rw [addE] at g0 g1 g2
      match k, hk with
      | 0, _ => simp at hu; subst hu; exact g0
      | 1, _ => simp at hu; subst hu; exact g1
      | 2, _ => simp at hu; subst hu; exact g2
    · have hj := (List.getElem?_eq_some_iff.1 hu).1
      rw [vlen, hll] at hj
      obtain ⟨i, k, hi, hk, rfl⟩ := split3 j hj
      rw [vget _ i k (by rw [hll]; exact hi) hk] at hu
      rw [cget _ i k (by rw [hll]; exact hi) hk] at hc
      match k, hk with
      | 0, _ => simp [nmC] at hu hc; subst hu; subst hc; exact .bool
      | 1, _ => simp [nmC] at hu hc; subst hu; subst hc; exact .str
      | 2, _ => simp [nmC] at hu hc; subst hu; subst hc; exact .str
end
end Go.Proofs.YtlejgleocnemoabGreat.I
