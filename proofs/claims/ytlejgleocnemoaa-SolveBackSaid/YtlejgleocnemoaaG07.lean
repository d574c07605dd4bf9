/- The texts L18e L18f L18g L18h L18i L18j LBnd LElm L18k L08d L18l L18m L18w L18x L18n L18o L18p WSized, one behind the other. Conditions: each text's own. -/
import Derived.Test.YtlejgleocnemoaaG06
import Derived.SizedLaws
import Derived.ChangeSlices
set_option linter.unusedSimpArgs false
set_option linter.unusedVariables false
namespace Go.Proofs.Ytlejgleocnemoaa.I
open Go Go.V
attribute [local go_sem_proc ↓] reduceIte
attribute [local go_sem_proc] Nat.reduceEqDiff Nat.reduceAdd Nat.reduceMul Nat.reduceLeDiff Nat.reduceLT Int.reduceToNat Int.reduceLT Int.reduceLE reduceCtorEq Nat.reduceBEq
attribute [local go_sem] mNil nat0 beq_self_eq_true mSkip mRet mExit mReg mSeq mCond mTrue mFalse mBlock mLv mCodeE mCodeR mEndN mEndR mEndE mOps mSome mGuard mGtt mGff mGtf mGft mGu mCallP mCallR mCallF mCallO mCallZ mCallG mCallM mCallV loopQ_exit loopQ_ret mO_mov mO_newnil mO_pick mO_alloc mO_box mO_build mO_bsl mO_bslF mO_newnilB mO_bslB mO_lenB mO_appB mO_allocA mO_bslA mO_appA mO_ldb mO_faddrb mRsv mO_ldf mO_ld mO_st mO_sta mO_nilchk mO_bin mO_binb mO_binp mO_bins mO_neg mO_com mO_not mO_conv mO_mk mO_mk0 mO_mkB mO_s2b mO_b2s mO_cpy mO_cut mO_faddr mO_fld mO_iaddr mO_iaddrf mO_sidx mO_len mO_lenf mO_slen mO_scut mO_app mO_ext mO_mx mO_mn mO_mkfn evalOp cutOp argsE ev getE putE cellsOf adopt rowOf binV boolV nilV ar_add ar_sub ar_mul ar_quo ar_rem ar_eq ar_ne ar_lt ar_le ar_gt ar_ge ar_and ar_or ar_xor geto bound finRet finNrm ints List.length_cons List.length_nil List.length_append List.getElem?_cons_zero List.getElem?_cons_succ List.nil_append List.cons_append List.map_cons List.map_nil List.mapM_cons List.mapM_nil Option.map_some Option.map_none Option.bind_some Option.pure_def Option.bind_eq_bind List.drop_zero or_self or_false false_or or_true true_or true_and and_true and_self decide_true decide_false Bool.false_eq_true Bool.true_eq_false Bool.not_true Bool.not_false Nat.le_refl eq_self gt_iff_lt ge_iff_le ne_eq not_true_eq_false not_false_eq_true storeOp apartOf freeze_nil refsL refs List.flatMap_cons List.flatMap_nil List.append_nil List.contains_nil List.set_cons_zero List.set_cons_succ snap snapL fill_nums flat_nums nums_length Go.V.freeze List.mapIdx_cons List.mapIdx_nil List.contains_cons Bool.or_false Bool.false_or Bool.or_true Bool.true_or
def SzG (n : Nat) (s : Gd × Gd) (e : Nat) : Prop := ∀ r, r < n → (∀ a ∈ s.1 r, Sz e a) ∧ ∀ a ∈ s.2 r, Sz e a
theorem SzG.mono {n e e' : Nat} {s : Gd × Gd} (h : SzG n s e) (he : e ≤ e') : SzG n s e' := fun r hr => ⟨fun a ha => ((h r hr).1 a ha).mono he, fun a ha => ((h r hr).2 a ha).mono he⟩
theorem SzG.swap {n e c p : Nat} {s : Gd × Gd} (h : SzG n s e) (hc : c < n) (hp : p < n) : SzG n (swA s.1 c p, swA s.2 c p) e := fun r hr => by
  unfold swA
  simp only []
  split
  · exact h p hp
  · split
    · exact h c hc
    · exact h r hr
theorem Sz.less {x y : List Rat} {q : Rat} {e : Nat} (hx : ∀ a ∈ x, Sz e a) (hy : ∀ a ∈ y, Sz e a) (hl : y.length = x.length) (hq : Sz (2 * e) q) : ∀ a ∈ lessL x y q, Sz (4 * e + 1) a := fun a ha => by
  simp only [lessL, List.mem_map, List.mem_range] at ha
  obtain ⟨i, hi, rfl⟩ := ha
  have h1 : Sz e (x.getD i 0) := by simp only [List.getD, List.getElem?_eq_getElem hi, Option.getD_some]; exact hx _ (List.getElem_mem hi)
  have h2 : Sz e (y.getD i 0) := by simp only [List.getD, List.getElem?_eq_getElem (show i < y.length by omega), Option.getD_some]; exact hy _ (List.getElem_mem (by omega))
  exact (h1.add (h2.mul hq).neg).mono (by omega)
def elT (a x : Gd) (c k : Nat) : Gd := fun r => if r < k then elA a x c r else x r
section
variable {n m ba bb e : Nat} {ia ib : Nat → Nat} {s : Gd × Gd}
theorem en_Sz (hS : SzG n s e) (hl : Lens n m s) {r j : Nat} (hr : r < n) (hj : j < n) : Sz e (en s.1 r j) := by
  have h1 := (hS r hr).1
  have h2 := (hl r hr).1
  have : en s.1 r j ∈ s.1 r := by unfold en; generalize s.1 r = l at *; simp [List.getD, h2, hj]
  exact h1 _ this
theorem SzG.elim {c : Nat} (hS : SzG n s e) (hl : Lens n m s) (hc : c < n) (hp : en s.1 c c ≠ 0) : SzG n (elA s.1 s.1 c, elA s.1 s.2 c) (4 * e + 1) := fun r hr => by
  have hq : Sz (2 * e) (en s.1 r c / en s.1 c c) := ((en_Sz hS hl hr hc).div (en_Sz hS hl hc hc) (fun h => hp (Rat.num_eq_zero.1 h))).mono (by omega)
  unfold elA
  simp only []
  split
  · exact ⟨fun a ha => ((hS r hr).1 a ha).mono (by omega), fun a ha => ((hS r hr).2 a ha).mono (by omega)⟩
  · exact ⟨Sz.less (hS r hr).1 (hS c hc).1 (by rw [(hl r hr).1, (hl c hc).1]) hq, Sz.less (hS r hr).2 (hS c hc).2 (by rw [(hl r hr).2, (hl c hc).2]) hq⟩
theorem elT_row {a x : Gd} {c k r : Nat} (h : k ≤ r) : elT a x c k r = x r := by unfold elT; rw [if_neg (by omega)]
theorem elT_c {a x : Gd} {c k : Nat} : elT a x c k c = x c := by
  unfold elT elA
  split
  · rw [if_pos (.inl rfl)]
  · rfl
theorem elT_succ {a x : Gd} {c k : Nat} : updL (elT a x c k) k (elA a x c k) = elT a x c (k + 1) := by
  funext r
  unfold updL elT
  by_cases h : r = k
  · subst h; rw [if_pos rfl, if_pos (by omega)]
  · rw [if_neg h]
    by_cases h2 : r < k
    · rw [if_pos h2, if_pos (by omega)]
    · rw [if_neg h2, if_neg (by omega)]
theorem elT_skip {a x : Gd} {c k : Nat} (h : elA a x c k = x k) : elT a x c k = elT a x c (k + 1) := by
  rw [← elT_succ, h]
  funext r
  unfold updL
  by_cases hr : r = k
  · subst hr; rw [if_pos rfl, elT_row (Nat.le_refl _)]
  · rw [if_neg hr]
theorem c99_elim {c d : Nat} {M : List AObj} {env : Env} {Q : X → St → Prop} {ks : List Go.V.Item} (h : Two M n ba bb ia ib s) (hl : Lens n m s) (hS : SzG n s e) (hc : c < n) (hn : n ≤ 4096) (hm : m ≤ 4096) (hp : en s.1 c c ≠ 0) (he : 4 * e + 2 ≤ 32000000) (hlow : ∀ i, i < n → d ≤ ia i ∧ d ≤ ib i)
    (e0 : getE env 0 = .arr ba 0) (e1 : getE env 1 = .arr bb 0) (e5 : getE env 5 = .int .i64 c) (e13 : getE env 13 = .int .i64 n) (e14 : getE env 14 = .int .i64 c) (e68 : getE env 68 = .int .i64 n) (e69 : getE env 69 = .int .i64 0)
    (hgo : ∀ M', SameB d M M' → Two M' n ba bb ia ib (elA s.1 s.1 c, elA s.1 s.2 c) → Mach (Go.V.Call tab E) Q ks .nrm ⟨[(0, .arr ba 0), (1, .arr bb 0), (5, .int .i64 c), (13, .int .i64 n), (14, .int .i64 c), (68, .int .i64 n), (69, .int .i64 n), (70, .bool false)], M'⟩) :
    Mach (Go.V.Call tab E) Q (.code (.loop [0, 1, 5, 13, 14, 68, 69] none b99_2) :: .endb 4 :: ks) .nrm ⟨env, M⟩ := by
  have h00 : Two M n ba bb ia ib (elT s.1 s.1 c 0, elT s.1 s.2 c 0) := h.congr (fun i _ => (elT_row (a := s.1) (c := c) (Nat.zero_le i)).symm) (fun i _ => (elT_row (a := s.1) (c := c) (Nat.zero_le i)).symm)
  refine mLoop (fun N st => ∃ (r : Nat) (K : List AObj), r ≤ n ∧ N = n - r ∧ SameB d M K ∧ Two K n ba bb ia ib (elT s.1 s.1 c r, elT s.1 s.2 c r) ∧ st = ⟨[(0, .arr ba 0), (1, .arr bb 0), (5, .int .i64 c), (13, .int .i64 n), (14, .int .i64 c), (68, .int .i64 n), (69, .int .i64 r)], K⟩) n
    ⟨_, rfl, 0, M, by omega, by omega, SameB.refl, h00, by simp only [List.map_cons, List.map_nil, e0, e1, e5, e13, e14, e68, e69]; rfl⟩ ?_
  clear h00 h env e0 e1 e5 e13 e14 e68 e69
  rintro N s0 ⟨r, K, hr, rfl, hsm, hK, rfl⟩
  by_cases hrn : r < n
  · have hr' : (r : Int) < (n : Int) := by omega
    have hr0 : (0 : Int) ≤ (r : Int) := by omega
    have hc0 : (0 : Int) ≤ (c : Int) := by omega
    have hcn : (c : Int) < (n : Int) := by omega
    have hr1 : IntKind.i64.wrap ((r : Int) + 1) = ((r + 1 : Nat) : Int) := by rw [wrap_i64 (by omega) (by omega)]; omega
    by_cases hrc : r = c
    · subst hrc
      have hA := elT_skip (a := s.1) (x := s.1) (c := r) (k := r) (by unfold elA; rw [if_pos (.inl rfl)])
      have hB := elT_skip (a := s.1) (x := s.2) (c := r) (k := r) (by unfold elA; rw [if_pos (.inl rfl)])
      rw [hA, hB] at hK
      simp only [b99_2, go_sem, hr', beq_self_eq_true, hr1]
      exact loopQ_go rfl (n - (r + 1)) (by omega) ⟨r + 1, K, by omega, rfl, hsm, hK, rfl⟩
    · have hq : ((r : Int) == (c : Int)) = false := by rw [beq_eq_false_iff_ne]; omega
      have hbA := hK.bA
      have hbB := hK.bB
      have hrow := hK.rA r hrn
      have hrowc := hK.rA c hc
      dsimp only at hrow hrowc
      rw [elT_row (Nat.le_refl _)] at hrow
      rw [elT_c] at hrowc
      have g1 := sub_bx (n := n) (f := ia) hrn
      have g1c := sub_bx (n := n) (f := ia) hc
      have lr := hl r hrn
      have lc := hl c hc
      have g2 := sub_rR (l := s.1 r) (i := c) (by omega)
      have g2c := sub_rR (l := s.1 c) (i := c) (by omega)
      have eE : (s.1 r).getD c 0 = en s.1 r c := rfl
      have eEc : (s.1 c).getD c 0 = en s.1 c c := rfl
      rw [eE] at g2
      rw [eEc] at g2c
      have hcl : (c : Int) < ((s.1 r).length : Int) := by omega
      have hclc : (c : Int) < ((s.1 c).length : Int) := by omega
      have h129 := c129_ok (r := en s.1 r c)
      have hsg := sgZ_num (r := en s.1 r c)
      by_cases h0 : en s.1 r c = 0
      · have hA := elT_skip (a := s.1) (x := s.1) (c := c) (k := r) (by unfold elA; rw [if_pos (.inr h0)])
        have hB := elT_skip (a := s.1) (x := s.2) (c := c) (k := r) (by unfold elA; rw [if_pos (.inr h0)])
        rw [hA, hB] at hK
        rw [decide_eq_true h0] at hsg
        simp only [rO_eq] at hrow
        simp only [rtC3, us32] at g2 h129
        simp only [b99_2, go_sem, FL, hbA, hr', hr0, hc0, hq, g1, hrow, hcl, g2, Int.toNat_natCast, us32]
        refine goR h129 rfl ?_
        simp only [go_sem, hsg, hr1]
        exact loopQ_go rfl (n - (r + 1)) (by omega) ⟨r + 1, K, by omega, rfl, hsm, hK, rfl⟩
      · rw [decide_eq_false h0] at hsg
        have sr := en_Sz hS hl hrn hc
        have sc := en_Sz hS hl hc hc
        have hSq : Sz (2 * e) (en s.1 r c / en s.1 c c) := (sr.div sc (fun h => hp (Rat.num_eq_zero.1 h))).mono (by omega)
        have h51 := c51_ok (E := I.E) (x := rR (en s.1 r c)) (y := rR (en s.1 c c)) RV.self RV.self sr sc hp (by omega)
        -- the memory ahead of the first call
        have hK1 := hK.app (G := [⟨true, 59, 3, 0, 1, rtC (rR (en s.1 r c / en s.1 c c)), false⟩])
        have hne : ia r ≠ ia c := fun h => hrc (hK.iA r c hrn hc h)
        have hneB : ib r ≠ ib c := fun h => hrc (hK.iB r c hrn hc h)
        have q1 := hK1.rA r hrn
        have q2 := hK1.rA c hc
        dsimp only at q1 q2
        rw [elT_row (Nat.le_refl _)] at q1
        rw [elT_c] at q2
        obtain ⟨B1, call1⟩ := c130_ok (t := en s.1 r c / en s.1 c c) (i := e) (j := 2 * e) q1 q2 hne (by omega) (by omega) (hS r hrn).1 (hS c hc).1 hSq (by omega)
        have hK2 := (hK1.setA (l := lessL (s.1 r) (s.1 c) (en s.1 r c / en s.1 c c)) hrn).app (G := [B1])
        have q3 := hK2.rB r hrn
        have q4 := hK2.rB c hc
        dsimp only at q3 q4
        rw [elT_row (Nat.le_refl _)] at q3
        rw [elT_c] at q4
        obtain ⟨B2, call2⟩ := c130_ok (t := en s.1 r c / en s.1 c c) (i := e) (j := 2 * e) q3 q4 hneB (by omega) (by omega) (hS r hrn).2 (hS c hc).2 hSq (by omega)
        have hK3 := (hK2.setB (l := lessL (s.2 r) (s.2 c) (en s.1 r c / en s.1 c c)) hrn).app (G := [B2])
        have eA : elA s.1 s.1 c r = lessL (s.1 r) (s.1 c) (en s.1 r c / en s.1 c c) := by unfold elA; rw [if_neg (fun hh => hh.elim hrc h0)]
        have eB : elA s.1 s.2 c r = lessL (s.2 r) (s.2 c) (en s.1 r c / en s.1 c c) := by unfold elA; rw [if_neg (fun hh => hh.elim hrc h0)]
        have u1 : updL (elT s.1 s.1 c r) r (lessL (s.1 r) (s.1 c) (en s.1 r c / en s.1 c c)) = elT s.1 s.1 c (r + 1) := by rw [← eA, elT_succ]
        have u2 : updL (elT s.1 s.2 c r) r (lessL (s.2 r) (s.2 c) (en s.1 r c / en s.1 c c)) = elT s.1 s.2 c (r + 1) := by rw [← eB, elT_succ]
        dsimp only at hK3
        rw [u1, u2] at hK3
        have hrl := lt_of hrow
        have hlw := hlow r hrn
        have hsm3 : SameB d M ((((((K ++ [(⟨true, 59, 3, 0, 1, rtC (rR (en s.1 r c / en s.1 c c)), false⟩ : AObj)]).set (ia r) (rO (lessL (s.1 r) (s.1 c) (en s.1 r c / en s.1 c c)))) ++ [B1])).set (ib r) (rO (lessL (s.2 r) (s.2 c) (en s.1 r c / en s.1 c c)))) ++ [B2]) :=
          ((((hsm.app (by omega)).set hlw.1).app (by simp; omega)).set hlw.2).app (by simp; omega)
        have hbA1 := hK1.bA
        have hbB2 := hK2.bB
        have xl := x_last (K := K)
        have xp := x_put (K := K)
        have hkl : K.length < (K ++ [(⟨true, 59, 3, 0, 1, rtC (rR (en s.1 r c / en s.1 c c)), false⟩ : AObj)]).length := by simp
        have hnl : ia r ≠ K.length := fun e => by have := lt_of hrow; omega
        have xl2 : (((K ++ [(⟨true, 59, 3, 0, 1, rtC (rR (en s.1 r c / en s.1 c c)), false⟩ : AObj)]).set (ia r) (rO (lessL (s.1 r) (s.1 c) (en s.1 r c / en s.1 c c)))) ++ [B1])[K.length]? = some ⟨true, 59, 3, 0, 1, rtC (rR (en s.1 r c / en s.1 c c)), false⟩ := by
          rw [List.getElem?_append_left (by rw [List.length_set]; exact hkl), List.getElem?_set_ne hnl]
          exact x_last _
        have xl1 : (K ++ [(⟨true, 59, 3, 0, 1, rtC (rR (en s.1 r c / en s.1 c c)), false⟩ : AObj)])[K.length]? = some ⟨true, 59, 3, 0, 1, rtC (rR (en s.1 r c / en s.1 c c)), false⟩ := x_last _
        have xpp : ∀ o : AObj, (K ++ [o]).set K.length ⟨true, 59, 3, 0, 1, rtC (rR (en s.1 r c / en s.1 c c)), false⟩ = K ++ [(⟨true, 59, 3, 0, 1, rtC (rR (en s.1 r c / en s.1 c c)), false⟩ : AObj)] := fun o => x_put _ _
        have gB1 := sub_bx (n := n) (f := ib) hrn
        have gBc := sub_bx (n := n) (f := ib) hc
        have hnz : sub true 3 (rtC (rR (en s.1 r c / en s.1 c c))) 0 = some (.agg (rtC (rR (en s.1 r c / en s.1 c c)))) := rfl
        simp only [rO_eq] at hrow hrowc
        clear hK1 hK2 q1 q2 q3 q4 hK eA eB u1 u2 sr sc hSq hkl hnl
        generalize ((K ++ [(⟨true, 59, 3, 0, 1, rtC (rR (en s.1 r c / en s.1 c c)), false⟩ : AObj)]).set (ia r) (rO (lessL (s.1 r) (s.1 c) (en s.1 r c / en s.1 c c)))) ++ [B1] = K2 at *
        generalize (K2.set (ib r) (rO (lessL (s.2 r) (s.2 c) (en s.1 r c / en s.1 c c)))) ++ [B2] = K3 at *
        generalize hK1e : K ++ [(⟨true, 59, 3, 0, 1, rtC (rR (en s.1 r c / en s.1 c c)), false⟩ : AObj)] = K1 at *
        generalize rR (en s.1 r c / en s.1 c c) = zq at *
        generalize rR (en s.1 r c) = zr at *
        generalize rR (en s.1 c c) = zc at *
        simp only [rtC3, us32] at g2 g2c h129 h51 call1 call2 xl1 xl2 xpp hnz
        simp only [b99_2, go_sem, FL, hbA, hr', hr0, hc0, hcn, hq, g1, g1c, hrow, hrowc, hcl, hclc, g2, g2c, Int.toNat_natCast, us32]
        refine goR h129 rfl ?_
        simp only [go_sem, FL, hsg, hbA, hr', hr0, hc0, hcn, g1, g1c, hrow, hrowc, hcl, hclc, g2, g2c, Int.toNat_natCast, us32]
        refine goF h51 ?_
        simp only [go_sem, FL, mapIA, xl, xpp, us32, hbA1, hr', hr0, hc0, hcn, g1, g1c, xl1, hnz, Int.toNat_natCast]
        refine goM call1 ?_
        simp only [go_sem, FL, us32, hbB2, hr', hr0, hc0, hcn, gB1, gBc, xl2, hnz, Int.toNat_natCast]
        refine goM call2 ?_
        simp only [go_sem, hr1]
        exact loopQ_go rfl (n - (r + 1)) (by omega) ⟨r + 1, K3, by omega, rfl, hsm3, hK3, rfl⟩
  · obtain rfl : r = n := by omega
    simp only [b99_2, go_sem, Int.lt_irrefl]
    exact hgo K hsm (hK.congr (fun i hi => by unfold elT; simp only [if_pos hi]) (fun i hi => by unfold elT; simp only [if_pos hi]))
end
def dvR (s : Gd × Gd) (m i j : Nat) : List Rat := (List.range m).map fun q => if q < j then en s.2 i q / en s.1 i i else en s.2 i q
theorem dvR_len {s : Gd × Gd} {m i j : Nat} : (dvR s m i j).length = m := by simp [dvR]
theorem dvR_zero {s : Gd × Gd} {m i : Nat} (h : (s.2 i).length = m) : dvR s m i 0 = s.2 i := by
  apply List.ext_getElem?
  intro q
  by_cases hq : q < m
  · simp [dvR, en, List.getD, hq, h]
  · rw [List.getElem?_eq_none (by rw [dvR_len]; omega), List.getElem?_eq_none (by omega)]
theorem dvR_get {s : Gd × Gd} {m i j : Nat} (h : j < m) : (dvR s m i j).getD j 0 = en s.2 i j := by simp [dvR, List.getD, h]
theorem dvR_set {s : Gd × Gd} {m i j : Nat} (h : j < m) : (dvR s m i j).set j (en s.2 i j / en s.1 i i) = dvR s m i (j + 1) := by
  apply List.ext_getElem?
  intro q
  by_cases hq : q < m
  · by_cases hqj : q = j
    · subst hqj
      rw [List.getElem?_set_self (by rw [dvR_len]; exact hq)]
      simp [dvR, hq]
    · rw [List.getElem?_set_ne (fun e => hqj e.symm)]
      simp [dvR, hq]
      by_cases h2 : q < j
      · rw [if_pos h2, if_pos (by omega)]
      · rw [if_neg h2, if_neg (by omega)]
  · rw [List.getElem?_eq_none (by rw [List.length_set, dvR_len]; omega), List.getElem?_eq_none (by rw [dvR_len]; omega)]
def dvT (s : Gd × Gd) (m c j : Nat) : Gd := fun r => if r < c then dvR s m r m else if r = c then dvR s m c j else s.2 r
section
variable {n m ba bb e : Nat} {ia ib : Nat → Nat} {s : Gd × Gd}
theorem enB_Sz (hS : SzG n s e) (hl : Lens n m s) {r j : Nat} (hr : r < n) (hj : j < m) : Sz e (en s.2 r j) := by
  have h1 := (hS r hr).2
  have h2 := (hl r hr).2
  have : en s.2 r j ∈ s.2 r := by unfold en; generalize s.2 r = l at *; simp [List.getD, h2, hj]
  exact h1 _ this
theorem c99_div {d : Nat} {M : List AObj} {env : Env} {Q : X → St → Prop} {ks : List Go.V.Item} (h : Two M n ba bb ia ib s) (hl : Lens n m s) (hS : SzG n s e) (hn : n ≤ 4096) (hm : m ≤ 4096) (hd : ∀ c, c < n → en s.1 c c ≠ 0) (he : 2 * e + 2 ≤ 32000000) (hlow : ∀ i, i < n → d ≤ ib i)
    (e0 : getE env 0 = .arr ba 0) (e1 : getE env 1 = .arr bb 0) (e127 : getE env 127 = .int .i64 n) (e128 : getE env 128 = .int .i64 0)
    (hgo : ∀ M', SameB d M M' → Two M' n ba bb ia ib (s.1, fun r => dvR s m r m) → Mach (Go.V.Call tab E) Q ks .nrm ⟨[(0, .arr ba 0), (1, .arr bb 0), (127, .int .i64 n), (128, .int .i64 n), (129, .bool false)], M'⟩) :
    Mach (Go.V.Call tab E) Q (.code (.loop [0, 1, 127, 128] none b99_3) :: .endb 6 :: ks) .nrm ⟨env, M⟩ := by
  have h00 : Two M n ba bb ia ib (s.1, dvT s m 0 0) := h.congr (fun i _ => rfl) (fun i hi => by
    unfold dvT
    dsimp only
    rw [if_neg (by omega)]
    split
    · rename_i h0; subst h0; exact (dvR_zero (hl 0 hi).2).symm
    · rfl)
  refine mLoop (fun N st => ∃ (c : Nat) (K : List AObj), c ≤ n ∧ N = n - c ∧ SameB d M K ∧ Two K n ba bb ia ib (s.1, dvT s m c 0) ∧ st = ⟨[(0, .arr ba 0), (1, .arr bb 0), (127, .int .i64 n), (128, .int .i64 c)], K⟩) n
    ⟨_, rfl, 0, M, by omega, by omega, SameB.refl, h00, by simp only [List.map_cons, List.map_nil, e0, e1, e127, e128]; rfl⟩ ?_
  clear h00 h env e0 e1 e127 e128
  rintro N s0 ⟨c, K, hc, rfl, hsm, hK, rfl⟩
  by_cases hcn : c < n
  · have hc' : (c : Int) < (n : Int) := by omega
    have hc0 : (0 : Int) ≤ (c : Int) := by omega
    have hc1 : IntKind.i64.wrap ((c : Int) + 1) = ((c + 1 : Nat) : Int) := by rw [wrap_i64 (by omega) (by omega)]; omega
    have hbB := hK.bB
    have hrB := hK.rB c hcn
    have gB := sub_bx (n := n) (f := ib) hcn
    have gA := sub_bx (n := n) (f := ia) hcn
    have hlA := (hl c hcn).1
    have ecl : ∀ j, dvT s m c j c = dvR s m c j := fun j => by unfold dvT; rw [if_neg (by omega), if_pos rfl]
    dsimp only at hrB
    rw [ecl] at hrB
    simp only [rO_eq, dvR_len] at hrB
    simp only [b99_3, go_sem, hc', hc0, hbB, gB, hrB, Int.toNat_natCast]
    refine mLoop (fun N st => ∃ (j : Nat) (K : List AObj), j ≤ m ∧ N = m - j ∧ SameB d M K ∧ Two K n ba bb ia ib (s.1, dvT s m c j) ∧ st = ⟨[(0, .arr ba 0), (1, .arr bb 0), (10, .int .i64 c), (127, .int .i64 n), (128, .int .i64 c), (135, .int .i64 m), (136, .int .i64 j)], K⟩) m
      ⟨_, rfl, 0, K, by omega, by omega, hsm, hK, rfl⟩ ?_
    clear hsm hK hbB hrB K
    rintro N s0 ⟨j, K, hj, rfl, hsm, hK, rfl⟩
    by_cases hjm : j < m
    · have hj' : (j : Int) < (m : Int) := by omega
      have hj0 : (0 : Int) ≤ (j : Int) := by omega
      have hj1 : IntKind.i64.wrap ((j : Int) + 1) = ((j + 1 : Nat) : Int) := by rw [wrap_i64 (by omega) (by omega)]; omega
      have hbA := hK.bA
      have hbB := hK.bB
      have hrA := hK.rA c hcn
      have hrB := hK.rB c hcn
      dsimp only at hrA hrB
      rw [ecl] at hrB
      have g1 := sub_rR (l := dvR s m c j) (i := j) (by rw [dvR_len]; exact hjm)
      rw [dvR_get hjm] at g1
      have g2 := sub_rR (l := s.1 c) (i := c) (by omega)
      have eE : (s.1 c).getD c 0 = en s.1 c c := rfl
      rw [eE] at g2
      have hcl : (c : Int) < ((s.1 c).length : Int) := by omega
      have h51 := c51_ok (E := I.E) (x := rR (en s.2 c j)) (y := rR (en s.1 c c)) RV.self RV.self (enB_Sz hS hl hcn hjm) (en_Sz hS hl hcn hcn) (hd c hcn) (by omega)
      have hfill := fill_rR (l := dvR s m c j) (i := j) (z := en s.2 c j / en s.1 c c) (by rw [dvR_len]; exact hjm)
      rw [dvR_set hjm] at hfill
      have hlen3 : j * 3 + 3 ≤ (rtsC ((dvR s m c j).map rR)).length := by rw [rts_len, dvR_len]; omega
      have hst := hK.setB (l := dvR s m c (j + 1)) hcn
      have hst2 := hst.congr (s' := (s.1, dvT s m c (j + 1))) (fun i _ => rfl) (fun i _ => by
        dsimp only
        unfold updL dvT
        by_cases hic : i = c
        · subst hic; rw [if_pos rfl, if_neg (by omega), if_pos rfl]
        · rw [if_neg hic, if_neg hic, if_neg hic])
      rw [rO_eq, dvR_len] at hst2
      simp only [rO_eq, dvR_len] at hrB
      simp only [rO_eq] at hrA
      clear hst hK
      generalize rtsC ((dvR s m c (j + 1)).map rR) = rows' at *
      generalize rR (en s.2 c j / en s.1 c c) = zq at *
      generalize rR (en s.2 c j) = zr at *
      generalize rR (en s.1 c c) = zc at *
      simp only [rtC3, us32] at g1 g2 h51 hfill
      simp only [b99_4, go_sem, hbA, hbB, hc', hc0, hj', hj0, gA, gB, hrA, hrB, hcl, g1, g2, Int.toNat_natCast, us32]
      refine goF h51 ?_
      simp only [go_sem, mapIA, us32, hrB, hj', hj0, Int.toNat_natCast, hlen3, hfill, hj1]
      exact loopQ_go rfl (m - (j + 1)) (by omega) ⟨j + 1, _, by omega, rfl, hsm.set (hlow c hcn), hst2, rfl⟩
    · obtain rfl : j = m := by omega
      simp only [b99_4, k99_2, go_sem, Int.lt_irrefl, hc1]
      refine loopQ_go rfl (n - (c + 1)) (by omega) ⟨c + 1, K, by omega, rfl, hsm, hK.congr (fun i _ => rfl) (fun i hi => ?_), rfl⟩
      dsimp only
      unfold dvT
      by_cases h1 : i < c
      · rw [if_pos h1, if_pos (by omega)]
      · rw [if_neg h1]
        by_cases h2 : i = c
        · subst h2; rw [if_pos rfl, if_pos (by omega)]
        · rw [if_neg h2, if_neg (by omega)]
          split
          · rename_i h3; subst h3; exact (dvR_zero (hl _ hi).2).symm
          · rfl
  · obtain rfl : c = n := by omega
    simp only [b99_3, go_sem, Int.lt_irrefl]
    exact hgo K hsm (hK.congr (fun i _ => rfl) (fun i hi => by dsimp only; unfold dvT; rw [if_pos hi]))
theorem c99_ok {d : Nat} {M : List AObj} (h : Two M n ba bb ia ib s) (hl : Lens n m s) (hS : SzG n s e) (hn : n ≤ 4096) (hm : m ≤ 4096) (he : 4 ^ (n + 1) * (e + 1) ≤ 30000000) (hba : d ≤ ba ∧ d ≤ bb) (hlow : ∀ i, i < n → d ≤ ia i ∧ d ≤ ib i) :
    match redA n n s with
    | none => ∃ M', Go.V.Call tab E 99 [.arr ba 0, .arr bb 0] M (.bool false) M' ∧ SameB d M M'
    | some t => ∃ M' ia' ib', Go.V.Call tab E 99 [.arr ba 0, .arr bb 0] M (.bool true) M' ∧ SameB d M M' ∧ Two M' n ba bb ia' ib' (t.1, fun r => dvR t m r m) := by
  obtain ⟨R, hR⟩ : ∃ R, R = redA n n s := ⟨_, rfl⟩
  rw [← hR]
  suffices hh : Mach (Go.V.Call tab E) (fun x st => ∃ r M', Go.V.Fin i99 M r M' x st ∧ SameB d M M' ∧ ((R = none ∧ r = .bool false) ∨ ∃ t ia' ib', R = some t ∧ r = .bool true ∧ Two M' n ba bb ia' ib' (t.1, fun r => dvR t m r m))) [.code c99] .nrm ⟨argsE 0 [.arr ba 0, .arr bb 0], M⟩ by
    obtain ⟨x, st, h1, h4⟩ := wp_exec hh
    rw [mNil] at h4
    obtain ⟨r, M', h2, hsm, h3⟩ := h4
    have hcall : Go.V.Call tab E 99 [.arr ba 0, .arr bb 0] M r M' := Go.V.Call.go i99 c99 rfl rfl rfl rfl (exec_wp h1 h2)
    rcases h3 with ⟨rfl, rfl⟩ | ⟨t, ia', ib', rfl, rfl, h5⟩
    · exact ⟨M', hcall, hsm⟩
    · exact ⟨M', ia', ib', hcall, hsm, h5⟩
  have hbA0 := h.bA
  simp only [c99, go_sem, hbA0]
  have hpos : ∀ k, 1 ≤ 4 ^ k := fun k => Nat.pow_pos (by omega)
  have hE : ∀ c, c ≤ n → 4 * (4 ^ c * (e + 1)) ≤ 30000000 := fun c hc => by
    have h1 : 4 ^ (c + 1) ≤ 4 ^ (n + 1) := Nat.pow_le_pow_right (by omega) (by omega)
    have h2 := Nat.mul_le_mul_right (e + 1) h1
    rw [Nat.pow_succ, Nat.mul_comm (4 ^ c) 4, Nat.mul_assoc] at h2
    omega
  refine mLoop (fun N st => ∃ (c : Nat) (K : List AObj) (ja jb : Nat → Nat) (u : Gd × Gd), c ≤ n ∧ N = n - c ∧ SameB d M K ∧ (∀ i, i < n → d ≤ ja i ∧ d ≤ jb i) ∧ redA n (n - c) u = R ∧ Two K n ba bb ja jb u ∧ Lens n m u ∧ SzG n u (4 ^ c * (e + 1) - 1) ∧ Cl n c (cmb n u) ∧
    st = ⟨[(0, .arr ba 0), (1, .arr bb 0), (13, .int .i64 n), (14, .int .i64 c)], K⟩) n ⟨_, rfl, 0, M, ia, ib, s, by omega, by omega, SameB.refl, hlow, by rw [hR, Nat.sub_zero], h, hl, by simpa using hS, Cl.zero, by simp [getE]⟩ ?_
  clear hbA0 h hS hl hR hlow
  rintro N s0 ⟨c, K, ja, jb, u, hc, rfl, hsm, hlow, hR, hK, hl, hS, hcl, rfl⟩
  by_cases hcn : c < n
  · have hc' : (c : Int) < (n : Int) := by omega
    have hc0 : (0 : Int) ≤ (c : Int) := by omega
    have hc1 : IntKind.i64.wrap ((c : Int) + 1) = ((c + 1 : Nat) : Int) := by rw [wrap_i64 (by omega) (by omega)]; omega
    obtain ⟨p1, p2, p3, p4⟩ := pvt_spec (a := u.1) (c := c) (k := n - c) (p := c)
    have hred : redA n (n - c) u = if pvt u.1 c (n - c) c = n then none else redA n (n - (c + 1)) (elA (swA u.1 c (pvt u.1 c (n - c) c)) (swA u.1 c (pvt u.1 c (n - c) c)) c, elA (swA u.1 c (pvt u.1 c (n - c) c)) (swA u.2 c (pvt u.1 c (n - c) c)) c) := by
      rw [show n - c = (n - (c + 1)) + 1 by omega, redA, show n - (n - (c + 1) + 1) = c by omega]
    rw [hR] at hred
    simp only [b99_0, go_sem, hc']
    refine c99_piv hK hl hcn hn (by omega) rfl rfl rfl rfl rfl rfl ?_
    generalize hp : pvt u.1 c (n - c) c = p at *
    have hbA := hK.bA
    have hbB := hK.bB
    by_cases hpn : p = n
    · subst hpn
      rw [if_pos rfl] at hred
      have hq : ((p : Int) == (p : Int)) = true := by simp
      simp only [k99_0, go_sem, hbA, hq]
      exact ⟨.bool false, K, ⟨rfl, rfl⟩, hsm, .inl ⟨hred, rfl⟩⟩
    · have hpl : p < n := by omega
      rw [if_neg hpn] at hred
      have hq : ((p : Int) == (n : Int)) = false := by rw [beq_eq_false_iff_ne]; omega
      have hp' : (p : Int) < (n : Int) := by omega
      have hp0 : (0 : Int) ≤ (p : Int) := by omega
      have gAp := sub_bx (n := n) (f := ja) hpl
      have gAc := sub_bx (n := n) (f := ja) hcn
      have gBp := sub_bx (n := n) (f := jb) hpl
      have gBc := sub_bx (n := n) (f := jb) hcn
      have hla := lt_of hbA
      have hlb := lt_of hbB
      have k1 : ∀ o : AObj, (K.set ba o)[ba]? = some o := fun o => by rw [List.getElem?_set_self hla]
      have k2 : ∀ o : AObj, (K.set ba o)[bb]? = some ⟨true, 26, 1, 0, n, bxC n jb, false⟩ := fun o => by rw [List.getElem?_set_ne hK.bn]; exact hbB
      have k3 : ∀ o o' : AObj, ((K.set ba o).set bb o')[bb]? = some o' := fun o o' => by rw [List.getElem?_set_self (by rw [List.length_set]; exact hlb)]
      have hK2 := hK.swap hcn hpl
      have hl2 := hl.swap hcn hpl
      have hS2 := hS.swap hcn hpl
      have f1 := fill_one (cs := bxC n ja) (i := c) (v := .arr (ja p) 0) (by rw [bxC_len]; exact hcn)
      have f2 := fill_one (cs := (bxC n ja).set c (.arr (ja p) 0)) (i := p) (v := .arr (ja c) 0) (by rw [List.length_set, bxC_len]; exact hpl)
      have f3 := fill_one (cs := bxC n jb) (i := c) (v := .arr (jb p) 0) (by rw [bxC_len]; exact hcn)
      have f4 := fill_one (cs := (bxC n jb).set c (.arr (jb p) 0)) (i := p) (v := .arr (jb c) 0) (by rw [List.length_set, bxC_len]; exact hpl)
      rw [bxC_swap hcn hpl] at f2 f4
      have ll1 : c * 1 + 1 ≤ (bxC n ja).length := by rw [bxC_len]; omega
      have ll2 : p * 1 + 1 ≤ ((bxC n ja).set c (.arr (ja p) 0)).length := by rw [List.length_set, bxC_len]; omega
      have ll3 : c * 1 + 1 ≤ (bxC n jb).length := by rw [bxC_len]; omega
      have ll4 : p * 1 + 1 ≤ ((bxC n jb).set c (.arr (jb p) 0)).length := by rw [List.length_set, bxC_len]; omega
      have hpv : en (swA u.1 c p) c c ≠ 0 := by
        have : swA u.1 c p c = u.1 p := by unfold swA; rw [if_pos rfl]
        unfold en
        rw [this]
        exact p4 (by omega)
      have hEc := hE c (by omega)
      have hEp := Nat.mul_le_mul_right (e + 1) (hpos c)
      have hS3 := (hS2.elim hl2 hcn hpv).mono (e' := 4 ^ (c + 1) * (e + 1) - 1) (by rw [Nat.pow_succ, Nat.mul_comm (4 ^ c) 4, Nat.mul_assoc]; omega)
      have hl3 := hl2.elim (a := swA u.1 c p) (c := c)
      -- the columns that are done
      have hcl2 : Cl n c (cmb n (swA u.1 c p, swA u.2 c p)) := by rw [cmb_swap]; exact hcl.swap p1 hpl
      obtain ⟨e1, e2⟩ := cmb_elim hl2 hcn
      have hcc : ∀ r, cmb n (swA u.1 c p, swA u.2 c p) r c = en (swA u.1 c p) r c := fun r => by unfold cmb; rw [if_pos hcn]
      have hcl3 := hcl2.elim (w := n + m) hcn (by omega) (show (1 : Rat) ≠ 0 by decide) (by rw [hcc]; exact hpv) e1 e2 (fun r _ _ => by rw [hcc, hcc]; grind)
      simp only [k99_0, go_sem, hbA, hbB, hq, hp', hp0, hc', hc0, gAp, gAc, gBp, gBc, k1, k2, k3, Int.toNat_natCast, f1, f2, f3, f4, ll1, ll2, ll3, ll4, List.set_set]
      have hbA2 := hK2.bA
      simp only [go_sem, hbA2]
      have hlow2 : ∀ i, i < n → d ≤ swI ja c p i ∧ d ≤ swI jb c p i := fun i hi => by
        obtain ⟨k, hk, e⟩ := swI_in (f := ja) hcn hpl hi
        obtain ⟨k', hk', e'⟩ := swI_in (f := jb) hcn hpl hi
        rw [e, e']
        exact ⟨(hlow k hk).1, (hlow k' hk').2⟩
      have hsm2 : SameB d M ((K.set ba ⟨true, 26, 1, 0, n, bxC n (swI ja c p), false⟩).set bb ⟨true, 26, 1, 0, n, bxC n (swI jb c p), false⟩) := (hsm.set hba.1).set hba.2
      refine c99_elim (d := d) hK2 hl2 hS2 hcn hn hm hpv (by omega) hlow2 rfl rfl rfl rfl rfl rfl rfl ?_
      intro M' hsm3 hM'
      simp only [k99_1, go_sem, hc1]
      exact loopQ_go rfl (n - (c + 1)) (by omega) ⟨c + 1, M', _, _, _, by omega, rfl, fun k hk => (hsm3 k hk).trans (hsm2 k hk), hlow2, hred.symm, hM', hl3, hS3, hcl3, rfl⟩
  · obtain rfl : c = n := by omega
    rw [Nat.sub_self, redA] at hR
    have hbA := hK.bA
    have hd : ∀ i, i < c → en u.1 i i ≠ 0 := fun i hi => by
      have := (hcl i hi).1
      unfold cmb at this
      rw [if_pos hi] at this
      exact this
    have hEc := hE c (Nat.le_refl _)
    simp only [b99_0, k99_4, go_sem, Int.lt_irrefl, hbA]
    refine c99_div (d := d) hK hl hS hn hm hd (by omega) (fun i hi => (hlow i hi).2) rfl rfl rfl rfl ?_
    intro M' hsm3 hM'
    simp only [k99_3, go_sem]
    exact ⟨.bool true, M', ⟨rfl, rfl⟩, fun k hk => (hsm3 k hk).trans (hsm k hk), .inr ⟨u, ja, jb, hR.symm, rfl, hM'⟩⟩
end
def shortB (l : List Rat) (lim : Int) : Bool := l.all fun a => decide ((rlimbs (rR a) : Int) ≤ lim)
theorem flat_take {G : List (List Rat)} {i : Nat} (h : i < G.length) : (G.take (i + 1)).flatten = (G.take i).flatten ++ G.getD i [] := by
  rw [takeAt (d := []) h, List.flatten_append]; simp
theorem all_take {l : List Rat} {lim : Int} : shortB l lim = true ↔ ∀ a ∈ l, (rlimbs (rR a) : Int) ≤ lim := by simp [shortB, List.all_eq_true]
theorem rts_snoc {l : List Rat} {a : Rat} : rtsC (l.map rR) ++ rtC (rR a) = rtsC ((l ++ [a]).map rR) := by rw [List.map_append]; simp [rtsC]
set_option maxHeartbeats 1000000 in
theorem c100_ok {G : List (List Rat)} {s : List Int} {lim : Int} (hs : ∀ d ∈ s, In64 d) (hsl : s.length ≤ 8) (hfit : fits s G.flatten.length = true) (hGl : G.length ≤ 4096) (hrl : ∀ r ∈ G, r.length ≤ 4096) (hfl : G.flatten.length ≤ 100000) :
    Go.V.Call tab E 100 [gridG G, ints s, .int .i64 lim] [] (.tup [.agg (if shortB G.flatten lim then arrX s false [] (G.flatten.map rR) else noA), .int .i64 (if shortB G.flatten lim then 0 else 26)]) [] := by
  refine Go.V.Call.mach i100 c100 rfl rfl rfl rfl ?_
  have h52 := c52_X (s := s) (l := G.flatten.map rR) hs (by omega) (by rw [List.length_map]; omega)
  rw [List.length_map, hfit, if_pos rfl] at h52
  have hpre : ∀ i, i < G.length → ∀ j, j < (G.getD i []).length → ((G.take i).flatten ++ (G.getD i []).take j).length < G.flatten.length ∧ (G.getD i []).getD j 0 ∈ G.flatten := fun i hi j hj => by
    have e : G.flatten = (G.take i).flatten ++ (G.getD i [] ++ (G.drop (i + 1)).flatten) := by
      have h1 : G = G.take i ++ G.getD i [] :: G.drop (i + 1) := by
        conv => lhs; rw [← List.take_append_drop i G]
        congr 1
        rw [List.drop_eq_getElem_cons hi]
        simp [List.getD, hi]
      conv => lhs; rw [h1]
      simp
    have hm : (G.getD i []).getD j 0 ∈ G.getD i [] := by generalize G.getD i [] = r at *; simp [List.getD, hj]
    refine ⟨?_, ?_⟩
    · rw [e]; simp only [List.length_append, List.length_take]; omega
    · rw [e]
      exact List.mem_append_right _ (List.mem_append_left _ hm)
  simp only [c100, gridG, ints, go_sem, mapIA]
  refine mLoop (fun N st => ∃ i : Nat, i ≤ G.length ∧ N = G.length - i ∧ (∀ a ∈ (G.take i).flatten, (rlimbs (rR a) : Int) ≤ lim) ∧
    st = ⟨[(1, ints s), (2, .int .i64 lim), (6, .loc 3 0 0), (8, .arr 4 (G.take i).flatten.length), (15, gridG G), (16, .int .i64 G.length), (17, .int .i64 i)],
      [⟨false, 3, 1, 0, 0, [], false⟩, ⟨false, 21, 1, 0, 0, [], false⟩, ⟨false, 59, 3, 0, 0, [], false⟩, ⟨true, 28, 5, 0, 1, [.arr 0 0, .bool false, .arr 1 0, .arr 2 0, .bool false], false⟩, ⟨false, 59, 3, (G.take i).flatten.length, (G.take i).flatten.length, rtsC ((G.take i).flatten.map rR), false⟩]⟩) G.length
    ⟨_, rfl, 0, by omega, by omega, fun a ha => by simp at ha, by simp [getE, ints, gridG, rtsC]⟩ ?_
  rintro N s0 ⟨i, hi, rfl, hok, rfl⟩
  by_cases hiG : i < G.length
  · have hi' : (i : Int) < (G.length : Int) := by omega
    have hi0 : (0 : Int) ≤ (i : Int) := by omega
    have hi1 : IntKind.i64.wrap ((i : Int) + 1) = ((i + 1 : Nat) : Int) := by rw [wrap_i64 (by omega) (by omega)]; omega
    have g1 := sub_grid hiG
    have hpi := hpre i hiG
    have hrl1 := hrl (G.getD i []) (by simp [List.getD, hiG])
    have hft := flat_take hiG
    simp only [b100_0, gridG, ints, go_sem, mapIA, hi', hi0, g1, Int.toNat_natCast]
    generalize hP : (G.take i).flatten = P at *
    generalize hr : G.getD i [] = r at *
    refine mLoop (fun N st => ∃ j : Nat, j ≤ r.length ∧ N = r.length - j ∧ (∀ a ∈ P ++ r.take j, (rlimbs (rR a) : Int) ≤ lim) ∧
      st = ⟨[(1, ints s), (2, .int .i64 lim), (6, .loc 3 0 0), (8, .arr 4 (P ++ r.take j).length), (15, gridG G), (16, .int .i64 G.length), (17, .int .i64 i), (21, .sl r.length 3 (rtsC (r.map rR))), (22, .int .i64 r.length), (23, .int .i64 j)],
        [⟨false, 3, 1, 0, 0, [], false⟩, ⟨false, 21, 1, 0, 0, [], false⟩, ⟨false, 59, 3, 0, 0, [], false⟩, ⟨true, 28, 5, 0, 1, [.arr 0 0, .bool false, .arr 1 0, .arr 2 0, .bool false], false⟩, ⟨false, 59, 3, (P ++ r.take j).length, (P ++ r.take j).length, rtsC ((P ++ r.take j).map rR), false⟩]⟩) r.length
      ⟨_, rfl, 0, by omega, by omega, by simpa using hok, by simp [getE, ints, gridG]⟩ ?_
    rintro N s0 ⟨j, hj, rfl, hok2, rfl⟩
    by_cases hjr : j < r.length
    · have hj' : (j : Int) < (r.length : Int) := by omega
      have hj0 : (0 : Int) ≤ (j : Int) := by omega
      have hj1 : IntKind.i64.wrap ((j : Int) + 1) = ((j + 1 : Nat) : Int) := by rw [wrap_i64 (by omega) (by omega)]; omega
      have g2 := sub_rR hjr
      obtain ⟨hp1, hp2⟩ := hpi j hjr
      have htk : P ++ r.take (j + 1) = (P ++ r.take j) ++ [r.getD j 0] := by rw [takeAt (d := 0) hjr, List.append_assoc]
      have happ := rts_snoc (l := P ++ r.take j) (a := r.getD j 0)
      rw [← htk] at happ
      have hlen : (P ++ r.take (j + 1)).length = (P ++ r.take j).length + 1 := by rw [htk, List.length_append]; rfl
      have h48 := c48_ok (E := I.E) (x := rR (r.getD j 0))
      have hnz : sub true 3 (rtC (rR (r.getD j 0))) 0 = some (.agg (rtC (rR (r.getD j 0)))) := rfl
      have hnew : (rlimbs (rR (r.getD j 0)) : Int) ≤ lim → ∀ a ∈ P ++ r.take (j + 1), (rlimbs (rR a) : Int) ≤ lim := fun hlm a ha => by
        rw [htk] at ha
        rcases List.mem_append.1 ha with ha | ha
        · exact hok2 a ha
        · obtain rfl := List.mem_singleton.1 ha; exact hlm
      have y1 : ((P ++ r.take j).length + 1) * 56 ≤ 140737488355328 := by omega
      have y2 : (P ++ r.take j).length + 1 ≤ 140737488355328 := by omega
      clear htk
      generalize P ++ r.take j = W at *
      generalize hz : rR (r.getD j 0) = z at *
      by_cases hlm : (rlimbs z : Int) ≤ lim
      · have hl' : ¬ lim < ((rlimbs z : Nat) : Int) := by omega
        simp only [rtC3, us32] at g2 happ h48 hnz
        simp only [b100_1, gridG, ints, go_sem, FL, mapIA, hj', hj0, g2, hnz, Int.toNat_natCast, us32]
        refine goR h48 rfl ?_
        simp only [go_sem, FL, mapIA, hl', hnz, us32, List.flatten_cons, List.flatten_nil, Option.getD_some, y1, y2, happ, hj1]
        refine loopQ_go rfl (r.length - (j + 1)) (by omega) ⟨j + 1, by omega, rfl, hnew hlm, ?_⟩
        rw [← hlen, List.length_append]
        rfl
      · have hl' : lim < ((rlimbs z : Nat) : Int) := by omega
        have hsh : shortB G.flatten lim = false := by
          rw [← Bool.not_eq_true, all_take]
          intro h
          have := h _ hp2
          rw [hz] at this
          exact hlm this
        simp only [rtC3, us32] at g2 happ h48 hnz
        simp only [b100_1, gridG, ints, go_sem, FL, mapIA, hj', hj0, g2, hnz, Int.toNat_natCast, us32]
        refine goR h48 rfl ?_
        simp only [go_sem, FL, mapIA, hl', hnz, us32, hsh]
        simp only [i100, OT, reduceIte, Nat.reduceEqDiff, subA5, noA]
    · obtain rfl : j = r.length := by omega
      simp only [b100_1, k100_0, gridG, ints, go_sem, Int.lt_irrefl, hi1]
      refine loopQ_go rfl (G.length - (i + 1)) (by omega) ⟨i + 1, by omega, rfl, ?_, ?_⟩
      · rw [hft]; simpa using hok2
      · rw [hft, List.take_length]; simp [getE, ints, gridG]
  · obtain rfl : i = G.length := by omega
    rw [List.take_length] at hok
    have hsh : shortB G.flatten lim = true := all_take.2 hok
    simp only [arrX, runes, ints] at h52
    rw [hsh, if_pos rfl, if_pos rfl]
    simp only [b100_0, k100_1, gridG, ints, List.take_length, go_sem, FL, Int.lt_irrefl]
    refine goF h52 ?_
    simp only [go_sem, FL, subA5]
    simp only [i100, OT, reduceIte, Nat.reduceEqDiff, subA5, arrX, runes]
    rfl
end Go.Proofs.Ytlejgleocnemoaa.I

namespace Go.Proofs.Ytlejgleocnemoaa.I
open Go Go.V
attribute [local go_sem] mNil nat0 beq_self_eq_true mSkip mRet mExit mReg mSeq mCond mTrue mFalse mBlock mLv mCodeE mCodeR mEndN mEndR mEndE mOps mSome mGuard mGtt mGff mGtf mGft mGu mCallP mCallR mCallF mCallO mCallZ mCallG mCallM mCallV loopQ_exit loopQ_ret mO_mov mO_newnil mO_pick mO_alloc mO_box mO_build mO_bsl mO_bslF mO_newnilB mO_bslB mO_lenB mO_appB mO_allocA mO_bslA mO_appA mO_ldb mO_faddrb mRsv mO_ldf mO_ld mO_st mO_sta mO_nilchk mO_bin mO_binb mO_binp mO_bins mO_neg mO_com mO_not mO_conv mO_mk mO_mk0 mO_mkB mO_s2b mO_b2s mO_cpy mO_cut mO_faddr mO_fld mO_iaddr mO_iaddrf mO_sidx mO_len mO_lenf mO_slen mO_scut mO_app mO_ext mO_mx mO_mn mO_mkfn evalOp cutOp argsE ev getE putE cellsOf adopt rowOf binV boolV nilV ar_add ar_sub ar_mul ar_quo ar_rem ar_eq ar_ne ar_lt ar_le ar_gt ar_ge ar_and ar_or ar_xor geto bound finRet finNrm ints List.length_cons List.length_nil List.length_append List.getElem?_cons_zero List.getElem?_cons_succ List.nil_append List.cons_append List.map_cons List.map_nil List.mapM_cons List.mapM_nil Option.map_some Option.map_none Option.bind_some Option.pure_def Option.bind_eq_bind List.drop_zero or_self or_false false_or or_true true_or true_and and_true and_self decide_true decide_false Bool.false_eq_true Bool.true_eq_false Bool.not_true Bool.not_false Nat.le_refl eq_self gt_iff_lt ge_iff_le ne_eq not_true_eq_false not_false_eq_true storeOp apartOf freeze_nil refsL refs List.flatMap_cons List.flatMap_nil List.append_nil List.contains_nil List.set_cons_zero List.set_cons_succ snap snapL fill_nums flat_nums nums_length Go.V.freeze List.mapIdx_cons List.mapIdx_nil List.contains_cons Bool.or_false Bool.false_or Bool.or_true Bool.true_or
theorem goF_at {C : CallRel} {Q : X → St → Prop} {k : List Go.V.Item} {d : Option Nat} {os : List IOp} {f : Nat} {xs : List Opd} {env : Env} {M : List AObj} {vs : List AV} {r : AV} (ha : xs.mapM (fun x => snap M 10 (ev env x)) = some vs) (h : C f vs [] r [])
    (hk : Mach C Q (.ops os :: k) .nrm ⟨putE env d r, Go.V.freeze (xs.flatMap fun x => refs M 10 (ev env x)) M⟩) : Mach C Q (.ops (⟨d, .callF f xs, none⟩ :: os) :: k) .nrm ⟨env, M⟩ := by
  rw [mCallF]
  show MachA C Q .F f (xs.mapM fun x => snap M 10 (ev env x)) _ d os k _
  rw [ha]
  exact goF h hk
section
variable {n : Nat} {L : Nat → List Rat}
theorem gridM_len : (gridM n L).length = n + 1 := by simp [gridM]
theorem shift_rO {d : Nat} {l : List Rat} : shiftO d (rO l) = rO l := by simp [shiftO, rO]
theorem gridM_row {d i : Nat} (h : i < n) : ((gridM n L).map (shiftO d))[i]? = some (rO (L i)) := by
  rw [List.getElem?_map, gridM, List.getElem?_append_left (by simp; exact h)]
  simp [h, shift_rO]
theorem gridM_box {d : Nat} : ((gridM n L).map (shiftO d))[n]? = some ⟨true, 26, 1, 0, n, bxC n fun i => i + d, false⟩ := by
  rw [List.getElem?_map, gridM, List.getElem?_append_right (by simp)]
  simp only [List.length_map, List.length_range, Nat.sub_self, List.getElem?_cons_zero, Option.map_some, shiftO, if_true, List.map_map, bxC]
  rfl
theorem gridM_made : ((gridM n L).all made) = true := by
  rw [List.all_eq_true]
  intro o ho
  rcases List.mem_append.1 ho with h | h
  · obtain ⟨i, _, rfl⟩ := List.mem_map.1 h
    rfl
  · obtain rfl := List.mem_singleton.1 h
    simp only [made, Bool.not_true, Bool.false_or, List.all_eq_true]
    intro c hc
    obtain ⟨i, _, rfl⟩ := List.mem_map.1 hc
    rfl
theorem two_of {Bs : List AObj} {LX LN : Nat → List Rat} {d : Nat} (hd : Bs.length = d) :
    Two (Bs ++ ((gridM n LX).map (shiftO d) ++ (gridM n LN).map (shiftO (n + 1 + d)))) n (n + (n + 1 + d)) (n + d) (fun i => i + (n + 1 + d)) (fun i => i + d) (LN, LX) := by
  have h1 : ∀ i, i ≤ n → (Bs ++ ((gridM n LX).map (shiftO d) ++ (gridM n LN).map (shiftO (n + 1 + d))))[i + d]? = ((gridM n LX).map (shiftO d))[i]? := fun i hi => by
    rw [List.getElem?_append_right (by omega), List.getElem?_append_left (by rw [List.length_map, gridM_len]; omega)]
    congr 1; omega
  have h2 : ∀ i, (Bs ++ ((gridM n LX).map (shiftO d) ++ (gridM n LN).map (shiftO (n + 1 + d))))[i + (n + 1 + d)]? = ((gridM n LN).map (shiftO (n + 1 + d)))[i]? := fun i => by
    rw [List.getElem?_append_right (by omega), List.getElem?_append_right (by rw [List.length_map, gridM_len]; omega)]
    congr 1; rw [List.length_map, gridM_len]; omega
  exact ⟨by rw [h2, gridM_box], by rw [h1 n (Nat.le_refl _), gridM_box], fun i hi => by rw [h2, gridM_row hi], fun i hi => by rw [h1 i (by omega), gridM_row hi], fun i j _ _ h => by omega, fun i j _ _ h => by omega, fun i j hi hj => by omega, by omega⟩
theorem snap_two {M : List AObj} {ba bb : Nat} {ia ib : Nat → Nat} {s : Gd × Gd} (h : Two M n ba bb ia ib s) : snap M 10 (.arr bb 0) = some (gridG ((List.range n).map s.2)) := by
  have e : ∀ i, i < n → snap M 8 (.arr (ib i) 0) = some (.sl (s.2 i).length 3 (rtsC ((s.2 i).map rR))) := fun i hi => by
    rw [snap_arr (k := 7) (g := 0) (h.rB i hi) rfl]
    rfl
  rw [snap_arr (k := 9) h.bB rfl]
  have e2 : snapL M 9 true (bxC n ib) = (bxC n ib).mapM (snap M 8) := rfl
  have e3 : ∀ l : List Nat, (∀ i ∈ l, i < n) → (l.map fun i => AV.arr (ib i) 0).mapM (snap M 8) = some (l.map fun i => AV.sl (s.2 i).length 3 (rtsC ((s.2 i).map rR))) := fun l => by
    induction l with
    | nil => intro _; rfl
    | cons a l ih =>
      intro hl
      rw [List.map_cons, List.mapM_cons, e a (hl a (by simp)), ih (fun i hi => hl i (by simp [hi]))]
      rfl
  rw [e2, bxC, e3 _ (fun i hi => List.mem_range.1 hi)]
  simp only [Option.map_some, gridG, List.length_map, List.length_range, List.map_map]
  rfl
end
def ansL (t : Gd × Gd) (n m : Nat) : List Rat := ((List.range n).map fun r => dvR t m r m).flatten
theorem ansL_len {t : Gd × Gd} {n m : Nat} : (ansL t n m).length = n * m := by
  unfold ansL
  induction n with
  | zero => simp
  | succ n ih => rw [List.range_succ, List.map_append, List.flatten_append, List.length_append, ih]; simp [dvR_len, Nat.add_mul]
theorem grid_row {A : List Rat} {R C : Nat} : ∀ r ∈ gridA A R C, r.length = C := fun r hr => by
  obtain ⟨i, _, rfl⟩ := List.mem_map.1 hr
  exact rowA_len
theorem grid_Sz {A : List Rat} {R C e : Nat} (he : 1 ≤ e) (h : ∀ a ∈ A, Sz e a) : ∀ r ∈ gridA A R C, ∀ a ∈ r, Sz e a := fun r hr a ha => by
  obtain ⟨i, _, rfl⟩ := List.mem_map.1 hr
  obtain ⟨k, _, rfl⟩ := List.mem_map.1 ha
  by_cases hk : i * C + k < A.length
  · simp only [List.getD, List.getElem?_eq_getElem hk, Option.getD_some]; exact h _ (List.getElem_mem hk)
  · simp only [List.getD, List.getElem?_eq_none (show A.length ≤ i * C + k by omega), Option.getD_none]; exact Sz.zero' he
theorem nrm_Sz {G H : List (List Rat)} {i e m : Nat} (hG : ∀ r ∈ G, i < r.length) (hH : ∀ r ∈ H, m ≤ r.length) (hGH : H.length = G.length) (hGs : ∀ r ∈ G, ∀ a ∈ r, Sz e a) (hHs : ∀ r ∈ H, ∀ a ∈ r, Sz e a) : ∀ a ∈ nrmR G H i m, Sz ((2 * e + 1) * G.length + 1) a := fun a ha => by
  obtain ⟨j, hj, rfl⟩ := List.mem_map.1 ha
  have hj := List.mem_range.1 hj
  refine Sz.sum (e := 2 * e) fun k hk => ?_
  have sG : (G.getD k []) ∈ G := by simp [List.getD, hk]
  have sH : (H.getD k []) ∈ H := by simp [List.getD, hGH, hk]
  have m1 : mxG G k i ∈ G.getD k [] := by have := hG _ sG; unfold mxG; generalize G.getD k [] = r at *; simp [List.getD, this]
  have m2 : mxG H k j ∈ H.getD k [] := by have := hH _ sH; unfold mxG; generalize H.getD k [] = r at *; simp [List.getD, show j < r.length by omega]
  exact ((hGs _ sG _ m1).mul (hHs _ sH _ m2)).mono (by omega)
end Go.Proofs.Ytlejgleocnemoaa.I

namespace Go.Proofs.Ytlejgleocnemoaa.I
open Go Go.V
attribute [local go_sem_proc ↓] reduceIte
attribute [local go_sem_proc] Nat.reduceEqDiff Nat.reduceAdd Nat.reduceMul Nat.reduceLeDiff Nat.reduceLT Int.reduceToNat Int.reduceLT Int.reduceLE reduceCtorEq Nat.reduceBEq
attribute [local go_sem] mNil nat0 beq_self_eq_true mSkip mRet mExit mReg mSeq mCond mTrue mFalse mBlock mLv mCodeE mCodeR mEndN mEndR mEndE mOps mSome mGuard mGtt mGff mGtf mGft mGu mCallP mCallR mCallF mCallO mCallZ mCallG mCallM mCallV loopQ_exit loopQ_ret mO_mov mO_newnil mO_pick mO_alloc mO_box mO_build mO_bsl mO_bslF mO_newnilB mO_bslB mO_lenB mO_appB mO_allocA mO_bslA mO_appA mO_ldb mO_faddrb mRsv mO_ldf mO_ld mO_st mO_sta mO_nilchk mO_bin mO_binb mO_binp mO_bins mO_neg mO_com mO_not mO_conv mO_mk mO_mk0 mO_mkB mO_s2b mO_b2s mO_cpy mO_cut mO_faddr mO_fld mO_iaddr mO_iaddrf mO_sidx mO_len mO_lenf mO_slen mO_scut mO_app mO_ext mO_mx mO_mn mO_mkfn evalOp cutOp argsE ev getE putE cellsOf adopt rowOf binV boolV nilV ar_add ar_sub ar_mul ar_quo ar_rem ar_eq ar_ne ar_lt ar_le ar_gt ar_ge ar_and ar_or ar_xor geto bound finRet finNrm ints List.length_cons List.length_nil List.length_append List.getElem?_cons_zero List.getElem?_cons_succ List.nil_append List.cons_append List.map_cons List.map_nil List.mapM_cons List.mapM_nil Option.map_some Option.map_none Option.bind_some Option.pure_def Option.bind_eq_bind List.drop_zero or_self or_false false_or or_true true_or true_and and_true and_self decide_true decide_false Bool.false_eq_true Bool.true_eq_false Bool.not_true Bool.not_false Nat.le_refl eq_self gt_iff_lt ge_iff_le ne_eq not_true_eq_false not_false_eq_true storeOp apartOf freeze_nil refsL refs List.flatMap_cons List.flatMap_nil List.append_nil List.contains_nil List.set_cons_zero List.set_cons_succ snap snapL fill_nums flat_nums nums_length Go.V.freeze List.mapIdx_cons List.mapIdx_nil List.contains_cons Bool.or_false Bool.false_or Bool.or_true Bool.true_or
theorem nums_nilA {k : IntKind} : nums k [] = [] := rfl
theorem frz_get {M : List AObj} {ns : List Nat} {i : Nat} {o : AObj} (h : M[i]? = some o) (hn : ns.contains i = false) : (Go.V.freeze ns M)[i]? = some o := by
  unfold Go.V.freeze
  rw [List.getElem?_mapIdx, h]
  simp only [Option.map_some, hn]
  rfl
def divS (A B : List Rat) (R C C' : Nat) : Gd × Gd := (fun r => nrmR (gridA A R C) (gridA A R C) r C, fun r => nrmR (gridA A R C) (gridA B R C') r C')
theorem divS_len {A B : List Rat} {R C C' : Nat} : Lens C C' (divS A B R C C') := fun r _ => ⟨nrmR_len, nrmR_len⟩
def divSh (s s' : List Int) (C C' : Nat) : List Int := (if 1 < s.length then [(C : Int)] else []) ++ if 1 < s'.length then [(C' : Int)] else []
theorem divSh_count {s s' : List Int} {C C' : Nat} (hC : C ≤ 8) (hC' : C' ≤ 32) (h : s.length ≤ 1 → C = 1) (h' : s'.length ≤ 1 → C' = 1) : count (divSh s s' C C') = some ((C * C' : Nat) : Int) := by
  have hb : C * C' ≤ 256 := Nat.le_trans (Nat.mul_le_mul hC hC') (by omega)
  have mp : mprd (divSh s s' C C') ≤ 4096 ∧ prd (divSh s s' C C') = ((C * C' : Nat) : Int) := by
    have m1 : ∀ k : Nat, k ≤ 32 → max 1 (k : Int) ≤ 32 ∧ 1 ≤ max 1 (k : Int) := fun k hk => by rw [max1]; split <;> omega
    obtain ⟨a1, a2⟩ := m1 C (by omega)
    obtain ⟨b1, b2⟩ := m1 C' hC'
    have hab : max 1 (C : Int) * max 1 (C' : Int) ≤ 32 * 32 := by
      have h1 := Int.mul_le_mul a1 b1 (by omega) (by omega)
      exact h1
    unfold divSh
    by_cases h1 : 1 < s.length
    · by_cases h2 : 1 < s'.length
      · rw [if_pos h1, if_pos h2]
        simp only [List.cons_append, List.nil_append, mprd, prd, Int.mul_one]
        exact ⟨by omega, by rw [Int.natCast_mul]⟩
      · rw [if_pos h1, if_neg h2]
        simp only [List.append_nil, mprd, prd, Int.mul_one]
        rw [h' (by omega)]
        exact ⟨by omega, by simp⟩
    · by_cases h2 : 1 < s'.length
      · rw [if_neg h1, if_pos h2]
        simp only [List.nil_append, mprd, prd, Int.mul_one]
        rw [h (by omega)]
        exact ⟨by omega, by simp⟩
      · rw [if_neg h1, if_neg h2]
        simp only [List.nil_append, mprd, prd]
        rw [h (by omega), h' (by omega)]
        exact ⟨by omega, by simp⟩
  have hm : ∀ d ∈ divSh s s' C C', 0 ≤ d := fun d hd => by
    unfold divSh at hd
    rcases List.mem_append.1 hd with hd | hd
    · split at hd
      · obtain rfl := List.mem_singleton.1 hd; omega
      · cases hd
    · split at hd
      · obtain rfl := List.mem_singleton.1 hd; omega
      · cases hd
  rw [count_iff.1 ⟨by unfold divSh; split <;> split <;> simp, hm, mp.1⟩, mp.2]
theorem getA {M : List AObj} {k : Nat} {o : AObj} (h : M[k]? = some o) (Y : List AObj) : (M ++ Y)[k]? = some o := by rw [List.getElem?_append_left (lt_of h)]; exact h
theorem getL {M Y : List AObj} {o : AObj} : (M ++ o :: Y)[M.length]? = some o := by simp
theorem setL {M Y : List AObj} {o o' : AObj} : (M ++ o :: Y).set M.length o' = M ++ o' :: Y := by simp
theorem getLk {M Y : List AObj} {k : Nat} : (M ++ Y)[M.length + k]? = Y[k]? := by rw [List.getElem?_append_right (by omega)]; congr 1; omega
theorem goBsl {C : CallRel} {Q : X → St → Prop} {k : List Go.V.Item} {d : Option Nat} {os : List IOp} {a : Nat} {x : Opd} {kk : IntKind} {v : Int} {env : Env} {M : List AObj} (h : ev env x = .int kk v)
    (hk : Mach C Q (.ops os :: k) .nrm ⟨putE env d (.arr M.length 0), M ++ [⟨false, a, 1, 0, 1, [.int kk v], false⟩]⟩) : Mach C Q (.ops (⟨d, .bsl a 1 [x], none⟩ :: os) :: k) .nrm ⟨env, M⟩ := by
  rw [mO_bsl]
  have e : evalOp M (ev env) (.bsl a 1 [x]) = some (.arr M.length 0, M ++ [⟨false, a, 1, 0, 1, [.int kk v], false⟩]) := by
    have q : evalOp M (ev env) (.bsl a 1 [x]) = (match [x].mapM (fun x => (cellsOf (ev env x)).bind fun cs => if cs.length = 1 then snapL M 9 true cs else none) with
      | some css => some (.arr M.length 0, Go.V.freeze ([x].flatMap fun x => refsL M 9 true ((cellsOf (ev env x)).getD [])) M ++ [⟨false, a, 1, 0, 1, css.flatten, false⟩])
      | none => none) := rfl
    rw [q]
    simp only [List.mapM_cons, List.mapM_nil, List.flatMap_cons, List.flatMap_nil, List.append_nil, h]
    show some (AV.arr M.length 0, Go.V.freeze [] M ++ _) = _
    rw [freeze_nil]
    rfl
  rw [e]
  exact hk
theorem snap3 {M : List AObj} {env : Env} {x y z : Opd} {a b c : AV} (h1 : snap M 10 (ev env x) = some a) (h2 : snap M 10 (ev env y) = some b) (h3 : snap M 10 (ev env z) = some c) : [x, y, z].mapM (fun x => snap M 10 (ev env x)) = some [a, b, c] := by
  simp only [List.mapM_cons, List.mapM_nil, h1, h2, h3]
  rfl
theorem refs_two {M : List AObj} {n ba bb : Nat} {ia ib : Nat → Nat} {s : Gd × Gd} (h : Two M n ba bb ia ib s) {o : AObj} {i : Nat} (hi : M[i]? = some o) (ho : o.box = true) (hb : bb ≠ i) : i ∉ refs M 10 (.arr bb 0) := by
  have e : refs M 10 (.arr bb 0) = bb :: (bxC n ib).flatMap (refs M 8) := by
    show bb :: (match geto M bb 0 with | some o => refsL M 9 o.box o.cs | none => []) = _
    rw [geto, h.bB]
    rfl
  rw [e]
  intro hm
  rcases List.mem_cons.1 hm with rfl | hm
  · exact hb rfl
  obtain ⟨c, hc, hm⟩ := List.mem_flatMap.1 hm
  obtain ⟨r, hr, rfl⟩ := List.mem_map.1 hc
  have hr := List.mem_range.1 hr
  have e2 : refs M 8 (.arr (ib r) 0) = [ib r] := by
    show ib r :: (match geto M (ib r) 0 with | some o => refsL M 7 o.box o.cs | none => []) = _
    rw [geto, h.rB r hr]
    rfl
  rw [e2] at hm
  obtain rfl := List.mem_singleton.1 hm
  rw [h.rB r hr] at hi
  obtain rfl := Option.some.inj hi
  cases ho
theorem refs_row {M : List AObj} {i g j : Nat} {o : AObj} (h : M[i]? = some o) (ho : o.box = false) (hj : i ≠ j) : j ∉ refs M 10 (.arr i g) := by
  show j ∉ i :: (match geto M i g with | some o => refsL M 9 o.box o.cs | none => [])
  rw [geto, h]
  intro hm
  rcases List.mem_cons.1 hm with rfl | hm
  · exact hj rfl
  split at hm
  · rename_i o' ho'
    simp only at ho'
    split at ho'
    · obtain rfl := Option.some.inj ho'
      rw [ho] at hm
      cases hm
    · cases ho'
  · cases hm
theorem notin3 {M : List AObj} {env : Env} {x y z : Opd} {i : Nat} (h1 : i ∉ refs M 10 (ev env x)) (h2 : i ∉ refs M 10 (ev env y)) (h3 : i ∉ refs M 10 (ev env z)) : ([x, y, z].flatMap fun x => refs M 10 (ev env x)).contains i = false := by
  simp only [List.flatMap_cons, List.flatMap_nil, List.append_nil]
  rw [Bool.eq_false_iff]
  intro h
  have h := List.contains_iff_mem.1 h
  rcases List.mem_append.1 h with h | h
  · exact h1 h
  rcases List.mem_append.1 h with h | h
  · exact h2 h
  · exact h3 h
theorem out_arr {fn : IFn} {p q i : Nat} {env : Env} {M : List AObj} {ob : AObj} {a c d : Nat} {x y z : List AV} {b f : Bool} {e : Int} (hres : fn.res = [.c p true 5, .t q]) (hmd : fn.md = .pure) (hp : getE env p = .loc i 0 0) (hq : getE env q = .int .i64 e) (hM : M[i]? = some ob) (hg : ob.g = 0) (hcs : ob.cs = [.sl a 1 x, .bool b, .sl c 1 y, .sl d 3 z, .bool f]) :
    Out fn [] (.tup [.agg [.sl a 1 x, .bool b, .sl c 1 y, .sl d 3 z, .bool f], .int .i64 e]) [] ⟨env, M⟩ := by
  unfold Out
  have h1 : resOf ⟨env, M⟩ (.c p true 5) = some (.agg [.sl a 1 x, .bool b, .sl c 1 y, .sl d 3 z, .bool f]) := by
    show (match getE env p with | .loc m g i => (geto M m g).bind fun o => sub true 5 o.cs i | _ => none) = _
    rw [hp]
    show (geto M i 0).bind _ = _
    rw [geto, hM]
    simp only [hg, if_true, Option.bind_some, hcs]
    rfl
  have h2 : resOf ⟨env, M⟩ (.t q) = some (.int .i64 e) := by
    show some (getE env q) = _
    rw [hq]
  have h3 : resAll ⟨env, M⟩ fn.res = some (.tup [.agg [.sl a 1 x, .bool b, .sl c 1 y, .sl d 3 z, .bool f], .int .i64 e]) := by
    rw [hres]
    show ([Res.c p true 5, .t q].mapM (resOf ⟨env, M⟩)).map AV.tup = _
    simp only [List.mapM_cons, List.mapM_nil, h1, h2]
    rfl
  rw [h3, hmd]
  exact ⟨rfl, rfl, rfl⟩
theorem getS {M : List AObj} {i : Nat} {o o' : AObj} (h : M[i]? = some o) : (M.set i o')[i]? = some o' := by rw [List.getElem?_set_self (lt_of h)]
theorem goM_ex {C : CallRel} {Q : X → St → Prop} {P : List AObj → Prop} {f : Nat} {vs : List AV} {ns : List Nat} {d : Option Nat} {os : List IOp} {k : List Go.V.Item} {s : St} {r : AV} (h : ∃ m, C f vs s.mem r m ∧ P m) (hk : ∀ m, P m → Mach C Q (.ops os :: k) .nrm ⟨putE s.env d r, m⟩) : MachA C Q .M f (some vs) ns d os k s := by
  obtain ⟨m, h1, h2⟩ := h
  exact goM h1 (hk m h2)
set_option maxHeartbeats 2000000 in
theorem c39_core {s s' t t' : List Int} {ch ch' : Bool} {A B : List Rat} {R C C' e : Nat} {lim : Int} (ha : ArrM s t ch A R C) (hb : ArrM s' t' ch' B R C') (hchk : chkE s t ch A R C = 0) (h2' : s'.length ≤ 2) (hbad : (ch' && decide (0 < t'.length + B.length)) = false) (hC' : C' ≤ 32)
    (he : 1 ≤ e) (hA : ∀ a ∈ A, Sz e a) (hB : ∀ a ∈ B, Sz e a) (hsz : 4 ^ (C + 1) * ((2 * e + 1) * (R + 1) + 2) ≤ 30000000) (hin : ∀ d ∈ divSh s s' C C', In64 d) :
    Go.V.Call tab E 39 [.agg (arrX s' ch' t' (B.map rR)), .agg (arrX s ch t (A.map rR)), .int .i64 lim] []
      (match redA C C (divS A B R C C') with
      | none => .tup [.agg noA, .int .i64 22]
      | some u => .tup [.agg (if shortB (ansL u C C') lim then arrX (divSh s s' C C') false [] ((ansL u C C').map rR) else noA), .int .i64 (if shortB (ansL u C C') lim then 0 else 26)]) [] := by
  refine Go.V.Call.mach i39 c39 rfl rfl rfl rfl ?_
  -- what the checks say
  have hck := hchk
  unfold chkE at hck
  by_cases h2 : 2 < s.length
  · rw [if_pos h2] at hck; cases hck
  rw [if_neg h2] at hck
  by_cases hbb : (ch && decide (0 < t.length + A.length)) = true
  · rw [if_pos hbb] at hck; cases hck
  rw [if_neg hbb] at hck
  by_cases hRC : R < C
  · rw [if_pos hRC] at hck; cases hck
  rw [if_neg hRC] at hck
  by_cases h32 : 32 < R ∨ 8 < C
  · rw [if_pos h32] at hck; cases hck
  clear hck
  obtain ⟨hAl, rfl⟩ := ha.ok (by omega) (by simpa using hbb)
  obtain ⟨hBl, rfl⟩ := hb.ok h2' hbad
  have hal := ha.al
  have hbl := hb.al
  have h95 := c95_ok ha
  rw [hchk] at h95
  have h66 := c66_X (s := s') (t := []) (l := B.map rR) (ch := ch') (by have := hb.s8; omega)
  have h66a := c66_X (s := s) (t := []) (l := A.map rR) (ch := ch) (by have := ha.s8; omega)
  have h68 := c68_ok (s := s') (t := []) (l := B.map rR) (ch := ch')
  have h23 := c23_X (s := s') (t := []) (l := B.map rR) (ch := ch') (by simp) (by rw [List.length_map]; omega)
  have h96a := c96_ok (s := s) (t := []) (A := A) (ch := ch) (R := R) (C := C) ha.s8 ha.r0 ha.c0 hAl ha.R4 ha.C4 hal
  have h96b := c96_ok (s := s') (t := []) (A := B) (ch := ch') (R := R) (C := C') hb.s8 hb.r0 hb.c0 hBl hb.R4 hb.C4 hbl
  have h97a := c97_ok (s := s) (t := []) (l := A.map rR) (ch := ch) ha.s8
  have h97b := c97_ok (s := s') (t := []) (l := B.map rR) (ch := ch') hb.s8
  rw [ha.c0] at h97a
  rw [hb.c0] at h97b
  have hs1 : s.length ≤ 1 → C = 1 := fun h => by
    have h3 := ha.c0
    rw [show s.getD 1 1 = 1 by simp [List.getD, show s[1]? = none from List.getElem?_eq_none (by omega)]] at h3
    omega
  have hs1' : s'.length ≤ 1 → C' = 1 := fun h => by
    have h3 := hb.c0
    rw [show s'.getD 1 1 = 1 by simp [List.getD, show s'[1]? = none from List.getElem?_eq_none (by omega)]] at h3
    omega
  have hrow : ∀ {X : List Rat} {K : Nat}, ∀ r ∈ gridA X R K, r.length = K := fun r hr => grid_row r hr
  have hp4 : 1 ≤ 4 ^ (C + 1) := Nat.pow_pos (by omega)
  have hsz1 : (2 * e + 1) * (R + 1) + 2 ≤ 30000000 := Nat.le_trans (Nat.le_mul_of_pos_left _ hp4) hsz
  have hn0 : 0 < C → 0 < (gridA A R C).length := fun h => by rw [grid_len]; omega
  have h98x := c98_ok (G := gridA A R C) (H := gridA B R C') (n := C) (m := C') (e := e) (by rw [grid_len, grid_len]) (fun r hr => Nat.le_of_eq (hrow r hr).symm) (fun r hr => Nat.le_of_eq (hrow r hr).symm) (grid_Sz he hA) (grid_Sz he hB) (by rw [grid_len]; omega) hn0 (by omega) (by omega) (by rw [grid_len]; omega)
  have h98n := c98_ok (G := gridA A R C) (H := gridA A R C) (n := C) (m := C) (e := e) rfl (fun r hr => Nat.le_of_eq (hrow r hr).symm) (fun r hr => Nat.le_of_eq (hrow r hr).symm) (grid_Sz he hA) (grid_Sz he hA) (by rw [grid_len]; omega) hn0 (by omega) (by omega) (by rw [grid_len]; omega)
  have hS : SzG C (divS A B R C C') ((2 * e + 1) * R + 1) := fun r hr => by
    have q1 := nrm_Sz (G := gridA A R C) (H := gridA A R C) (i := r) (m := C) (fun x hx => by rw [hrow x hx]; exact hr) (fun x hx => Nat.le_of_eq (hrow x hx).symm) rfl (grid_Sz he hA) (grid_Sz he hA)
    have q2 := nrm_Sz (G := gridA A R C) (H := gridA B R C') (i := r) (m := C') (fun x hx => by rw [hrow x hx]; exact hr) (fun x hx => Nat.le_of_eq (hrow x hx).symm) (by rw [grid_len, grid_len]) (grid_Sz he hA) (grid_Sz he hB)
    rw [grid_len] at q1 q2
    exact ⟨q1, q2⟩
  have h99 := fun (Bs : List AObj) (hd : Bs.length = 6) => c99_ok (d := 6) (M := Bs ++ ((gridM C (divS A B R C C').2).map (shiftO 6) ++ (gridM C (divS A B R C C').1).map (shiftO (C + 1 + 6)))) (s := divS A B R C C') (e := (2 * e + 1) * R + 1) (m := C') (two_of hd) divS_len hS (by omega) (by omega)
    (Nat.le_trans (Nat.mul_le_mul_left _ (by rw [Nat.mul_add]; omega)) hsz) ⟨by omega, by omega⟩ (fun i _ => ⟨by omega, by omega⟩)
  have h100 := fun (u : Gd × Gd) => c100_ok (G := (List.range C).map fun r => dvR u C' r C') (s := divSh s s' C C') (lim := lim) hin (by unfold divSh; split <;> split <;> simp) (by
      have : ((List.range C).map fun r => dvR u C' r C').flatten.length = C * C' := ansL_len
      rw [this, fits, divSh_count (by omega) hC' hs1 hs1']; simp) (by simp; omega) (fun r hr => by obtain ⟨i, _, rfl⟩ := List.mem_map.1 hr; rw [dvR_len]; omega) (by
      have : ((List.range C).map fun r => dvR u C' r C').flatten.length = C * C' := ansL_len
      rw [this]
      exact Nat.le_trans (Nat.mul_le_mul (show C ≤ 8 by omega) hC') (by omega))
  have hgm : ((gridM C (divS A B R C C').2).map (shiftO 6)).length = C + 1 := by rw [List.length_map, gridM_len]
  have hr2 : ¬ (2 : Int) < (s'.length : Int) := by omega
  have hRR : ((R : Int) != (R : Int)) = false := by simp
  have h32c : ¬ (32 : Int) < (C' : Int) := by omega
  have hz0 : ¬ (ch' = true ∧ (0 : Int) < ((B.length : Nat) : Int)) := fun ⟨h1, h2⟩ => by
    rw [h1, Bool.true_and, decide_eq_false_iff_not] at hbad
    simp at hbad
    rw [hbad] at h2
    simp at h2
  have gml : (gridM C (divS A B R C C').2).all made = true := gridM_made
  have gml' : (gridM C (divS A B R C C').1).all made = true := gridM_made
  have eX : gridM C (fun i => nrmR (gridA A R C) (gridA B R C') i C') = gridM C (divS A B R C C').2 := rfl
  have eN : gridM C (fun i => nrmR (gridA A R C) (gridA A R C) i C) = gridM C (divS A B R C C').1 := rfl
  rw [eX] at h98x
  rw [eN] at h98n
  rw [List.length_map] at h23
  have hGA : gridG (gridA A R C) = .sl R 1 ((gridA A R C).map fun r => .sl r.length 3 (rtsC (r.map rR))) := by rw [gridG, grid_len]
  have hGB : gridG (gridA B R C') = .sl R 1 ((gridA B R C').map fun r => .sl r.length 3 (rtsC (r.map rR))) := by rw [gridG, grid_len]
  rw [hGA] at h96a h98x h98n
  rw [hGB] at h96b h98x
  generalize (gridA A R C).map (fun r => AV.sl r.length 3 (rtsC (r.map rR))) = GA at *
  generalize (gridA B R C').map (fun r => AV.sl r.length 3 (rtsC (r.map rR))) = GB at *
  simp only [arrX, runes, ints, List.length_nil, nums_nilA] at h95 h66 h66a h68 h23 h96a h96b h97a h97b
  have eD : divSh s s' C C' = (if (1 : Int) < (s.length : Int) then [(C : Int)] else []) ++ if (1 : Int) < (s'.length : Int) then [(C' : Int)] else [] := by
    have q : ∀ (l : List Int) (x : Int), (if 1 < l.length then [x] else []) = if (1 : Int) < (l.length : Int) then [x] else [] := fun l x => by
      by_cases h : 1 < l.length
      · rw [if_pos h, if_pos (by omega)]
      · rw [if_neg h, if_neg (by omega)]
    rw [divSh, q, q]
  cases hr : redA C C (divS A B R C C') with
  | none =>
    simp only [hr] at h99 ⊢
    cases ch' <;> (
      simp only [c39, arrX, runes, ints, List.length_nil, nums_nilA, go_sem, FL, subA5]
      refine goP h95 ?_
      simp only [go_sem, FL, subA5, bne_self_eq_false]
      refine goP h66 ?_
      simp only [go_sem, FL, subA5, hr2]
      refine goP h68 ?_
      simp only [go_sem, FL, subA5]
      try (refine goP h23 ?_; have hz1 : ¬ (0 : Int) < ((B.length : Nat) : Int) := fun h => hz0 ⟨rfl, h⟩; simp only [go_sem, FL, subA5, hz1])
      refine goP h96b ?_
      simp only [go_sem, FL, subA5]
      refine goP h96a ?_
      simp only [go_sem, FL, subA5, hRR]
      refine goP h97b ?_
      simp only [go_sem, FL, subA5, h32c]
      refine goP h96a ?_
      simp only [go_sem, FL, subA5]
      refine goP h96b ?_
      simp only [go_sem, FL, subA5]
      refine goP h97a ?_
      simp only [go_sem, FL, subA5]
      refine goP h97b ?_
      simp only [go_sem, FL, subA5]
      refine goB h98x gml rfl ?_
      simp only [go_sem, FL, mapIA, subA5]
      refine goP h96a ?_
      simp only [go_sem, FL, mapIA, subA5]
      refine goP h96a ?_
      simp only [go_sem, FL, mapIA, subA5]
      refine goP h97a ?_
      simp only [go_sem, FL, mapIA, subA5]
      refine goP h97a ?_
      simp only [go_sem, FL, mapIA, subA5]
      refine goB h98n gml' rfl ?_
      simp only [go_sem, FL, mapIA, subA5, hgm]
      refine goM_ex (h99 [_, _, _, _, _, _] rfl) fun M' hsm => ?_
      have m1 := hsm 1 (by omega)
      have m5 := hsm 5 (by omega)
      simp only [List.cons_append, List.nil_append, List.getElem?_cons_succ, List.getElem?_cons_zero, storeOp, apartOf, freeze_nil, refsL, refs, List.flatMap_cons, List.flatMap_nil, List.append_nil, List.contains_nil, List.set_cons_zero, List.set_cons_succ, snap, snapL, fill_nums, flat_nums, nums_length] at m1 m5
      simp only [go_sem, FL, mapIA, subA5, m1, m5]
      exact out_arr rfl rfl rfl rfl (getS m5) rfl rfl)
  | some u =>
    simp only [hr] at h99 ⊢
    have h99s := fun (Bs : List AObj) (hd : Bs.length = 6) => (let ⟨M', ia, ib, a, b, c⟩ := h99 Bs hd; (⟨M', a, b, ia, ib, c⟩ : ∃ M', _ ∧ SameB 6 _ M' ∧ ∃ ia ib, Two M' _ _ _ ia ib _))
    cases ch' <;> (
      simp only [c39, arrX, runes, ints, List.length_nil, nums_nilA, go_sem, FL, subA5]
      refine goP h95 ?_
      simp only [go_sem, FL, subA5, bne_self_eq_false]
      refine goP h66 ?_
      simp only [go_sem, FL, subA5, hr2]
      refine goP h68 ?_
      simp only [go_sem, FL, subA5]
      try (refine goP h23 ?_; have hz1 : ¬ (0 : Int) < ((B.length : Nat) : Int) := fun h => hz0 ⟨rfl, h⟩; simp only [go_sem, FL, subA5, hz1])
      refine goP h96b ?_
      simp only [go_sem, FL, subA5]
      refine goP h96a ?_
      simp only [go_sem, FL, subA5, hRR]
      refine goP h97b ?_
      simp only [go_sem, FL, subA5, h32c]
      refine goP h96a ?_
      simp only [go_sem, FL, subA5]
      refine goP h96b ?_
      simp only [go_sem, FL, subA5]
      refine goP h97a ?_
      simp only [go_sem, FL, subA5]
      refine goP h97b ?_
      simp only [go_sem, FL, subA5]
      refine goB h98x gml rfl ?_
      simp only [go_sem, FL, mapIA, subA5]
      refine goP h96a ?_
      simp only [go_sem, FL, mapIA, subA5]
      refine goP h96a ?_
      simp only [go_sem, FL, mapIA, subA5]
      refine goP h97a ?_
      simp only [go_sem, FL, mapIA, subA5]
      refine goP h97a ?_
      simp only [go_sem, FL, mapIA, subA5]
      refine goB h98n gml' rfl ?_
      simp only [go_sem, FL, mapIA, subA5, hgm]
      refine goM_ex (h99s [_, _, _, _, _, _] rfl) fun M' hsm => ?_
      obtain ⟨hsm, ia, ib, hT⟩ := hsm
      have m0 := hsm 0 (by omega)
      have m1 := hsm 1 (by omega)
      have m5 := hsm 5 (by omega)
      simp only [List.cons_append, List.nil_append, List.getElem?_cons_succ, List.getElem?_cons_zero, storeOp, apartOf, freeze_nil, refsL, refs, List.flatMap_cons, List.flatMap_nil, List.append_nil, List.contains_nil, List.set_cons_zero, List.set_cons_succ, snap, snapL, fill_nums, flat_nums, nums_length] at m0 m1 m5
      have n0 := fun Y => getA m0 Y
      have n1 := fun Y => getA m1 Y
      have n5 := fun Y => getA m5 Y
      have h5 := lt_of m5
      simp only [go_sem, FL, mapIA, subA5, m0, m1, n0, n1]
      refine goP h66a ?_
      generalize hop : (⟨some 86, .callF 100 [.t 83, .t 84, .t 85], none⟩ : IOp) = op
      by_cases hl1 : (1 : Int) < (s.length : Int) <;> by_cases hl2 : (1 : Int) < (s'.length : Int) <;> (
        simp only [go_sem, FL, mapIA, subA5, n0, n1, hl1]
        try (refine goP h97a ?_; refine goBsl rfl ?_; simp only [go_sem, FL, mapIA, subA5, n0, n1, getL, getLk, setL, List.append_assoc])
        refine goP h66 ?_
        simp only [go_sem, FL, mapIA, subA5, n0, n1, hl2]
        try (refine goP h97b ?_; refine goBsl rfl ?_; simp only [go_sem, FL, mapIA, subA5, n0, n1, getL, getLk, setL, List.append_assoc])
        subst hop
        refine goF_at (vs := [gridG ((List.range C).map fun r => dvR u C' r C'), ints (divSh s s' C C'), .int .i64 lim]) (snap3 ?_ ?_ ?_) (h100 u) ?_
        · exact snap_two hT.app
        · refine (snap_arr (k := 9) getL rfl).trans ?_
          rw [eD]
          simp only [hl1, hl2, if_true, if_false]
          rfl
        · rfl
        refine (fun (hk : ∀ M3 : List AObj, M3[5]? = _ → Mach _ _ _ _ ⟨_, M3⟩) => hk _ (frz_get (n5 _) (notin3 (refs_two hT.app (n5 _) rfl (by omega)) (refs_row getL rfl (by omega)) (fun h => by cases h)))) fun M3 e5 => ?_
        have eA : ((List.range C).map fun r => dvR u C' r C').flatten = ansL u C C' := rfl
        rw [eA]
        by_cases hsb : shortB (ansL u C C') lim = true <;> (
          simp only [hsb, if_true, if_false, Bool.false_eq_true, arrX, runes, ints, noA]
          simp only [go_sem, e5]
          exact out_arr rfl rfl rfl rfl (getS e5) rfl rfl)))
def rX (l : List Rt) : AObj := ⟨false, 59, 3, 0, l.length, rtsC l, false⟩
structure Grd (M : List AObj) (n b : Nat) (f : Nat → Nat) (L : Nat → List Rt) : Prop where
  box : M[b]? = some ⟨true, 26, 1, 0, n, bxC n f, false⟩
  row : ∀ i, i < n → M[f i]? = some (rX (L i))
def updF (f : Nat → Nat) (i v : Nat) : Nat → Nat := fun r => if r = i then v else f r
def updX (L : Nat → List Rt) (i : Nat) (l : List Rt) : Nat → List Rt := fun r => if r = i then l else L r
section
variable {M : List AObj} {n b : Nat} {f : Nat → Nat} {L : Nat → List Rt}
theorem Grd.congr {L' : Nat → List Rt} (h : Grd M n b f L) (he : ∀ i, i < n → L i = L' i) : Grd M n b f L' := ⟨h.box, fun i hi => by rw [h.row i hi, he i hi]⟩
theorem bxC_upd {i v : Nat} : (bxC n f).set i (.arr v 0) = bxC n (updF f i v) := by
  apply List.ext_getElem?
  intro r
  by_cases hr : r < n
  · by_cases hi : r = i
    · subst hi
      rw [List.getElem?_set_self (by simp [bxC]; exact hr)]
      simp only [bxC, List.getElem?_map, List.getElem?_range hr, Option.map_some, updF, if_true]
    · rw [List.getElem?_set_ne (fun e => hi e.symm)]
      simp only [bxC, List.getElem?_map, List.getElem?_range hr, Option.map_some, updF, if_neg hi]
  · rw [List.getElem?_eq_none (by simp [bxC]; omega), List.getElem?_eq_none (by simp [bxC]; omega)]
theorem snap_grd (h : Grd M n b f L) : snap M 10 (.arr b 0) = some (gridX ((List.range n).map L)) := by
  have e : ∀ i, i < n → snap M 8 (.arr (f i) 0) = some (.sl (L i).length 3 (rtsC (L i))) := fun i hi => by
    rw [snap_arr (k := 7) (g := 0) (h.row i hi) rfl]
    rfl
  rw [snap_arr (k := 9) h.box rfl]
  have e2 : snapL M 9 true (bxC n f) = (bxC n f).mapM (snap M 8) := rfl
  have e3 : ∀ l : List Nat, (∀ i ∈ l, i < n) → (l.map fun i => AV.arr (f i) 0).mapM (snap M 8) = some (l.map fun i => AV.sl (L i).length 3 (rtsC (L i))) := fun l => by
    induction l with
    | nil => intro _; rfl
    | cons a l ih =>
      intro hl
      rw [List.map_cons, List.mapM_cons, e a (hl a (by simp)), ih (fun i hi => hl i (by simp [hi]))]
      rfl
  rw [e2, bxC, e3 _ (fun i hi => List.mem_range.1 hi)]
  simp only [Option.map_some, gridX, List.length_map, List.length_range, List.map_map]
  rfl
theorem refs_grd (h : Grd M n b f L) {o : AObj} {i : Nat} (hi : M[i]? = some o) (ho : o.box = true) (hb : b ≠ i) : i ∉ refs M 10 (.arr b 0) := by
  have e : refs M 10 (.arr b 0) = b :: (bxC n f).flatMap (refs M 8) := by
    show b :: (match geto M b 0 with | some o => refsL M 9 o.box o.cs | none => []) = _
    rw [geto, h.box]
    rfl
  rw [e]
  intro hm
  rcases List.mem_cons.1 hm with rfl | hm
  · exact hb rfl
  obtain ⟨c, hc, hm⟩ := List.mem_flatMap.1 hm
  obtain ⟨r, hr, rfl⟩ := List.mem_map.1 hc
  have hr := List.mem_range.1 hr
  have e2 : refs M 8 (.arr (f r) 0) = [f r] := by
    show f r :: (match geto M (f r) 0 with | some o => refsL M 7 o.box o.cs | none => []) = _
    rw [geto, h.row r hr]
    rfl
  rw [e2] at hm
  obtain rfl := List.mem_singleton.1 hm
  rw [h.row r hr] at hi
  obtain rfl := Option.some.inj hi
  cases ho
theorem Grd.step (h : Grd M n b f L) {i : Nat} (hi : i < n) {o0 : AObj} {l : List Rt} : Grd (((M ++ [o0]).set b ⟨true, 26, 1, 0, n, bxC n (updF f i M.length), false⟩).set M.length (rX l)) n b (updF f i M.length) (updX L i l) := by
  have hb := lt_of h.box
  refine ⟨?_, fun r hr => ?_⟩
  · rw [List.getElem?_set_ne (by omega), List.getElem?_set_self (by simp; omega)]
  · by_cases hri : r = i
    · subst hri
      simp only [updF, updX, if_true]
      rw [List.getElem?_set_self (by simp)]
    · have hf := lt_of (h.row r hr)
      simp only [updF, updX, if_neg hri]
      have hne : b ≠ f r := fun e => by
        have h1 := h.row r hr
        rw [← e, h.box] at h1
        have := congrArg AObj.box (Option.some.inj h1)
        simp [rX] at this
      rw [List.getElem?_set_ne (by omega), List.getElem?_set_ne hne, List.getElem?_append_left hf]
      exact h.row r hr
end
theorem flat_rts {n : Nat} {z : Rt} : (List.replicate n (rtC z)).flatten = rtsC (List.replicate n z) := by
  simp [rtsC, List.flatMap]
def uniX (n i : Nat) : List Rt := (List.replicate n (false, 0, 0)).set i (zR 1)
def uniR (n i : Nat) : List Rat := (List.replicate n 0).set i 1
def unitG (n : Nat) : List (List Rat) := (List.range n).map (uniR n)
theorem unit_rep {n : Nat} : Rep ((List.range n).map (uniX n)) (unitG n) := by
  have e1 : ∀ k, ((List.range n).map (uniX n)).getD k [] = if k < n then uniX n k else [] := fun k => by
    by_cases h : k < n
    · simp [List.getD, h]
    · simp [List.getD, h]
  have e2 : ∀ k, (unitG n).getD k [] = if k < n then uniR n k else [] := fun k => by
    by_cases h : k < n
    · simp [List.getD, unitG, h]
    · simp [List.getD, unitG, h]
  refine ⟨by simp [unitG], fun k => ?_, fun k j hj => ?_⟩
  · rw [e1, e2]
    split
    · simp [uniX, uniR]
    · rfl
  · rw [e2] at hj
    unfold mxG
    rw [e1, e2]
    by_cases h : k < n
    · rw [if_pos h] at hj ⊢
      rw [if_pos h]
      simp only [uniR, List.length_set, List.length_replicate] at hj
      unfold rtAt uniX uniR
      by_cases hk : k = j
      · subst hk
        simp only [List.getD, List.getElem?_set_self (show k < (List.replicate n ((false, 0, 0) : Rt)).length by simpa using h), List.getElem?_set_self (show k < (List.replicate n (0 : Rat)).length by simpa using h), Option.getD_some]
        exact ⟨rfl, rfl, rfl⟩
      · simp only [List.getD, List.getElem?_set_ne hk, List.getElem?_replicate, hj, if_true, Option.getD_some]
        exact RV.zero
    · rw [if_neg h] at hj
      simp at hj
theorem goO_at {C : CallRel} {Q : X → St → Prop} {k : List Go.V.Item} {d : Option Nat} {os : List IOp} {f : Nat} {xs : List Opd} {env : Env} {M m : List AObj} {vs : List AV} {r : AV} (ha : xs.mapM (fun x => snap M 10 (ev env x)) = some vs) (h : C f vs [] r m) (h1 : (m.all made) = true) (h2 : ownishR r = true)
    (hk : Mach C Q (.ops os :: k) .nrm ⟨putE env d (shiftR M.length r), Go.V.freeze (xs.flatMap fun x => refs M 10 (ev env x)) M ++ m.map (shiftO M.length)⟩) : Mach C Q (.ops (⟨d, .callO f xs, none⟩ :: os) :: k) .nrm ⟨env, M⟩ := by
  rw [mCallO]
  show MachA C Q .O f (xs.mapM fun x => snap M 10 (ev env x)) _ d os k _
  rw [ha]
  exact goB h h1 h2 hk
theorem snap4 {M : List AObj} {env : Env} {x y z w : Opd} {a b c d : AV} (h1 : snap M 10 (ev env x) = some a) (h2 : snap M 10 (ev env y) = some b) (h3 : snap M 10 (ev env z) = some c) (h4 : snap M 10 (ev env w) = some d) : [x, y, z, w].mapM (fun x => snap M 10 (ev env x)) = some [a, b, c, d] := by
  simp only [List.mapM_cons, List.mapM_nil, h1, h2, h3, h4]
  rfl
theorem snap1 {M : List AObj} {env : Env} {x : Opd} {a : AV} (h1 : snap M 10 (ev env x) = some a) : [x].mapM (fun x => snap M 10 (ev env x)) = some [a] := by
  simp only [List.mapM_cons, List.mapM_nil, h1]
  rfl
theorem notin1 {M : List AObj} {env : Env} {x : Opd} {i : Nat} (h1 : i ∉ refs M 10 (ev env x)) : ([x].flatMap fun x => refs M 10 (ev env x)).contains i = false := by
  simp only [List.flatMap_cons, List.flatMap_nil, List.append_nil]
  rw [Bool.eq_false_iff]
  exact fun h => h1 (List.contains_iff_mem.1 h)
theorem refs_rows {M : List AObj} {i j ty m a b c d : Nat} {l l' : List AV} {fr : Bool} (h : M[i]? = some ⟨true, ty, 1, 0, m, [.sl a b l, .sl c d l'], fr⟩) (hj : i ≠ j) : j ∉ refs M 10 (.arr i 0) := by
  have e : refs M 10 (.arr i 0) = [i] := by
    show i :: (match geto M i 0 with | some o => refsL M 9 o.box o.cs | none => []) = _
    rw [geto, h]
    rfl
  rw [e]
  intro hm
  exact hj (List.mem_singleton.1 hm).symm
theorem notin4 {M : List AObj} {env : Env} {x y z w : Opd} {i : Nat} (h1 : i ∉ refs M 10 (ev env x)) (h2 : i ∉ refs M 10 (ev env y)) (h3 : i ∉ refs M 10 (ev env z)) (h4 : i ∉ refs M 10 (ev env w)) : ([x, y, z, w].flatMap fun x => refs M 10 (ev env x)).contains i = false := by
  simp only [List.flatMap_cons, List.flatMap_nil, List.append_nil]
  rw [Bool.eq_false_iff]
  intro h
  have h := List.contains_iff_mem.1 h
  rcases List.mem_append.1 h with h | h
  · exact h1 h
  rcases List.mem_append.1 h with h | h
  · exact h2 h
  rcases List.mem_append.1 h with h | h
  · exact h3 h
  · exact h4 h
theorem Two.frz {M Y : List AObj} {n ba bb : Nat} {ia ib : Nat → Nat} {s : Gd × Gd} {ns : List Nat} (h : Two M n ba bb ia ib s) (hn : ∀ i, i < M.length → ns.contains i = false) : Two (Go.V.freeze ns (M ++ Y)) n ba bb ia ib s :=
  ⟨frz_get (getA h.bA _) (hn _ (lt_of h.bA)), frz_get (getA h.bB _) (hn _ (lt_of h.bB)), fun i hi => frz_get (getA (h.rA i hi) _) (hn _ (lt_of (h.rA i hi))), fun i hi => frz_get (getA (h.rB i hi) _) (hn _ (lt_of (h.rB i hi))), h.iA, h.iB, h.iAB, h.bn⟩
def lstU (n i : Nat) : Nat → List Rt := fun r => if r < i then uniX n r else []
theorem c40_unit {n : Nat} {lim : Int} {M : List AObj} {b0 b4 : AObj} {Q : X → St → Prop} {ks : List Go.V.Item} {env : Env} (hn : n ≤ 4096) (hg : Grd M n (5 + n) (fun i => 5 + i) fun _ => []) (h0 : M[0]? = some b0) (h4 : M[4]? = some b4)
    (e1 : getE env 1 = .int .i64 lim) (e2 : getE env 2 = .loc 0 0 0) (e4 : getE env 4 = .loc 4 0 0) (e7 : getE env 7 = .int .i64 n) (e8 : getE env 8 = .arr (5 + n) 0) (e24 : getE env 24 = .int .i64 n) (e25 : getE env 25 = .int .i64 0)
    (hgo : ∀ (K : List AObj) (f : Nat → Nat), K[0]? = some b0 → K[4]? = some b4 → 5 + n < K.length → Grd K n (5 + n) f (uniX n) → Mach (Go.V.Call tab E) Q ks .nrm ⟨[(1, .int .i64 lim), (2, .loc 0 0 0), (4, .loc 4 0 0), (7, .int .i64 n), (8, .arr (5 + n) 0), (24, .int .i64 n), (25, .int .i64 n), (26, .bool false)], K⟩) :
    Mach (Go.V.Call tab E) Q (.code (.loop [1, 2, 4, 7, 8, 24, 25] none b40_0) :: .endb 0 :: ks) .nrm ⟨env, M⟩ := by
  refine mLoop (fun N st => ∃ (i : Nat) (K : List AObj) (f : Nat → Nat), i ≤ n ∧ N = n - i ∧ K[0]? = some b0 ∧ K[4]? = some b4 ∧ Grd K n (5 + n) f (lstU n i) ∧
    st = ⟨[(1, .int .i64 lim), (2, .loc 0 0 0), (4, .loc 4 0 0), (7, .int .i64 n), (8, .arr (5 + n) 0), (24, .int .i64 n), (25, .int .i64 i)], K⟩) n
    ⟨_, rfl, 0, M, _, by omega, by omega, h0, h4, hg.congr (fun r _ => by simp [lstU]), by simp only [List.map_cons, List.map_nil, e1, e2, e4, e7, e8, e24, e25]; rfl⟩ ?_
  rintro N s0 ⟨i, K, f, hi, rfl, hK0, hK4, hK, rfl⟩
  have hlt := lt_of hK.box
  by_cases hin : i < n
  · have hi' : (i : Int) < (n : Int) := by omega
    have hi0 : (0 : Int) ≤ (i : Int) := by omega
    have hi1 : IntKind.i64.wrap ((i : Int) + 1) = ((i + 1 : Nat) : Int) := by rw [wrap_i64 (by omega) (by omega)]; omega
    have z0 : (0 : Int) ≤ (n : Int) := by omega
    have z1 : 56 * n ≤ 140737488355328 := by omega
    have z2 : (n : Int) ≤ 140737488355328 := by omega
    have hz0 : rtC (false, 0, 0) = [AV.sl 0 1 [], AV.bool false, AV.sl 0 1 []] := by simp only [rtC, ratG, limG_zero, us32]; rfl
    have hfl := flat_rts (n := n) (z := (false, 0, 0))
    rw [hz0] at hfl
    have hst := hK.step hin (o0 := rX (List.replicate n (false, 0, 0))) (l := uniX n i)
    have hst2 := hst.congr (L' := lstU n (i + 1)) (fun r hr => by
      unfold updX lstU
      by_cases hri : r = i
      · subst hri; rw [if_pos rfl, if_pos (by omega)]
      · rw [if_neg hri]
        by_cases h1 : r < i
        · rw [if_pos h1, if_pos (by omega)]
        · rw [if_neg h1, if_neg (by omega)])
    have k1 := getA hK.box [rX (List.replicate n (false, 0, 0))]
    have f1 := fill_one (cs := bxC n f) (i := i) (v := .arr K.length 0) (by rw [bxC_len]; exact hin)
    rw [bxC_upd] at f1
    have ll1 : i * 1 + 1 ≤ (bxC n f).length := by rw [bxC_len]; omega
    have k2 : ((K ++ [rX (List.replicate n (false, 0, 0))]).set (5 + n) ⟨true, 26, 1, 0, n, bxC n (updF f i K.length), false⟩)[5 + n]? = some ⟨true, 26, 1, 0, n, bxC n (updF f i K.length), false⟩ := by rw [List.getElem?_set_self (by simp; omega)]
    have k3 : ((K ++ [rX (List.replicate n (false, 0, 0))]).set (5 + n) ⟨true, 26, 1, 0, n, bxC n (updF f i K.length), false⟩)[K.length]? = some (rX (List.replicate n (false, 0, 0))) := by rw [List.getElem?_set_ne (by omega)]; exact getL
    have s1 := sub_bx (f := updF f i K.length) hin
    have s1' : updF f i K.length i = K.length := by simp [updF]
    rw [s1'] at s1
    have h53 := c53_ok (E := I.E) (z := 1) ⟨by omega, by omega⟩
    rw [ratC_zR ⟨by omega, by omega⟩] at h53
    have f2 := fill_rtsA (L := List.replicate n ((false, 0, 0) : Rt)) (i := i) (z := zR 1) (by simpa using hin)
    have hln : (rtsC (List.replicate n ((false, 0, 0) : Rt))).length = n * 3 := by rw [show (rtsC (List.replicate n ((false, 0, 0) : Rt))).length = (List.replicate n ((false, 0, 0) : Rt)).length * 3 from flat_len (fun _ => rfl), List.length_replicate]
    have ll2 : i * 3 + 3 ≤ (rtsC (List.replicate n ((false, 0, 0) : Rt))).length := by rw [hln]; omega
    have hu : (List.replicate n ((false, 0, 0) : Rt)).set i (zR 1) = uniX n i := rfl
    rw [hu] at f2
    have hul : (uniX n i).length = n := by simp [uniX]
    have n0 : (((K ++ [rX (List.replicate n (false, 0, 0))]).set (5 + n) ⟨true, 26, 1, 0, n, bxC n (updF f i K.length), false⟩).set K.length (rX (uniX n i)))[0]? = some b0 := by rw [List.getElem?_set_ne (by omega), List.getElem?_set_ne (by omega)]; exact getA hK0 _
    have n4 : (((K ++ [rX (List.replicate n (false, 0, 0))]).set (5 + n) ⟨true, 26, 1, 0, n, bxC n (updF f i K.length), false⟩).set K.length (rX (uniX n i)))[4]? = some b4 := by rw [List.getElem?_set_ne (by omega), List.getElem?_set_ne (by omega)]; exact getA hK4 _
    clear hst hz0 hu
    have er : rX (List.replicate n ((false, 0, 0) : Rt)) = ⟨false, 59, 3, 0, n, rtsC (List.replicate n ((false, 0, 0) : Rt)), false⟩ := by simp [rX]
    have eu : rX (uniX n i) = ⟨false, 59, 3, 0, n, rtsC (uniX n i), false⟩ := by simp [rX, hul]
    rw [er] at k1 k2 k3 hst2 n0 n4
    rw [eu] at hst2 n0 n4
    clear er eu
    generalize bxC n (updF f i K.length) = CS' at *
    generalize bxC n f = CS at *
    generalize rtsC (List.replicate n ((false, 0, 0) : Rt)) = ZZ at *
    generalize rtsC (uniX n i) = UU at *
    simp only [rtC3, us32] at h53 f2
    simp only [b40_0, go_sem, mapIA, hi', hi0, z0, z1, z2, Int.toNat_natCast, hfl, k1, k2, k3, s1, f1, ll1]
    refine goP h53 ?_
    simp only [go_sem, mapIA, hi', hi0, k3, Int.toNat_natCast, f2, ll2, us32, hi1, List.flatMap_cons, List.flatMap_nil, Option.getD_some]
    exact loopQ_go rfl (n - (i + 1)) (by omega) ⟨i + 1, _, _, by omega, rfl, n0, n4, hst2, rfl⟩
  · obtain rfl : i = n := by omega
    have := hgo K f hK0 hK4 hlt (hK.congr (fun r hr => by simp [lstU, hr]))
    simp only [b40_0, go_sem, Int.lt_irrefl] at this ⊢
    exact this
def invS (A : List Rat) (R C : Nat) : Gd × Gd := (fun r => nrmR (gridA A R C) (gridA A R C) r C, fun r => nrmR (gridA A R C) (unitG R) r R)
theorem invS_len {A : List Rat} {R C : Nat} : Lens C R (invS A R C) := fun r _ => ⟨nrmR_len, nrmR_len⟩
theorem unit_len {n : Nat} : (unitG n).length = n := by simp [unitG]
theorem unit_row {n : Nat} : ∀ r ∈ unitG n, r.length = n := fun r hr => by
  obtain ⟨i, _, rfl⟩ := List.mem_map.1 hr
  simp [uniR]
theorem Sz.one' {e : Nat} (he : 2 ≤ e) : Sz e 1 := ⟨by rw [show (1 : Rat).num = 1 from rfl]; exact Nat.one_lt_two_pow (by omega), Nat.one_lt_two_pow (by omega)⟩
theorem unit_Sz {n e : Nat} (he : 2 ≤ e) : ∀ r ∈ unitG n, ∀ a ∈ r, Sz e a := fun r hr a ha => by
  obtain ⟨i, _, rfl⟩ := List.mem_map.1 hr
  unfold uniR at ha
  rcases List.mem_or_eq_of_mem_set ha with h | rfl
  · obtain ⟨_, rfl⟩ := List.mem_replicate.1 h
    exact Sz.zero' (by omega)
  · exact Sz.one' he
theorem c40_core {ch : Bool} {A : List Rat} {R C e : Nat} {lim : Int} (ha : ArrM [(R : Int), (C : Int)] [] ch A R C) (hchk : chkE [(R : Int), (C : Int)] [] ch A R C = 0)
    (he : 2 ≤ e) (hA : ∀ a ∈ A, Sz e a) (hsz : 4 ^ (C + 1) * ((2 * e + 1) * (R + 1) + 2) ≤ 30000000) :
    Go.V.Call tab E 40 [.agg (arrX [(R : Int), (C : Int)] ch [] (A.map rR)), .int .i64 lim] []
      (match redA C C (invS A R C) with
      | none => .tup [.agg noA, .int .i64 22]
      | some u => .tup [.agg (if shortB (ansL u C R) lim then arrX [(C : Int), (R : Int)] false [] ((ansL u C R).map rR) else noA), .int .i64 (if shortB (ansL u C R) lim then 0 else 26)]) [] := by
  refine Go.V.Call.mach i40 c40 rfl rfl rfl rfl ?_
  have hck := hchk
  unfold chkE at hck
  rw [if_neg (by simp)] at hck
  by_cases hbb : (ch && decide (0 < ([] : List Int).length + A.length)) = true
  · rw [if_pos hbb] at hck; cases hck
  rw [if_neg hbb] at hck
  by_cases hRC : R < C
  · rw [if_pos hRC] at hck; cases hck
  rw [if_neg hRC] at hck
  by_cases h32 : 32 < R ∨ 8 < C
  · rw [if_pos h32] at hck; cases hck
  clear hck
  obtain ⟨hAl, _⟩ := ha.ok (by simp) (by simpa using hbb)
  have hal := ha.al
  have h95 := c95_ok ha
  rw [hchk] at h95
  have h96a := c96_ok (s := [(R : Int), (C : Int)]) (t := []) (A := A) (ch := ch) (R := R) (C := C) ha.s8 ha.r0 ha.c0 hAl ha.R4 ha.C4 hal
  have h97a := c97_ok (s := [(R : Int), (C : Int)]) (t := []) (l := A.map rR) (ch := ch) ha.s8
  rw [ha.c0] at h97a
  have h44 := c44_X (s := [(R : Int), (C : Int)]) (t := []) (l := A.map rR) (ch := ch) (by simp)
  have h43 := c43_ok (L := [[(C : Int)], [(R : Int)]]) (by simp) (by simp [lensum])
  have hrow : ∀ {Y : List Rat} {K : Nat}, ∀ r ∈ gridA Y R K, r.length = K := fun r hr => grid_row r hr
  have hp4 : 1 ≤ 4 ^ (C + 1) := Nat.pow_pos (by omega)
  have hsz1 : (2 * e + 1) * (R + 1) + 2 ≤ 30000000 := Nat.le_trans (Nat.le_mul_of_pos_left _ hp4) hsz
  have hn0 : 0 < C → 0 < (gridA A R C).length := fun h => by rw [grid_len]; omega
  have h98x := c98_X (G := gridA A R C) (H := unitG R) (W := (List.range R).map (uniX R)) (n := C) (m := R) (e := e) unit_rep (by rw [grid_len, unit_len]) (fun r hr => Nat.le_of_eq (hrow r hr).symm) (fun r hr => Nat.le_of_eq (unit_row r hr).symm) (grid_Sz (by omega) hA) (unit_Sz he) (by rw [grid_len]; omega) hn0 (by omega) (by omega) (by rw [grid_len]; omega)
  have h98n := c98_ok (G := gridA A R C) (H := gridA A R C) (n := C) (m := C) (e := e) rfl (fun r hr => Nat.le_of_eq (hrow r hr).symm) (fun r hr => Nat.le_of_eq (hrow r hr).symm) (grid_Sz (by omega) hA) (grid_Sz (by omega) hA) (by rw [grid_len]; omega) hn0 (by omega) (by omega) (by rw [grid_len]; omega)
  have hS : SzG C (invS A R C) ((2 * e + 1) * R + 1) := fun r hr => by
    have q1 := nrm_Sz (G := gridA A R C) (H := gridA A R C) (i := r) (m := C) (fun x hx => by rw [hrow x hx]; exact hr) (fun x hx => Nat.le_of_eq (hrow x hx).symm) rfl (grid_Sz (by omega) hA) (grid_Sz (by omega) hA)
    have q2 := nrm_Sz (G := gridA A R C) (H := unitG R) (i := r) (m := R) (fun x hx => by rw [hrow x hx]; exact hr) (fun x hx => Nat.le_of_eq (unit_row x hx).symm) (by rw [grid_len, unit_len]) (grid_Sz (by omega) hA) (unit_Sz he)
    rw [grid_len] at q1 q2
    exact ⟨q1, q2⟩
  have h99 := fun (Bs : List AObj) (hd : 5 ≤ Bs.length) => c99_ok (d := 5) (M := Bs ++ ((gridM C (invS A R C).2).map (shiftO Bs.length) ++ (gridM C (invS A R C).1).map (shiftO (C + 1 + Bs.length)))) (s := invS A R C) (e := (2 * e + 1) * R + 1) (m := R) (two_of rfl) invS_len hS (by omega) (by omega)
    (Nat.le_trans (Nat.mul_le_mul_left _ (by rw [Nat.mul_add]; omega)) hsz) ⟨by omega, by omega⟩ (fun i _ => ⟨by omega, by omega⟩)
  have h100 := fun (u : Gd × Gd) => c100_ok (G := (List.range C).map fun r => dvR u R r R) (s := [(C : Int), (R : Int)]) (lim := lim) (fun d hd => by
      rcases List.mem_cons.1 hd with rfl | hd
      · exact ⟨by omega, by omega⟩
      · obtain rfl := List.mem_singleton.1 hd
        exact ⟨by omega, by omega⟩) (by simp) (by
      have : ((List.range C).map fun r => dvR u R r R).flatten.length = C * R := ansL_len
      have hq := divSh_count (s := [0, 0]) (s' := [0, 0]) (C := C) (C' := R) (by omega) (by omega) (by simp) (by simp)
      rw [show divSh [0, 0] [0, 0] C R = [(C : Int), (R : Int)] from rfl] at hq
      rw [this, fits, hq]; simp) (by simp; omega) (fun r hr => by obtain ⟨i, _, rfl⟩ := List.mem_map.1 hr; rw [dvR_len]; omega) (by
      have : ((List.range C).map fun r => dvR u R r R).flatten.length = C * R := ansL_len
      rw [this]
      exact Nat.le_trans (Nat.mul_le_mul (show C ≤ 8 by omega) (show R ≤ 32 by omega)) (by omega))
  have gml : (gridM C (invS A R C).2).all made = true := gridM_made
  have gml' : (gridM C (invS A R C).1).all made = true := gridM_made
  have eX : gridM C (fun i => nrmR (gridA A R C) (unitG R) i R) = gridM C (invS A R C).2 := rfl
  have eN : gridM C (fun i => nrmR (gridA A R C) (gridA A R C) i C) = gridM C (invS A R C).1 := rfl
  rw [eX] at h98x
  rw [eN] at h98n
  have hgm : ((gridM C (invS A R C).2).map (shiftO 6)).length = C + 1 := by rw [List.length_map, gridM_len]
  have hGA : gridG (gridA A R C) = .sl R 1 ((gridA A R C).map fun r => .sl r.length 3 (rtsC (r.map rR))) := by rw [gridG, grid_len]
  rw [hGA] at h96a h98x h98n
  generalize (gridA A R C).map (fun r => AV.sl r.length 3 (rtsC (r.map rR))) = GA at *
  have had : ∀ M : List AObj, adopt (List.replicate R (.nilsl 59 3)) M = ((List.range R).map fun i => AV.arr (M.length + i) 0, M ++ List.replicate R ⟨false, 59, 3, 0, 0, [], false⟩) := fun M => adopt_rep
  have z0 : (0 : Int) ≤ (R : Int) := by omega
  have z1 : 24 * R ≤ 140737488355328 := by omega
  have z2 : (R : Int) ≤ 140737488355328 := by omega
  simp only [arrX, runes, ints, nums, List.map_cons, List.map_nil, List.length_cons, List.length_nil, Nat.zero_add] at h95 h96a h97a h44
  simp only [c40, arrX, runes, ints, nums, List.map_cons, List.map_nil, List.length_cons, List.length_nil, Nat.zero_add, go_sem, subA5]
  refine goR h95 rfl ?_
  simp only [go_sem, subA5, bne_self_eq_false]
  refine goF h96a ?_
  have hlr : (List.replicate R (⟨false, 59, 3, 0, 0, [], false⟩ : AObj)).length = R := List.length_replicate
  have hbx : (List.replicate R (⟨false, 59, 3, 0, 0, [], false⟩ : AObj) ++ [⟨true, 26, 1, 0, R, (List.range R).map fun i => AV.arr (5 + i) 0, false⟩])[R]? = some ⟨true, 26, 1, 0, R, (List.range R).map fun i => AV.arr (5 + i) 0, false⟩ := by
    rw [List.getElem?_append_right (by simp)]
    simp
  simp only [go_sem, subA5, mapIA, had, z0, z1, z2, Int.toNat_natCast, hlr, hbx]
  have hnew := fun (x0 x1 x2 x3 x4 : AObj) => NSt.new (M := [x0, x1, x2, x3, x4]) (n := R)
  refine c40_unit (n := R) (lim := lim) (by omega) ⟨(hnew _ _ _ _ _).box, (hnew _ _ _ _ _).row⟩ rfl rfl rfl rfl rfl rfl (by show AV.arr _ 0 = AV.arr _ 0; congr 1; omega) rfl rfl ?_
  intro K f hK0 hK4 hKl hK
  clear hnew hlr hbx had z0 z1 z2
  generalize hop : (⟨some 47, .callO 98 [.t 42, .t 43, .t 45, .t 46], none⟩ : IOp) = op
  simp only [k40_0, hop, go_sem, subA5, mapIA, hK0]
  refine goF h96a ?_
  simp only [freeze_nil]
  simp only [go_sem, subA5, mapIA, hK0]
  refine goR h97a rfl ?_
  simp only [go_sem, subA5, mapIA, hK0]
  subst hop
  refine goO_at (snap4 ?_ ?_ ?_ ?_) h98x gml rfl ?_
  · rfl
  · exact snap_grd hK
  · rfl
  · rfl
  refine (fun (hk : ∀ Bs : List AObj, Bs[0]? = some _ → Bs[4]? = some _ → Bs.length = K.length → Mach _ _ _ _ ⟨_, Bs ++ _⟩) => hk _ (frz_get hK0 (notin4 (fun h => by cases h) (refs_grd hK hK0 rfl (by omega)) (fun h => by cases h) (fun h => by cases h))) (frz_get hK4 (notin4 (fun h => by cases h) (refs_grd hK hK4 rfl (by omega)) (fun h => by cases h) (fun h => by cases h))) (by simp [Go.V.freeze])) fun Bs hB0 hB4 hBl => ?_
  rw [← hBl]
  have h5 := lt_of hB4
  clear hK hK0 hK4 hKl hBl
  have n0 := fun Y => getA hB0 Y
  have hgm : ((gridM C (invS A R C).2).map (shiftO Bs.length)).length = C + 1 := by rw [List.length_map, gridM_len]
  simp only [go_sem, subA5, mapIA, n0]
  refine goF h96a ?_
  simp only [freeze_nil]
  simp only [go_sem, subA5, mapIA, n0]
  refine goF h96a ?_
  simp only [freeze_nil]
  simp only [go_sem, subA5, mapIA, n0]
  refine goR h97a rfl ?_
  simp only [go_sem, subA5, mapIA, n0]
  refine goR h97a rfl ?_
  simp only [go_sem, subA5, mapIA, n0]
  refine goB h98n gml' rfl ?_
  simp only [freeze_nil]
  simp only [go_sem, subA5, mapIA, n0, hgm, List.append_assoc]
  rw [Nat.add_comm Bs.length (C + 1)]
  have sR : ∀ d, shiftR d (.arr C 0) = .arr (C + d) 0 := fun _ => rfl
  simp only [sR]
  have h99 := h99 Bs (by omega)
  have h95 := h95
  clear h98n h98x h96a
  have o0 := getA hB0 ((gridM C (invS A R C).2).map (shiftO Bs.length) ++ (gridM C (invS A R C).1).map (shiftO (C + 1 + Bs.length)))
  have o4 := getA hB4 ((gridM C (invS A R C).2).map (shiftO Bs.length) ++ (gridM C (invS A R C).1).map (shiftO (C + 1 + Bs.length)))
  cases hr : redA C C (invS A R C) with
  | none =>
    simp only [hr] at h99 ⊢
    refine goM_ex h99 fun M' hsm => ?_
    have m4 := (hsm 4 (by omega)).trans o4
    simp only [go_sem, FL, mapIA, subA5, m4]
    exact out_arr rfl rfl rfl rfl (getS m4) rfl rfl
  | some u =>
    simp only [hr] at h99 ⊢
    refine goM_ex (P := fun M' => SameB 5 _ M' ∧ ∃ ia ib, Two M' _ _ _ ia ib _) (let ⟨M', ia, ib, a, b, c⟩ := h99; ⟨M', a, b, ia, ib, c⟩) fun M' hsm => ?_
    obtain ⟨hsm, ia, ib, hT⟩ := hsm
    have m0 := (hsm 0 (by omega)).trans o0
    have m4 := (hsm 4 (by omega)).trans o4
    generalize hop : (⟨some 71, .callF 43 [.t 70], none⟩ : IOp) = op
    generalize hop2 : (⟨some 75, .callF 100 [.t 72, .t 73, .t 74], none⟩ : IOp) = op2
    simp only [go_sem, FL, mapIA, subA5, m0]
    refine goF h44 ?_
    simp only [freeze_nil]
    have h22 : (((2 : Nat) : Int) == 2) = true := rfl
    have h12 : (1 : Int) ≤ ((2 : Nat) : Int) := by omega
    have t1 : Int.toNat 1 = 1 := rfl
    simp only [go_sem, FL, mapIA, subA5, m0, h22, h12, t1]
    subst hop
    refine goF_at (vs := [rows [[(C : Int)], [(R : Int)]]]) (snap1 ?_) h43 ?_
    · exact (snap_arr (k := 9) getL rfl).trans rfl
    have m4' := getA m4
    have hM5 := lt_of m4
    refine (fun (hk : ∀ M3 : List AObj, M3[4]? = some _ → Two M3 _ _ _ ia ib _ → Mach _ _ _ _ ⟨_, M3⟩) => hk _ (frz_get (m4' _) ?_) (hT.frz ?_)) fun M3 q4 hT3 => ?_
    · exact notin1 (refs_rows getL (by omega))
    · exact fun i hi => notin1 (refs_rows getL (by omega))
    simp only [go_sem]
    subst hop2
    refine goF_at (vs := [gridG ((List.range C).map fun r => dvR u R r R), ints [(C : Int), (R : Int)], .int .i64 lim]) (snap3 ?_ ?_ ?_) (h100 u) ?_
    · exact snap_two hT3
    · rfl
    · rfl
    refine (fun (hk : ∀ M4 : List AObj, M4[4]? = some _ → Mach _ _ _ _ ⟨_, M4⟩) => hk _ (frz_get q4 (notin3 (refs_two hT3 q4 rfl (by omega)) (fun h => by cases h) (fun h => by cases h)))) fun M4 e4 => ?_
    have eA : ((List.range C).map fun r => dvR u R r R).flatten = ansL u C R := rfl
    rw [eA]
    by_cases hsb : shortB (ansL u C R) lim = true <;> (
      simp only [hsb, if_true, if_false, Bool.false_eq_true, arrX, runes, ints, noA]
      simp only [go_sem, e4]
      exact out_arr rfl rfl rfl rfl (getS e4) rfl rfl)
end Go.Proofs.Ytlejgleocnemoaa.I

namespace Go.Proofs.Ytlejgleocnemoaa.I
open Go Go.V
structure Elm (n w c : Nat) (P S : Mx) : Prop where
  top : ∀ r, r < c → ∃ z : Nat → Rat, (∀ j, j < w → S r j = sumN c fun i => z i * P i j) ∧ ∀ k, k < c → S r k = if k = r then 1 else 0
  low : ∀ r, c ≤ r → r < n → ∃ y : Nat → Rat, (∀ j, j < w → S r j = P r j - sumN c fun i => y i * P i j) ∧ ∀ k, k < c → S r k = 0
  dt : det c P ≠ 0
theorem Elm.zero {n w : Nat} {P : Mx} : Elm n w 0 P P :=
  ⟨fun r h => by omega, fun r _ _ => ⟨fun _ => 0, fun j _ => by rw [sumN]; grind, fun k h => by omega⟩, by rw [det]; decide⟩
theorem Elm.swap {n w c p : Nat} {P S : Mx} (h : Elm n w c P S) (hcp : c ≤ p) (hp : p < n) : Elm n w c (swR P c p) (swR S c p) := by
  have e : ∀ i, i < c → swR P c p i = P i := fun i hi => by unfold swR; rw [if_neg (by omega), if_neg (by omega)]
  have es : ∀ y : Nat → Rat, ∀ j, sumN c (fun i => y i * swR P c p i j) = sumN c fun i => y i * P i j := fun y j => sumN_congr fun i hi => by rw [e i hi]
  refine ⟨fun r hr => ?_, fun r hr hrn => ?_, ?_⟩
  · obtain ⟨z, h1, h2⟩ := h.top r hr
    have e2 : swR S c p r = S r := by unfold swR; rw [if_neg (by omega), if_neg (by omega)]
    exact ⟨z, fun j hj => by rw [es, e2]; exact h1 j hj, fun k hk => by rw [e2]; exact h2 k hk⟩
  · have key : ∀ r', c ≤ r' → r' < n → swR S c p r = S r' → swR P c p r = P r' → ∃ y : Nat → Rat, (∀ j, j < w → swR S c p r j = swR P c p r j - sumN c fun i => y i * swR P c p i j) ∧ ∀ k, k < c → swR S c p r k = 0 := fun r' h1 h2 h3 h4 => by
      obtain ⟨y, g1, g2⟩ := h.low r' h1 h2
      exact ⟨y, fun j hj => by rw [h3, h4, es]; exact g1 j hj, fun k hk => by rw [h3]; exact g2 k hk⟩
    by_cases h1 : r = c
    · exact key p hcp hp (by unfold swR; rw [if_pos h1]) (by unfold swR; rw [if_pos h1])
    · by_cases h2 : r = p
      · exact key c (Nat.le_refl _) (by omega) (by unfold swR; rw [if_neg h1, if_pos h2]) (by unfold swR; rw [if_neg h1, if_pos h2])
      · exact key r hr hrn (by unfold swR; rw [if_neg h1, if_neg h2]) (by unfold swR; rw [if_neg h1, if_neg h2])
  · rw [show det c (swR P c p) = det c P from det_congr fun i j hi _ => by rw [e i hi]]
    exact h.dt
theorem Elm.step {n w c : Nat} {P S T : Mx} (h : Elm n w c P S) (hc : c < n) (hw : n ≤ w) (hp : S c c ≠ 0) (hT : ∀ j, j < w → T c j = S c j / S c c) (hT2 : ∀ r, r < n → r ≠ c → ∀ j, j < w → T r j = S r j - S r c * T c j) : Elm n w (c + 1) P T := by
  obtain ⟨y, y1, y2⟩ := h.low c (Nat.le_refl _) hc
  have hd := det_step (c := c) (f := P) (y := y) (fun j hj => by
    have := y1 j (by omega)
    rw [y2 j hj] at this
    grind)
  rw [← y1 c (by omega)] at hd
  obtain ⟨q, hq⟩ : ∃ q, q = 1 / S c c := ⟨_, rfl⟩
  have hq1 : q * S c c = 1 := by rw [hq]; grind
  have hTc : ∀ j, j < w → T c j = q * S c j := fun j hj => by rw [hT j hj, hq]; grind
  have hsum : ∀ j, j < w → T c j = sumN (c + 1) fun i => (if i = c then q else -(q * y i)) * P i j := fun j hj => by
    rw [hTc j hj, y1 j hj, sumN, if_pos rfl]
    have : sumN c (fun i => (if i = c then q else -(q * y i)) * P i j) = -q * sumN c fun i => y i * P i j := by
      rw [← sumN_mul]
      exact sumN_congr fun i hi => by rw [if_neg (by omega)]; grind
    rw [this]
    grind
  have hTk : ∀ k, k < c → T c k = 0 := fun k hk => by rw [hTc k (by omega), y2 k hk, Rat.mul_zero]
  have hTcc : T c c = 1 := by rw [hTc c (by omega)]; exact hq1
  have ext : ∀ (u : Nat → Rat) (a : Rat) (j : Nat), sumN (c + 1) (fun i => (if i = c then a * q else u i + a * -(q * y i)) * P i j) = sumN c (fun i => u i * P i j) + a * sumN (c + 1) fun i => (if i = c then q else -(q * y i)) * P i j := fun u a j => by
    have e1 : sumN (c + 1) (fun i => (if i = c then a * q else u i + a * -(q * y i)) * P i j) = a * sumN (c + 1) (fun i => (if i = c then q else -(q * y i)) * P i j) + sumN (c + 1) (fun i => if i = c then 0 else u i * P i j) := by
      rw [← sumN_lin]
      refine sumN_congr fun i _ => ?_
      by_cases hi : i = c
      · simp only [if_pos hi]; grind
      · simp only [if_neg hi]; grind
    have e2 : sumN (c + 1) (fun i => if i = c then 0 else u i * P i j) = sumN c fun i => u i * P i j := by
      rw [sumN, if_pos rfl, Rat.add_zero]
      exact sumN_congr fun i hi => if_neg (by omega)
    rw [e1, e2]
    grind
  refine ⟨fun r hr => ?_, fun r hr hrn => ?_, ?_⟩
  · by_cases hrc : r = c
    · subst hrc
      refine ⟨_, hsum, fun k hk => ?_⟩
      by_cases hk2 : k = r
      · subst hk2; rw [if_pos rfl]; exact hTcc
      · rw [if_neg hk2]; exact hTk k (by omega)
    · obtain ⟨z, z1, z2⟩ := h.top r (by omega)
      refine ⟨fun i => if i = c then -S r c * q else z i + -S r c * -(q * y i), fun j hj => ?_, fun k hk => ?_⟩
      · rw [ext, hT2 r (by omega) hrc j hj, z1 j hj, ← hsum j hj]
        grind
      · rw [hT2 r (by omega) hrc k (by omega)]
        by_cases hk2 : k = c
        · subst hk2; rw [hTcc, if_neg (fun e => hrc e.symm)]; grind
        · rw [hTk k (by omega), z2 k (by omega)]
          grind
  · obtain ⟨u, u1, u2⟩ := h.low r (by omega) hrn
    refine ⟨fun i => if i = c then S r c * q else u i + S r c * -(q * y i), fun j hj => ?_, fun k hk => ?_⟩
    · rw [ext, hT2 r hrn (by omega) j hj, u1 j hj, ← hsum j hj]
      grind
    · rw [hT2 r hrn (by omega) k (by omega)]
      by_cases hk2 : k = c
      · subst hk2; rw [hTcc]; grind
      · rw [hTk k (by omega), u2 k (by omega)]
        grind
  · rw [hd]
    exact fun h0 => (Rat.mul_eq_zero.1 h0).elim hp h.dt
def prodN : Nat → (Nat → Rat) → Rat
  | 0, _ => 1
  | n + 1, g => prodN n g * g n
theorem prodN_congr {g h : Nat → Rat} : ∀ {n : Nat}, (∀ i, i < n → g i = h i) → prodN n g = prodN n h
  | 0, _ => rfl
  | n + 1, hh => by rw [prodN, prodN, prodN_congr (n := n) (fun i hi => hh i (by omega)), hh n (by omega)]
theorem prodN_ne {g : Nat → Rat} : ∀ {n : Nat}, (∀ i, i < n → g i ≠ 0) → prodN n g ≠ 0
  | 0, _ => by rw [prodN]; decide
  | n + 1, hh => by rw [prodN]; exact fun h => (Rat.mul_eq_zero.1 h).elim (prodN_ne (n := n) (fun i hi => hh i (by omega))) (hh n (by omega))
theorem prodN_skip {g : Nat → Rat} : ∀ {n i : Nat}, i ≤ n → g i * prodN n (fun r => if r < i then g r else g (r + 1)) = prodN (n + 1) g
  | 0, i, h => by
    obtain rfl : i = 0 := by omega
    simp only [prodN]; grind
  | n + 1, i, h => by
    rw [prodN, prodN]
    by_cases hi : i = n + 1
    · subst hi
      rw [prodN_congr (g := fun r => if r < n + 1 then g r else g (r + 1)) (h := g) (fun r hr => if_pos (by omega)), if_pos (by omega)]
      rw [prodN]
      grind
    · rw [if_neg (by omega), ← prodN_skip (n := n) (i := i) (by omega)]
      grind
theorem det_scale {b : Nat → Rat} : ∀ {n : Nat} {f : Mx} {a : Nat → Rat}, det n (fun i j => a i * b j * f i j) = prodN n a * prodN n b * det n f
  | 0, f, a => by simp only [det, prodN]; grind
  | n + 1, f, a => by
    rw [det, det, ← sumN_mul]
    refine sumN_congr fun i hi => ?_
    have e : skp (fun i j => a i * b j * f i j) i = fun r j => (if r < i then a r else a (r + 1)) * b j * skp f i r j := by
      funext r j
      unfold skp
      by_cases h : r < i
      · simp only [if_pos h]
      · simp only [if_neg h]
    rw [e, det_scale (n := n), ← prodN_skip (n := n) (i := i) (by omega), show prodN (n + 1) b = prodN n b * b n from rfl]
    grind
def Scl (n w : Nat) (P : Mx) (a b : Nat → Nat) (M A B : Nat) : Prop :=
  (∀ r, r < n → 0 < a r ∧ a r ≤ A) ∧ (∀ j, j < w → 0 < b j ∧ b j ≤ B ∧ b j ≤ M) ∧ ∀ r j, r < n → j < w → ∃ z : Int, (a r : Rat) * (b j : Rat) * P r j = z ∧ z.natAbs ≤ M
theorem Scl.swap {n w c p : Nat} {P : Mx} {a b : Nat → Nat} {M A B : Nat} (h : Scl n w P a b M A B) (hc : c < n) (hp : p < n) : Scl n w (swR P c p) (fun r => if r = c then a p else if r = p then a c else a r) b M A B := by
  obtain ⟨h1, h2, h3⟩ := h
  refine ⟨fun r hr => ?_, h2, fun r j hr hj => ?_⟩
  · simp only []
    split
    · exact h1 p hp
    · split
      · exact h1 c hc
      · exact h1 r hr
  · unfold swR
    by_cases g1 : r = c
    · simp only [if_pos g1]; exact h3 p j hp hj
    · simp only [if_neg g1]
      by_cases g2 : r = p
      · simp only [if_pos g2]; exact h3 c j hc hj
      · simp only [if_neg g2]; exact h3 r j hr hj
theorem nz_cast {k : Nat} (h : 0 < k) : (k : Rat) ≠ 0 := fun h0 => by
  have : ((k : Nat) : Rat) = ((0 : Nat) : Rat) := h0
  have := Rat.natCast_inj.1 this
  omega
theorem Elm.bound {n w c : Nat} {P S : Mx} {a b : Nat → Nat} {M A B : Nat} (h : Elm n w c P S) (hs : Scl n w P a b M A B) (hc : c ≤ n) (hw : n ≤ w) (hA : 1 ≤ A) {r j : Nat} (hr : r < n) (hj : j < w) :
    ∃ (Z : Int) (q : Int), q ≠ 0 ∧ S r j = (Z : Rat) / (q : Rat) ∧ Z.natAbs ≤ (c + 1) * (M * dB M c) ∧ q.natAbs ≤ dB M c * (A * B) := by
  obtain ⟨s1, s2, s3⟩ := hs
  obtain ⟨F, hF⟩ : ∃ F : Mx, F = fun i j => (a i : Rat) * (b j : Rat) * P i j := ⟨_, rfl⟩
  have hFe : ∀ i j, F i j = (a i : Rat) * (b j : Rat) * P i j := fun i j => by rw [hF]
  have hFi : ∀ i j, i < n → j < w → ∃ z : Int, F i j = z ∧ z.natAbs ≤ M := fun i j hi hj => by rw [hFe]; exact s3 i j hi hj
  have hD : det c F ≠ 0 := by
    rw [hF, det_scale (a := fun i => (a i : Rat)) (b := fun j => (b j : Rat))]
    intro h0
    rcases Rat.mul_eq_zero.1 h0 with h1 | h1
    · rcases Rat.mul_eq_zero.1 h1 with h2 | h2
      · exact prodN_ne (fun i hi => nz_cast (s1 i (by omega)).1) h2
      · exact prodN_ne (fun i hi => nz_cast (s2 i (by omega)).1) h2
    · exact h.dt h1
  obtain ⟨d, hd1, hd2⟩ := det_int (S := M) (n := c) (f := F) (fun i j hi hj => hFi i j (by omega) (by omega))
  have hd0 : d ≠ 0 := fun h0 => hD (by rw [hd1, h0]; rfl)
  have aw : ∀ i, i < n → (a i : Rat) ≠ 0 := fun i hi => nz_cast (s1 i hi).1
  have bw : ∀ j, j < w → (b j : Rat) ≠ 0 := fun j hj => nz_cast (s2 j hj).1
  by_cases hrc : r < c
  · obtain ⟨z, z1, z2⟩ := h.top r hrc
    have hz : ∀ i, i < c → ∃ m : Int, z i / (a i : Rat) * det c F = m ∧ m.natAbs ≤ dB M c := fun i hi => by
      rw [← cramer (n := c) (f := F) (y := fun i => z i / (a i : Rat)) (b := fun k => if k = r then (b k : Rat) else 0) (fun k hk => ?_) hi]
      · refine det_int fun i' k hi' hk => ?_
        unfold upd
        split
        · by_cases hk2 : k = r
          · simp only [if_pos hk2]
            exact ⟨(b k : Int), rfl, by have := (s2 k (by omega)).2.2; omega⟩
          · simp only [if_neg hk2]
            exact ⟨0, rfl, by simp⟩
        · exact hFi i' k (by omega) (by omega)
      · have e1 : sumN c (fun i => z i / (a i : Rat) * F i k) = (b k : Rat) * sumN c fun i => z i * P i k := by
          rw [← sumN_mul]
          exact sumN_congr fun i hi => by
            have := aw i (by omega)
            rw [hFe]; grind
        rw [e1, ← z1 k (by omega), z2 k hk]
        by_cases hk2 : k = r
        · simp only [if_pos hk2]; grind
        · simp only [if_neg hk2]; grind
    have e2 : (b j : Rat) * S r j * det c F = sumN c fun i => (z i / (a i : Rat) * det c F) * F i j := by
      rw [z1 j hj, show (b j : Rat) * (sumN c fun i => z i * P i j) * det c F = ((b j : Rat) * det c F) * sumN c fun i => z i * P i j by grind, ← sumN_mul]
      exact sumN_congr fun i hi => by
        have := aw i (by omega)
        rw [hFe]; grind
    obtain ⟨Z, hZ1, hZ2⟩ := sumN_int (B := dB M c * M) (g := fun i => (z i / (a i : Rat) * det c F) * F i j) (n := c) (fun i hi => by
      obtain ⟨m, m1, m2⟩ := hz i hi
      obtain ⟨f, f1, f2⟩ := hFi i j (by omega) hj
      exact ⟨m * f, by rw [m1, f1, Rat.intCast_mul], by rw [Int.natAbs_mul]; exact Nat.mul_le_mul m2 f2⟩)
    refine ⟨Z, (b j : Int) * d, Int.mul_ne_zero (by have := (s2 j hj).1; omega) hd0, ?_, ?_, ?_⟩
    · rw [← hZ1, ← e2, hd1, Rat.intCast_mul, Rat.intCast_natCast]
      have := bw j hj
      have : (d : Rat) ≠ 0 := by rw [← hd1]; exact hD
      grind
    · refine Nat.le_trans hZ2 ?_
      rw [Nat.mul_comm (dB M c)]
      exact Nat.mul_le_mul_right _ (by omega)
    · rw [Int.natAbs_mul, Int.natAbs_natCast, Nat.mul_comm]
      refine Nat.mul_le_mul hd2 ?_
      exact Nat.le_trans (s2 j hj).2.1 (Nat.le_mul_of_pos_left _ (by omega))
  · obtain ⟨y, y1, y2⟩ := h.low r (by omega) hr
    have ha := aw r hr
    have hy : ∀ i, i < c → ∃ m : Int, (y i * (a r : Rat) / (a i : Rat)) * det c F = m ∧ m.natAbs ≤ dB M c := fun i hi => by
      rw [← cramer (n := c) (f := F) (y := fun i => y i * (a r : Rat) / (a i : Rat)) (b := F r) (fun k hk => ?_) hi]
      · refine det_int fun i' k hi' hk => ?_
        unfold upd
        split
        · exact hFi r k hr (by omega)
        · exact hFi i' k (by omega) (by omega)
      · have e1 : sumN c (fun i => y i * (a r : Rat) / (a i : Rat) * F i k) = ((a r : Rat) * (b k : Rat)) * sumN c fun i => y i * P i k := by
          rw [← sumN_mul]
          exact sumN_congr fun i hi => by
            have := aw i (by omega)
            rw [hFe]; grind
        have e3 := y1 k (by omega)
        rw [y2 k hk] at e3
        rw [e1, hFe]
        have : sumN c (fun i => y i * P i k) = P r k := by grind
        rw [this]
    have e2 : (a r : Rat) * (b j : Rat) * S r j * det c F = det c F * F r j - sumN c fun i => ((y i * (a r : Rat) / (a i : Rat)) * det c F) * F i j := by
      have e3 : sumN c (fun i => ((y i * (a r : Rat) / (a i : Rat)) * det c F) * F i j) = ((a r : Rat) * (b j : Rat) * det c F) * sumN c fun i => y i * P i j := by
        rw [← sumN_mul]
        exact sumN_congr fun i hi => by
          have := aw i (by omega)
          rw [hFe]; grind
      rw [e3, y1 j hj, hFe]
      grind
    obtain ⟨Z, hZ1, hZ2⟩ := sumN_int (B := dB M c * M) (g := fun i => ((y i * (a r : Rat) / (a i : Rat)) * det c F) * F i j) (n := c) (fun i hi => by
      obtain ⟨m, m1, m2⟩ := hy i hi
      obtain ⟨f, f1, f2⟩ := hFi i j (by omega) hj
      exact ⟨m * f, by rw [m1, f1, Rat.intCast_mul], by rw [Int.natAbs_mul]; exact Nat.mul_le_mul m2 f2⟩)
    obtain ⟨f, f1, f2⟩ := hFi r j hr hj
    refine ⟨d * f - Z, (a r : Int) * (b j : Int) * d, Int.mul_ne_zero (Int.mul_ne_zero (by have := (s1 r hr).1; omega) (by have := (s2 j hj).1; omega)) hd0, ?_, ?_, ?_⟩
    · rw [Rat.intCast_sub, Rat.intCast_mul, ← hZ1, ← f1, ← hd1, ← e2, Rat.intCast_mul, Rat.intCast_mul, Rat.intCast_natCast, Rat.intCast_natCast, ← hd1]
      have := bw j hj
      grind
    · have h1 : (d * f).natAbs ≤ dB M c * M := by rw [Int.natAbs_mul]; exact Nat.mul_le_mul hd2 f2
      have h2 : (c + 1) * (M * dB M c) = c * (dB M c * M) + dB M c * M := by rw [Nat.add_mul, Nat.one_mul, Nat.mul_comm M]
      omega
    · rw [Int.natAbs_mul, Int.natAbs_mul, Int.natAbs_natCast, Int.natAbs_natCast, Nat.mul_comm]
      exact Nat.mul_le_mul hd2 (Nat.mul_le_mul (s1 r hr).2 (s2 j hj).2.1)
end Go.Proofs.Ytlejgleocnemoaa.I

namespace Go.Proofs.Ytlejgleocnemoaa.I
open Go Go.V
structure Way (n w c : Nat) (R S : Mx) (M A B : Nat) : Prop where
  same : SameSol n w R S
  cl : Cl n c S
  elm : ∃ (P : Mx) (a b : Nat → Nat), Elm n w c P S ∧ Scl n w P a b M A B
theorem Way.zero {n w : Nat} {R : Mx} {M A B : Nat} {a b : Nat → Nat} (h : Scl n w R a b M A B) : Way n w 0 R R M A B := ⟨SameSol.refl, Cl.zero, R, a, b, Elm.zero, h⟩
theorem Way.swap {n w c p : Nat} {R S : Mx} {M A B : Nat} (h : Way n w c R S M A B) (hcp : c ≤ p) (hp : p < n) : Way n w c R (swR S c p) M A B := by
  obtain ⟨P, a, b, h1, h2⟩ := h.elm
  exact ⟨h.same.trans (sol_swap (by omega) hp), h.cl.swap hcp hp, swR P c p, _, b, h1.swap hcp hp, h2.swap (by omega) hp⟩
theorem Way.step {n w c : Nat} {R S T : Mx} {M A B : Nat} (h : Way n w c R S M A B) (hc : c < n) (hw : n ≤ w) (hp : S c c ≠ 0) (hT : ∀ j, j < w → T c j = S c j / S c c) (hT2 : ∀ r, r < n → r ≠ c → ∀ j, j < w → T r j = S r j - S r c * T c j) : Way n w (c + 1) R T M A B := by
  obtain ⟨P, a, b, h1, h2⟩ := h.elm
  have hs0 : 1 / S c c ≠ 0 := by intro h0; grind
  have e1 : ∀ r, r < n → r ≠ c → ∀ j, j < w → T r j = S r j - (S r c * (1 / S c c)) * S c j := fun r hr hrc j hj => by
    rw [hT2 r hr hrc j hj, hT j hj]; grind
  have e2 : ∀ j, j < w → T c j = (1 / S c c) * S c j := fun j hj => by rw [hT j hj]; grind
  exact ⟨h.same.trans (sol_elim hc hs0 e1 e2), h.cl.elim hc hw hs0 hp e1 e2 (fun r hr hrc => by grind), P, a, b, h1.step hc hw hp hT hT2, h2⟩
theorem Way.bound {n w c : Nat} {R S : Mx} {M A B : Nat} (h : Way n w c R S M A B) (hc : c ≤ n) (hw : n ≤ w) (hA : 1 ≤ A) {r j : Nat} (hr : r < n) (hj : j < w) :
    ∃ (Z : Int) (q : Int), q ≠ 0 ∧ S r j = (Z : Rat) / (q : Rat) ∧ Z.natAbs ≤ (c + 1) * (M * dB M c) ∧ q.natAbs ≤ dB M c * (A * B) := by
  obtain ⟨P, a, b, h1, h2⟩ := h.elm
  exact h1.bound h2 hc hw hA hr hj
theorem way_all {n w : Nat} (hw : n ≤ w) {R : Mx} (hk : ¬ Ker n w R) {M A B : Nat} {a b : Nat → Nat} (h : Scl n w R a b M A B) : ∀ c, c ≤ n → ∃ S, Way n w c R S M A B
  | 0, _ => ⟨R, Way.zero h⟩
  | c + 1, hc => by
    obtain ⟨S, hS⟩ := way_all hw hk h c (by omega)
    by_cases hz : ∀ r, r < n → c ≤ r → S r c = 0
    · exact absurd ((ker_of hS.cl (by omega) hw hz).same hS.same) hk
    · obtain ⟨p, hz⟩ := Classical.not_forall.1 hz
      obtain ⟨hp, hz⟩ := Classical.not_imp.1 hz
      obtain ⟨hcp, hz⟩ := Classical.not_imp.1 hz
      have h2 := hS.swap hcp hp
      have hpv : swR S c p c c ≠ 0 := by unfold swR; rw [if_pos rfl]; exact hz
      exact ⟨fun r j => if r = c then swR S c p c j / swR S c p c c else swR S c p r j - swR S c p r c * (swR S c p c j / swR S c p c c), h2.step (by omega) hw hpv (fun j _ => if_pos rfl) (fun r _ hrc j _ => by simp only [if_neg hrc, if_true])⟩
theorem ans_bound {n m : Nat} {R T : Mx} (hT : SameSol n (n + m) R T) (hc : Cl n n T) {M A B : Nat} {a b : Nat → Nat} (h : Scl n (n + m) R a b M A B) (hA : 1 ≤ A) {r j : Nat} (hr : r < n) (hj : j < m) :
    ∃ (Z : Int) (q : Int), q ≠ 0 ∧ T r (n + j) / T r r = (Z : Rat) / (q : Rat) ∧ Z.natAbs ≤ (n + 1) * (M * dB M n) ∧ q.natAbs ≤ dB M n * (A * B) := by
  have hk : ¬ Ker n (n + m) R := fun hk => no_ker hc (by omega) (hk.same hT.symm)
  obtain ⟨S, hS⟩ := way_all (by omega) hk h n (Nat.le_refl _)
  have h1 := hS.bound (Nat.le_refl _) (by omega) hA hr (show n + j < n + m by omega)
  obtain ⟨P, a', b', e1, e2⟩ := hS.elm
  obtain ⟨z, _, z2⟩ := e1.top r hr
  have h2 := ans_same hT hS.same hc hS.cl (by omega) (show n ≤ n + j by omega) (by omega) r hr
  rw [h2, z2 r hr, if_pos rfl]
  obtain ⟨Z, q, q1, q2, q3⟩ := h1
  exact ⟨Z, q, q1, by rw [q2]; grind, q3⟩
end Go.Proofs.Ytlejgleocnemoaa.I

namespace Go.Proofs.Ytlejgleocnemoaa.I
open Go Go.V
attribute [local go_sem] mNil nat0 beq_self_eq_true mSkip mRet mExit mReg mSeq mCond mTrue mFalse mBlock mLv mCodeE mCodeR mEndN mEndR mEndE mOps mSome mGuard mGtt mGff mGtf mGft mGu mCallP mCallR mCallF mCallO mCallZ mCallG mCallM mCallV loopQ_exit loopQ_ret mO_mov mO_newnil mO_pick mO_alloc mO_box mO_build mO_bsl mO_bslF mO_newnilB mO_bslB mO_lenB mO_appB mO_allocA mO_bslA mO_appA mO_ldb mO_faddrb mRsv mO_ldf mO_ld mO_st mO_sta mO_nilchk mO_bin mO_binb mO_binp mO_bins mO_neg mO_com mO_not mO_conv mO_mk mO_mk0 mO_mkB mO_s2b mO_b2s mO_cpy mO_cut mO_faddr mO_fld mO_iaddr mO_iaddrf mO_sidx mO_len mO_lenf mO_slen mO_scut mO_app mO_ext mO_mx mO_mn mO_mkfn evalOp cutOp argsE ev getE putE cellsOf adopt rowOf binV boolV nilV ar_add ar_sub ar_mul ar_quo ar_rem ar_eq ar_ne ar_lt ar_le ar_gt ar_ge ar_and ar_or ar_xor geto bound finRet finNrm ints List.length_cons List.length_nil List.length_append List.getElem?_cons_zero List.getElem?_cons_succ List.nil_append List.cons_append List.map_cons List.map_nil List.mapM_cons List.mapM_nil Option.map_some Option.map_none Option.bind_some Option.pure_def Option.bind_eq_bind List.drop_zero or_self or_false false_or or_true true_or true_and and_true and_self decide_true decide_false Bool.false_eq_true Bool.true_eq_false Bool.not_true Bool.not_false Nat.le_refl eq_self gt_iff_lt ge_iff_le ne_eq not_true_eq_false not_false_eq_true storeOp apartOf freeze_nil refsL refs List.flatMap_cons List.flatMap_nil List.append_nil List.contains_nil List.set_cons_zero List.set_cons_succ snap snapL fill_nums flat_nums nums_length Go.V.freeze List.mapIdx_cons List.mapIdx_nil List.contains_cons Bool.or_false Bool.false_or Bool.or_true Bool.true_or
theorem idx_lt {k j R C : Nat} (hk : k < R) (hj : j < C) : k * C + j < R * C := by
  have : (k + 1) * C ≤ R * C := Nat.mul_le_mul_right _ hk
  rw [Nat.add_mul, Nat.one_mul] at this
  omega
theorem mxG_grid {A : List Rat} {R C k j : Nat} (hk : k < R) (hj : j < C) : mxG (gridA A R C) k j = A.getD (k * C + j) 0 := by
  have e : (gridA A R C).getD k [] = rowA A C k C := by simp [List.getD, gridA, hk]
  unfold mxG
  rw [e]
  simp [rowA, List.getD, hj]
theorem mxG_unit {n k j : Nat} (hk : k < n) (hj : j < n) : mxG (unitG n) k j = if j = k then 1 else 0 := by
  have e : (unitG n).getD k [] = uniR n k := by simp [List.getD, unitG, hk]
  unfold mxG
  rw [e]
  unfold uniR
  by_cases h : j = k
  · subst h
    simp [List.getD, hj]
  · rw [if_neg h]
    simp only [List.getD, List.getElem?_set_ne (fun e => h e.symm), List.getElem?_replicate, hj, if_true, Option.getD_some]
def mA (A : List Rat) (n : Nat) : Mx := fun k i => A.getD (k * n + i) 0
section
variable {A : List Rat} {n : Nat}
theorem gram_grid {r j : Nat} (hr : r < n) (hj : j < n) : gram (gridA A n n).length (mxG (gridA A n n)) (mxG (gridA A n n)) r j = gram n (mA A n) (mA A n) r j := by
  rw [grid_len]
  unfold gram
  exact sumN_congr fun k hk => by rw [mxG_grid hk hr, mxG_grid hk hj]; rfl
theorem cmb_inv1 {r j : Nat} (hr : r < n) (hj : j < n) : cmb n (invS A n n) r j = gram n (mA A n) (mA A n) r j := by
  unfold cmb en
  rw [if_pos hj, ← gram_grid hr hj]
  simp only [invS, nrmR, List.getD, List.getElem?_map, List.getElem?_range hj, Option.map_some, Option.getD_some]
theorem cmb_inv2 {r q : Nat} (hr : r < n) (hq : q < n) : cmb n (invS A n n) r (n + q) = mA A n q r := by
  unfold cmb en
  rw [if_neg (by omega), show n + q - n = q by omega]
  have e : (nrmR (gridA A n n) (unitG n) r n).getD q 0 = gram (gridA A n n).length (mxG (gridA A n n)) (mxG (unitG n)) r q := by
    simp only [nrmR, List.getD, List.getElem?_map, List.getElem?_range hq, Option.map_some, Option.getD_some]
  show (nrmR (gridA A n n) (unitG n) r n).getD q 0 = _
  rw [e, grid_len]
  unfold gram
  rw [sumN_one (k := q) hq (fun i hi hne => by rw [mxG_unit hi hq, if_neg (fun e => hne e.symm), Rat.mul_zero]), mxG_unit hq hq, if_pos rfl, Rat.mul_one, mxG_grid hq hr]
  rfl
theorem flatR_get {G : Nat → List Rat} {m : Nat} (hG : ∀ r, (G r).length = m) {r j : Nat} (hj : j < m) : ∀ {n : Nat}, r < n → (((List.range n).map G).flatten).getD (r * m + j) 0 = (G r).getD j 0
  | 0, h => by omega
  | n + 1, h => by
    have hl : (((List.range n).map G).flatten).length = n * m := by
      rw [List.length_flatten, List.map_map]
      clear h hj
      induction n with
      | zero => simp
      | succ n ih => rw [List.range_succ, List.map_append, List.sum_append, ih]; simp [hG, Nat.add_mul]
    rw [List.range_succ, List.map_append, List.flatten_append]
    by_cases hr : r < n
    · have := flatR_get hG hj hr
      rw [← this]
      have hi := idx_lt hr hj
      simp only [List.getD]
      rw [List.getElem?_append_left (by omega)]
    · obtain rfl : r = n := by omega
      simp only [List.getD]
      rw [List.getElem?_append_right (by omega), hl]
      simp
theorem ansL_get {t : Gd × Gd} {m r j : Nat} (hr : r < n) (hj : j < m) : (ansL t n m).getD (r * m + j) 0 = en t.2 r j / en t.1 r r := by
  unfold ansL
  rw [flatR_get (fun r => dvR_len) hj hr]
  simp [dvR, List.getD, hj]
theorem ansL_cmb {t : Gd × Gd} {m r j : Nat} (hr : r < n) (hj : j < m) : (ansL t n m).getD (r * m + j) 0 = cmb n t r (n + j) / cmb n t r r := by
  rw [ansL_get hr hj]
  unfold cmb
  rw [if_neg (by omega), if_pos hr, show n + j - n = j by omega]
theorem inv_spec : match redA n n (invS A n n) with
    | none => ¬ Inj n (gram n (mA A n) (mA A n))
    | some u => SameSol n (n + n) (cmb n (invS A n n)) (cmb n u) ∧ Cl n n (cmb n u) ∧ Inj n (gram n (mA A n) (mA A n)) ∧ ∀ i j, i < n → j < n → sumN n (fun k => gram n (mA A n) (mA A n) i k * mA (ansL u n n) n k j) = mA A n j i := by
  have h := redA_all (invS_len (A := A) (R := n) (C := n))
  have hc : Inj n (cmb n (invS A n n)) ↔ Inj n (gram n (mA A n) (mA A n)) := ⟨fun h => h.congr fun i j hi hj => cmb_inv1 hi hj, fun h => h.congr fun i j hi hj => (cmb_inv1 hi hj).symm⟩
  cases hr : redA n n (invS A n n) with
  | none =>
    rw [hr] at h
    exact fun hi => (inj_iff (m := n)).1 (hc.2 hi) h
  | some u =>
    rw [hr] at h
    obtain ⟨h1, h2, h3⟩ := h
    have hk : ¬ Ker n (n + n) (cmb n (invS A n n)) := fun hk => no_ker h2 (by omega) (hk.same h1.symm)
    refine ⟨h1, h2, hc.1 ((inj_iff (m := n)).2 hk), fun i j hi hj => ?_⟩
    have := (ans_iff (R := cmb n (invS A n n)) (X := fun k => cmb n u k (n + j) / cmb n u k k) hj).1 ((h1 _).2 (ans_sol h2 (by omega) (by omega))) i hi
    rw [cmb_inv2 hi hj] at this
    rw [← this]
    exact sumN_congr fun k hk => by rw [cmb_inv1 hi hk]; unfold mA; rw [ansL_cmb hk hj]
end
theorem dB_small {n : Nat} (hn : n ≤ 4) : (n + 1) * (65536 * dB 65536 n) < 2 ^ 100 ∧ dB 65536 n * (1 * 1) < 2 ^ 100 := by
  rcases (show n = 0 ∨ n = 1 ∨ n = 2 ∨ n = 3 ∨ n = 4 by omega) with rfl | rfl | rfl | rfl | rfl <;> exact ⟨by decide, by decide⟩
theorem inv_size {A : List Rat} {n : Nat} {u : Gd × Gd} (hn : n ≤ 4) (hZ : ∀ k i, k < n → i < n → ∃ z : Int, mA A n k i = z ∧ z.natAbs ≤ 128) (h1 : SameSol n (n + n) (cmb n (invS A n n)) (cmb n u)) (h2 : Cl n n (cmb n u)) : ∀ a ∈ ansL u n n, Sz 100 a := fun a ha => by
  obtain ⟨l, hl, ha⟩ := List.mem_flatten.1 ha
  obtain ⟨r, hr, rfl⟩ := List.mem_map.1 hl
  have hr := List.mem_range.1 hr
  obtain ⟨q, hq, rfl⟩ := List.mem_map.1 ha
  have hq := List.mem_range.1 hq
  simp only [if_pos hq]
  have e : en u.2 r q / en u.1 r r = cmb n u r (n + q) / cmb n u r r := by
    unfold cmb
    rw [if_neg (by omega), if_pos hr, show n + q - n = q by omega]
  rw [e]
  have hS : Scl n (n + n) (cmb n (invS A n n)) (fun _ => 1) (fun _ => 1) 65536 1 1 := by
    refine ⟨fun r _ => ⟨Nat.one_pos, Nat.le_refl _⟩, fun j _ => ⟨Nat.one_pos, Nat.le_refl _, by show (1 : Nat) ≤ 65536; omega⟩, fun r j hr hj => ?_⟩
    have e1 : ((1 : Nat) : Rat) * ((1 : Nat) : Rat) * cmb n (invS A n n) r j = cmb n (invS A n n) r j := by
      rw [show ((1 : Nat) : Rat) = 1 from rfl]; grind
    rw [e1]
    by_cases hjn : j < n
    · rw [cmb_inv1 hr hjn]
      obtain ⟨z, z1, z2⟩ := sumN_int (B := 128 * 128) (g := fun k => mA A n k r * mA A n k j) (n := n) (fun k hk => by
        obtain ⟨x, x1, x2⟩ := hZ k r hk hr
        obtain ⟨y, y1, y2⟩ := hZ k j hk hjn
        refine ⟨x * y, by rw [x1, y1, Rat.intCast_mul], ?_⟩
        rw [Int.natAbs_mul]
        exact Nat.mul_le_mul x2 y2)
      refine ⟨z, z1, Nat.le_trans z2 (Nat.le_trans (Nat.mul_le_mul_right _ hn) (by decide))⟩
    · obtain ⟨q', rfl⟩ : ∃ q', j = n + q' := ⟨j - n, by omega⟩
      rw [cmb_inv2 hr (by omega)]
      obtain ⟨x, x1, x2⟩ := hZ q' r (by omega) hr
      exact ⟨x, x1, by omega⟩
  obtain ⟨Z, q', g1, g2, g3, g4⟩ := ans_bound h1 h2 hS (by omega) hr hq
  have hd := dB_small hn
  rw [g2, ← Rat.divInt_eq_div]
  exact Sz.of_divInt (Nat.lt_of_le_of_lt g3 hd.1) (Nat.lt_of_le_of_lt g4 hd.2) g1
theorem short_Sz {a : Rat} {k : Nat} (h : Sz k a) (hk : k ≤ 2048) : rlimbs (rR a) ≤ 64 := by
  rw [rlimbs]
  have h1 : (limG (rR a).2.1).length ≤ 64 := limG_szB 64 h.1 (by omega)
  have h2 : (limG (dn (rR a).2.2)).length ≤ 64 := by
    rw [(RV.self (r := a)).2.2]
    exact limG_szB 64 h.2 (by omega)
  omega
theorem shortB_Sz {l : List Rat} {k : Nat} (h : ∀ a ∈ l, Sz k a) (hk : k ≤ 2048) : shortB l 64 = true := all_take.2 fun a ha => by
  have := short_Sz (h a ha) hk
  omega
theorem rint_all {s : List Int} (hs : ∀ d ∈ s, In64 d) : wholeB false [] (s.map zR) = true := by
  rw [wholeB_iff]
  refine ⟨by simp, ?_⟩
  intro x hx
  obtain ⟨d, hd, rfl⟩ := List.mem_map.1 hx
  rw [rint_zR (hs d hd)]; rfl
theorem lis_zR {s : List Int} {n : Int} (hs : ∀ d ∈ s, In64 d) : lisV [n] false [] (s.map zR) = s ∧ lisE [n] false [] (s.map zR) = 0 := by
  constructor
  · rw [lisV, if_pos ⟨by simp, rint_all hs⟩, map_rv_zR hs]
  · rw [lisE, if_neg (by simp), if_pos (rint_all hs)]
theorem res_count {s : List Int} {n : Int} (h : count s = some n) : resE 0 s = 0 := by
  rw [resE, if_neg (by omega), if_neg (by rw [negB_no fun d hd => ((count_bound h).2.1 d hd).1]; simp), h]
theorem cyc_self {s : List Int} {len : Nat} (h : count s = some (len : Int)) : cyc s len = (List.range len).map fun i : Nat => (i : Int) := by
  rw [cyc, ← count_prd h, Int.toNat_natCast]
  refine List.map_congr_left fun i hi => ?_
  have := List.mem_range.1 hi
  rw [if_neg (by omega), Nat.mod_eq_of_lt this]
theorem self_pick {α : Type} {d : α} {t : List α} {f : Int → α} (hf : ∀ i : Nat, i < t.length → f i = t.getD i d) : ((List.range t.length).map fun i : Nat => (i : Int)).map f = t := by
  refine List.ext_getElem (by simp) fun i h1 h2 => ?_
  have h3 : i < t.length := h2
  simp only [List.getElem_map, List.getElem_range]
  rw [hf i h3]
  simp [List.getD, h3]
theorem self_R {l : List Rt} {n : Nat} (h : n = l.length) : picksR false l ((List.range n).map fun i : Nat => (i : Int)) = l := by
  subst h
  rw [picksR, if_neg (by simp)]
  refine self_pick (d := (false, 0, 0)) fun i hi => ?_
  rw [pickR, if_pos ⟨by omega, by omega⟩, Int.toNat_natCast]
  rfl
theorem reshape_sq {l : List Int} {n : Nat} (hn : n ≤ 4) (hl : l.length = n * n) :
    Go.V.Call tab E 29 [.agg (arrX [2] false [] ([(n : Int), (n : Int)].map zR)), .agg (arrX [(l.length : Int)] false [] (l.map zR))] [] (.tup [.agg (arrX [(n : Int), (n : Int)] false [] (l.map zR)), .int .i64 0]) [] := by
  have hin : ∀ d ∈ [(n : Int), (n : Int)], In64 d := fun d hd => by
    have : d = n := by simpa using hd
    subst this
    exact ⟨by omega, by omega⟩
  have hb : n * n ≤ 16 := Nat.mul_le_mul hn hn
  have h := c29_ok (sb := [2]) (tb := []) (cb := false) (Lb := [(n : Int), (n : Int)].map zR) (s := [(l.length : Int)]) (t := []) (ch := false) (L := l.map zR) (by simp) (by simp) (by simp) (by simp) (by simp) (by rw [List.length_map]; omega)
  have hc : count [(n : Int), (n : Int)] = some (((l.map zR).length : Nat) : Int) := by
    have := divSh_count (s := [0, 0]) (s' := [0, 0]) (C := n) (C' := n) (by omega) (by omega) (by simp) (by simp)
    rw [show divSh [0, 0] [0, 0] n n = [(n : Int), (n : Int)] from rfl] at this
    rw [this, List.length_map, hl]
  rw [(lis_zR hin).1, (lis_zR hin).2, res_count hc] at h
  rw [List.length_nil, Nat.zero_add, cyc_self hc] at h
  unfold outA at h
  rw [if_pos rfl, self_R rfl] at h
  exact h
theorem rR_zR {z : Int} : rR (z : Rat) = zR z := by
  unfold rR zR
  rw [Rat.num_intCast, Rat.den_intCast]
theorem gd_cast {b : List Int} {k : Nat} (h : k < b.length) : (b.map fun z : Int => (z : Rat)).getD k 0 = ((b.getD k 0 : Int) : Rat) := by
  simp [List.getD, h]
theorem sq_arr {A : List Rat} {n : Nat} (hn : n ≤ 4) (hA : A.length = n * n) : ArrM [(n : Int), (n : Int)] [] false A n n ∧ chkE [(n : Int), (n : Int)] [] false A n n = 0 := by
  have hb : n * n ≤ 16 := Nat.mul_le_mul hn hn
  refine ⟨⟨by simp, rfl, rfl, by omega, by omega, by omega, by simp, fun _ => by simp [hA], fun _ => rfl⟩, ?_⟩
  unfold chkE
  rw [if_neg (by simp), if_neg (by simp), if_neg (by omega), if_neg (by omega)]
theorem sz_sq {n : Nat} (hn : n ≤ 4) : 4 ^ (n + 1) * ((2 * 200 + 1) * (n + 1) + 2) ≤ 30000000 := by
  rcases (show n = 0 ∨ n = 1 ∨ n = 2 ∨ n = 3 ∨ n = 4 by omega) with rfl | rfl | rfl | rfl | rfl <;> decide
theorem inv_sq {A : List Rat} {n : Nat} (hn : n ≤ 4) (hA : A.length = n * n) (hs : ∀ a ∈ A, Sz 200 a) :
    Go.V.Call tab E 40 [.agg (arrX [(n : Int), (n : Int)] false [] (A.map rR)), .int .i64 64] []
      (match redA n n (invS A n n) with
      | none => .tup [.agg noA, .int .i64 22]
      | some u => .tup [.agg (if shortB (ansL u n n) 64 then arrX [(n : Int), (n : Int)] false [] ((ansL u n n).map rR) else noA), .int .i64 (if shortB (ansL u n n) 64 then 0 else 26)]) [] :=
  c40_core (sq_arr hn hA).1 (sq_arr hn hA).2 (by omega) hs (sz_sq hn)
def i8X (l : List Int) : AV := .sl l.length 1 (nums .i8 l)
def fr18 (neg : Bool) (n d : Int) : List AV := [.sl 1 1 [.int .u32 n], .bool neg, .sl 1 1 [.int .u32 d]]
def ar18 (s : List Int) (l : List (Bool × Int × Int)) : AV := .agg [.sl s.length 1 (s.map (.int .i64)), .bool false, .sl 0 1 [], .sl l.length 3 (l.flatMap fun x => fr18 x.1 x.2.1 x.2.2), .bool true]
set_option maxRecDepth 100000 in
theorem aw18b : Go.V.Call tab E 39 [ar18 [] [(false, 4, 1)], ar18 [] [(false, 8, 1)], .int .i64 4] [] (.tup [ar18 [] [(false, 1, 2)], .int .i64 0]) [] := Go.V.Call.run (ext := ext) (fun h => h) (fuel := 400) (n := 40) (by kernel_rfl)
def pg18 (s : List Int) (l : List (Bool × UInt8 × UInt8)) : AV := .agg [.sl s.length 1 (s.map (.int .i64)), .bool false, .sl 0 1 [], .sl l.length 3 (l.flatMap fun x => [AV.bool x.1, .str ⟨#[x.2.1]⟩, .str ⟨#[x.2.2]⟩])]
def fs18 (neg : Bool) (n d : Int) : List AV := [.sl 1 1 [.int .u32 n], .bool neg, .sl 1 1 [.int .u32 d]]
def as18 (s : List Int) (l : List (Bool × Int × Int)) : AV := .agg [.sl s.length 1 (s.map (.int .i64)), .bool false, .sl 0 1 [], .sl l.length 3 (l.flatMap fun x => fs18 x.1 x.2.1 x.2.2), .bool true]
set_option maxRecDepth 100000 in
theorem aw18d : Go.V.Call tab E 94 [as18 [] [(false, 1, 2)], .int .i64 0, pg18 [] [(false, 49, 50)], .int .i64 0] [] (.bool true) [] := Go.V.Call.run (ext := ext) (fun h => h) (fuel := 400) (n := 40) (by kernel_rfl)
set_option maxRecDepth 100000 in
theorem aw18c : Go.V.Call tab E 94 [as18 [2, 2] [(true, 2, 1), (false, 1, 1), (false, 3, 2), (true, 1, 2)], .int .i64 0, pg18 [2, 2] [(true, 50, 49), (false, 49, 49), (false, 51, 50), (true, 49, 50)], .int .i64 0] [] (.bool true) [] := Go.V.Call.run (ext := ext) (fun h => h) (fuel := 400) (n := 40) (by kernel_rfl)
end Go.Proofs.Ytlejgleocnemoaa.I

namespace Go.Proofs.Ytlejgleocnemoaa.I
open Go Go.V
attribute [local go_sem_proc ↓] reduceIte
attribute [local go_sem_proc] Nat.reduceEqDiff Nat.reduceAdd Nat.reduceMul Nat.reduceLeDiff Nat.reduceLT Int.reduceToNat Int.reduceLT Int.reduceLE reduceCtorEq Nat.reduceBEq
attribute [local go_sem] mNil nat0 beq_self_eq_true mSkip mRet mExit mReg mSeq mCond mTrue mFalse mBlock mLv mCodeE mCodeR mEndN mEndR mEndE mOps mSome mGuard mGtt mGff mGtf mGft mGu mCallP mCallR mCallF mCallO mCallZ mCallG mCallM mCallV loopQ_exit loopQ_ret mO_mov mO_newnil mO_pick mO_alloc mO_box mO_build mO_bsl mO_bslF mO_newnilB mO_bslB mO_lenB mO_appB mO_allocA mO_bslA mO_appA mO_ldb mO_faddrb mRsv mO_ldf mO_ld mO_st mO_sta mO_nilchk mO_bin mO_binb mO_binp mO_bins mO_neg mO_com mO_not mO_conv mO_mk mO_mk0 mO_mkB mO_s2b mO_b2s mO_cpy mO_cut mO_faddr mO_fld mO_iaddr mO_iaddrf mO_sidx mO_len mO_lenf mO_slen mO_scut mO_app mO_ext mO_mx mO_mn mO_mkfn evalOp cutOp argsE ev getE putE cellsOf adopt rowOf binV boolV nilV ar_add ar_sub ar_mul ar_quo ar_rem ar_eq ar_ne ar_lt ar_le ar_gt ar_ge ar_and ar_or ar_xor geto bound finRet finNrm ints List.length_cons List.length_nil List.length_append List.getElem?_cons_zero List.getElem?_cons_succ List.nil_append List.cons_append List.map_cons List.map_nil List.mapM_cons List.mapM_nil Option.map_some Option.map_none Option.bind_some Option.pure_def Option.bind_eq_bind List.drop_zero or_self or_false false_or or_true true_or true_and and_true and_self decide_true decide_false Bool.false_eq_true Bool.true_eq_false Bool.not_true Bool.not_false Nat.le_refl eq_self gt_iff_lt ge_iff_le ne_eq not_true_eq_false not_false_eq_true storeOp apartOf freeze_nil refsL refs List.flatMap_cons List.flatMap_nil List.append_nil List.contains_nil List.set_cons_zero List.set_cons_succ snap snapL fill_nums flat_nums nums_length Go.V.freeze List.mapIdx_cons List.mapIdx_nil List.contains_cons Bool.or_false Bool.false_or Bool.or_true Bool.true_or
theorem ax11 : Go.V.Call tab E 11 [.sl 2 1 [.int .i64 2, .int .i64 2]] [] (as18 [2] [(false, 2, 1), (false, 2, 1)]) [] := Go.V.Call.run (ext := ext) (fun h => h) (fuel := 400) (n := 40) (by kernel_rfl)
theorem ax11b : Go.V.Call tab E 11 [.sl 4 1 [.int .i64 1, .int .i64 2, .int .i64 3, .int .i64 4]] [] (as18 [4] [(false, 1, 1), (false, 2, 1), (false, 3, 1), (false, 4, 1)]) [] := Go.V.Call.run (ext := ext) (fun h => h) (fuel := 400) (n := 40) (by kernel_rfl)
theorem ax29 : Go.V.Call tab E 29 [as18 [2] [(false, 2, 1), (false, 2, 1)], as18 [4] [(false, 1, 1), (false, 2, 1), (false, 3, 1), (false, 4, 1)]] [] (.tup [as18 [2, 2] [(false, 1, 1), (false, 2, 1), (false, 3, 1), (false, 4, 1)], .int .i64 0]) [] := Go.V.Call.run (ext := ext) (fun h => h) (fuel := 400) (n := 40) (by kernel_rfl)
theorem ax12 : Go.V.Call tab E 12 [.int .i64 4] [] (as18 [] [(false, 4, 1)]) [] := Go.V.Call.run (ext := ext) (fun h => h) (fuel := 400) (n := 40) (by kernel_rfl)
theorem ax12b : Go.V.Call tab E 12 [.int .i64 8] [] (as18 [] [(false, 8, 1)]) [] := Go.V.Call.run (ext := ext) (fun h => h) (fuel := 400) (n := 40) (by kernel_rfl)
theorem ax58 : Go.V.Call tab E 58 [.int .i64 (-2)] [] (.agg [.bool true, .str ⟨#[50]⟩, .str ⟨#[49]⟩]) [] := Go.V.Call.run (ext := ext) (fun h => h) (fuel := 400) (n := 40) (by kernel_rfl)
theorem ax58b : Go.V.Call tab E 58 [.int .i64 1] [] (.agg [.bool false, .str ⟨#[49]⟩, .str ⟨#[49]⟩]) [] := Go.V.Call.run (ext := ext) (fun h => h) (fuel := 400) (n := 40) (by kernel_rfl)
theorem ax_red : (redA 2 2 (invS [1, 2, 3, 4] 2 2)).map (fun u => ansL u 2 2) = some [-2, 1, 3/2, -1/2] := by decide +kernel
theorem ax40 : Go.V.Call tab E 40 [as18 [2, 2] [(false, 1, 1), (false, 2, 1), (false, 3, 1), (false, 4, 1)], .int .i64 4] [] (.tup [as18 [2, 2] [(true, 2, 1), (false, 1, 1), (false, 3, 2), (true, 1, 2)], .int .i64 0]) [] := by
  have l1 : limG 1 = [1] := limG_one (d := 1) (by omega) (by omega)
  have l2 : limG 2 = [2] := limG_one (d := 2) (by omega) (by omega)
  have l3 : limG 3 = [3] := limG_one (d := 3) (by omega) (by omega)
  have l4 : limG 4 = [4] := limG_one (d := 4) (by omega) (by omega)
  have h := c40_core (lim := 4) (sq_arr (A := [1, 2, 3, 4]) (n := 2) (by omega) rfl).1 (sq_arr (A := [1, 2, 3, 4]) (n := 2) (by omega) rfl).2 (e := 200) (by omega) (fun a ha => ?_) (sz_sq (by omega))
  · have hm := ax_red
    cases hr : redA 2 2 (invS [1, 2, 3, 4] 2 2) with
    | none => rw [hr] at hm; cases hm
    | some u =>
      rw [hr] at hm h
      have hu : ansL u 2 2 = [-2, 1, 3/2, -1/2] := Option.some.inj hm
      have hs : shortB [-2, 1, 3/2, -1/2] 4 = true := all_take.2 fun a ha => by
        have hz : Sz 3 a := by
          have : ∀ a ∈ ([-2, 1, 3/2, -1/2] : List Rat), a.num.natAbs < 2 ^ 3 ∧ a.den < 2 ^ 3 := by decide +kernel
          exact this a ha
        rw [rlimbs]
        have h1 : (limG (rR a).2.1).length ≤ 1 := limG_szB 1 hz.1 (by omega)
        have h2 : (limG (dn (rR a).2.2)).length ≤ 1 := by
          rw [(RV.self (r := a)).2.2]
          exact limG_szB 1 hz.2 (by omega)
        omega
      have q1 : ([1, 2, 3, 4] : List Rat).map rR = [(false, 1, 1), (false, 2, 1), (false, 3, 1), (false, 4, 1)] := by decide +kernel
      have q2 : ([-2, 1, 3/2, -1/2] : List Rat).map rR = [(true, 2, 1), (false, 1, 1), (false, 3, 2), (true, 1, 2)] := by decide +kernel
      simp only [hu, hs, if_true, q1, q2] at h
      simp only [arrX, ints, nums, runes, rtsC, rtC, ratG, us32, l1, l2, l3, l4, List.flatMap_cons, List.flatMap_nil] at h
      exact h
  · have : ∀ a ∈ ([1, 2, 3, 4] : List Rat), a.num.natAbs < 2 ^ 3 ∧ a.den < 2 ^ 3 := by decide +kernel
    exact Sz.mono (this a ha) (by omega)
theorem c38_awake : Go.V.Call tab E 38 [] [] (.bool true) [] := by
  refine Go.V.Call.mach i38 c38 rfl rfl rfl rfl ?_
  have a1 := ax11
  have a2 := ax11b
  have a3 := ax29
  have a4 := ax12
  have a5 := ax12b
  have a6 := ax58
  have a7 := ax58b
  have a8 := ax40
  have a9 := aw18b
  have b1 := aw18c
  have b2 := aw18d
  simp only [as18, fs18, ar18, fr18, pg18, List.map_cons, List.map_nil, List.length_cons, List.length_nil, Nat.zero_add, List.flatMap_cons, List.flatMap_nil, List.cons_append, List.nil_append, List.append_nil] at a1 a2 a3 a4 a5 a8 a9 b1 b2
  simp only [Nat.reduceAdd] at a1 a2 a3 a4 a5 a8 a9 b1 b2
  simp only [c38, go_sem, FL, subA5, subP4, List.flatten_cons, List.flatten_nil, Option.getD_some, List.append_nil]
  refine goF a1 ?_
  simp only [go_sem, FL, subA5, subP4, List.flatten_cons, List.flatten_nil, Option.getD_some, List.append_nil]
  refine goF a2 ?_
  simp only [go_sem, FL, subA5, subP4, List.flatten_cons, List.flatten_nil, Option.getD_some, List.append_nil]
  refine goP a3 ?_
  simp only [go_sem, FL, subA5, subP4, List.flatten_cons, List.flatten_nil, Option.getD_some, List.append_nil]
  refine goF a8 ?_
  simp only [go_sem, FL, subA5, subP4, List.flatten_cons, List.flatten_nil, Option.getD_some, List.append_nil]
  refine goP a4 ?_
  simp only [go_sem, FL, subA5]
  refine goP a5 ?_
  simp only [go_sem, FL, subA5]
  refine goP a9 ?_
  simp only [go_sem, FL, subA5, subP4, List.flatten_cons, List.flatten_nil, Option.getD_some, List.append_nil]
  refine goP a6 ?_
  simp only [go_sem, FL, subA5]
  refine goP a7 ?_
  simp only [go_sem, FL, subA5, subP4, List.flatten_cons, List.flatten_nil, Option.getD_some, List.append_nil]
  refine goR b1 rfl ?_
  simp only [go_sem, FL, subA5, subP4, List.flatten_cons, List.flatten_nil, Option.getD_some, List.append_nil]
  refine goR b2 rfl ?_
  simp only [go_sem, FL, subA5]
  simp only [i38, OT, reduceIte, Nat.reduceEqDiff]
end Go.Proofs.Ytlejgleocnemoaa.I

namespace Go.Proofs.Ytlejgleocnemoaa.I
open Go Go.V
attribute [local go_sem] mNil nat0 beq_self_eq_true mSkip mRet mExit mReg mSeq mCond mTrue mFalse mBlock mLv mCodeE mCodeR mEndN mEndR mEndE mOps mSome mGuard mGtt mGff mGtf mGft mGu mCallP mCallR mCallF mCallO mCallZ mCallG mCallM mCallV loopQ_exit loopQ_ret mO_mov mO_newnil mO_pick mO_alloc mO_box mO_build mO_bsl mO_bslF mO_newnilB mO_bslB mO_lenB mO_appB mO_allocA mO_bslA mO_appA mO_ldb mO_faddrb mRsv mO_ldf mO_ld mO_st mO_sta mO_nilchk mO_bin mO_binb mO_binp mO_bins mO_neg mO_com mO_not mO_conv mO_mk mO_mk0 mO_mkB mO_s2b mO_b2s mO_cpy mO_cut mO_faddr mO_fld mO_iaddr mO_iaddrf mO_sidx mO_len mO_lenf mO_slen mO_scut mO_app mO_ext mO_mx mO_mn mO_mkfn evalOp cutOp argsE ev getE putE cellsOf adopt rowOf binV boolV nilV ar_add ar_sub ar_mul ar_quo ar_rem ar_eq ar_ne ar_lt ar_le ar_gt ar_ge ar_and ar_or ar_xor geto bound finRet finNrm ints List.length_cons List.length_nil List.length_append List.getElem?_cons_zero List.getElem?_cons_succ List.nil_append List.cons_append List.map_cons List.map_nil List.mapM_cons List.mapM_nil Option.map_some Option.map_none Option.bind_some Option.pure_def Option.bind_eq_bind List.drop_zero or_self or_false false_or or_true true_or true_and and_true and_self decide_true decide_false Bool.false_eq_true Bool.true_eq_false Bool.not_true Bool.not_false Nat.le_refl eq_self gt_iff_lt ge_iff_le ne_eq not_true_eq_false not_false_eq_true storeOp apartOf freeze_nil refsL refs List.flatMap_cons List.flatMap_nil List.append_nil List.contains_nil List.set_cons_zero List.set_cons_succ snap snapL fill_nums flat_nums nums_length Go.V.freeze List.mapIdx_cons List.mapIdx_nil List.contains_cons Bool.or_false Bool.false_or Bool.or_true Bool.true_or
def dotI (q v : List Int) (n i : Nat) : Nat → Int
  | 0 => 0
  | k + 1 => dotI q v n i k + q.getD (i * n + k) 0 * v.getD k 0
def outL (q v : List Int) (n i : Nat) : List Int := (List.range i).map fun r => dotI q v n r n
theorem outL_len {q v : List Int} {n i : Nat} : (outL q v n i).length = i := by simp [outL]
theorem outL_succ {q v : List Int} {n i : Nat} : outL q v n (i + 1) = outL q v n i ++ [dotI q v n i n] := by simp [outL, List.range_succ]
section
variable {q v : List Int} {n : Nat}
theorem dot_bnd (hq : ∀ d ∈ q, -128 ≤ d ∧ d ≤ 127) (hv : ∀ d ∈ v, -128 ≤ d ∧ d ≤ 127) {i : Nat} : ∀ {k : Nat}, (dotI q v n i k).natAbs ≤ k * 16384
  | 0 => by simp [dotI]
  | k + 1 => by
    have h0 := dot_bnd hq hv (i := i) (k := k)
    have g : ∀ (l : List Int) (j : Nat), (∀ d ∈ l, -128 ≤ d ∧ d ≤ 127) → (l.getD j 0).natAbs ≤ 128 := fun l j h => by
      by_cases hj : j < l.length
      · have := h (l.getD j 0) (by simp [List.getD, hj])
        omega
      · simp [List.getD, show l[j]? = none from List.getElem?_eq_none (by omega)]
    have h1 := Nat.mul_le_mul (g q (i * n + k) hq) (g v k hv)
    rw [← Int.natAbs_mul] at h1
    have h2 := Int.natAbs_add_le (dotI q v n i k) (q.getD (i * n + k) 0 * v.getD k 0)
    rw [dotI, Nat.add_mul]
    omega
theorem dot_cast (hq : q.length = n * n) (hv : v.length = n) {i : Nat} (hi : i < n) : ∀ {k : Nat}, k ≤ n → ((dotI q v n i k : Int) : Rat) = sumN k fun j => mA (q.map fun z : Int => (z : Rat)) n i j * ((v.getD j 0 : Int) : Rat)
  | 0, _ => rfl
  | k + 1, hk => by
    rw [dotI, sumN, ← dot_cast hq hv hi (by omega), Rat.intCast_add, Rat.intCast_mul]
    unfold mA
    rw [gd_cast (by rw [hq]; exact idx_lt hi (by omega))]
theorem div_spec {A B : List Rat} : match redA n n (divS A B n n 1) with
    | none => ¬ Inj n (gram n (mA A n) (mA A n))
    | some u => Inj n (gram n (mA A n) (mA A n)) ∧ ∀ i, i < n → sumN n (fun k => gram n (mA A n) (mA A n) i k * (ansL u n 1).getD (k * 1 + 0) 0) = sumN n fun k => mA A n k i * B.getD (k * 1 + 0) 0 := by
  have h := redA_all (divS_len (A := A) (B := B) (R := n) (C := n) (C' := 1))
  have c1 : ∀ r j, r < n → j < n → cmb n (divS A B n n 1) r j = gram n (mA A n) (mA A n) r j := fun r j hr hj => by
    have h := cmb_inv1 (A := A) hr hj
    unfold cmb at h ⊢
    rw [if_pos hj] at h ⊢
    exact h
  have c2 : ∀ r, r < n → cmb n (divS A B n n 1) r (n + 0) = sumN n fun k => mA A n k r * B.getD (k * 1 + 0) 0 := fun r hr => by
    unfold cmb en
    rw [if_neg (by omega), show n + 0 - n = 0 by omega]
    have e : (nrmR (gridA A n n) (gridA B n 1) r 1).getD 0 0 = gram (gridA A n n).length (mxG (gridA A n n)) (mxG (gridA B n 1)) r 0 := by simp [nrmR, List.getD]
    show (nrmR (gridA A n n) (gridA B n 1) r 1).getD 0 0 = _
    rw [e, grid_len]
    unfold gram
    exact sumN_congr fun k hk => by rw [mxG_grid hk hr, mxG_grid hk (by omega)]; rfl
  have hc : Inj n (cmb n (divS A B n n 1)) ↔ Inj n (gram n (mA A n) (mA A n)) := ⟨fun h => h.congr fun i j hi hj => c1 i j hi hj, fun h => h.congr fun i j hi hj => (c1 i j hi hj).symm⟩
  cases hr : redA n n (divS A B n n 1) with
  | none =>
    rw [hr] at h
    exact fun hi => (inj_iff (m := 1)).1 (hc.2 hi) h
  | some u =>
    rw [hr] at h
    obtain ⟨h1, h2, h3⟩ := h
    have hk : ¬ Ker n (n + 1) (cmb n (divS A B n n 1)) := fun hk => no_ker h2 (by omega) (hk.same h1.symm)
    refine ⟨hc.1 ((inj_iff (m := 1)).2 hk), fun i hi => ?_⟩
    have := (ans_iff (R := cmb n (divS A B n n 1)) (X := fun k => cmb n u k (n + 0) / cmb n u k k) (m := 1) (j := 0) (by omega)).1 ((h1 _).2 (ans_sol h2 (by omega) (by omega))) i hi
    rw [c2 i hi] at this
    rw [← this]
    exact sumN_congr fun k hk => by rw [c1 i k hi hk, ansL_cmb hk (by omega)]
theorem back_law (hq : q.length = n * n) (hv : v.length = n) {u : Gd × Gd} (h : redA n n (divS (q.map fun z : Int => (z : Rat)) ((outL q v n n).map fun z : Int => (z : Rat)) n n 1) = some u) : ansL u n 1 = v.map fun z : Int => (z : Rat) := by
  have hs := div_spec (n := n) (A := q.map fun z : Int => (z : Rat)) (B := (outL q v n n).map fun z : Int => (z : Rat))
  rw [h] at hs
  obtain ⟨hI, hs⟩ := hs
  generalize hA : mA (q.map fun z : Int => (z : Rat)) n = A at *
  have hl : (ansL u n 1).length = n := by rw [ansL_len]; omega
  have key := hI (fun k => (ansL u n 1).getD (k * 1 + 0) 0 - ((v.getD k 0 : Int) : Rat)) (fun r hr => by
    have e1 : sumN n (fun k => gram n A A r k * ((ansL u n 1).getD (k * 1 + 0) 0 - ((v.getD k 0 : Int) : Rat))) = sumN n (fun k => gram n A A r k * (ansL u n 1).getD (k * 1 + 0) 0) + -1 * sumN n (fun k => gram n A A r k * ((v.getD k 0 : Int) : Rat)) := by
      rw [← sumN_mul, ← sumN_add]
      exact sumN_congr fun k _ => by grind
    rw [e1, hs r hr, gram_mul]
    have e2 : sumN n (fun k => A k r * ((outL q v n n).map fun z : Int => (z : Rat)).getD (k * 1 + 0) 0) = sumN n fun k => A k r * sumN n fun j => A k j * ((v.getD j 0 : Int) : Rat) := sumN_congr fun k hk => by
      have e3 : ((outL q v n n).map fun z : Int => (z : Rat)).getD (k * 1 + 0) 0 = ((dotI q v n k n : Int) : Rat) := by
        rw [gd_cast (by rw [outL_len]; omega)]
        congr 1
        simp [outL, List.getD, hk]
      rw [e3, dot_cast hq hv hk (Nat.le_refl _), hA]
    rw [e2]
    grind)
  refine List.ext_getElem (by rw [hl, List.length_map, hv]) fun k h1 h2 => ?_
  have := key k (by omega)
  have e4 : (ansL u n 1).getD (k * 1 + 0) 0 = (ansL u n 1)[k] := by simp [List.getD, h1]
  have e5 : v.getD k 0 = v[k]'(by rw [List.length_map] at h2; exact h2) := by rw [List.length_map] at h2; simp [List.getD, h2]
  rw [e4, e5] at this
  rw [List.getElem_map]
  grind
end
end Go.Proofs.Ytlejgleocnemoaa.I

namespace Go.Proofs.Ytlejgleocnemoaa.I
open Go Go.V
attribute [local go_sem_proc ↓] reduceIte
attribute [local go_sem_proc] Nat.reduceEqDiff Nat.reduceAdd Nat.reduceMul Nat.reduceLeDiff Nat.reduceLT Int.reduceToNat Int.reduceLT Int.reduceLE reduceCtorEq Nat.reduceBEq
attribute [local go_sem] mNil nat0 beq_self_eq_true mSkip mRet mExit mReg mSeq mCond mTrue mFalse mBlock mLv mCodeE mCodeR mEndN mEndR mEndE mOps mSome mGuard mGtt mGff mGtf mGft mGu mCallP mCallR mCallF mCallO mCallZ mCallG mCallM mCallV loopQ_exit loopQ_ret mO_mov mO_newnil mO_pick mO_alloc mO_box mO_build mO_bsl mO_bslF mO_newnilB mO_bslB mO_lenB mO_appB mO_allocA mO_bslA mO_appA mO_ldb mO_faddrb mRsv mO_ldf mO_ld mO_st mO_sta mO_nilchk mO_bin mO_binb mO_binp mO_bins mO_neg mO_com mO_not mO_conv mO_mk mO_mk0 mO_mkB mO_s2b mO_b2s mO_cpy mO_cut mO_faddr mO_fld mO_iaddr mO_iaddrf mO_sidx mO_len mO_lenf mO_slen mO_scut mO_app mO_ext mO_mx mO_mn mO_mkfn evalOp cutOp argsE ev getE putE cellsOf adopt rowOf binV boolV nilV ar_add ar_sub ar_mul ar_quo ar_rem ar_eq ar_ne ar_lt ar_le ar_gt ar_ge ar_and ar_or ar_xor geto bound finRet finNrm ints List.length_cons List.length_nil List.length_append List.getElem?_cons_zero List.getElem?_cons_succ List.nil_append List.cons_append List.map_cons List.map_nil List.mapM_cons List.mapM_nil Option.map_some Option.map_none Option.bind_some Option.pure_def Option.bind_eq_bind List.drop_zero or_self or_false false_or or_true true_or true_and and_true and_self decide_true decide_false Bool.false_eq_true Bool.true_eq_false Bool.not_true Bool.not_false Nat.le_refl eq_self gt_iff_lt ge_iff_le ne_eq not_true_eq_false not_false_eq_true storeOp apartOf freeze_nil refsL refs List.flatMap_cons List.flatMap_nil List.append_nil List.contains_nil List.set_cons_zero List.set_cons_succ snap snapL fill_nums flat_nums nums_length Go.V.freeze List.mapIdx_cons List.mapIdx_nil List.contains_cons Bool.or_false Bool.false_or Bool.or_true Bool.true_or
theorem arrG_Z {s l : List Int} (hl : ∀ z ∈ l, In64 z) : arrG s false [] l = arrX s false [] (l.map zR) := by
  rw [arrG, arrX, ratsC_zR hl, List.length_map]
theorem c7_tail {q v : List Int} {n : Nat} (hn1 : 1 ≤ n) (hn : n ≤ 4) (hq : q.length = n * n) (hv : v.length = n) (hq8 : ∀ d ∈ q, -128 ≤ d ∧ d ≤ 127) (hv8 : ∀ d ∈ v, -128 ≤ d ∧ d ≤ 127) :
    (Go.V.Call tab E 39 [.agg (arrX [(n : Int)] false [] ((outL q v n n).map zR)), .agg (arrX [(n : Int), (n : Int)] false [] (q.map zR)), .int .i64 64] [] (.tup [.agg noA, .int .i64 22]) [] ∧
      Go.V.Call tab E 40 [.agg (arrX [(n : Int), (n : Int)] false [] (q.map zR)), .int .i64 64] [] (.tup [.agg noA, .int .i64 22]) []) ∨
    ∃ B : List Rat, Go.V.Call tab E 39 [.agg (arrX [(n : Int)] false [] ((outL q v n n).map zR)), .agg (arrX [(n : Int), (n : Int)] false [] (q.map zR)), .int .i64 64] [] (.tup [.agg (arrX [(n : Int)] false [] (v.map zR)), .int .i64 0]) [] ∧
      Go.V.Call tab E 40 [.agg (arrX [(n : Int), (n : Int)] false [] (q.map zR)), .int .i64 64] [] (.tup [.agg (arrX [(n : Int), (n : Int)] false [] (B.map rR)), .int .i64 0]) [] := by
  obtain ⟨A, hA⟩ : ∃ A : List Rat, A = q.map fun z : Int => (z : Rat) := ⟨_, rfl⟩
  obtain ⟨O, hO⟩ : ∃ O : List Rat, O = (outL q v n n).map fun z : Int => (z : Rat) := ⟨_, rfl⟩
  have mz : ∀ l : List Int, (l.map fun z : Int => (z : Rat)).map rR = l.map zR := fun l => by
    rw [List.map_map]
    exact List.map_congr_left fun z _ => rR_zR
  have hAl : A.length = n * n := by rw [hA, List.length_map, hq]
  have hAR : A.map rR = q.map zR := by rw [hA, mz]
  have hOR : O.map rR = (outL q v n n).map zR := by rw [hO, mz]
  have h8 : ∀ l : List Int, (∀ d ∈ l, -128 ≤ d ∧ d ≤ 127) → ∀ a ∈ (l.map fun z : Int => (z : Rat)), Sz 100 a := fun l hl a ha => by
    obtain ⟨z, hz, rfl⟩ := List.mem_map.1 ha
    have := hl z hz
    refine (Sz.int (k := 8) ?_ (by omega)).mono (by omega)
    have h2 : (2 : Nat) ^ 8 = 256 := by decide
    omega
  have hAS : ∀ a ∈ A, Sz 200 a := fun a ha => (h8 q hq8 a (by rw [← hA]; exact ha)).mono (by omega)
  have hOS : ∀ a ∈ O, Sz 200 a := fun a ha => by
    rw [hO] at ha
    obtain ⟨z, hz, rfl⟩ := List.mem_map.1 ha
    obtain ⟨i, hi, rfl⟩ := List.mem_map.1 hz
    refine (Sz.int (k := 17) ?_ (by omega)).mono (by omega)
    have h2 : (2 : Nat) ^ 17 = 131072 := by decide
    have := dot_bnd (n := n) hq8 hv8 (i := i) (k := n)
    have := Nat.mul_le_mul_right 16384 hn
    omega
  have hZ : ∀ k i, k < n → i < n → ∃ z : Int, mA A n k i = z ∧ z.natAbs ≤ 128 := fun k i hk hi => by
    have hlt := idx_lt (C := n) hk hi
    have hm : q.getD (k * n + i) 0 ∈ q := by simp [List.getD, hq, hlt]
    have := hq8 _ hm
    refine ⟨q.getD (k * n + i) 0, ?_, by omega⟩
    unfold mA
    rw [hA]
    exact gd_cast (by omega)
  have h1 := inv_sq hn hAl hAS
  obtain ⟨ha, hchk⟩ := sq_arr hn hAl
  have hb : ArrM [(n : Int)] [] false O n 1 := ⟨by simp, rfl, rfl, by omega, by omega, by rw [hO, List.length_map, outL_len]; omega, by simp, fun _ => by rw [hO, List.length_map, outL_len]; simp, fun _ => rfl⟩
  have h3 := c39_core (lim := 64) ha hb hchk (by simp) rfl (by omega) (e := 200) (by omega) hAS hOS (sz_sq hn) (fun d hd => by
    have : d = n := by simpa [divSh] using hd
    subst this
    exact ⟨by omega, by omega⟩)
  have hsh : divSh [(n : Int), (n : Int)] [(n : Int)] n 1 = [(n : Int)] := rfl
  rw [hsh, hAR, hOR] at h3
  rw [hAR] at h1
  have s1 := inv_spec (A := A) (n := n)
  have s2 := div_spec (A := A) (B := O) (n := n)
  have hbk := fun (u : Gd × Gd) (h : redA n n (divS A O n n 1) = some u) => back_law (u := u) hq hv (by rw [← hA, ← hO]; exact h)
  cases hr : redA n n (invS A n n) with
  | none =>
    rw [hr] at h1 s1
    cases hr2 : redA n n (divS A O n n 1) with
    | none => rw [hr2] at h3; exact .inl ⟨h3, h1⟩
    | some u => rw [hr2] at s2; exact absurd s2.1 s1
  | some u' =>
    rw [hr] at h1 s1
    obtain ⟨t1, t2, t3, _⟩ := s1
    cases hr2 : redA n n (divS A O n n 1) with
    | none => rw [hr2] at s2; exact absurd t3 s2
    | some u =>
      rw [hr2] at h3
      have hu := hbk u hr2
      have hsv : shortB (ansL u n 1) 64 = true := shortB_Sz (k := 100) (by rw [hu]; exact h8 v hv8) (by omega)
      have hsi : shortB (ansL u' n n) 64 = true := shortB_Sz (inv_size hn hZ t1 t2) (by omega)
      simp only [hsv, hsi, if_true] at h1 h3
      rw [hu, mz] at h3
      exact .inr ⟨ansL u' n n, h3, h1⟩
set_option maxHeartbeats 4000000 in
theorem c7_ok {m v : List Int} (hm8 : ∀ d ∈ m, -128 ≤ d ∧ d ≤ 127) (hv8 : ∀ d ∈ v, -128 ≤ d ∧ d ≤ 127) (hml : (m.length : Int) ≤ 9223372036854775807) (hvl : (v.length : Int) ≤ 9223372036854775807) :
    Go.V.Call tab E 7 [.sl m.length 1 (nums .i8 m), .sl v.length 1 (nums .i8 v)] [] (.bool true) [] := by
  refine Go.V.Call.mach i7 c7 rfl rfl rfl rfl ?_
  by_cases h1 : (v.length : Int) < 1
  · simp only [c7, go_sem, FL, h1]
    refine goP c38_awake ?_
    simp only [go_sem, FL]
    simp only [i7, OT, reduceIte, Nat.reduceEqDiff]
  by_cases h4 : (4 : Int) < (v.length : Int)
  · simp only [c7, go_sem, FL, h1, h4]
    refine goP c38_awake ?_
    simp only [go_sem, FL]
    simp only [i7, OT, reduceIte, Nat.reduceEqDiff]
  obtain ⟨n, hvn⟩ : ∃ n, v.length = n := ⟨_, rfl⟩
  rw [hvn] at h1 h4 hvl
  rw [hvn]
  have hn1 : 1 ≤ n := by omega
  have hn : n ≤ 4 := by omega
  have hb : n * n ≤ 16 := Nat.mul_le_mul hn hn
  have f4 : IntKind.i64.wrap ((n : Int) * (n : Int)) = ((n * n : Nat) : Int) := by rw [← Int.natCast_mul, wrap_i64 (by omega) (by omega)]
  by_cases hlt : (m.length : Int) < ((n * n : Nat) : Int)
  · simp only [c7, go_sem, FL, h1, h4, f4, hlt]
    refine goP c38_awake ?_
    simp only [go_sem, FL]
    simp only [i7, OT, reduceIte, Nat.reduceEqDiff]
  by_cases h100 : (100 : Int) < (m.length : Int)
  · simp only [c7, go_sem, FL, h1, h4, f4, hlt, h100]
    refine goP c38_awake ?_
    simp only [go_sem, FL]
    simp only [i7, OT, reduceIte, Nat.reduceEqDiff]
  simp only [c7, go_sem, FL, h1, h4, f4, hlt, h100]
  refine mLoop (fun N st => ∃ i : Nat, i ≤ n * n ∧ N = n * n - i ∧
    st = ⟨[(0, .sl m.length 1 (nums .i8 m)), (1, .sl n 1 (nums .i8 v)), (5, .int .i64 n), (6, .arr 0 i), (7, .arr 1 0), (8, .arr 2 0), (9, .int .i64 i)], [⟨false, 3, 1, i, i, nums .i64 (m.take i), false⟩, ⟨false, 3, 1, 0, 0, [], false⟩, ⟨false, 3, 1, 0, 0, [], false⟩]⟩) (n * n) ⟨_, rfl, 0, by omega, by omega, by simp [getE, nums]⟩ ?_
  rintro N s0 ⟨i, hi, rfl, rfl⟩
  by_cases hil : i < n * n
  · have hi' : (i : Int) < ((n * n : Nat) : Int) := by omega
    have hil2 : (i : Int) < (m.length : Int) := by omega
    have hi0 : (0 : Int) ≤ (i : Int) := by omega
    have hi1 : IntKind.i64.wrap ((i : Int) + 1) = ((i + 1 : Nat) : Int) := by rw [wrap_i64 (by omega) (by omega)]; omega
    have hsub := sub_nums (k := .i8) (show i < m.length by omega)
    have hd := hm8 (m.getD i 0) (by simp [List.getD, show i < m.length by omega])
    have htk : m.take (i + 1) = m.take i ++ [m.getD i 0] := takeAt (d := 0) (by omega)
    have w1 : IntKind.i64.wrap (m.getD i 0) = m.getD i 0 := wrap_i64 (by omega) (by omega)
    have hb1 : (i + 1) * 8 ≤ 140737488355328 := by omega
    have hb2 : i + 1 ≤ 140737488355328 := by omega
    simp only [b7_0, go_sem, FL, hi', hi0, hil2, hsub, Int.toNat_natCast, w1, f4, hb1, hb2, hi1, List.flatten_cons, List.flatten_nil, Option.getD_some, List.append_nil]
    refine loopQ_go rfl (n * n - (i + 1)) (by omega) ⟨i + 1, by omega, rfl, ?_⟩
    rw [htk]
    simp [getE, nums]
  obtain rfl : i = n * n := by omega
  clear hil hi
  have hql : (m.take (n * n)).length = n * n := by rw [List.length_take]; omega
  have hq8 : ∀ d ∈ m.take (n * n), -128 ≤ d ∧ d ≤ 127 := fun d hd => hm8 d (List.mem_of_mem_take hd)
  generalize m.take (n * n) = q at *
  simp only [b7_0, k7_3, go_sem, FL, Int.lt_irrefl, f4]
  refine mLoop (fun N st => ∃ i : Nat, i ≤ n ∧ N = n - i ∧
    st = ⟨[(1, .sl n 1 (nums .i8 v)), (5, .int .i64 n), (6, .arr 0 (n * n)), (7, .arr 1 i), (8, .arr 2 i), (10, .int .i64 i)], [⟨false, 3, 1, n * n, n * n, nums .i64 q, false⟩, ⟨false, 3, 1, i, i, nums .i64 (outL q v n i), false⟩, ⟨false, 3, 1, i, i, nums .i64 (v.take i), false⟩]⟩) n ⟨_, rfl, 0, by omega, by omega, by simp [getE, nums, outL]⟩ ?_
  rintro N s0 ⟨i, hi, rfl, rfl⟩
  by_cases hin : i < n
  · have hi' : (i : Int) < (n : Int) := by omega
    have hi0 : (0 : Int) ≤ (i : Int) := by omega
    have hi1 : IntKind.i64.wrap ((i : Int) + 1) = ((i + 1 : Nat) : Int) := by rw [wrap_i64 (by omega) (by omega)]; omega
    simp only [b7_1, go_sem, FL, hi']
    refine mLoop (fun N st => ∃ k : Nat, k ≤ n ∧ N = n - k ∧
      st = ⟨[(1, .sl n 1 (nums .i8 v)), (5, .int .i64 n), (6, .arr 0 (n * n)), (7, .arr 1 i), (8, .arr 2 i), (10, .int .i64 i), (11, .int .i64 (dotI q v n i k)), (12, .int .i64 k)], [⟨false, 3, 1, n * n, n * n, nums .i64 q, false⟩, ⟨false, 3, 1, i, i, nums .i64 (outL q v n i), false⟩, ⟨false, 3, 1, i, i, nums .i64 (v.take i), false⟩]⟩) n ⟨_, rfl, 0, by omega, by omega, by simp [getE, nums, dotI]⟩ ?_
    rintro N s0 ⟨k, hk, rfl, rfl⟩
    have hdb : ∀ j, j ≤ n → (dotI q v n i j).natAbs ≤ 65536 := fun j hj => by
      have := dot_bnd (n := n) hq8 hv8 (i := i) (k := j)
      have := Nat.mul_le_mul_right 16384 (Nat.le_trans hj hn)
      omega
    by_cases hkn : k < n
    · have hk' : (k : Int) < (n : Int) := by omega
      have hk0 : (0 : Int) ≤ (k : Int) := by omega
      have hk1 : IntKind.i64.wrap ((k : Int) + 1) = ((k + 1 : Nat) : Int) := by rw [wrap_i64 (by omega) (by omega)]; omega
      have hix := idx_lt hin hkn
      have g1 : IntKind.i64.wrap ((i : Int) * (n : Int)) = ((i * n : Nat) : Int) := by rw [← Int.natCast_mul, wrap_i64 (by omega) (by omega)]
      have g2 : IntKind.i64.wrap (((i * n : Nat) : Int) + (k : Int)) = ((i * n + k : Nat) : Int) := by rw [← Int.natCast_add, wrap_i64 (by omega) (by omega)]
      have g3 : ((i * n + k : Nat) : Int) < ((n * n : Nat) : Int) := by omega
      have g4 : (0 : Int) ≤ ((i * n + k : Nat) : Int) := by omega
      have s1 := sub_nums (k := .i64) (show i * n + k < q.length by omega)
      have s2 := sub_nums (k := .i8) (show k < v.length by omega)
      have v8 := hv8 (v.getD k 0) (by simp [List.getD, show k < v.length by omega])
      have w1 : IntKind.i64.wrap (v.getD k 0) = v.getD k 0 := wrap_i64 (by omega) (by omega)
      have hd1 := hdb (k + 1) (by omega)
      have hd0 := hdb k (by omega)
      have hds : dotI q v n i (k + 1) = dotI q v n i k + q.getD (i * n + k) 0 * v.getD k 0 := rfl
      have w2 : IntKind.i64.wrap (q.getD (i * n + k) 0 * v.getD k 0) = q.getD (i * n + k) 0 * v.getD k 0 := wrap_i64 (by omega) (by omega)
      have w3 : IntKind.i64.wrap (dotI q v n i k + q.getD (i * n + k) 0 * v.getD k 0) = dotI q v n i (k + 1) := by rw [← hds]; exact wrap_i64 (by omega) (by omega)
      clear hds
      simp only [b7_2, go_sem, FL, hk', hk0, hk1, g1, g2, g3, g4, s1, s2, w1, w2, w3, Int.toNat_natCast, hvn]
      exact loopQ_go rfl (n - (k + 1)) (by omega) ⟨k + 1, by omega, rfl, rfl⟩
    obtain rfl : k = n := by omega
    have htk : v.take (i + 1) = v.take i ++ [v.getD i 0] := takeAt (d := 0) (by omega)
    have s2 := sub_nums (k := .i8) (show i < v.length by omega)
    have v8 := hv8 (v.getD i 0) (by simp [List.getD, show i < v.length by omega])
    have w1 : IntKind.i64.wrap (v.getD i 0) = v.getD i 0 := wrap_i64 (by omega) (by omega)
    have hb1 : (i + 1) * 8 ≤ 140737488355328 := by omega
    have hb2 : i + 1 ≤ 140737488355328 := by omega
    simp only [b7_2, k7_0, k7_1, go_sem, FL, Int.lt_irrefl, hi', hi0, s2, w1, hb1, hb2, hi1, Int.toNat_natCast, List.flatten_cons, List.flatten_nil, Option.getD_some, List.append_nil]
    refine loopQ_go rfl (k - (i + 1)) (by omega) ⟨i + 1, by omega, rfl, ?_⟩
    rw [htk, outL_succ]
    simp [getE, nums]
  obtain rfl : i = n := by omega
  have hvt : v.take i = v := List.take_of_length_le (by omega)
  rw [hvt]
  have ht := c7_tail hn1 hn hql hvn hq8 hv8
  have i8 : ∀ l : List Int, (∀ d ∈ l, -128 ≤ d ∧ d ≤ 127) → ∀ d ∈ l, In64 d := fun l hl d hd => by have := hl d hd; exact ⟨by omega, by omega⟩
  have e1 := c11_X (l := [(i : Int), (i : Int)]) (by simp) (fun d hd => by
    have : d = i := by simpa using hd
    subst this
    exact ⟨by omega, by omega⟩)
  have e2 := c11_X (l := q) (by omega) (i8 q hq8)
  have e3 := reshape_sq hn hql
  have e4 := c11_X (l := outL q v i i) (by rw [outL_len]; omega) (fun d hd => by
    obtain ⟨r, hr, rfl⟩ := List.mem_map.1 hd
    have := dot_bnd (n := i) hq8 hv8 (i := r) (k := i)
    have := Nat.mul_le_mul_right 16384 hn
    exact ⟨by omega, by omega⟩)
  have e5 := c35_ok (s := [(i : Int)]) (t := []) (ch := false) (l := v) (by simp) (by simp) (by omega) (i8 v hv8)
  rw [arrG_Z (i8 v hv8)] at e5
  have e6 := c41_ok (E := I.E) (l := v) (by omega) (i8 v hv8)
  have e7 := c33_ok (E := I.E) (s := [(i : Int)]) (t := []) (l := v) (ch := false) (by simp) (by simp) (by omega)
  rw [hvn] at e6
  rw [outL_len] at e4
  simp only [arrX, plG, runes, ints, nums, noA, List.map_nil, List.map_cons, List.length_nil, List.length_cons, List.length_map, hql, hvn, outL_len] at e1 e2 e3 e4 e5 e6 e7 ht
  have p0 : ((0 : Int) != 0) = false := rfl
  have p1 : ((0 : Int) == 0) = true := rfl
  have p2 : ((22 : Int) != 0) = true := rfl
  have p3 : ((22 : Int) != 22) = false := rfl
  clear hq8 hv8
  have nv : ∀ l : List Int, l.map (AV.int .i64) = nums .i64 l := fun l => rfl
  simp only [nv] at e2 e4 e6 e7
  generalize nums .i64 v = nv1 at *
  generalize nums .i64 q = nq at *
  generalize nums .i64 (outL q v i i) = nO at *
  generalize (outL q v i i).map zR = oR at *
  generalize v.map zR = vR at *
  generalize q.map zR = qR at *
  simp only [b7_1, k7_2, go_sem, FL, Int.lt_irrefl, List.flatten_cons, List.flatten_nil, Option.getD_some, List.append_nil]
  refine goF e1 ?_
  simp only [go_sem, FL, subA5]
  refine goF e2 ?_
  simp only [go_sem, FL, subA5]
  refine goP e3 ?_
  simp only [go_sem, FL, subA5]
  refine goF e4 ?_
  simp only [go_sem, FL, subA5]
  rcases ht with ⟨x1, x2⟩ | ⟨B, x1, x2⟩
  · refine goF x1 ?_
    simp only [go_sem, FL, subA5, p0, p1, p2, p3]
    refine goF x2 ?_
    simp only [go_sem, FL, subA5, p0, p1, p2, p3, bne_self_eq_false]
    refine goP c38_awake ?_
    simp only [go_sem, FL]
    simp only [i7, OT, reduceIte, Nat.reduceEqDiff]
  · refine goF x1 ?_
    simp only [go_sem, FL, subA5, p0, p1, p2, p3]
    refine goF x2 ?_
    simp only [go_sem, FL, subA5, p0, p1, p2, p3, bne_self_eq_false]
    refine goF e5 ?_
    simp only [go_sem, FL, subA5, p0, p1, p2, p3]
    refine goF e6 ?_
    simp only [go_sem, FL, subA5, p0, p1, p2, p3]
    refine goP e7 ?_
    simp only [go_sem, FL, subA5, p0, p1, p2, p3]
    refine goP c38_awake ?_
    simp only [go_sem, FL]
    simp only [i7, OT, reduceIte, Nat.reduceEqDiff]
theorem c7_row {m v : List Int} (hm8 : ∀ d ∈ m, -128 ≤ d ∧ d ≤ 127) (hv8 : ∀ d ∈ v, -128 ≤ d ∧ d ≤ 127) (hml : (m.length : Int) ≤ 9223372036854775807) (hvl : (v.length : Int) ≤ 9223372036854775807) :
    Go.V.Call tab E 7 [i8X m, i8X v] [] (.bool true) [] := c7_ok hm8 hv8 hml hvl
end Go.Proofs.Ytlejgleocnemoaa.I

-- PRINTED BY print.sh 35421559b90ae4d0a3588c463048766b98c2df88dd9212a6774a882060cdf62d: not written by this session
-- PRINTED WORDS (module Derived/Print/Sized.lean): go-gate-2's, for the rows of laws over slices: an AI agent of Go's test side, Tue Nov 17 2026; no person has read it. Lean checks it.
namespace Go.Proofs.YtlejgleocnemoaaW.PrintWords
open Go.ChangeShapes Go.WideShapes
theorem sized_ints {H : Type} {enc : TypeId × Value → H} {P : Program} {W : World} {base : Nat} {spare : Nat → Bool} {held : Bool} {t e : TypeId} {k : IntKind} {a : Option Addr} {len cap : Nat} {d : DataW H} {ps : List MemPlace} {ts : List TypeId} {ds : List (DataW H)} {j : Nat}
    (hsz : (DataW.weightsEach P ts ds).all (· ≤ reachBytes) = true) (ht : ts[j]? = some t) (hd : ds[j]? = some d) (hu : P.underlying t = some (.slice e)) (he : P.underlying e = some (.int k)) (hc : P.cellsOf e = 1) {B : Nat} (hB : P.bytesOf e = B)
    (h : DataW.Trod enc P W base spare held t (.slice a len cap) d ps) : len * B ≤ 140737488351232 := by
  obtain ⟨fuel, hf⟩ := h
  rcases open_ints hu he hc hf with ⟨hcs, _⟩ | ⟨x, l, c, zs, hcs, _, hl, _, hz, hx, _, _⟩
  · simp [Value.cells] at hcs
    obtain ⟨rfl, rfl, rfl⟩ := hcs
    simp
  · simp [Value.cells] at hcs
    obtain ⟨rfl, rfl, rfl⟩ := hcs
    obtain ⟨hx, _⟩ := Prod.mk.inj hx
    subst hx
    have z := sized_slice hsz ht hd hu
    rw [hB] at z
    have hl2 : len ≤ zs.length := by
      rw [hz]
      split
      · exact hl
      · exact Nat.le_refl _
    have h1 : (lits (H := H) k (zs.take len)).length + (lits (H := H) k (zs.drop len)).length = zs.length := by
      simp [lits]
      omega
    rw [h1] at z
    exact Nat.le_trans (Nat.mul_le_mul_right _ hl2) z
end Go.Proofs.YtlejgleocnemoaaW.PrintWords
