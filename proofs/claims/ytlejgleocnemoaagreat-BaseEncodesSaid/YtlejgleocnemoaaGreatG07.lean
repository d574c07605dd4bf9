/- The texts L06i L06j L06k L06l L06a L06m L07c L07d L07h L07g L07i L07j L07k L07n L06n L01r L03c L06o LRat L02a L02b L02c L16a, one behind the other. Conditions: each text's own. -/
import Derived.Test.YtlejgleocnemoaaGreatG06
import Derived.Test.YtlejgleocnemoaaGreatG05
set_option linter.unusedSimpArgs false
set_option linter.unusedVariables false
namespace Go.Proofs.YtlejgleocnemoaaGreat.I
open Go Go.V
attribute [local go_sem_proc ↓] reduceIte
attribute [local go_sem_proc] Nat.reduceEqDiff Nat.reduceAdd Nat.reduceMul Nat.reduceLeDiff Nat.reduceLT Int.reduceToNat Int.reduceLT Int.reduceLE reduceCtorEq Nat.reduceBEq
attribute [local go_sem] mNil nat0 beq_self_eq_true mSkip mRet mExit mReg mSeq mCond mTrue mFalse mBlock mLv mCodeE mCodeR mEndN mEndR mEndE mOps mSome mGuard mGtt mGff mGtf mGft mGu mCallP mCallR mCallF mCallO mCallZ mCallG mCallM mCallV loopQ_exit loopQ_ret mO_mov mO_newnil mO_pick mO_alloc mO_box mO_build mO_bsl mO_bslF mO_newnilB mO_bslB mO_lenB mO_appB mO_allocA mO_bslA mO_appA mO_ldb mO_faddrb mRsv mO_ldf mO_ld mO_st mO_sta mO_nilchk mO_bin mO_binb mO_binp mO_bins mO_neg mO_com mO_not mO_conv mO_mk mO_mk0 mO_mkB mO_s2b mO_b2s mO_cpy mO_cut mO_faddr mO_fld mO_iaddr mO_iaddrf mO_sidx mO_len mO_lenf mO_slen mO_scut mO_app mO_ext mO_mx mO_mn mO_mkfn evalOp cutOp argsE ev getE putE cellsOf adopt rowOf binV boolV nilV ar_add ar_sub ar_mul ar_quo ar_rem ar_eq ar_ne ar_lt ar_le ar_gt ar_ge ar_and ar_or ar_xor geto bound finRet finNrm ints List.length_cons List.length_nil List.length_append List.getElem?_cons_zero List.getElem?_cons_succ List.nil_append List.cons_append List.map_cons List.map_nil List.mapM_cons List.mapM_nil Option.map_some Option.map_none Option.bind_some Option.pure_def Option.bind_eq_bind List.drop_zero or_self or_false false_or or_true true_or true_and and_true and_self decide_true decide_false Bool.false_eq_true Bool.true_eq_false Bool.not_true Bool.not_false Nat.le_refl eq_self gt_iff_lt ge_iff_le ne_eq not_true_eq_false not_false_eq_true storeOp apartOf freeze_nil refsL refs List.flatMap_cons List.flatMap_nil List.append_nil List.contains_nil List.set_cons_zero List.set_cons_succ snap snapL fill_nums flat_nums nums_length Go.V.freeze List.mapIdx_cons List.mapIdx_nil List.contains_cons Bool.or_false Bool.false_or Bool.or_true Bool.true_or
def NmU (x : Nm) : Prop := U8 x.2.1 ∧ U8 x.2.2 ∧ x.2.1.length ≤ 1000000000 ∧ x.2.2.length ≤ 1000000000
theorem num_ne {x y : Nm} (hx : NmU x) (hy : NmU y) : structV .ne [0, 2, 2] (.agg (nmC x)) (.agg (nmC y)) = some (.bool (!decide (x = y))) := by
  have h := num_same (n := x.1) (m := y.1) hx.1 hx.2.1 hy.1 hy.2.1
  have h1 : (nmC x).map kindOf = [0, 2, 2] := rfl
  have h2 : (nmC y).map kindOf = [0, 2, 2] := rfl
  have h3 : ([AV.bool x.1, AV.str (bs x.2.1), AV.str (bs x.2.2)]).map kindOf = [0, 2, 2] := rfl
  have h4 : ([AV.bool y.1, AV.str (bs y.2.1), AV.str (bs y.2.2)]).map kindOf = [0, 2, 2] := rfl
  simp only [structV, h3, h4, and_self, if_true] at h
  simp only [structV, h1, h2, and_self, if_true, nmC]
  have hd : decide (x.1 = y.1 ∧ x.2.1 = y.2.1 ∧ x.2.2 = y.2.2) = decide (x = y) := by
    congr 1
    obtain ⟨a, b, c⟩ := x
    obtain ⟨a', b', c'⟩ := y
    simp only [Prod.mk.injEq]
  rw [hd] at h
  cases hs : scalarsEq [AV.bool x.1, AV.str (bs x.2.1), AV.str (bs x.2.2)] [AV.bool y.1, AV.str (bs y.2.1), AV.str (bs y.2.2)] with
  | none => rw [hs] at h; cases h
  | some r =>
    rw [hs] at h
    simp only [Option.bind_some, Option.some.injEq, AV.bool.injEq] at h
    subst h
    rfl
theorem subP4b {a b c d : AV} : sub false 1 [a, b, c, d] 1 = some b := rfl
theorem subP4c {a b c d : AV} : sub false 1 [a, b, c, d] 2 = some c := rfl
theorem subP4a {a b c d : AV} : sub false 1 [a, b, c, d] 0 = some a := rfl
theorem c29_gen {s s' t t' : List Int} {l l' : List Nm} {ch ch' : Bool} (hs : (s.length : Int) ≤ 1000000000000) (ht : (t.length : Int) ≤ 1000000000000) (hl : (l.length : Int) ≤ 1000000000000)
    (hs' : (s'.length : Int) ≤ 1000000000000) (ht' : (t'.length : Int) ≤ 1000000000000) (hl' : (l'.length : Int) ≤ 1000000000000) (hu : ∀ x ∈ l, NmU x) (hu' : ∀ x ∈ l', NmU x) :
    Go.V.Call tab E 29 [.agg (plX s ch t l), .agg (plX s' ch' t' l')] [] (.bool (decide (ch = ch' ∧ s = s' ∧ t = t' ∧ l = l'))) [] := by
  refine Go.V.Call.mach i29 c29 rfl rfl rfl rfl ?_
  have hb : (ch == ch') = decide (ch = ch') := by cases ch <;> cases ch' <;> rfl
  have h23 := c65_ok (E := E) (s := s) (t := s') (by omega) (by omega)
  have h75 := c86_gen ht ht'
  simp only [ints, runes] at h23 h75
  by_cases e1 : ch = ch'
  · rw [decide_eq_true e1] at hb
    by_cases e2 : s = s'
    · rw [decide_eq_true e2] at h23
      by_cases e3 : t = t'
      · rw [decide_eq_true e3] at h75
        by_cases e4 : l.length = l'.length
        · have q4 : ((l.length : Int) != (l'.length : Int)) = false := by rw [bne_eq_false_iff_eq]; omega
          simp only [c29, plX, runes, ints, go_sem, subP4a, subP4b, subP4c, subP3, subP3', FL, hb]
          refine goP h23 ?_
          simp only [go_sem, subP4a, subP4b, subP4c, subP3, subP3', FL]
          refine goP h75 ?_
          simp only [go_sem, subP4a, subP4b, subP4c, subP3, subP3', FL, q4]
          refine mLoop (fun N st => ∃ (k : Nat), k ≤ l.length ∧ N = l.length - k ∧ l.take k = l'.take k ∧
            st = ⟨[(2, .loc 0 0 0), (3, .loc 1 0 0), (5, .int .i64 k)], [⟨true, 26, 4, 0, 1, plX s ch t l, false⟩, ⟨true, 26, 4, 0, 1, plX s' ch' t' l', false⟩]⟩) l.length ⟨_, rfl, 0, by omega, by omega, rfl, rfl⟩ ?_
          rintro N s0 ⟨k, hk, rfl, htk, rfl⟩
          by_cases hlt : k < l.length
          · have hlt' : (k : Int) < (l.length : Int) := by omega
            have hlt2 : (k : Int) < (l'.length : Int) := by omega
            have hk0 : (0 : Int) ≤ (k : Int) := by omega
            have hk1 : IntKind.i64.wrap ((k : Int) + 1) = ((k + 1 : Nat) : Int) := by rw [wrap_i64 (by omega) (by omega)]; omega
            have hsub := sub_nms hlt
            have hsub2 := sub_nms (l := l') (i := k) (by omega)
            have h1 : l.take (k + 1) = l.take k ++ [nmAt l k] := takeAt hlt
            have h2 : l'.take (k + 1) = l'.take k ++ [nmAt l' k] := takeAt (by omega)
            have hn := num_ne (x := nmAt l k) (y := nmAt l' k) (hu _ (by simp [nmAt, List.getD, hlt])) (hu' _ (by simp [nmAt, List.getD, show k < l'.length by omega]))
            by_cases hxy : nmAt l k = nmAt l' k
            · rw [decide_eq_true hxy, Bool.not_true] at hn
              simp only [b29_0, plX, runes, ints, go_sem, subP3, subP3', hlt', hlt2, hk0, Int.toNat_natCast, hsub, hsub2, hn, hk1]
              exact loopQ_go rfl (l.length - (k + 1)) (by omega) ⟨k + 1, by omega, rfl, by rw [h1, h2, htk, hxy], rfl⟩
            · rw [decide_eq_false hxy, Bool.not_false] at hn
              have hne : ¬ (ch = ch' ∧ s = s' ∧ t = t' ∧ l = l') := fun h => hxy (by rw [h.2.2.2])
              simp only [b29_0, plX, runes, ints, go_sem, subP3, subP3', hlt', hlt2, hk0, Int.toNat_natCast, hsub, hsub2, hn]
              simp only [i29, OT, reduceIte, Nat.reduceEqDiff, decide_eq_false hne]
          · have hlt' : ¬ (k : Int) < (l.length : Int) := by omega
            have he : l = l' := by
              rw [List.take_of_length_le (by omega), List.take_of_length_le (by omega)] at htk
              exact htk
            have hall : ch = ch' ∧ s = s' ∧ t = t' ∧ l = l' := ⟨e1, e2, e3, he⟩
            simp only [b29_0, k29_0, plX, runes, ints, go_sem, subP3, subP3', hlt']
            simp only [i29, OT, reduceIte, Nat.reduceEqDiff, decide_eq_true hall]
        · have q4 : ((l.length : Int) != (l'.length : Int)) = true := by rw [bne_iff_ne]; omega
          have hne : ¬ (ch = ch' ∧ s = s' ∧ t = t' ∧ l = l') := fun h => e4 (by rw [h.2.2.2])
          simp only [c29, plX, runes, ints, go_sem, subP4a, subP4b, subP4c, subP3, subP3', FL, hb]
          refine goP h23 ?_
          simp only [go_sem, subP4a, subP4b, subP4c, subP3, subP3', FL]
          refine goP h75 ?_
          simp only [go_sem, subP4a, subP4b, subP4c, subP3, subP3', FL, q4]
          simp only [i29, OT, reduceIte, Nat.reduceEqDiff, decide_eq_false hne]
      · rw [decide_eq_false e3] at h75
        have hne : ¬ (ch = ch' ∧ s = s' ∧ t = t' ∧ l = l') := fun h => e3 h.2.2.1
        simp only [c29, plX, runes, ints, go_sem, subP4a, subP4b, subP4c, subP3, subP3', FL, hb]
        refine goP h23 ?_
        simp only [go_sem, subP4a, subP4b, subP4c, subP3, subP3', FL]
        refine goP h75 ?_
        simp only [go_sem, subP4a, subP4b, subP4c, subP3, subP3', FL]
        simp only [i29, OT, reduceIte, Nat.reduceEqDiff, decide_eq_false hne]
    · rw [decide_eq_false e2] at h23
      have hne : ¬ (ch = ch' ∧ s = s' ∧ t = t' ∧ l = l') := fun h => e2 h.2.1
      simp only [c29, plX, runes, ints, go_sem, subP4a, subP4b, subP4c, subP3, subP3', FL, hb]
      refine goP h23 ?_
      simp only [go_sem, subP4a, subP4b, subP4c, subP3, subP3', FL]
      simp only [i29, OT, reduceIte, Nat.reduceEqDiff, decide_eq_false hne]
  · rw [decide_eq_false e1] at hb
    have hne : ¬ (ch = ch' ∧ s = s' ∧ t = t' ∧ l = l') := fun h => e1 h.1
    simp only [c29, plX, runes, ints, go_sem, subP4a, subP4b, subP4c, subP3, subP3', FL, hb]
    simp only [i29, OT, reduceIte, Nat.reduceEqDiff, decide_eq_false hne]
def Shapes (s : List Int) (ch : Bool) (t : List Int) (n : Nat) : Prop := if ch then count s = some (t.length : Int) ∧ n = 0 else count s = some (n : Int) ∧ t = []
def RightP (s : List Int) (ch : Bool) (t : List Int) (l : List Nm) : Prop := Shapes s ch t l.length ∧ ∀ x ∈ l, RightN x.1 x.2.1 x.2.2
theorem Shapes_iff {s t : List Int} {ch : Bool} {n : Nat} : Shapes s ch t n ↔ ∃ m, count s = some m ∧ (ch = true → (t.length : Int) = m ∧ n = 0) ∧ (ch = false → (n : Int) = m ∧ t.length = 0) := by
  cases ch with
  | true =>
    have e : Shapes s true t n ↔ count s = some (t.length : Int) ∧ n = 0 := by simp [Shapes]
    rw [e]
    exact ⟨fun ⟨h1, h2⟩ => ⟨_, h1, fun _ => ⟨rfl, h2⟩, fun h => (by cases h)⟩, fun ⟨m, h1, h2, _⟩ => ⟨by rw [(h2 rfl).1]; exact h1, (h2 rfl).2⟩⟩
  | false =>
    have e : Shapes s false t n ↔ count s = some (n : Int) ∧ t = [] := by simp [Shapes]
    rw [e]
    exact ⟨fun ⟨h1, h2⟩ => ⟨_, h1, fun h => (by cases h), fun _ => ⟨rfl, by rw [h2]; rfl⟩⟩, fun ⟨m, h1, _, h2⟩ => ⟨by rw [(h2 rfl).1]; exact h1, List.length_eq_zero_iff.1 (h2 rfl).2⟩⟩
theorem c44_ok {s t : List Int} {l : List Nm} {ch ok : Bool} (hs : ∀ d ∈ s, In64 d) (hsl : (s.length : Int) ≤ 1000000000000) (ht : (t.length : Int) ≤ 1000000000000) (hl : (l.length : Int) ≤ 1000000000000) (hu : ∀ x ∈ l, NmU x) (hok : ok = true ↔ RightP s ch t l) :
    Go.V.Call tab E 44 [.agg (plX s ch t l)] [] (.bool ok) [] := by
  refine Go.V.Call.mach i44 c44 rfl rfl rfl rfl ?_
  have hfalse : ¬ RightP s ch t l → ok = false := fun h => by rw [← Bool.not_eq_true, hok]; exact h
  have h17 := c78_ok (E := E) hs (by omega)
  simp only [ints] at h17
  have bad : ¬ Shapes s ch t l.length → ok = false := fun h => hfalse (fun hr => h hr.1)
  cases hc : count s with
  | none =>
    have := bad (fun h => by obtain ⟨m, h1, _⟩ := Shapes_iff.1 h; rw [hc] at h1; cases h1)
    subst this
    rw [hc] at h17
    simp only [optP] at h17
    simp only [c44, plX, runes, ints, go_sem, subP4a, subP4b, subP4c, subP3, subP3', FL]
    refine goP h17 ?_
    simp only [go_sem, subP4a, subP4b, subP4c, subP3, subP3', FL]
    simp only [i44, OT, reduceIte, Nat.reduceEqDiff]
  | some m =>
    rw [hc] at h17
    simp only [optP] at h17
    by_cases hsh : Shapes s ch t l.length
    · obtain ⟨m', h1, h2, h3⟩ := Shapes_iff.1 hsh
      rw [hc] at h1
      simp only [Option.some.injEq] at h1
      subst h1
      cases ch with
      | true =>
        obtain ⟨h4, h5⟩ := h2 rfl
        subst h4
        have hl0 : l = [] := List.length_eq_zero_iff.1 h5
        subst hl0
        have hokt : ok = true := hok.2 ⟨hsh, fun x hx => by simp at hx⟩
        subst hokt
        simp only [c44, plX, runes, ints, go_sem, subP4a, subP4b, subP4c, subP3, subP3', FL]
        refine goP h17 ?_
        simp only [go_sem, subP4a, subP4b, subP4c, subP3, subP3', FL, bne_self_eq_false]
        refine mLoop (fun N st => N = 0 ∧ st = ⟨[(1, .loc 0 0 0), (5, .int .i64 0)], [⟨true, 26, 4, 0, 1, plX s true t [], false⟩]⟩) 0 ⟨_, rfl, rfl, rfl⟩ ?_
        rintro N s0 ⟨rfl, rfl⟩
        simp only [b44_0, k44_0, plX, runes, ints, go_sem, subP3, subP3', Int.lt_irrefl]
        simp only [i44, OT, reduceIte, Nat.reduceEqDiff]
      | false =>
        obtain ⟨h4, h5⟩ := h3 rfl
        subst h4
        have ht0 : t = [] := List.length_eq_zero_iff.1 h5
        subst ht0
        simp only [c44, plX, runes, ints, go_sem, subP4a, subP4b, subP4c, subP3, subP3', FL]
        refine goP h17 ?_
        simp only [go_sem, subP4a, subP4b, subP4c, subP3, subP3', FL, bne_self_eq_false]
        refine mLoop (fun N st => ∃ (k : Nat), k ≤ l.length ∧ N = l.length - k ∧ (∀ x ∈ l.take k, RightN x.1 x.2.1 x.2.2) ∧
          st = ⟨[(1, .loc 0 0 0), (5, .int .i64 k)], [⟨true, 26, 4, 0, 1, plX s false [] l, false⟩]⟩) l.length ⟨_, rfl, 0, by omega, by omega, fun x hx => by simp at hx, rfl⟩ ?_
        rintro N s0 ⟨k, hk, rfl, hr, rfl⟩
        by_cases hlt : k < l.length
        · have hlt' : (k : Int) < (l.length : Int) := by omega
          have hk0 : (0 : Int) ≤ (k : Int) := by omega
          have hk1 : IntKind.i64.wrap ((k : Int) + 1) = ((k + 1 : Nat) : Int) := by rw [wrap_i64 (by omega) (by omega)]; omega
          have hsub := sub_nms hlt
          have h1 : l.take (k + 1) = l.take k ++ [nmAt l k] := takeAt hlt
          have hmem : nmAt l k ∈ l := by simp [nmAt, List.getD, hlt]
          obtain ⟨u1, u2, u3, u4⟩ := hu _ hmem
          have h96 := fun ok h => c106_ok (E := E) (n := (nmAt l k).1) (ok := ok) u1 u2 u3 u4 h
          by_cases hrn : RightN (nmAt l k).1 (nmAt l k).2.1 (nmAt l k).2.2
          · have h96t := h96 true ⟨fun _ => hrn, fun _ => rfl⟩
            simp only [b44_0, plX, runes, ints, go_sem, subP3, subP3', hlt', hk0, Int.toNat_natCast, hsub, nmC]
            refine goP h96t ?_
            simp only [go_sem, hk1]
            refine loopQ_go rfl (l.length - (k + 1)) (by omega) ⟨k + 1, by omega, rfl, ?_, rfl⟩
            intro x hx
            rw [h1] at hx
            rcases List.mem_append.1 hx with hx | hx
            · exact hr x hx
            · simp at hx; subst hx; exact hrn
          · have h96f := h96 false ⟨fun h => (by cases h), fun h => absurd h hrn⟩
            have := hfalse (fun h => hrn (h.2 _ hmem))
            subst this
            simp only [b44_0, plX, runes, ints, go_sem, subP3, subP3', hlt', hk0, Int.toNat_natCast, hsub, nmC]
            refine goP h96f ?_
            simp only [go_sem]
            simp only [i44, OT, reduceIte, Nat.reduceEqDiff]
        · have hlt' : ¬ (k : Int) < (l.length : Int) := by omega
          rw [List.take_of_length_le (by omega)] at hr
          have hokt : ok = true := hok.2 ⟨hsh, hr⟩
          subst hokt
          simp only [b44_0, k44_0, plX, runes, ints, go_sem, subP3, subP3', hlt']
          simp only [i44, OT, reduceIte, Nat.reduceEqDiff]
    · have := bad hsh
      subst this
      rw [Shapes_iff] at hsh
      cases ch with
      | true =>
        by_cases h1 : (t.length : Int) = m
        · have h2 : ¬ l.length = 0 := fun h => hsh ⟨m, hc, fun _ => ⟨h1, h⟩, fun h => by cases h⟩
          have q1 : ((t.length : Int) != m) = false := by rw [bne_eq_false_iff_eq]; exact h1
          have q2 : ((l.length : Int) != 0) = true := by rw [bne_iff_ne]; omega
          simp only [c44, plX, runes, ints, go_sem, subP4a, subP4b, subP4c, subP3, subP3', FL]
          refine goP h17 ?_
          simp only [go_sem, subP4a, subP4b, subP4c, subP3, subP3', FL, q1, q2]
          simp only [i44, OT, reduceIte, Nat.reduceEqDiff]
        · have q1 : ((t.length : Int) != m) = true := by rw [bne_iff_ne]; exact h1
          simp only [c44, plX, runes, ints, go_sem, subP4a, subP4b, subP4c, subP3, subP3', FL]
          refine goP h17 ?_
          simp only [go_sem, subP4a, subP4b, subP4c, subP3, subP3', FL, q1]
          simp only [i44, OT, reduceIte, Nat.reduceEqDiff]
      | false =>
        by_cases h1 : (l.length : Int) = m
        · have h2 : ¬ t.length = 0 := fun h => hsh ⟨m, hc, fun h => (by cases h), fun _ => ⟨h1, h⟩⟩
          have q1 : ((l.length : Int) != m) = false := by rw [bne_eq_false_iff_eq]; exact h1
          have q2 : ((t.length : Int) != 0) = true := by rw [bne_iff_ne]; omega
          simp only [c44, plX, runes, ints, go_sem, subP4a, subP4b, subP4c, subP3, subP3', FL]
          refine goP h17 ?_
          simp only [go_sem, subP4a, subP4b, subP4c, subP3, subP3', FL, q1, q2]
          simp only [i44, OT, reduceIte, Nat.reduceEqDiff]
        · have q1 : ((l.length : Int) != m) = true := by rw [bne_iff_ne]; exact h1
          simp only [c44, plX, runes, ints, go_sem, subP4a, subP4b, subP4c, subP3, subP3', FL]
          refine goP h17 ?_
          simp only [go_sem, subP4a, subP4b, subP4c, subP3, subP3', FL, q1]
          simp only [i44, OT, reduceIte, Nat.reduceEqDiff]
theorem subA1' {a b c d e : AV} : sub false 1 [a, b, c, d, e] (0 + 3) = some d := rfl
theorem c51_ok {s t : List Int} {l : List Nm} {ch ok : Bool} (hs : ∀ d ∈ s, In64 d) (hsl : (s.length : Int) ≤ 1000000000000) (ht : (t.length : Int) ≤ 1000000000000) (hl : (l.length : Int) ≤ 1000000000000) (hu : ∀ x ∈ l, NmU x) (hok : ok = true ↔ RightP s ch t l) :
    Go.V.Call tab E 51 [.agg (plX s ch t l)] [] (.tup [.agg (if ok then arrX s ch t (l.map toRt) else noA), .bool ok]) [] := by
  refine Go.V.Call.mach i51 c51 rfl rfl rfl rfl ?_
  have hfalse : ¬ RightP s ch t l → ok = false := fun h => by rw [← Bool.not_eq_true, hok]; exact h
  have h35 := c90_ok (E := E) hs (by omega)
  have h85 := c110_ok hsl
  have h92 := c112_ok ht
  simp only [ints, runes] at h35 h85 h92
  have bad : ¬ Shapes s ch t l.length → ok = false := fun h => hfalse (fun hr => h hr.1)
  cases hc : count s with
  | none =>
    have := bad (fun h => by obtain ⟨m, h1, _⟩ := Shapes_iff.1 h; rw [hc] at h1; cases h1)
    subst this
    rw [hc] at h35
    simp only [optP] at h35
    simp only [c51, plX, runes, ints, go_sem, subP4a, subP4b, subP4c, subP3, subP3', FL]
    refine goP h35 ?_
    simp only [go_sem, subP4a, subP4b, subP4c, subP3, subP3', FL]
    simp only [i51, OT, reduceIte, Nat.reduceEqDiff, subA5, noA, Bool.false_eq_true, if_false]
  | some m =>
    rw [hc] at h35
    simp only [optP] at h35
    by_cases hsh : Shapes s ch t l.length
    · obtain ⟨m', h1, h2, h3⟩ := Shapes_iff.1 hsh
      rw [hc] at h1
      simp only [Option.some.injEq] at h1
      subst h1
      cases ch with
      | true =>
        obtain ⟨h4, h5⟩ := h2 rfl
        subst h4
        have hl0 : l = [] := List.length_eq_zero_iff.1 h5
        subst hl0
        have hokt : ok = true := hok.2 ⟨hsh, fun x hx => by simp at hx⟩
        subst hokt
        simp only [c51, plX, runes, ints, go_sem, subP4a, subP4b, subP4c, subP3, subP3', FL]
        refine goP h35 ?_
        simp only [go_sem, subP4a, subP4b, subP4c, subP3, subP3', FL, bne_self_eq_false, Int.lt_irrefl]
        refine goZ (r' := ints s) h85 rfl ?_
        simp only [ints, go_sem, subP4a, subP4b, subP4c, subP3, subP3', FL]
        refine goZ (r' := runes t) h92 rfl ?_
        simp only [runes, go_sem, subP4a, subP4b, subP4c, subP3, subP3', FL]
        refine mLoop (fun N st => N = 0 ∧ st = ⟨[(2, .loc 4 0 0), (6, .loc 8 0 0), (65, .sl 0 3 (nmsC [])), (66, .int .i64 0), (67, .int .i64 0)],
          [⟨true, 26, 4, 0, 1, plX s true t [], false⟩, ⟨false, 3, 1, 0, 0, [], false⟩, ⟨false, 21, 1, 0, 0, [], false⟩, ⟨false, 98, 3, 0, 0, [], false⟩, ⟨true, 35, 5, 0, 1, [.arr 1 0, .bool false, .arr 2 0, .arr 3 0, .bool false], false⟩,
           ⟨false, 3, 1, 0, 0, [], false⟩, ⟨false, 21, 1, 0, 0, [], false⟩, ⟨false, 98, 3, 0, 0, [], false⟩, ⟨true, 35, 5, 0, 1, [ints s, .bool true, runes t, .arr 9 0, .bool true], false⟩, ⟨false, 98, 3, 0, 0, [], false⟩]⟩) 0 ⟨_, rfl, rfl, rfl⟩ ?_
        rintro N s0 ⟨rfl, rfl⟩
        simp only [b51_0, k51_0, plX, runes, ints, go_sem, subA5, Int.lt_irrefl, FL]
        simp only [i51, OT, reduceIte, Nat.reduceEqDiff, subA5, arrX, runes, if_true, List.map_nil]
        rfl
      | false =>
        obtain ⟨h4, h5⟩ := h3 rfl
        subst h4
        have ht0 : t = [] := List.length_eq_zero_iff.1 h5
        subst ht0
        simp only [c51, plX, runes, ints, go_sem, subP4a, subP4b, subP4c, subP3, subP3', FL]
        refine goP h35 ?_
        simp only [go_sem, subP4a, subP4b, subP4c, subP3, subP3', FL, bne_self_eq_false, Int.lt_irrefl]
        refine goZ (r' := ints s) h85 rfl ?_
        simp only [ints, go_sem, subP4a, subP4b, subP4c, subP3, subP3', FL]
        refine goZ (r' := runes []) h92 rfl ?_
        simp only [runes, go_sem, subP4a, subP4b, subP4c, subP3, subP3', FL]
        refine mLoop (fun N st => ∃ i : Nat, i ≤ l.length ∧ N = l.length - i ∧ (∀ x ∈ l.take i, RightN x.1 x.2.1 x.2.2) ∧ st = ⟨[(2, .loc 4 0 0), (6, .loc 8 0 0), (65, .sl l.length 3 (nmsC l)), (66, .int .i64 l.length), (67, .int .i64 i)],
          [⟨true, 26, 4, 0, 1, plX s false [] l, false⟩, ⟨false, 3, 1, 0, 0, [], false⟩, ⟨false, 21, 1, 0, 0, [], false⟩, ⟨false, 98, 3, 0, 0, [], false⟩, ⟨true, 35, 5, 0, 1, [.arr 1 0, .bool false, .arr 2 0, .arr 3 0, .bool false], false⟩,
           ⟨false, 3, 1, 0, 0, [], false⟩, ⟨false, 21, 1, 0, 0, [], false⟩, ⟨false, 98, 3, 0, 0, [], false⟩, ⟨true, 35, 5, 0, 1, [ints s, .bool false, runes [], .arr 9 i, .bool true], false⟩, ⟨false, 98, 3, i, i, rtsC ((l.take i).map toRt), false⟩]⟩) l.length
          ⟨_, rfl, 0, by omega, by omega, fun x hx => by simp at hx, by simp [getE, ints, runes, plX, rtsC]⟩ ?_
        rintro N s0 ⟨i, hi, rfl, hr, rfl⟩
        by_cases hlt : i < l.length
        · have hlt' : (i : Int) < (l.length : Int) := by omega
          have hi0 : (0 : Int) ≤ (i : Int) := by omega
          have hi1 : IntKind.i64.wrap ((i : Int) + 1) = ((i + 1 : Nat) : Int) := by rw [wrap_i64 (by omega) (by omega)]; omega
          have hsub := sub_nms hlt
          have hmem : nmAt l i ∈ l := by simp [nmAt, List.getD, hlt]
          obtain ⟨u1, u2, u3, u4⟩ := hu _ hmem
          have htk : l.take (i + 1) = l.take i ++ [nmAt l i] := takeAt hlt
          have hmt : rtsC ((l.take (i + 1)).map toRt) = rtsC ((l.take i).map toRt) ++ rtC (toRt (nmAt l i)) := by rw [htk, List.map_append, List.map_cons, List.map_nil, rtsC_snoc]
          have e1 : (i + 1) * 56 ≤ 140737488355328 := by omega
          have e2 : i + 1 ≤ 140737488355328 := by omega
          have h95 := fun ok h => c113_ok (E := E) (n := (nmAt l i).1) (ok := ok) u1 u2 u3 u4 h
          by_cases hrn : RightN (nmAt l i).1 (nmAt l i).2.1 (nmAt l i).2.2
          · obtain ⟨n', p', q', hn', h95t⟩ := h95 true ⟨fun _ => hrn, fun _ => rfl⟩
            obtain ⟨rfl, rfl, rfl⟩ := hn' rfl
            simp only [ratG, us32] at h95t
            simp only [b51_0, plX, runes, ints, go_sem, subT3, hlt', hi0, Int.toNat_natCast, hsub, nmC, FL]
            refine goP h95t ?_
            simp only [go_sem, subA1', subA3, subT3, FL, hi1, e1, e2, List.flatten_cons, List.flatten_nil, Option.getD_some]
            refine loopQ_go rfl (l.length - (i + 1)) (by omega) ⟨i + 1, by omega, rfl, ?_, ?_⟩
            · intro x hx
              rw [htk] at hx
              rcases List.mem_append.1 hx with hx | hx
              · exact hr x hx
              · simp at hx; subst hx; exact hrn
            · rw [hmt]
              rfl
          · obtain ⟨n', p', q', hn', h95f⟩ := h95 false ⟨fun h => (by cases h), fun h => absurd h hrn⟩
            have := hfalse (fun h => hrn (h.2 _ hmem))
            subst this
            simp only [ratG, us32] at h95f
            simp only [b51_0, plX, runes, ints, go_sem, subT3, hlt', hi0, Int.toNat_natCast, hsub, nmC, FL]
            refine goP h95f ?_
            simp only [go_sem, subA5, subT3, FL]
            simp only [i51, OT, reduceIte, Nat.reduceEqDiff, subA5, noA, Bool.false_eq_true, if_false]
        · have hlt' : ¬ (i : Int) < (l.length : Int) := by omega
          obtain rfl : i = l.length := by omega
          rw [List.take_length] at hr
          have hokt : ok = true := hok.2 ⟨hsh, hr⟩
          subst hokt
          simp only [b51_0, k51_0, plX, runes, ints, go_sem, subA5, hlt', List.take_length, FL]
          simp only [i51, OT, reduceIte, Nat.reduceEqDiff, subA5, arrX, runes, if_true, List.length_map]
          rfl
    · have := bad hsh
      subst this
      rw [Shapes_iff] at hsh
      cases ch with
      | true =>
        by_cases h1 : (t.length : Int) = m
        · have h2 : ¬ l.length = 0 := fun h => hsh ⟨m, hc, fun _ => ⟨h1, h⟩, fun h => by cases h⟩
          have q1 : ((t.length : Int) != m) = false := by rw [bne_eq_false_iff_eq]; exact h1
          have q2 : (0 : Int) < (l.length : Int) := by omega
          simp only [c51, plX, runes, ints, go_sem, subP4a, subP4b, subP4c, subP3, subP3', FL]
          refine goP h35 ?_
          simp only [go_sem, subP4a, subP4b, subP4c, subP3, subP3', FL, q1, q2]
          simp only [i51, OT, reduceIte, Nat.reduceEqDiff, subA5, noA, Bool.false_eq_true, if_false]
        · have q1 : ((t.length : Int) != m) = true := by rw [bne_iff_ne]; exact h1
          simp only [c51, plX, runes, ints, go_sem, subP4a, subP4b, subP4c, subP3, subP3', FL]
          refine goP h35 ?_
          simp only [go_sem, subP4a, subP4b, subP4c, subP3, subP3', FL, q1]
          simp only [i51, OT, reduceIte, Nat.reduceEqDiff, subA5, noA, Bool.false_eq_true, if_false]
      | false =>
        by_cases h1 : (l.length : Int) = m
        · have h2 : ¬ t.length = 0 := fun h => hsh ⟨m, hc, fun h => (by cases h), fun _ => ⟨h1, h⟩⟩
          have q1 : ((l.length : Int) != m) = false := by rw [bne_eq_false_iff_eq]; exact h1
          have q2 : (0 : Int) < (t.length : Int) := by omega
          simp only [c51, plX, runes, ints, go_sem, subP4a, subP4b, subP4c, subP3, subP3', FL]
          refine goP h35 ?_
          simp only [go_sem, subP4a, subP4b, subP4c, subP3, subP3', FL, q1, q2]
          simp only [i51, OT, reduceIte, Nat.reduceEqDiff, subA5, noA, Bool.false_eq_true, if_false]
        · have q1 : ((l.length : Int) != m) = true := by rw [bne_iff_ne]; exact h1
          simp only [c51, plX, runes, ints, go_sem, subP4a, subP4b, subP4c, subP3, subP3', FL]
          refine goP h35 ?_
          simp only [go_sem, subP4a, subP4b, subP4c, subP3, subP3', FL, q1]
          simp only [i51, OT, reduceIte, Nat.reduceEqDiff, subA5, noA, Bool.false_eq_true, if_false]
theorem c13_ok {s t : List Int} {l : List Nm} {ch : Bool} (hs : ∀ d ∈ s, In64 d) (hsl : (s.length : Int) ≤ 1000000000000) (ht : (t.length : Int) ≤ 1000000000000) (hl : (l.length : Int) ≤ 1000000000000) (hu : ∀ x ∈ l, NmU x) (hr : RightP s ch t l) :
    Go.V.Call tab E 13 [.agg (plX s ch t l)] [] (.agg (arrX s ch t (l.map toRt))) [] := by
  refine Go.V.Call.mach i13 c13 rfl rfl rfl rfl ?_
  have h65 := c51_ok (ok := true) hs hsl ht hl hu ⟨fun _ => hr, fun _ => rfl⟩
  simp only [if_true, plX, arrX, runes, ints] at h65
  simp only [c13, plX, runes, ints, go_sem, subP4, FL]
  refine goP h65 ?_
  simp only [go_sem, subA5, FL]
  simp only [i13, OT, reduceIte, Nat.reduceEqDiff, subA5, arrX, runes]
def LightP (s : List Int) (ch : Bool) (t : List Int) (l : List Nm) (most : Int) : Prop := (t.length : Int) ≤ most ∧ (l.length : Int) ≤ most ∧ s.length ≤ 8 ∧ (∀ x ∈ l, x.2.1.length ≤ 40 ∧ x.2.2.length ≤ 40) ∧ RightP s ch t l
theorem c10_ok {s t : List Int} {l : List Nm} {ch ok : Bool} {most : Int} (hm : 0 ≤ most ∧ most ≤ 1000000) (hs : ∀ d ∈ s, In64 d)
    (hu : ∀ x ∈ l, U8 x.2.1 ∧ U8 x.2.2) (hok : ok = true ↔ LightP s ch t l most) :
    Go.V.Call tab E 10 [.agg (plX s ch t l), .int .i64 most] [] (.bool ok) [] := by
  refine Go.V.Call.mach i10 c10 rfl rfl rfl rfl ?_
  have hfalse : ¬ LightP s ch t l most → ok = false := fun h => by rw [← Bool.not_eq_true, hok]; exact h
  by_cases h1 : most < (t.length : Int)
  · have := hfalse (fun h => by have := h.1; omega)
    subst this
    simp only [c10, plX, runes, ints, go_sem, subP4a, subP4b, subP4c, subP3, subP3', FL, h1]
    simp only [i10, OT, reduceIte, Nat.reduceEqDiff]
  by_cases h2 : most < (l.length : Int)
  · have := hfalse (fun h => by have := h.2.1; omega)
    subst this
    simp only [c10, plX, runes, ints, go_sem, subP4a, subP4b, subP4c, subP3, subP3', FL, h1, h2]
    simp only [i10, OT, reduceIte, Nat.reduceEqDiff]
  by_cases h3 : (8 : Int) < (s.length : Int)
  · have := hfalse (fun h => by have := h.2.2.1; omega)
    subst this
    simp only [c10, plX, runes, ints, go_sem, subP4a, subP4b, subP4c, subP3, subP3', FL, h1, h2, h3]
    simp only [i10, OT, reduceIte, Nat.reduceEqDiff]
  simp only [c10, plX, runes, ints, go_sem, subP4a, subP4b, subP4c, subP3, subP3', FL, h1, h2, h3]
  refine mLoop (fun N st => ∃ k : Nat, k ≤ l.length ∧ N = l.length - k ∧ (∀ x ∈ l.take k, x.2.1.length ≤ 40 ∧ x.2.2.length ≤ 40) ∧ st = ⟨[(2, .loc 0 0 0), (5, .int .i64 k)], [⟨true, 26, 4, 0, 1, plX s ch t l, false⟩]⟩) l.length
    ⟨_, rfl, 0, by omega, by omega, fun x hx => by simp at hx, rfl⟩ ?_
  rintro N s0 ⟨k, hk, rfl, hr, rfl⟩
  by_cases hlt : k < l.length
  · have hlt' : (k : Int) < (l.length : Int) := by omega
    have hk0 : (0 : Int) ≤ (k : Int) := by omega
    have hk1 : IntKind.i64.wrap ((k : Int) + 1) = ((k + 1 : Nat) : Int) := by rw [wrap_i64 (by omega) (by omega)]; omega
    have hs1 := sub_nms1 hlt
    have hs2 := sub_nms2 hlt
    have hmem : nmAt l k ∈ l := by simp [nmAt, List.getD, hlt]
    have htk : l.take (k + 1) = l.take k ++ [nmAt l k] := takeAt hlt
    by_cases g1 : (40 : Int) < ((nmAt l k).2.1.length : Int)
    · have := hfalse (fun h => by have := (h.2.2.2.1 _ hmem).1; omega)
      subst this
      simp only [b10_0, plX, runes, ints, go_sem, subP3, subP3', hlt', hk0, Int.toNat_natCast, hs1, hs2, bs_size, g1]
      simp only [i10, OT, reduceIte, Nat.reduceEqDiff]
    · by_cases g2 : (40 : Int) < ((nmAt l k).2.2.length : Int)
      · have := hfalse (fun h => by have := (h.2.2.2.1 _ hmem).2; omega)
        subst this
        simp only [b10_0, plX, runes, ints, go_sem, subP3, subP3', hlt', hk0, Int.toNat_natCast, hs1, hs2, bs_size, g1, g2]
        simp only [i10, OT, reduceIte, Nat.reduceEqDiff]
      · simp only [b10_0, plX, runes, ints, go_sem, subP3, subP3', hlt', hk0, Int.toNat_natCast, hs1, hs2, bs_size, g1, g2, hk1]
        refine loopQ_go rfl (l.length - (k + 1)) (by omega) ⟨k + 1, by omega, rfl, ?_, rfl⟩
        intro x hx
        rw [htk] at hx
        rcases List.mem_append.1 hx with hx | hx
        · exact hr x hx
        · simp at hx; subst hx; omega
  · have hlt' : ¬ (k : Int) < (l.length : Int) := by omega
    rw [List.take_of_length_le (by omega)] at hr
    have h66 := c44_ok (s := s) (t := t) (l := l) (ch := ch) (ok := ok) hs (by omega) (by omega) (by omega) (fun x hx => ⟨(hu x hx).1, (hu x hx).2, by have := (hr x hx).1; omega, by have := (hr x hx).2; omega⟩) (by
      rw [hok]
      exact ⟨fun h => h.2.2.2.2, fun h => ⟨by omega, by omega, by omega, hr, h⟩⟩)
    simp only [plX, runes, ints] at h66
    simp only [b10_0, k10_0, plX, runes, ints, go_sem, subP4, subP3, subP3', hlt']
    refine goP h66 ?_
    simp only [go_sem]
    simp only [i10, OT, reduceIte, Nat.reduceEqDiff]
end Go.Proofs.YtlejgleocnemoaaGreat.I

namespace Go.Proofs.YtlejgleocnemoaaGreat.I
open Go Go.V
attribute [local go_sem] mNil nat0 beq_self_eq_true mSkip mRet mExit mReg mSeq mCond mTrue mFalse mBlock mLv mCodeE mCodeR mEndN mEndR mEndE mOps mSome mGuard mGtt mGff mGtf mGft mGu mCallP mCallR mCallF mCallO mCallZ mCallG mCallM mCallV loopQ_exit loopQ_ret mO_mov mO_newnil mO_pick mO_alloc mO_box mO_build mO_bsl mO_bslF mO_newnilB mO_bslB mO_lenB mO_appB mO_allocA mO_bslA mO_appA mO_ldb mO_faddrb mRsv mO_ldf mO_ld mO_st mO_sta mO_nilchk mO_bin mO_binb mO_binp mO_bins mO_neg mO_com mO_not mO_conv mO_mk mO_mk0 mO_mkB mO_s2b mO_b2s mO_cpy mO_cut mO_faddr mO_fld mO_iaddr mO_iaddrf mO_sidx mO_len mO_lenf mO_slen mO_scut mO_app mO_ext mO_mx mO_mn mO_mkfn evalOp cutOp argsE ev getE putE cellsOf adopt rowOf binV boolV nilV ar_add ar_sub ar_mul ar_quo ar_rem ar_eq ar_ne ar_lt ar_le ar_gt ar_ge ar_and ar_or ar_xor geto bound finRet finNrm ints List.length_cons List.length_nil List.length_append List.getElem?_cons_zero List.getElem?_cons_succ List.nil_append List.cons_append List.map_cons List.map_nil List.mapM_cons List.mapM_nil Option.map_some Option.map_none Option.bind_some Option.pure_def Option.bind_eq_bind List.drop_zero or_self or_false false_or or_true true_or true_and and_true and_self decide_true decide_false Bool.false_eq_true Bool.true_eq_false Bool.not_true Bool.not_false Nat.le_refl eq_self gt_iff_lt ge_iff_le ne_eq not_true_eq_false not_false_eq_true storeOp apartOf freeze_nil refsL refs List.flatMap_cons List.flatMap_nil List.append_nil List.contains_nil List.set_cons_zero List.set_cons_succ snap snapL fill_nums flat_nums nums_length Go.V.freeze List.mapIdx_cons List.mapIdx_nil List.contains_cons Bool.or_false Bool.false_or Bool.or_true Bool.true_or
def pickT (t : List Int) (k : Int) : Int := if 0 ≤ k ∧ k < t.length then t.getD k.toNat 0 else 32
def picksT (ch : Bool) (t ks : List Int) : List Int := if ch then ks.map (pickT t) else []
def picksR (ch : Bool) (l : List Rt) (ks : List Int) : List Rt := if ch then [] else ks.map (pickR l)
def pickN (l : List Nm) (k : Int) : Nm := if 0 ≤ k ∧ k < l.length then nmAt l k.toNat else (false, [48], [49])
def picksN (ch : Bool) (l : List Nm) (ks : List Int) : List Nm := if ch then [] else ks.map (pickN l)
theorem dn_pos {q : Nat} (h : q ≠ 0) : dn q = q := by
  unfold dn
  rw [if_neg h]
theorem back_nm {x : Nm} (h : RightN x.1 x.2.1 x.2.2) : toNm (toRt x) = x := by
  obtain ⟨n, a, b⟩ := x
  obtain ⟨hRa, hRb, t1, t2, hb48, _, _⟩ := h
  have ea : decL (sval a) = a := by rw [← trimS_dec hRa.1 (fun h0 => by have := hRa.2.1; rw [h0] at this; simp at this)]; exact t1
  have eb : decL (sval b) = b := by rw [← trimS_dec hRb.1 (fun h0 => by have := hRb.2.1; rw [h0] at this; simp at this)]; exact t2
  have hq : sval b ≠ 0 := fun h => hb48 ((right_zero hRb t2).1 h)
  have hd := dn_pos hq
  simp only [toNm, toRt]
  rw [hd, ea, eb]
end Go.Proofs.YtlejgleocnemoaaGreat.I

namespace Go.Proofs.YtlejgleocnemoaaGreat.I
open Go Go.V
end Go.Proofs.YtlejgleocnemoaaGreat.I

namespace Go.Proofs.YtlejgleocnemoaaGreat.I
open Go Go.V
attribute [local go_sem] mNil nat0 beq_self_eq_true mSkip mRet mExit mReg mSeq mCond mTrue mFalse mBlock mLv mCodeE mCodeR mEndN mEndR mEndE mOps mSome mGuard mGtt mGff mGtf mGft mGu mCallP mCallR mCallF mCallO mCallZ mCallG mCallM mCallV loopQ_exit loopQ_ret mO_mov mO_newnil mO_pick mO_alloc mO_box mO_build mO_bsl mO_bslF mO_newnilB mO_bslB mO_lenB mO_appB mO_allocA mO_bslA mO_appA mO_ldb mO_faddrb mRsv mO_ldf mO_ld mO_st mO_sta mO_nilchk mO_bin mO_binb mO_binp mO_bins mO_neg mO_com mO_not mO_conv mO_mk mO_mk0 mO_mkB mO_s2b mO_b2s mO_cpy mO_cut mO_faddr mO_fld mO_iaddr mO_iaddrf mO_sidx mO_len mO_lenf mO_slen mO_scut mO_app mO_ext mO_mx mO_mn mO_mkfn evalOp cutOp argsE ev getE putE cellsOf adopt rowOf binV boolV nilV ar_add ar_sub ar_mul ar_quo ar_rem ar_eq ar_ne ar_lt ar_le ar_gt ar_ge ar_and ar_or ar_xor geto bound finRet finNrm ints List.length_cons List.length_nil List.length_append List.getElem?_cons_zero List.getElem?_cons_succ List.nil_append List.cons_append List.map_cons List.map_nil List.mapM_cons List.mapM_nil Option.map_some Option.map_none Option.bind_some Option.pure_def Option.bind_eq_bind List.drop_zero or_self or_false false_or or_true true_or true_and and_true and_self decide_true decide_false Bool.false_eq_true Bool.true_eq_false Bool.not_true Bool.not_false Nat.le_refl eq_self gt_iff_lt ge_iff_le ne_eq not_true_eq_false not_false_eq_true storeOp apartOf freeze_nil refsL refs List.flatMap_cons List.flatMap_nil List.append_nil List.contains_nil List.set_cons_zero List.set_cons_succ snap snapL fill_nums flat_nums nums_length Go.V.freeze List.mapIdx_cons List.mapIdx_nil List.contains_cons Bool.or_false Bool.false_or Bool.or_true Bool.true_or
end Go.Proofs.YtlejgleocnemoaaGreat.I

namespace Go.Proofs.YtlejgleocnemoaaGreat.I
open Go Go.V
attribute [local go_sem_proc ↓] reduceIte
attribute [local go_sem_proc] Nat.reduceEqDiff Nat.reduceAdd Nat.reduceMul Nat.reduceLeDiff Nat.reduceLT Int.reduceToNat Int.reduceLT Int.reduceLE reduceCtorEq Nat.reduceBEq
attribute [local go_sem] mNil nat0 beq_self_eq_true mSkip mRet mExit mReg mSeq mCond mTrue mFalse mBlock mLv mCodeE mCodeR mEndN mEndR mEndE mOps mSome mGuard mGtt mGff mGtf mGft mGu mCallP mCallR mCallF mCallO mCallZ mCallG mCallM mCallV loopQ_exit loopQ_ret mO_mov mO_newnil mO_pick mO_alloc mO_box mO_build mO_bsl mO_bslF mO_newnilB mO_bslB mO_lenB mO_appB mO_allocA mO_bslA mO_appA mO_ldb mO_faddrb mRsv mO_ldf mO_ld mO_st mO_sta mO_nilchk mO_bin mO_binb mO_binp mO_bins mO_neg mO_com mO_not mO_conv mO_mk mO_mk0 mO_mkB mO_s2b mO_b2s mO_cpy mO_cut mO_faddr mO_fld mO_iaddr mO_iaddrf mO_sidx mO_len mO_lenf mO_slen mO_scut mO_app mO_ext mO_mx mO_mn mO_mkfn evalOp cutOp argsE ev getE putE cellsOf adopt rowOf binV boolV nilV ar_add ar_sub ar_mul ar_quo ar_rem ar_eq ar_ne ar_lt ar_le ar_gt ar_ge ar_and ar_or ar_xor geto bound finRet finNrm ints List.length_cons List.length_nil List.length_append List.getElem?_cons_zero List.getElem?_cons_succ List.nil_append List.cons_append List.map_cons List.map_nil List.mapM_cons List.mapM_nil Option.map_some Option.map_none Option.bind_some Option.pure_def Option.bind_eq_bind List.drop_zero or_self or_false false_or or_true true_or true_and and_true and_self decide_true decide_false Bool.false_eq_true Bool.true_eq_false Bool.not_true Bool.not_false Nat.le_refl eq_self gt_iff_lt ge_iff_le ne_eq not_true_eq_false not_false_eq_true storeOp apartOf freeze_nil refsL refs List.flatMap_cons List.flatMap_nil List.append_nil List.contains_nil List.set_cons_zero List.set_cons_succ snap snapL fill_nums flat_nums nums_length Go.V.freeze List.mapIdx_cons List.mapIdx_nil List.contains_cons Bool.or_false Bool.false_or Bool.or_true Bool.true_or
def pl : Int → List Int → List Int → Option Int
  | n, d :: ds, x :: xs => if x < 0 ∨ d ≤ x then none else pl (n * d + x) ds xs
  | n, _, _ => some n
def place (s idx : List Int) : Option Int := if count s = none ∨ s.length ≠ idx.length then none else pl 0 s idx
section
variable {E : CallRel}
def PlI (s idx : List Int) (k : Nat) (n : Int) : Prop :=
  count s ≠ none → ∃ most m, count s = cnt most m (s.drop k) ∧ 1 ≤ most ∧ most ≤ 4096 ∧ 0 ≤ n ∧ n < most ∧ pl 0 s idx = pl n (s.drop k) (idx.drop k)
theorem PlI.zero {s idx : List Int} : PlI s idx 0 0 := fun h => by
  refine ⟨1, 1, ?_, by omega, by omega, by omega, by omega, by simp⟩
  unfold count at h ⊢
  split
  · rename_i h8; rw [if_pos h8] at h; exact absurd rfl h
  · simp
theorem PlI.step {s idx : List Int} {k : Nat} {n : Int} (h : PlI s idx k n) (h1 : k < s.length) (h2 : k < idx.length) (hx : ¬ idx.getD k 0 < 0) (hd : ¬ s.getD k 0 ≤ idx.getD k 0) :
    PlI s idx (k + 1) (IntKind.i64.wrap (IntKind.i64.wrap (n * s.getD k 0) + idx.getD k 0)) := by
  intro hc
  obtain ⟨most, m, g1, g2, g3, g4, g5, g6⟩ := h hc
  rw [getD_drop h1] at g1 g6
  rw [getD_drop h2] at g6
  generalize s.getD k 0 = d at *
  generalize idx.getD k 0 = x at *
  rw [cnt] at g1
  split at g1
  · exact absurd g1 hc
  · rename_i hno
    have hm : max 1 d = d := by rw [max1, if_pos (by omega)]
    rw [hm] at g1 hno
    have b1 : n * d ≤ (most - 1) * d := Int.mul_le_mul_of_nonneg_right (by omega) (by omega)
    have b2 : 0 ≤ n * d := Int.mul_nonneg g4 (by omega)
    have b3 : (most - 1) * d = most * d - d := by rw [Int.sub_mul]; omega
    have w1 : IntKind.i64.wrap (n * d) = n * d := wrap_i64 (by omega) (by omega)
    have w2 : IntKind.i64.wrap (n * d + x) = n * d + x := wrap_i64 (by omega) (by omega)
    rw [w1, w2]
    refine ⟨most * d, m * d, g1, by omega, by omega, by omega, by omega, ?_⟩
    rw [g6, pl, if_neg (by omega)]
theorem PlI.stop {s idx : List Int} {k : Nat} {n : Int} (h : PlI s idx k n) (h1 : k < s.length) (h2 : k < idx.length) (hx : idx.getD k 0 < 0 ∨ s.getD k 0 ≤ idx.getD k 0) (hc : count s ≠ none) : pl 0 s idx = none := by
  obtain ⟨most, m, g1, g2, g3, g4, g5, g6⟩ := h hc
  rw [getD_drop h1, getD_drop h2, pl, if_pos hx] at g6
  exact g6
theorem PlI.done {s idx : List Int} {k : Nat} {n : Int} (h : PlI s idx k n) (h1 : s.length ≤ k ∨ idx.length ≤ k) (hc : count s ≠ none) : 0 ≤ n ∧ pl 0 s idx = some n := by
  obtain ⟨most, m, g1, g2, g3, g4, g5, g6⟩ := h hc
  refine ⟨g4, ?_⟩
  rw [g6]
  rcases h1 with h1 | h1
  · rw [List.drop_eq_nil_of_le h1, pl]
    intro _ _ _ _ h; cases h
  · rw [List.drop_eq_nil_of_le h1, pl]
    intro _ _ _ _ _ h; cases h
theorem c99_ok {s idx : List Int} (hs : (s.length : Int) ≤ 1000000000000000) (hx : (idx.length : Int) ≤ 1000000000000000) :
    ∃ n, Go.V.Call tab E 99 [ints s, ints idx] [] (.int .i64 n) [] ∧ (count s ≠ none → (pl 0 s idx = none ∧ n = -1) ∨ (0 ≤ n ∧ pl 0 s idx = some n)) := by
  suffices h : Mach (Go.V.Call tab E) (fun x st => ∃ n, Fin i99 [] (.int .i64 n) [] x st ∧ (count s ≠ none → (pl 0 s idx = none ∧ n = -1) ∨ (0 ≤ n ∧ pl 0 s idx = some n))) [.code c99] .nrm ⟨argsE 0 [ints s, ints idx], []⟩ by
    obtain ⟨x, st, h1, h4⟩ := wp_exec h
    rw [mNil] at h4
    obtain ⟨n, h2, h3⟩ := h4
    exact ⟨n, Go.V.Call.go i99 c99 rfl rfl rfl rfl (exec_wp h1 h2), h3⟩
  simp only [c99, go_sem]
  refine mLoop (fun N st => ∃ (k : Nat) (n : Int), k ≤ s.length ∧ k ≤ idx.length ∧ N = s.length - k ∧ PlI s idx k n ∧
    st = ⟨[(0, ints s), (1, ints idx), (5, .int .i64 n), (6, .int .i64 k)], []⟩) s.length ⟨_, rfl, 0, 0, by omega, by omega, by omega, PlI.zero, rfl⟩ ?_
  rintro N s0 ⟨k, n, hk, hk2, rfl, hp, rfl⟩
  by_cases hlt : k < s.length
  · have hlt' : (k : Int) < (s.length : Int) := by omega
    by_cases hlt2 : k < idx.length
    · have hlt2' : (k : Int) < (idx.length : Int) := by omega
      have hk0 : (0 : Int) ≤ (k : Int) := by omega
      have hk1 : IntKind.i64.wrap ((k : Int) + 1) = ((k + 1 : Nat) : Int) := by rw [wrap_i64 (by omega) (by omega)]; omega
      have hsub := sub_nums (k := .i64) hlt
      have hsub2 := sub_nums (k := .i64) hlt2
      by_cases hneg : idx.getD k 0 < 0
      · simp only [b99_0, go_sem, hlt', hlt2', hk0, Int.toNat_natCast, hsub, hsub2, hneg]
        refine ⟨-1, by simp only [i99, OT, reduceIte, Nat.reduceEqDiff], fun hc => .inl ⟨hp.stop hlt hlt2 (.inl hneg) hc, rfl⟩⟩
      · by_cases hbig : s.getD k 0 ≤ idx.getD k 0
        · simp only [b99_0, go_sem, hlt', hlt2', hk0, Int.toNat_natCast, hsub, hsub2, hneg, hbig]
          refine ⟨-1, by simp only [i99, OT, reduceIte, Nat.reduceEqDiff], fun hc => .inl ⟨hp.stop hlt hlt2 (.inr hbig) hc, rfl⟩⟩
        · simp only [b99_0, go_sem, hlt', hlt2', hk0, Int.toNat_natCast, hsub, hsub2, hneg, hbig, hk1]
          exact loopQ_go rfl (s.length - (k + 1)) (by omega) ⟨k + 1, _, by omega, by omega, rfl, hp.step hlt hlt2 hneg hbig, rfl⟩
    · have hlt2' : ¬ (k : Int) < (idx.length : Int) := by omega
      simp only [b99_0, k99_0, go_sem, hlt', hlt2']
      exact ⟨n, by simp only [i99, OT, reduceIte, Nat.reduceEqDiff], fun hc => .inr (hp.done (.inr (by omega)) hc)⟩
  · have hlt' : ¬ (k : Int) < (s.length : Int) := by omega
    simp only [b99_0, k99_0, go_sem, hlt']
    exact ⟨n, by simp only [i99, OT, reduceIte, Nat.reduceEqDiff], fun hc => .inr (hp.done (.inl (by omega)) hc)⟩
end
end Go.Proofs.YtlejgleocnemoaaGreat.I

namespace Go.Proofs.YtlejgleocnemoaaGreat.I
open Go Go.V
def ix : List Int → Int → List Int × Int
  | [], a => ([], a)
  | d :: ds, a => ((ix ds a).2 % d :: (ix ds a).1, (ix ds a).2 / d)
theorem ix_len : ∀ {s : List Int} {a : Int}, (ix s a).1.length = s.length
  | [], a => rfl
  | d :: ds, a => by simp [ix, ix_len]
def index (s : List Int) (a : Int) : Option (List Int) :=
  match count s with
  | none => none
  | some n => if a < 0 ∨ n ≤ a then none else some (ix s a).1
def optL : Option (List Int) → AV
  | some l => .tup [ints l, .bool true]
  | none => .tup [.sl 0 1 [], .bool false]
section
variable {E : CallRel}
end
end Go.Proofs.YtlejgleocnemoaaGreat.I

namespace Go.Proofs.YtlejgleocnemoaaGreat.I
open Go Go.V
def prodR : List Int → Int
  | [] => 1
  | d :: ds => IntKind.i64.wrap (prodR ds * d)
def str : List Int → List Int
  | [] => []
  | _ :: ds => prodR ds :: str ds
section
variable {E : CallRel}
end
end Go.Proofs.YtlejgleocnemoaaGreat.I

namespace Go.Proofs.YtlejgleocnemoaaGreat.I
open Go Go.V
def prodW (s : List Int) : Int := s.foldl (fun n d => IntKind.i64.wrap (n * d)) 1
section
variable {E : CallRel}
end
end Go.Proofs.YtlejgleocnemoaaGreat.I

namespace Go.Proofs.YtlejgleocnemoaaGreat.I
open Go Go.V
def strW : List Int → List Int
  | [] => []
  | _ :: ds => prodW ds :: strW ds
section
variable {E : CallRel}
theorem cut_nums {s : List Int} {k : Nat} (h : k ≤ s.length) : AV.sl (s.length - k) 1 (((nums .i64 s).drop (k * 1)).take ((s.length - k) * 1)) = ints (s.drop k) := by
  simp only [ints, nums, Nat.mul_one, List.length_drop]
  congr 1
  rw [← List.map_drop, List.take_of_length_le (by simp)]
end
end Go.Proofs.YtlejgleocnemoaaGreat.I

namespace Go.Proofs.YtlejgleocnemoaaGreat.I
open Go Go.V
def prd : List Int → Int
  | [] => 1
  | d :: ds => d * prd ds
theorem cnt_prd : ∀ {s : List Int} {most m n : Int}, cnt most m s = some n → n = m * prd s
  | [], most, m, n, h => by rw [cnt] at h; rw [prd, Int.mul_one]; exact (Option.some.inj h).symm
  | d :: ds, most, m, n, h => by
    rw [cnt] at h
    split at h
    · cases h
    · rw [cnt_prd h, prd, Int.mul_assoc]
theorem count_prd {s : List Int} {n : Int} (h : count s = some n) : n = prd s := by
  unfold count at h
  split at h
  · cases h
  · rw [cnt_prd h, Int.one_mul]
theorem prd_pos : ∀ {s : List Int}, (∀ d ∈ s, 1 ≤ d) → 1 ≤ prd s
  | [], _ => Int.le_refl _
  | d :: ds, h => by
    have h1 := prd_pos (s := ds) (fun x hx => h x (by simp [hx]))
    have h2 := h d (by simp)
    have := Int.mul_le_mul_of_nonneg_left (a := 1) (b := prd ds) (c := d) h1 (by omega)
    rw [prd]
    omega
theorem emod_mul (a p d : Int) (hp : 0 < p) : a % (d * p) = (a / p) % d * p + a % p := by
  rw [Int.emod_def a (d * p), Int.emod_def (a / p) d, Int.emod_def a p, Int.mul_comm d p, ← Int.ediv_ediv_of_nonneg (by omega), Int.sub_mul, Int.mul_assoc p d, Int.mul_comm (d * (a / p / d)) p, Int.mul_comm (a / p) p]
  omega
theorem ix_snd : ∀ {s : List Int} {a : Int}, 0 ≤ a → (∀ d ∈ s, 1 ≤ d) → (ix s a).2 = a / prd s
  | [], a, _, _ => by rw [ix, prd, Int.ediv_one]
  | d :: ds, a, ha, h => by
    have hp := prd_pos (s := ds) (fun x hx => h x (by simp [hx]))
    rw [ix, ix_snd ha (fun x hx => h x (by simp [hx])), prd, Int.mul_comm d, Int.ediv_ediv_of_nonneg (by omega)]
theorem pl_ix : ∀ {s : List Int} {a m : Int}, 0 ≤ a → (∀ d ∈ s, 1 ≤ d) → pl m s (ix s a).1 = some (m * prd s + a % prd s)
  | [], a, m, ha, _ => by simp [ix, pl, prd]
  | d :: ds, a, m, ha, h => by
    have h' : ∀ x ∈ ds, 1 ≤ x := fun x hx => h x (by simp [hx])
    have hp := prd_pos h'
    have hd := h d (by simp)
    have h1 := Int.emod_nonneg (a / prd ds) (show d ≠ 0 by omega)
    have h2 := Int.emod_lt_of_pos (a / prd ds) (show 0 < d by omega)
    rw [ix, ix_snd ha h', pl, if_neg (by omega), pl_ix ha h', prd, emod_mul _ _ _ (by omega), Int.add_mul, Int.mul_assoc]
    congr 1
    omega
def inc : List Int → List Int → List Int × Bool
  | d :: ds, x :: xs => if (inc ds xs).2 then (if x + 1 < d then ((x + 1) :: (inc ds xs).1, false) else (0 :: (inc ds xs).1, true)) else (x :: (inc ds xs).1, false)
  | _, _ => ([], true)
def allS (L : List (List Int)) (d : Nat) : List (List Int) := L.flatMap fun p => (List.range d).map fun n : Nat => p ++ [(n : Int)]
def allL (s : List Int) : List (List Int) := s.foldl (fun L d => allS L d.toNat) [[]]
theorem allS_len {L : List (List Int)} {d : Nat} : (allS L d).length = L.length * d := by
  induction L with
  | nil => simp [allS]
  | cons p L ih =>
    have : allS (p :: L) d = ((List.range d).map fun n : Nat => p ++ [(n : Int)]) ++ allS L d := rfl
    rw [this, List.length_append, ih, List.length_map, List.length_range, List.length_cons, Nat.succ_mul, Nat.add_comm]
theorem allS_get : ∀ {L : List (List Int)} {d j : Nat}, j < L.length * d → (allS L d)[j]? = (L[j / d]?).map fun p => p ++ [((j % d : Nat) : Int)]
  | [], d, j, h => by simp at h
  | p :: L, d, j, h => by
    have hd : 0 < d := by
      rcases Nat.eq_zero_or_pos d with rfl | h0
      · simp at h
      · exact h0
    have e : allS (p :: L) d = ((List.range d).map fun n : Nat => p ++ [(n : Int)]) ++ allS L d := rfl
    rw [e, List.getElem?_append]
    simp only [List.length_map, List.length_range]
    split
    · rename_i hj
      rw [Nat.div_eq_of_lt hj, Nat.mod_eq_of_lt hj]
      simp [hj]
    · rename_i hj
      rw [List.length_cons, Nat.succ_mul] at h
      rw [allS_get (L := L) (by omega)]
      have h1 : j / d = (j - d) / d + 1 := by rw [Nat.div_eq_sub_div hd (by omega)]
      have h2 : j % d = (j - d) % d := by rw [Nat.mod_eq_sub_mod (by omega)]
      rw [h1, h2, List.getElem?_cons_succ]
theorem ix_snoc : ∀ {s : List Int} {d a : Int}, ix (s ++ [d]) a = ((ix s (a / d)).1 ++ [a % d], (ix s (a / d)).2)
  | [], d, a => rfl
  | x :: s, d, a => by simp only [List.cons_append, ix, ix_snoc]
theorem prd_snoc : ∀ {s : List Int} {d : Int}, prd (s ++ [d]) = prd s * d
  | [], d => by simp [prd]
  | x :: s, d => by simp only [List.cons_append, prd, prd_snoc, Int.mul_assoc]
theorem allL_snoc {s : List Int} {d : Int} : allL (s ++ [d]) = allS (allL s) d.toNat := by simp [allL]
theorem allL_take {s : List Int} (h : ∀ d ∈ s, 0 ≤ d) : ∀ {k : Nat}, k ≤ s.length → ((allL (s.take k)).length : Int) = prd (s.take k) ∧ ∀ j : Nat, (j : Int) < prd (s.take k) → (allL (s.take k))[j]? = some (ix (s.take k) j).1
  | 0, _ => by
    refine ⟨by simp [allL, prd], fun j hj => ?_⟩
    simp only [List.take_zero, prd] at hj
    obtain rfl : j = 0 := by omega
    simp [allL, ix]
  | k + 1, hk => by
    obtain ⟨h1, h2⟩ := allL_take h (k := k) (by omega)
    have hs : s.take (k + 1) = s.take k ++ [s.getD k 0] := by
      rw [List.take_add_one]
      congr 1
      simp [List.getD, show k < s.length by omega]
    have hd : 0 ≤ s.getD k 0 := h _ (by simp [List.getD, show k < s.length by omega])
    rw [hs, allL_snoc, prd_snoc, allS_len]
    obtain ⟨d, hdd⟩ := Int.eq_ofNat_of_zero_le hd
    rw [hdd, Int.toNat_natCast]
    refine ⟨by rw [Int.natCast_mul, h1], fun j hj => ?_⟩
    have hj' : j < (allL (s.take k)).length * d := by
      rw [← h1, ← Int.natCast_mul] at hj
      omega
    have hd0 : 0 < d := by
      rcases Nat.eq_zero_or_pos d with rfl | h0
      · simp at hj'
      · exact h0
    rw [allS_get hj', h2 (j / d) (by
      rw [← h1]
      have := (Nat.div_lt_iff_lt_mul hd0).2 hj'
      omega), ix_snoc]
    simp
end Go.Proofs.YtlejgleocnemoaaGreat.I

namespace Go.Proofs.YtlejgleocnemoaaGreat.I
open Go Go.V
attribute [local go_sem_proc ↓] reduceIte
attribute [local go_sem_proc] Nat.reduceEqDiff Nat.reduceAdd Nat.reduceMul Nat.reduceLeDiff Nat.reduceLT Int.reduceToNat Int.reduceLT Int.reduceLE reduceCtorEq Nat.reduceBEq
attribute [local go_sem] mNil nat0 beq_self_eq_true mSkip mRet mExit mReg mSeq mCond mTrue mFalse mBlock mLv mCodeE mCodeR mEndN mEndR mEndE mOps mSome mGuard mGtt mGff mGtf mGft mGu mCallP mCallR mCallF mCallO mCallZ mCallG mCallM mCallV loopQ_exit loopQ_ret mO_mov mO_newnil mO_pick mO_alloc mO_box mO_build mO_bsl mO_bslF mO_newnilB mO_bslB mO_lenB mO_appB mO_allocA mO_bslA mO_appA mO_ldb mO_faddrb mRsv mO_ldf mO_ld mO_st mO_sta mO_nilchk mO_bin mO_binb mO_binp mO_bins mO_neg mO_com mO_not mO_conv mO_mk mO_mk0 mO_mkB mO_s2b mO_b2s mO_cpy mO_cut mO_faddr mO_fld mO_iaddr mO_iaddrf mO_sidx mO_len mO_lenf mO_slen mO_scut mO_app mO_ext mO_mx mO_mn mO_mkfn evalOp cutOp argsE ev getE putE cellsOf adopt rowOf binV boolV nilV ar_add ar_sub ar_mul ar_quo ar_rem ar_eq ar_ne ar_lt ar_le ar_gt ar_ge ar_and ar_or ar_xor geto bound finRet finNrm ints List.length_cons List.length_nil List.length_append List.getElem?_cons_zero List.getElem?_cons_succ List.nil_append List.cons_append List.map_cons List.map_nil List.mapM_cons List.mapM_nil Option.map_some Option.map_none Option.bind_some Option.pure_def Option.bind_eq_bind List.drop_zero or_self or_false false_or or_true true_or true_and and_true and_self decide_true decide_false Bool.false_eq_true Bool.true_eq_false Bool.not_true Bool.not_false Nat.le_refl eq_self gt_iff_lt ge_iff_le ne_eq not_true_eq_false not_false_eq_true
def rows (L : List (List Int)) : AV := .sl L.length 1 (L.map ints)
theorem cnt_bound : ∀ {s : List Int} {most m n : Int}, cnt most m s = some n → 1 ≤ most → most ≤ 4096 → (∀ d ∈ s, 0 ≤ d ∧ d ≤ 4096) ∧ ∀ k, 0 ≤ prd (s.take k) ∧ most * prd (s.take k) ≤ 4096
  | [], most, m, n, h, h1, h2 => ⟨fun d hd => by simp at hd, fun k => by simp [prd]; omega⟩
  | d :: ds, most, m, n, h, h1, h2 => by
    rw [cnt] at h
    split at h
    · cases h
    · rename_i hno
      have hmx : 1 ≤ max 1 d ∧ d ≤ max 1 d := by rw [max1]; split <;> omega
      have hmm : 1 ≤ most * max 1 d := by
        have := Int.mul_le_mul_of_nonneg_left (a := 1) (b := max 1 d) (c := most) hmx.1 (by omega)
        omega
      have hd : d ≤ most * max 1 d := by
        have := Int.mul_le_mul_of_nonneg_right (a := 1) (b := most) (c := max 1 d) h1 (by omega)
        omega
      obtain ⟨g1, g2⟩ := cnt_bound h hmm (by omega)
      refine ⟨fun x hx => ?_, fun k => ?_⟩
      · rcases List.mem_cons.1 hx with rfl | hx
        · omega
        · exact g1 x hx
      · cases k with
        | zero => simp [prd]; omega
        | succ k =>
          rw [List.take_succ_cons, prd]
          obtain ⟨e1, e2⟩ := g2 k
          have e3 : d * prd (ds.take k) ≤ max 1 d * prd (ds.take k) := Int.mul_le_mul_of_nonneg_right hmx.2 e1
          have e4 := Int.mul_le_mul_of_nonneg_left (c := most) e3 (by omega)
          rw [← Int.mul_assoc] at e4
          rw [← Int.mul_assoc] at e4
          refine ⟨Int.mul_nonneg (by omega) e1, ?_⟩
          rw [← Int.mul_assoc]
          omega
theorem count_bound {s : List Int} {n : Int} (h : count s = some n) : s.length ≤ 8 ∧ (∀ d ∈ s, 0 ≤ d ∧ d ≤ 4096) ∧ ∀ k, 0 ≤ prd (s.take k) ∧ prd (s.take k) ≤ 4096 := by
  unfold count at h
  split at h
  · cases h
  · obtain ⟨h1, h2⟩ := cnt_bound h (by omega) (by omega)
    exact ⟨by omega, h1, fun k => by have := h2 k; rwa [Int.one_mul] at this⟩
theorem allS_elem {L : List (List Int)} {d n : Nat} (h : ∀ p ∈ L, p.length = n) : ∀ p ∈ allS L d, p.length = n + 1 := by
  intro p hp
  simp only [allS, List.mem_flatMap, List.mem_map] at hp
  obtain ⟨q, hq, i, _, rfl⟩ := hp
  simp [h q hq]
theorem allL_elem {s : List Int} : ∀ {k : Nat}, k ≤ s.length → ∀ p ∈ allL (s.take k), p.length = k
  | 0, _ => by simp [allL]
  | k + 1, hk => by
    have hs : s.take (k + 1) = s.take k ++ [s.getD k 0] := by
      rw [List.take_add_one]
      congr 1
      simp [List.getD, show k < s.length by omega]
    rw [hs, allL_snoc]
    exact allS_elem (allL_elem (by omega))
theorem sub_rows {L : List (List Int)} {j : Nat} (h : j < L.length) : sub false 1 (L.map ints) (j * 1) = some (ints (L.getD j [])) := by
  simp only [sub, List.length_map, Nat.mul_one, Bool.false_eq_true, if_false, if_true]
  rw [if_pos (by omega), List.getElem?_map, List.getElem?_eq_getElem h]
  simp [List.getD, h]
theorem allS_take {L : List (List Int)} {d j : Nat} (h : j < L.length) : allS (L.take (j + 1)) d = allS (L.take j) d ++ (List.range d).map fun n : Nat => L.getD j [] ++ [(n : Int)] := by
  rw [List.take_add_one]
  have : L[j]?.toList = [L.getD j []] := by simp [List.getD, h]
  rw [this]
  simp [allS]
theorem freeze1 {a b c : AObj} : Go.V.freeze [1] [a, b, c] = [a, { b with fr := true }, c] := rfl
section
variable {E : CallRel}
theorem c80_ok {s : List Int} {n : Int} (hc : count s = some n) : Go.V.Call tab E 80 [ints s] [] (rows (allL s)) [] := by
  obtain ⟨hl8, hd4, hpr⟩ := count_bound hc
  refine Go.V.Call.mach i80 c80 rfl rfl rfl rfl ?_
  simp only [c80, go_sem, storeOp, apartOf, freeze_nil, refsL, refs, List.flatMap_cons, List.flatMap_nil, List.append_nil, List.contains_nil, List.set_cons_zero, List.set_cons_succ, snap, snapL, fill_nums, flat_nums, nums_length, List.flatten_cons, List.flatten_nil, Option.getD_some]
  refine mLoop (fun N st => ∃ (k : Nat), k ≤ s.length ∧ N = s.length - k ∧
    st = ⟨[(0, ints s), (3, rows (allL (s.take k))), (4, .int .i64 k)], []⟩) s.length ⟨_, rfl, 0, by omega, by omega, by simp [allL, rows, ints, nums, getE]⟩ ?_
  rintro N s0 ⟨k, hk, rfl, rfl⟩
  by_cases hlt : k < s.length
  · have hlt' : (k : Int) < (s.length : Int) := by omega
    have hk0 : (0 : Int) ≤ (k : Int) := by omega
    have hk1 : IntKind.i64.wrap ((k : Int) + 1) = ((k + 1 : Nat) : Int) := by rw [wrap_i64 (by omega) (by omega)]; omega
    have hsub := sub_nums (k := .i64) hlt
    have hdk := hd4 (s.getD k 0) (by simp [List.getD, hlt])
    have hall : allL (s.take (k + 1)) = allS (allL (s.take k)) (s.getD k 0).toNat := by
      rw [← allL_snoc, List.take_add_one]
      congr 2
      simp [List.getD, hlt]
    have hlen := (allL_take (s := s) (fun d hd => (hd4 d hd).1) (k := k) (by omega)).1
    have hlen4 := (hpr k).2
    have helem := allL_elem (s := s) (k := k) (by omega)
    generalize hL : allL (s.take k) = L at *
    obtain ⟨d, hdd⟩ := Int.eq_ofNat_of_zero_le hdk.1
    have hd4096 : d ≤ 4096 := by omega
    have hL4096 : L.length ≤ 4096 := by omega
    rw [hdd] at hsub hall
    rw [Int.toNat_natCast] at hall
    simp only [b80_0, go_sem, rows, hlt']
    refine mLoop (fun N st => ∃ (j : Nat), j ≤ L.length ∧ N = L.length - j ∧
      st = ⟨[(0, ints s), (3, rows L), (4, .int .i64 k), (5, .arr 0 (j * d)), (6, .int .i64 j)], [⟨false, 22, 1, j * d, j * d, (allS (L.take j) d).map ints, false⟩]⟩) L.length ⟨_, rfl, 0, by omega, by omega, by simp [allS, rows, getE, ints]⟩ ?_
    rintro N s0 ⟨j, hj, rfl, rfl⟩
    by_cases hjl : j < L.length
    · have hjl' : (j : Int) < (L.length : Int) := by omega
      have hj0 : (0 : Int) ≤ (j : Int) := by omega
      have hj1 : IntKind.i64.wrap ((j : Int) + 1) = ((j + 1 : Nat) : Int) := by rw [wrap_i64 (by omega) (by omega)]; omega
      have hsubL := sub_rows hjl
      have hpl : (L.getD j []).length = k := helem _ (by simp [List.getD, hjl])
      have htk := allS_take (d := d) hjl
      have hjd : j * d ≤ 4096 * 4096 := Nat.mul_le_mul (by omega) (by omega)
      generalize L.getD j [] = p at *
      simp only [b80_1, go_sem, rows, hjl']
      refine mLoop (fun N st => ∃ (i : Nat), i ≤ d ∧ N = d - i ∧
        st = ⟨[(0, ints s), (3, rows L), (4, .int .i64 k), (5, .arr 0 (j * d + i)), (6, .int .i64 j), (7, .int .i64 i)], [⟨false, 22, 1, j * d + i, j * d + i, (allS (L.take j) d ++ (List.range i).map fun n : Nat => p ++ [(n : Int)]).map ints, false⟩]⟩) d ⟨_, rfl, 0, by omega, by omega, by simp [rows, getE, ints]⟩ ?_
      rintro N s0 ⟨i, hi, rfl, rfl⟩
      by_cases hid : i < d
      · have hid' : (i : Int) < (d : Int) := by omega
        have hi4 : (i : Int) < 4096 := by omega
        have hi1 : IntKind.i64.wrap ((i : Int) + 1) = ((i + 1 : Nat) : Int) := by rw [wrap_i64 (by omega) (by omega)]; omega
        have e1 : p.length * 8 ≤ 140737488355328 := by omega
        have e2 : p.length ≤ 140737488355328 := by omega
        have e3 : (p.length + 1) * 8 ≤ 140737488355328 := by omega
        have e4 : p.length + 1 ≤ 140737488355328 := by omega
        have e5 : (j * d + i + 1) * 24 ≤ 140737488355328 := by omega
        have e6 : j * d + i + 1 ≤ 140737488355328 := by omega
        simp only [b80_2, go_sem, storeOp, apartOf, freeze_nil, refsL, refs, List.flatMap_cons, List.flatMap_nil, List.append_nil, List.contains_nil, List.set_cons_zero, List.set_cons_succ, snap, snapL, fill_nums, flat_nums, nums_length, rows, hlt', hk0, Int.toNat_natCast, hsub, hid', hi4, hi1, hsubL, hj0, hjl', e1, e2, e3, e4, e5, e6, List.flatten_cons, List.flatten_nil, Option.getD_some, Nat.zero_add, freeze1]
        refine loopQ_go rfl (d - (i + 1)) (by omega) ⟨i + 1, by omega, rfl, ?_⟩
        have q1 : ints (p ++ [(i : Int)]) = .sl (p.length + 1) 1 (nums .i64 p ++ [.int .i64 i]) := by simp [ints, nums]
        have q2 : (allS (L.take j) d ++ (List.range (i + 1)).map fun n : Nat => p ++ [(n : Int)]).map ints = (allS (L.take j) d ++ (List.range i).map fun n : Nat => p ++ [(n : Int)]).map ints ++ [.sl (p.length + 1) 1 (nums .i64 p ++ [.int .i64 i])] := by
          rw [List.range_succ]
          simp only [List.map_append, List.map_cons, List.map_nil, List.append_assoc, q1]
        rw [q2]
        rfl
      · have hid' : ¬ (i : Int) < (d : Int) := by omega
        obtain rfl : i = d := by omega
        simp only [b80_2, k80_0, go_sem, rows, hlt', hk0, Int.toNat_natCast, hsub, hid', hj1]
        refine loopQ_go rfl (L.length - (j + 1)) (by omega) ⟨j + 1, by omega, rfl, ?_⟩
        rw [htk, Nat.succ_mul]
        rfl
    · have hjl' : ¬ (j : Int) < (L.length : Int) := by omega
      obtain rfl : j = L.length := by omega
      simp only [b80_1, k80_1, k80_2, go_sem, rows, hjl', hk1]
      refine loopQ_go (s2 := ⟨[(0, ints s), (3, rows (allS L d)), (4, .int .i64 ((k + 1 : Nat) : Int))], []⟩) ?_ (s.length - (k + 1)) (by omega) ⟨k + 1, by omega, rfl, by rw [hall]; rfl⟩
      simp only [headOf, keepOne, go_sem, storeOp, apartOf, freeze_nil, refsL, refs, List.flatMap_cons, List.flatMap_nil, List.append_nil, List.contains_nil, List.set_cons_zero, List.set_cons_succ, snap, snapL, fill_nums, flat_nums, nums_length, List.contains_cons, Nat.reduceBEq, Bool.or_false, Bool.false_or]
      rw [List.take_length]
      refine (if_pos (by rfl)).trans ?_
      rw [rows, ← allS_len]
      rfl
  · have hlt' : ¬ (k : Int) < (s.length : Int) := by omega
    obtain rfl : k = s.length := by omega
    simp only [b80_0, k80_3, go_sem, rows, hlt']
    simp only [i80, OT, reduceIte, Nat.reduceEqDiff, List.take_length]
end
end Go.Proofs.YtlejgleocnemoaaGreat.I

namespace Go.Proofs.YtlejgleocnemoaaGreat.I
open Go Go.V
attribute [local go_sem_proc ↓] reduceIte
attribute [local go_sem_proc] Nat.reduceEqDiff Nat.reduceAdd Nat.reduceMul Nat.reduceLeDiff Nat.reduceLT Int.reduceToNat Int.reduceLT Int.reduceLE reduceCtorEq Nat.reduceBEq
attribute [local go_sem] mNil nat0 beq_self_eq_true mSkip mRet mExit mReg mSeq mCond mTrue mFalse mBlock mLv mCodeE mCodeR mEndN mEndR mEndE mOps mSome mGuard mGtt mGff mGtf mGft mGu mCallP mCallR mCallF mCallO mCallZ mCallG mCallM mCallV loopQ_exit loopQ_ret mO_mov mO_newnil mO_pick mO_alloc mO_box mO_build mO_bsl mO_bslF mO_newnilB mO_bslB mO_lenB mO_appB mO_allocA mO_bslA mO_appA mO_ldb mO_faddrb mRsv mO_ldf mO_ld mO_st mO_sta mO_nilchk mO_bin mO_binb mO_binp mO_bins mO_neg mO_com mO_not mO_conv mO_mk mO_mk0 mO_mkB mO_s2b mO_b2s mO_cpy mO_cut mO_faddr mO_fld mO_iaddr mO_iaddrf mO_sidx mO_len mO_lenf mO_slen mO_scut mO_app mO_ext mO_mx mO_mn mO_mkfn evalOp cutOp argsE ev getE putE cellsOf adopt rowOf binV boolV nilV ar_add ar_sub ar_mul ar_quo ar_rem ar_eq ar_ne ar_lt ar_le ar_gt ar_ge ar_and ar_or ar_xor geto bound finRet finNrm ints List.length_cons List.length_nil List.length_append List.getElem?_cons_zero List.getElem?_cons_succ List.nil_append List.cons_append List.map_cons List.map_nil List.mapM_cons List.mapM_nil Option.map_some Option.map_none Option.bind_some Option.pure_def Option.bind_eq_bind List.drop_zero or_self or_false false_or or_true true_or true_and and_true and_self decide_true decide_false Bool.false_eq_true Bool.true_eq_false Bool.not_true Bool.not_false Nat.le_refl eq_self gt_iff_lt ge_iff_le ne_eq not_true_eq_false not_false_eq_true storeOp apartOf freeze_nil refsL refs List.flatMap_cons List.flatMap_nil List.append_nil List.contains_nil List.set_cons_zero List.set_cons_succ snap snapL fill_nums flat_nums nums_length Go.V.freeze List.mapIdx_cons List.mapIdx_nil List.contains_cons Bool.or_false Bool.false_or Bool.or_true Bool.true_or
section
variable {E : CallRel}
end
theorem nums_append {k : IntKind} {a b : List Int} : nums k (a ++ b) = nums k a ++ nums k b := by simp [nums]
def lensum (L : List (List Int)) : Nat := L.flatten.length
theorem lensum_snoc {L : List (List Int)} {p : List Int} : lensum (L ++ [p]) = lensum L + p.length := by simp [lensum]
theorem lensum_take {L : List (List Int)} {k : Nat} : lensum (L.take k) ≤ lensum L := by
  have : L = L.take k ++ L.drop k := (List.take_append_drop k L).symm
  conv => rhs; rw [this]
  simp only [lensum, List.flatten_append, List.length_append]
  omega
theorem take_snocL {L : List (List Int)} {m : Nat} (h : m < L.length) : L.take (m + 1) = L.take m ++ [L.getD m []] := by
  rw [List.take_add_one]
  congr 1
  simp [List.getD, h]
theorem c152_ok {n : Nat} (hn : (n : Int) ≤ 10000000000000) : Go.V.Call tab E 152 [.nilsl 3 1, .int .i64 n] [] (.arr 0 0) [⟨false, 3, 1, 0, 0, [], false⟩] := by
  refine ⟨0, ?_⟩
  have h1 : (0 : Int) ≤ (n : Int) ∧ (n : Int) * 8 ≤ 140737488355328 := by omega
  simp only [CallN, E, ext, growOf, h1, and_self, if_true]
theorem c121_ok {L : List (List Int)} (hL : (L.length : Int) ≤ 1000000000000) (hs : lensum L ≤ 1000000000000) : Go.V.Call tab E 121 [rows L] [] (ints L.flatten) [] := by
  refine Go.V.Call.mach i121 c121 rfl rfl rfl rfl ?_
  simp only [c121, rows, go_sem]
  refine mLoop (fun N st => ∃ (i : Nat), i ≤ L.length ∧ N = L.length - i ∧
    st = ⟨[(0, rows L), (3, .int .i64 (lensum (L.take i) : Nat)), (9, rows L), (10, .int .i64 L.length), (11, .int .i64 i)], [⟨false, 3, 1, 0, 0, [], false⟩]⟩) L.length ⟨_, rfl, 0, by omega, by omega, by simp [getE, rows, lensum]⟩ ?_
  rintro N s0 ⟨i, hi, rfl, rfl⟩
  by_cases hlt : i < L.length
  · have hlt' : (i : Int) < (L.length : Int) := by omega
    have hi0 : (0 : Int) ≤ (i : Int) := by omega
    have hi1 : IntKind.i64.wrap ((i : Int) + 1) = ((i + 1 : Nat) : Int) := by rw [wrap_i64 (by omega) (by omega)]; omega
    have hsub := sub_rows hlt
    have htk := take_snocL hlt
    have hle := lensum_take (L := L) (k := i + 1)
    have hsn : lensum (L.take (i + 1)) = lensum (L.take i) + (L.getD i []).length := by rw [htk, lensum_snoc]
    have hw : IntKind.i64.wrap ((lensum (L.take i) : Int) + ((L.getD i []).length : Int)) = (lensum (L.take (i + 1)) : Int) := by rw [wrap_i64 (by omega) (by omega)]; omega
    have hneg : ¬ (lensum (L.take (i + 1)) : Int) < 0 := by omega
    simp only [b121_0, rows, go_sem, hlt', hi0, Int.toNat_natCast, hsub, hw, hneg, hi1]
    exact loopQ_go rfl (L.length - (i + 1)) (by omega) ⟨i + 1, by omega, rfl, rfl⟩
  · have hlt' : ¬ (i : Int) < (L.length : Int) := by omega
    obtain rfl : i = L.length := by omega
    simp only [b121_0, k121_1, rows, go_sem, hlt', List.take_length]
    refine goG rfl (c152_ok (n := lensum L) (by omega)) rfl rfl ?_
    simp only [go_sem, FL, shiftO]
    refine mLoop (fun N st => ∃ (j : Nat), j ≤ L.length ∧ N = L.length - j ∧
      st = ⟨[(6, .arr 1 j), (25, rows L), (26, .int .i64 L.length), (27, .int .i64 j)], [⟨false, 3, 1, 0, 0, [], false⟩, ⟨false, 3, 1, j, lensum (L.take j), nums .i64 (L.take j).flatten, false⟩]⟩) L.length ⟨_, rfl, 0, by omega, by omega, by simp [getE, rows, lensum, nums]⟩ ?_
    rintro N s0 ⟨j, hj, rfl, rfl⟩
    by_cases hjl : j < L.length
    · have hjl' : (j : Int) < (L.length : Int) := by omega
      have hj0 : (0 : Int) ≤ (j : Int) := by omega
      have hj1 : IntKind.i64.wrap ((j : Int) + 1) = ((j + 1 : Nat) : Int) := by rw [wrap_i64 (by omega) (by omega)]; omega
      have hsub := sub_rows hjl
      have htk := take_snocL hjl
      have hle := lensum_take (L := L) (k := j + 1)
      have hsn : lensum (L.take (j + 1)) = lensum (L.take j) + (L.getD j []).length := by rw [htk, lensum_snoc]
      have e1 : (lensum (L.take j) + (L.getD j []).length) * 8 ≤ 140737488355328 := by omega
      have e2 : lensum (L.take j) + (L.getD j []).length ≤ 140737488355328 := by omega
      simp only [b121_1, rows, go_sem, hjl', hj0, Int.toNat_natCast, hsub, e1, e2, hj1]
      refine loopQ_go rfl (L.length - (j + 1)) (by omega) ⟨j + 1, by omega, rfl, ?_⟩
      rw [hsn, htk, List.flatten_append, List.flatten_cons, List.flatten_nil, List.append_nil, nums_append]
      rfl
    · have hjl' : ¬ (j : Int) < (L.length : Int) := by omega
      obtain rfl : j = L.length := by omega
      simp only [b121_1, k121_0, rows, go_sem, hjl', List.take_length]
      simp only [i121, OT, reduceIte, Nat.reduceEqDiff]
      rfl
theorem c69_ok {L : List (List Int)} (hL : (L.length : Int) ≤ 1000000000000) (hs : lensum L ≤ 1000000000000) : Go.V.Call tab E 69 [rows L] [] (ints L.flatten) [] := by
  refine Go.V.Call.mach i69 c69 rfl rfl rfl rfl ?_
  simp only [c69, rows, go_sem]
  refine goP (c121_ok hL hs) ?_
  simp only [go_sem]
  simp only [i69, OT, reduceIte, Nat.reduceEqDiff]
def whC (n : Bool) (p : Nat) : List AV := [us32 (limG p), .bool n]
def wcmp (n : Bool) (p : Nat) (m : Bool) (q : Nat) : Int := if n = true ∧ m = false then -1 else if n = false ∧ m = true then 1 else if n = true then cmpZ q p else cmpZ p q
theorem subW2 {a b : AV} : sub true 2 [a, b] 0 = some (.agg [a, b]) := rfl
theorem subW0 {a b : AV} : sub true 1 [a, b] 0 = some (.agg [a]) := rfl
theorem subW1 {a b : AV} : sub false 1 [a, b] 1 = some b := rfl
section
variable {E : CallRel}
theorem c129_ok {n : Bool} {p q : Nat} : Go.V.Call tab E 129 [.agg (ratG n p q)] [] (.agg (whC false (dn q))) [] := by
  refine Go.V.Call.mach i129 c129 rfl rfl rfl rfl ?_
  have h100 := c126_gen (E := E) (n := n) (p := p) (q := q)
  have h118 := c151_ok (E := E) (n := false) (p := dn q)
  simp only [ratG, natC, us32, Bool.false_and] at h100 h118
  simp only [c129, ratG, us32, go_sem, FL, subT3]
  refine goP h100 ?_
  simp only [us32, go_sem, FL]
  refine goP h118 ?_
  simp only [us32, go_sem, FL]
  simp only [i129, OT, reduceIte, Nat.reduceEqDiff, subW2, whC, us32]
theorem c128_ok {n m : Bool} {p q : Nat} (hp : (limG p).length ≤ 1000000) (hq : (limG q).length ≤ 1000000) : Go.V.Call tab E 128 [.agg (whC n p), .sl 1 2 (whC m q)] [] (.agg (whC ((n != m) && decide (p * q ≠ 0)) (p * q))) [] := by
  refine Go.V.Call.mach i128 c128 rfl rfl rfl rfl ?_
  have h133 := c158_ok (E := E) hp hq
  have h118 := c151_ok (E := E) (n := n != m) (p := p * q)
  have hb : boolV .ne (.bool n) (.bool m) = some (.bool (n != m)) := by cases n <;> cases m <;> rfl
  simp only [natC, us32] at h133 h118
  simp only [c128, whC, us32, go_sem, FL, subW2]
  refine mLoop (fun N st => ∃ (i : Nat) (b : Bool) (v : Nat), (i = 0 ∧ b = n ∧ v = p ∨ i = 1 ∧ b = ((n != m) && decide (p * q ≠ 0)) ∧ v = p * q) ∧ N = 1 - i ∧
    st = ⟨[(2, .loc 0 0 0), (4, .loc 2 0 0), (7, .sl 1 2 (whC m q)), (8, .int .i64 1), (9, .int .i64 i)], [⟨true, 96, 2, 0, 1, whC b v, false⟩, ⟨false, 191, 1, 0, 0, [], false⟩, ⟨true, 96, 2, 0, 1, [.arr 1 0, .bool false], false⟩]⟩) 1
    ⟨_, rfl, 0, n, p, .inl ⟨rfl, rfl, rfl⟩, by omega, by simp [getE, whC, us32]⟩ ?_
  rintro N s0 ⟨i, b, v, hiv, rfl, rfl⟩
  rcases hiv with ⟨rfl, rfl, rfl⟩ | ⟨rfl, rfl, rfl⟩
  · have hs2 : sub true 2 (whC m q) (0 * 2) = some (.agg (whC m q)) := rfl
    have hs2' : sub true 2 (whC m q) 0 = some (.agg (whC m q)) := rfl
    have w1 : IntKind.i64.wrap (0 + 1) = 1 := by decide
    have h01 : (0 : Int) < ((1 : Nat) : Int) := by omega
    simp only [whC, us32] at hs2 hs2'
    simp only [b128_0, whC, us32, go_sem, FL, subW2, subW0, subW1, h01, hs2, hs2']
    refine goF h133 ?_
    simp only [us32, go_sem, FL, subW2, subW0, subW1]
    refine goP h118 ?_
    simp only [us32, go_sem, FL, subW2, subW0, subW1, w1]
    exact loopQ_go rfl 0 (by omega) ⟨1, _, _, .inr ⟨rfl, rfl, rfl⟩, by omega, rfl⟩
  · have g : ¬ ((1 : Nat) : Int) < 1 := by omega
    simp only [b128_0, k128_0, whC, us32, go_sem, FL, subW2, subW0, subW1, Int.lt_irrefl, g]
    simp only [i128, OT, reduceIte, Nat.reduceEqDiff, subW2, whC, us32]
def rcmp (x y : Rt) : Int := wcmp ((x.1 != false) && decide (x.2.1 * dn y.2.2 ≠ 0)) (x.2.1 * dn y.2.2) ((y.1 != false) && decide (y.2.1 * dn x.2.2 ≠ 0)) (y.2.1 * dn x.2.2)
end
def RtRed (x : Rt) : Prop := RtOk x ∧ x.2.2 ≠ 0 ∧ Nat.gcd x.2.1 x.2.2 = 1 ∧ (x.1 = true → x.2.1 ≠ 0)
theorem wrap_u8 {n : Int} (h1 : 0 ≤ n) (h2 : n ≤ 255) : IntKind.u8.wrap n = n := by
  simp only [IntKind.wrap, IntKind.bits, IntKind.signed]
  simp
  omega
theorem tmodN (a b : Nat) : ((a : Nat) : Int).tmod ((b : Nat) : Int) = ((a % b : Nat) : Int) := by rw [Int.tmod_eq_emod_of_nonneg (Int.natCast_nonneg a), ← Int.natCast_emod]
theorem tdivN (a b : Nat) : ((a : Nat) : Int).tdiv ((b : Nat) : Int) = ((a / b : Nat) : Int) := by rw [Int.tdiv_eq_ediv_of_nonneg (Int.natCast_nonneg a), ← Int.natCast_ediv]
theorem tmod16 (a : Nat) : ((a : Nat) : Int).tmod 65536 = ((a % 65536 : Nat) : Int) := by rw [Int.tmod_eq_emod_of_nonneg (Int.natCast_nonneg a)]; omega
theorem tdiv16 (a : Nat) : ((a : Nat) : Int).tdiv 65536 = ((a / 65536 : Nat) : Int) := by rw [Int.tdiv_eq_ediv_of_nonneg (Int.natCast_nonneg a)]; omega
def gval (l : List Int) : Nat := l.foldl (fun a x => a * 1000000000 + x.toNat) 0
theorem gval_snoc {l : List Int} {x : Int} : gval (l ++ [x]) = gval l * 1000000000 + x.toNat := by simp [gval]
def R9 (l : List Int) : Prop := ∀ x ∈ l, 0 ≤ x ∧ x < 1000000000
theorem R9_nil : R9 [] := fun x hx => by simp at hx
theorem R9_snoc {l : List Int} {x : Int} (h : R9 l) (hx : 0 ≤ x ∧ x < 1000000000) : R9 (l ++ [x]) := fun y hy => by
  rcases List.mem_append.1 hy with h1 | h1
  · exact h y h1
  · simp at h1; subst h1; exact hx
def GrI (l : List Int) (i : Nat) (g : List Int) (n : Nat) : Prop := R9 g ∧ g.length ≤ i ∧ ∃ j, n < 10 ^ j ∧ j ≤ 8 ∧ sval (l.take i) = gval g * 10 ^ j + n ∧
  ((g ≠ [] ∧ (l.length - i + j) % 9 = 0) ∨ (g = [] ∧ j = i ∧ (l.length % 9 = 0 ∨ i < l.length % 9)))
theorem GrI.zero {l : List Int} : GrI l 0 [] 0 := ⟨R9_nil, by simp, 0, by simp, by omega, by simp [sval_nil, gval], .inr ⟨rfl, rfl, by omega⟩⟩
theorem GrI.small {l g : List Int} {i n : Nat} (h : GrI l i g n) : n < 100000000 := by
  obtain ⟨_, _, j, h1, h2, _⟩ := h
  have hp : 10 ^ j ≤ 100000000 := by simpa using Nat.pow_le_pow_right (n := 10) (i := j) (j := 8) (by omega) h2
  omega
theorem GrI.cut {l g : List Int} {i n d : Nat} (h : GrI l i g n) (hi : i < l.length) (hx : l.getD i 0 = 48 + (d : Int)) (hd : d ≤ 9) (hc : (l.length - i - 1) % 9 = 0) : GrI l (i + 1) (g ++ [((n * 10 + d : Nat) : Int)]) 0 := by
  obtain ⟨h0, hgl, j, h1, h2, h3, h4⟩ := h
  have hp : 10 ^ (j + 1) ≤ 1000000000 := by simpa using Nat.pow_le_pow_right (n := 10) (i := j + 1) (j := 9) (by omega) (by omega)
  rw [Nat.pow_succ] at hp
  have hs : sval (l.take (i + 1)) = 10 * sval (l.take i) + d := by rw [take_snoc hi, sval_snoc, hx]; omega
  refine ⟨R9_snoc h0 (by omega), by rw [List.length_append]; simp; omega, 0, by simp, by omega, ?_, .inl ⟨by simp, by omega⟩⟩
  rw [hs, h3, gval_snoc]
  rcases h4 with ⟨h4, h5⟩ | ⟨h4, h5, h6⟩
  · have hj : j = 8 := by omega
    subst hj
    simp only [Int.toNat_natCast, Nat.pow_zero, Nat.reducePow]
    omega
  · subst h4
    simp only [gval, List.foldl_nil, Int.toNat_natCast, Nat.pow_zero]
    omega
theorem GrI.go {l g : List Int} {i n d : Nat} (h : GrI l i g n) (hi : i < l.length) (hx : l.getD i 0 = 48 + (d : Int)) (hd : d ≤ 9) (hc : (l.length - i - 1) % 9 ≠ 0) : GrI l (i + 1) g (n * 10 + d) := by
  obtain ⟨h0, hgl, j, h1, h2, h3, h4⟩ := h
  have hs : sval (l.take (i + 1)) = 10 * sval (l.take i) + d := by rw [take_snoc hi, sval_snoc, hx]; omega
  refine ⟨h0, by omega, j + 1, by rw [Nat.pow_succ]; omega, ?_, ?_, ?_⟩
  · rcases h4 with ⟨h4, h5⟩ | ⟨h4, h5, h6⟩
    · by_cases hj : j = 8
      · subst hj; omega
      · omega
    · by_cases hj : j = 8
      · subst hj; omega
      · omega
  · rw [hs, h3, Nat.pow_succ, Nat.mul_add, ← Nat.mul_assoc, Nat.mul_comm 10, Nat.mul_assoc, Nat.mul_comm 10]
    omega
  · rcases h4 with ⟨h4, h5⟩ | ⟨h4, h5, h6⟩
    · exact .inl ⟨h4, by omega⟩
    · exact .inr ⟨h4, by omega, by omega⟩
theorem GrI.done {l g : List Int} {n : Nat} (h : GrI l l.length g n) : gval g = sval l := by
  obtain ⟨h0, hgl, j, h1, h2, h3, h4⟩ := h
  have hj : j = 0 := by rcases h4 with ⟨h4, h5⟩ | ⟨h4, h5, h6⟩ <;> omega
  subst hj
  rw [List.take_length] at h3
  simp at h1 h3
  omega
section
variable {E : CallRel}
theorem c187_ok {l : List Int} (hd : Dig l) (hll : l.length ≤ 1000000000) : ∃ g, R9 g ∧ gval g = sval l ∧ g.length ≤ l.length ∧ Go.V.Call tab E 187 [.str (bs l)] [] (.sl g.length 1 (nums .i64 g)) [] := by
  suffices h : Mach (Go.V.Call tab E) (fun x st => ∃ g, (R9 g ∧ gval g = sval l ∧ g.length ≤ l.length) ∧ Fin i187 [] (.sl g.length 1 (nums .i64 g)) [] x st) [.code c187] .nrm ⟨argsE 0 [.str (bs l)], []⟩ by
    obtain ⟨x, st, h1, h4⟩ := wp_exec h
    rw [mNil] at h4
    obtain ⟨g, ⟨g1, g2, g3⟩, h2⟩ := h4
    exact ⟨g, g1, g2, g3, Go.V.Call.go i187 c187 rfl rfl rfl rfl (exec_wp h1 h2)⟩
  simp only [c187, go_sem, bs_size]
  refine mLoop (fun N st => ∃ (i : Nat) (g : List Int) (n : Nat), i ≤ l.length ∧ N = l.length - i ∧ GrI l i g n ∧
    st = ⟨[(0, .str (bs l)), (3, .arr 1 g.length), (4, .int .i64 n), (5, .int .i64 ((l.length - i : Nat) : Int)), (6, .int .i64 i)], [⟨false, 3, 1, 0, 0, [], false⟩, ⟨false, 3, 1, g.length, g.length, nums .i64 g, false⟩]⟩) l.length
    ⟨_, rfl, 0, [], 0, by omega, by omega, GrI.zero, by simp [getE, nums]⟩ ?_
  rintro N s0 ⟨i, g, n, hi, rfl, hg, rfl⟩
  by_cases hlt : i < l.length
  · have hlt' : (i : Int) < (l.length : Int) := by omega
    have hi0 : (0 : Int) ≤ (i : Int) := by omega
    have hi1 : IntKind.i64.wrap ((i : Int) + 1) = ((i + 1 : Nat) : Int) := by rw [wrap_i64 (by omega) (by omega)]; omega
    have hgb := bs_getK hlt
    have hmem : l.getD i 0 ∈ l := by simp [List.getD, hlt]
    have hx := hd _ hmem
    obtain ⟨d, hxd, hd9⟩ : ∃ d : Nat, l.getD i 0 = 48 + (d : Int) ∧ d ≤ 9 := ⟨(l.getD i 0 - 48).toNat, by omega, by omega⟩
    have hu8 := u8n (x := 48 + (d : Int)) (by omega)
    rw [hxd] at hgb
    have hs := hg.small
    have w1 : IntKind.i64.wrap ((n : Int) * 10) = (n : Int) * 10 := wrap_i64 (by omega) (by omega)
    have w2 : IntKind.u8.wrap (48 + (d : Int) - 48) = (d : Int) := by rw [wrap_u8 (by omega) (by omega)]; omega
    have w3 : IntKind.i64.wrap (d : Int) = (d : Int) := wrap_i64 (by omega) (by omega)
    have w4 : IntKind.i64.wrap ((n : Int) * 10 + (d : Int)) = ((n * 10 + d : Nat) : Int) := by rw [wrap_i64 (by omega) (by omega)]; omega
    have w5 : IntKind.i64.wrap (((l.length - i : Nat) : Int) - 1) = ((l.length - (i + 1) : Nat) : Int) := by rw [wrap_i64 (by omega) (by omega)]; omega
    have w6 : (((l.length - (i + 1) : Nat) : Int)).tmod 9 = (((l.length - (i + 1)) % 9 : Nat) : Int) := tmodN _ 9
    have q9 : ¬ ((9 : Int) = 0) := by decide
    by_cases hc : (l.length - i - 1) % 9 = 0
    · have hc' : ((((l.length - (i + 1)) % 9 : Nat) : Int) == 0) = true := by rw [beq_iff_eq]; omega
      have hgl := hg.2.1
      have e1 : (g.length + 1) * 8 ≤ 140737488355328 := by omega
      have e2 : g.length + 1 ≤ 140737488355328 := by omega
      have hcut := hg.cut hlt hxd hd9 hc
      simp only [b187_0, go_sem, bs_size, hlt', hi0, Int.toNat_natCast, hgb, hu8, hxd, hi1, w1, w2, w3, w4, w5, w6, q9, hc', e1, e2, List.flatten_cons, List.flatten_nil, Option.getD_some]
      refine loopQ_go rfl (l.length - (i + 1)) (by omega) ⟨i + 1, _, 0, by omega, rfl, hcut, ?_⟩
      simp only [nums, List.map_append, List.map_cons, List.map_nil, List.length_append, List.length_cons, List.length_nil]
      rfl
    · have hc' : ((((l.length - (i + 1)) % 9 : Nat) : Int) == 0) = false := by rw [beq_eq_false_iff_ne]; omega
      have hcut := hg.go hlt hxd hd9 hc
      simp only [b187_0, go_sem, bs_size, hlt', hi0, Int.toNat_natCast, hgb, hu8, hxd, hi1, w1, w2, w3, w4, w5, w6, q9, hc']
      exact loopQ_go rfl (l.length - (i + 1)) (by omega) ⟨i + 1, _, _, by omega, rfl, hcut, rfl⟩
  · have hlt' : ¬ (i : Int) < (l.length : Int) := by omega
    obtain rfl : i = l.length := by omega
    simp only [b187_0, k187_0, go_sem, bs_size, hlt', Int.lt_irrefl]
    refine ⟨g, ⟨hg.1, hg.done, hg.2.1⟩, ?_⟩
    simp only [i187, OT, reduceIte, Nat.reduceEqDiff]
def bl (n : Nat) : Nat := if h : n = 0 then 0 else bl (n / 2) + 1
  termination_by n
  decreasing_by exact Nat.div_lt_self (Nat.pos_of_ne_zero h) (by omega)
theorem bl_zero : bl 0 = 0 := by rw [bl]; rfl
theorem bl_pos {n : Nat} (h : n ≠ 0) : bl n = bl (n / 2) + 1 := by rw [bl, dif_neg h]
theorem bl_shift : ∀ {k n : Nat}, 2 ^ k ≤ n → bl n = k + bl (n / 2 ^ k)
  | 0, n, _ => by simp
  | k + 1, n, h => by
    have hp : 0 < 2 ^ k := Nat.pow_pos (by omega)
    rw [Nat.pow_succ] at h
    have h1 : 2 ^ k ≤ n / 2 := by omega
    rw [bl_pos (by omega), bl_shift h1, Nat.div_div_eq_div_mul, Nat.pow_succ, Nat.mul_comm 2]
    omega
theorem bl_le : ∀ {k n : Nat}, n < 2 ^ k → bl n ≤ k
  | 0, n, h => by
    have : n = 0 := by simpa using h
    subst this; rw [bl_zero]; omega
  | k + 1, n, h => by
    by_cases h0 : n = 0
    · subst h0; rw [bl_zero]; omega
    · rw [bl_pos h0]
      have := bl_le (k := k) (n := n / 2) (by rw [Nat.pow_succ] at h; omega)
      omega
theorem bl_limG : ∀ {m v : Nat}, v ≤ m → (bl v + 31) / 32 = (limG v).length := by
  intro m
  induction m with
  | zero => intro v h; obtain rfl : v = 0 := by omega
            rw [bl_zero, limG_zero]; rfl
  | succ m ih =>
    intro v h
    by_cases h0 : v = 0
    · subst h0; rw [bl_zero, limG_zero]; rfl
    · rw [limG_pos h0, List.length_cons]
      by_cases hb : 4294967296 ≤ v
      · have := bl_shift (k := 32) (n := v) (by simpa using hb)
        rw [show (2 : Nat) ^ 32 = 4294967296 from rfl] at this
        rw [this, ← ih (by omega)]
        omega
      · rw [show v / 4294967296 = 0 by omega, limG_zero]
        have h1 := bl_le (k := 32) (n := v) (by simp; omega)
        have h2 := bl_pos h0
        simp
        omega
def PassI (l : List Int) (k : Nat) (q : List Int) (r : Nat) : Prop := R9 q ∧ q.length ≤ k ∧ r < 65536 ∧ gval (l.take k) = 65536 * gval q + r ∧ (q ≠ [] → 0 < gval q)
theorem PassI.zero {l : List Int} : PassI l 0 [] 0 := ⟨R9_nil, by simp, by omega, by simp [gval], fun h => absurd rfl h⟩
theorem gval_take {l : List Int} {k : Nat} (h : k < l.length) : gval (l.take (k + 1)) = gval (l.take k) * 1000000000 + (l.getD k 0).toNat := by rw [take_snoc h, gval_snoc]
theorem PassI.add {l q : List Int} {k r x : Nat} (h : PassI l k q r) (hk : k < l.length) (hx : l.getD k 0 = (x : Int)) (hx9 : x < 1000000000) (hc : q ≠ [] ∨ 0 < (r * 1000000000 + x) / 65536) :
    PassI l (k + 1) (q ++ [(((r * 1000000000 + x) / 65536 : Nat) : Int)]) ((r * 1000000000 + x) % 65536) := by
  obtain ⟨h0, h1, h2, h3, h4⟩ := h
  refine ⟨R9_snoc h0 (by omega), by rw [List.length_append]; simp; omega, by omega, ?_, fun _ => ?_⟩
  · rw [gval_take hk, gval_snoc, h3, hx, Int.toNat_natCast, Int.toNat_natCast]
    omega
  · rw [gval_snoc, Int.toNat_natCast]
    by_cases hq : q = []
    · rcases hc with hc | hc
      · exact absurd hq hc
      · omega
    · have := h4 hq; omega
theorem PassI.skip {l : List Int} {k r x : Nat} (h : PassI l k [] r) (hk : k < l.length) (hx : l.getD k 0 = (x : Int)) (hc : ¬ 0 < (r * 1000000000 + x) / 65536) :
    PassI l (k + 1) [] ((r * 1000000000 + x) % 65536) := by
  obtain ⟨h0, h1, h2, h3, h4⟩ := h
  refine ⟨h0, by simp, by omega, ?_, fun h => absurd rfl h⟩
  have h0 : gval [] = 0 := rfl
  rw [h0] at h3
  rw [gval_take hk, hx, Int.toNat_natCast, h0]
  omega
theorem pass_facts {r x : Nat} (hr : r < 65536) (hx : x < 1000000000) : IntKind.i64.wrap ((r : Int) * 1000000000) = (r : Int) * 1000000000 ∧
    IntKind.i64.wrap ((r : Int) * 1000000000 + (x : Int)) = ((r * 1000000000 + x : Nat) : Int) ∧
    IntKind.i64.wrap (((r * 1000000000 + x) / 65536 : Nat) : Int) = (((r * 1000000000 + x) / 65536 : Nat) : Int) := by
  refine ⟨wrap_i64 (by omega) (by omega), ?_, ?_⟩
  · rw [wrap_i64 (by omega) (by omega)]; omega
  · have hT : (r * 1000000000 + x) / 65536 < 1000000000 := by omega
    generalize (r * 1000000000 + x) / 65536 = T at hT
    exact wrap_i64 (by omega) (by omega)
def PB (v m : Nat) : Prop := v < 65536 ^ m
theorem PB.step {v m i : Nat} (h : PB v (m - i)) (hi : i < m) (hq : 0 < v / 65536) : PB (v / 65536) (m - (i + 1)) ∧ i + 1 < m := by
  unfold PB at h ⊢
  have h1 : v / 65536 < 65536 ^ (m - (i + 1)) := by
    rw [show m - i = (m - (i + 1)) + 1 by omega, Nat.pow_succ] at h
    rw [Nat.div_lt_iff_lt_mul (by omega)]
    exact h
  refine ⟨h1, ?_⟩
  by_cases hc : i + 1 < m
  · exact hc
  · rw [show m - (i + 1) = 0 by omega, Nat.pow_zero] at h1
    clear h
    omega
theorem c168_ok {l : List Int} (hd : Dig l) (hll : l.length ≤ 1000000000) {m : Nat} (hm0 : 0 < m) (hm : m ≤ 10000) (hV : sval l < 65536 ^ m) : Go.V.Call tab E 168 [.str (bs l)] [] (.int .i64 ((bl (sval l) : Nat) : Int)) [] := by
  obtain ⟨g, g1, g2, g3, h141⟩ := c187_ok (E := E) hd hll
  refine Go.V.Call.mach i168 c168 rfl rfl rfl rfl ?_
  simp only [c168, go_sem]
  refine goP h141 ?_
  simp only [go_sem]
  refine mLoop (fun N st => ∃ (i : Nat) (g : List Int), i < m ∧ N = m - i ∧ R9 g ∧ g.length ≤ 1000000000 ∧ PB (gval g) (m - i) ∧ bl (sval l) = 16 * i + bl (gval g) ∧
    st = ⟨[(3, .sl g.length 1 (nums .i64 g)), (4, .int .i64 ((16 * i : Nat) : Int)), (5, .int .i64 i)], []⟩) m
    ⟨_, rfl, 0, g, by omega, by omega, g1, by omega, by rw [g2]; exact hV, by rw [g2]; omega, by simp [getE]⟩ ?_
  clear hV
  rintro N s0 ⟨i, g, hi, rfl, hR, hgl, hlt, hb, rfl⟩
  have hi' : (i : Int) < 10000 := by omega
  simp only [b168_0, go_sem, hi']
  refine mLoop (fun N st => ∃ (k : Nat) (q : List Int) (r : Nat), k ≤ g.length ∧ N = g.length - k ∧ PassI g k q r ∧
    st = ⟨[(3, .sl g.length 1 (nums .i64 g)), (4, .int .i64 ((16 * i : Nat) : Int)), (5, .int .i64 i), (6, .arr 0 q.length), (7, .int .i64 r), (8, .int .i64 k)], [⟨false, 3, 1, q.length, q.length, nums .i64 q, false⟩]⟩) g.length
    ⟨_, rfl, 0, [], 0, by omega, by omega, PassI.zero, by simp [getE, nums]⟩ ?_
  rintro N s0 ⟨k, q, r, hk, rfl, hp, rfl⟩
  by_cases hkl : k < g.length
  · have hkl' : (k : Int) < (g.length : Int) := by omega
    have hk0 : (0 : Int) ≤ (k : Int) := by omega
    have hk1 : IntKind.i64.wrap ((k : Int) + 1) = ((k + 1 : Nat) : Int) := by rw [wrap_i64 (by omega) (by omega)]; omega
    have hN : g.length - (k + 1) < g.length - k := by omega
    have hsub := sub_nums (k := .i64) hkl
    have hx9 := hR (g.getD k 0) (by simp [List.getD, hkl])
    obtain ⟨x, hx⟩ : ∃ x : Nat, g.getD k 0 = (x : Int) := ⟨(g.getD k 0).toNat, by omega⟩
    have hr := hp.2.2.1
    have hql := hp.2.1
    have e1 : (q.length + 1) * 8 ≤ 140737488355328 := by omega
    have e2 : q.length + 1 ≤ 140737488355328 := by omega
    have hx9' : x < 1000000000 := by omega
    obtain ⟨w1, w2, w5⟩ := pass_facts hr hx9'
    have w3 := tmod16 (r * 1000000000 + x)
    have w4 := tdiv16 (r * 1000000000 + x)
    have qn : ¬ ((65536 : Int) = 0) := by decide
    by_cases hq : q = []
    · subst hq
      have hq1 : ¬ (0 : Int) < (([] : List Int).length : Int) := by simp
      by_cases hc : 0 < (r * 1000000000 + x) / 65536
      · have hc' : (0 : Int) < (((r * 1000000000 + x) / 65536 : Nat) : Int) := Int.natCast_pos.2 hc
        have hadd := hp.add hkl hx hx9' (.inr hc)
        simp only [b168_1, go_sem, hkl', hk0, hsub, hx, Int.toNat_natCast, w1, w2, w3, w4, w5, qn, hk1, hc', e1, e2, List.flatten_cons, List.flatten_nil, Option.getD_some, Int.lt_irrefl, Int.ofNat_zero]
        refine loopQ_go rfl (g.length - (k + 1)) hN ⟨k + 1, _, _, hkl, rfl, hadd, ?_⟩
        simp only [nums, List.map_append, List.map_cons, List.map_nil, List.length_append, List.length_cons, List.length_nil]
        rfl
      · have hc' : ¬ (0 : Int) < (((r * 1000000000 + x) / 65536 : Nat) : Int) := fun h => hc (Int.natCast_pos.1 h)
        have hadd := hp.skip hkl hx hc
        simp only [b168_1, go_sem, hkl', hk0, hsub, hx, Int.toNat_natCast, w1, w2, w3, w4, w5, qn, hk1, hc', e1, e2, List.flatten_cons, List.flatten_nil, Option.getD_some, Int.lt_irrefl, Int.ofNat_zero]
        exact loopQ_go rfl (g.length - (k + 1)) hN ⟨k + 1, _, _, hkl, rfl, hadd, rfl⟩
    · have hq0 : q.length ≠ 0 := fun h => hq (List.length_eq_zero_iff.1 h)
      have hq1 : (0 : Int) < (q.length : Int) := by clear w1 w2 w3 w4 w5; omega
      have hadd := hp.add hkl hx hx9' (.inl hq)
      simp only [b168_1, go_sem, hkl', hk0, hsub, hx, Int.toNat_natCast, w1, w2, w3, w4, w5, qn, hk1, hq1, e1, e2, List.flatten_cons, List.flatten_nil, Option.getD_some]
      refine loopQ_go rfl (g.length - (k + 1)) hN ⟨k + 1, _, _, hkl, rfl, hadd, ?_⟩
      simp only [nums, List.map_append, List.map_cons, List.map_nil, List.length_append, List.length_cons, List.length_nil]
      rfl
  · have hkl' : ¬ (k : Int) < (g.length : Int) := by omega
    obtain rfl : k = g.length := by omega
    obtain ⟨p1, p2, p3, p4, p5⟩ := hp
    rw [List.take_length] at p4
    by_cases hq : q = []
    · subst hq
      have hq1 : (((([] : List Int).length : Nat) : Int) == 0) = true := rfl
      have hgr : gval g = r := by rw [p4]; simp [gval]
      have hbr : bl r ≤ 16 := bl_le (by simpa using p3)
      simp only [b168_1, k168_2, go_sem, hkl', hq1, Int.ofNat_zero, Int.lt_irrefl]
      refine mLoop (fun N st => ∃ (r' n : Nat), N = r' ∧ r' < 65536 ∧ n + bl r' = 16 * i + bl r ∧ st = ⟨[(4, .int .i64 n), (7, .int .i64 r')], [⟨false, 3, 1, 0, 0, [], false⟩]⟩) r
        ⟨_, rfl, r, 16 * i, rfl, p3, rfl, by simp [getE, nums]⟩ ?_
      rintro N s0 ⟨r', n, rfl, hr', hn, rfl⟩
      by_cases h0 : N = 0
      · subst h0
        have h0' : ¬ (0 : Int) < ((0 : Nat) : Int) := by omega
        rw [bl_zero] at hn
        simp only [b168_2, k168_0, go_sem, h0', Int.ofNat_zero, Int.lt_irrefl]
        have hfin : bl (sval l) = n := by rw [hb, hgr]; omega
        simp only [i168, OT, reduceIte, Nat.reduceEqDiff, hfin]
      · have h0' : (0 : Int) < ((N : Nat) : Int) := by omega
        have w1 : ((N : Nat) : Int).tdiv 2 = ((N / 2 : Nat) : Int) := tdivN _ 2
        have w2 : IntKind.i64.wrap ((N / 2 : Nat) : Int) = ((N / 2 : Nat) : Int) := wrap_i64 (by omega) (by omega)
        have hbn : bl N ≤ 16 := bl_le (by simpa using hr')
        have w3 : IntKind.i64.wrap ((n : Int) + 1) = ((n + 1 : Nat) : Int) := by rw [wrap_i64 (by omega) (by omega)]; omega
        rw [bl_pos h0] at hn
        have q2 : ¬ ((2 : Int) = 0) := by decide
        simp only [b168_2, go_sem, h0', w1, w2, w3, q2]
        exact loopQ_go rfl (N / 2) (by omega) ⟨N / 2, n + 1, rfl, by omega, by omega, rfl⟩
    · have hq0 : q.length ≠ 0 := fun h => hq (List.length_eq_zero_iff.1 h)
      have hq1 : ((q.length : Int) == 0) = false := by rw [beq_eq_false_iff_ne]; omega
      have hqp := p5 hq
      have hdiv : gval q = gval g / 65536 := by omega
      obtain ⟨hpow, him⟩ := hlt.step hi (by rw [← hdiv]; exact hqp)
      rw [← hdiv] at hpow
      have hbl := bl_shift (k := 16) (n := gval g) (by simp; omega)
      rw [show (2 : Nat) ^ 16 = 65536 from rfl, ← hdiv] at hbl
      have w1 : IntKind.i64.wrap (((16 * i : Nat) : Int) + 16) = ((16 * (i + 1) : Nat) : Int) := by rw [wrap_i64 (by omega) (by omega)]; omega
      have w2 : IntKind.i64.wrap ((i : Int) + 1) = ((i + 1 : Nat) : Int) := by rw [wrap_i64 (by omega) (by omega)]; omega
      simp only [b168_1, k168_2, k168_1, k168_3, go_sem, hkl', hq1, w1, w2, Int.lt_irrefl]
      refine loopQ_go (by simp only [headOf, keepOne, go_sem, List.contains_cons, Nat.reduceBEq, Bool.or_false, Bool.false_or]; exact if_pos rfl) (m - (i + 1)) (by omega) ⟨i + 1, q, him, rfl, p1, by omega, hpow, by omega, rfl⟩
theorem c136_ok {l : List Int} (hd : Dig l) (hll : l.length ≤ 1000000000) {m : Nat} (hm0 : 0 < m) (hm : m ≤ 10000) (hV : sval l < 65536 ^ m) : Go.V.Call tab E 136 [.str (bs l)] [] (.int .i64 (((limG (sval l)).length : Nat) : Int)) [] := by
  refine Go.V.Call.mach i136 c136 rfl rfl rfl rfl ?_
  have hb : bl (sval l) ≤ 160000 := by
    have : bl (sval l) ≤ 16 * m := bl_le (by rw [Nat.pow_mul]; exact hV)
    omega
  have hlm := bl_limG (Nat.le_refl (sval l))
  have w1 : IntKind.i64.wrap (((bl (sval l) : Nat) : Int) + 31) = ((bl (sval l) + 31 : Nat) : Int) := by rw [wrap_i64 (by omega) (by omega)]; omega
  have w2 : (((bl (sval l) + 31 : Nat) : Int)).tdiv 32 = (((limG (sval l)).length : Nat) : Int) := by rw [← hlm]; exact tdivN _ 32
  have w3 : IntKind.i64.wrap (((limG (sval l)).length : Nat) : Int) = (((limG (sval l)).length : Nat) : Int) := wrap_i64 (by omega) (by omega)
  simp only [c136, go_sem]
  refine goP (c168_ok hd hll hm0 hm hV) ?_
  have q32 : ¬ ((32 : Int) = 0) := by decide
  simp only [go_sem, w1, w2, w3, q32]
  simp only [i136, OT, reduceIte, Nat.reduceEqDiff]
end
section
variable {E : CallRel}
end
theorem subT2 {a b c : AV} : sub true 2 [a, b, c] 0 = some (.agg [a, b]) := rfl
theorem subT1' {a b c : AV} : sub true 1 [a, b, c] 0 = some (.agg [a]) := rfl
def wint (n : Bool) (p : Nat) : Option Int := if n = true then (if p ≤ 9223372036854775808 then some (-(p : Int)) else none) else if p < 9223372036854775808 then some (p : Int) else none
def rint (x : Rt) : Option Int := if dn x.2.2 = 1 then wint x.1 x.2.1 else none
section
variable {E : CallRel}
theorem c125_ok {n : Nat} : Go.V.Call tab E 125 [natC n] [] (.int .i64 (((limG n).length : Nat) : Int)) [] := by
  refine Go.V.Call.mach i125 c125 rfl rfl rfl rfl ?_
  simp only [c125, natC, us32, go_sem, sub, FL]
  simp only [i125, OT, reduceIte, Nat.reduceEqDiff]
def rlimbs (x : Rt) : Nat := max (limG x.2.1).length (limG (dn x.2.2)).length
theorem c73_ok {x : Rt} : Go.V.Call tab E 73 [.agg (rtC x)] [] (.int .i64 ((rlimbs x : Nat) : Int)) [] := by
  obtain ⟨n, p, q⟩ := x
  refine Go.V.Call.mach i73 c73 rfl rfl rfl rfl ?_
  have h104 := c125_ok (E := E) (n := p)
  have h104' := c125_ok (E := E) (n := dn q)
  have h100 := c126_gen (E := E) (n := n) (p := p) (q := q)
  simp only [natC, ratG, us32] at h104 h104' h100
  have hmx : (if ((limG p).length : Int) < ((limG (dn q)).length : Int) then ((limG (dn q)).length : Int) else ((limG p).length : Int)) = ((rlimbs (n, p, q) : Nat) : Int) := by
    simp only [rlimbs, Nat.max_def]
    split <;> split <;> omega
  simp only [c73, rtC, ratG, us32, go_sem, subT3, subT1', FL]
  refine goP h104 ?_
  simp only [go_sem, subT3]
  refine goP h100 ?_
  simp only [go_sem]
  refine goP h104' ?_
  simp only [go_sem, hmx]
  simp only [i73, OT, reduceIte, Nat.reduceEqDiff]
def wdC (n : Bool) (p : Nat) : List AV := [.bool n, .str (dec p)]
theorem subD2 {a b : AV} : sub true 2 [a, b] 0 = some (.agg [a, b]) := rfl
theorem subD0 {a b : AV} : sub false 1 [a, b] 0 = some a := rfl
theorem subD1 {a b : AV} : sub false 1 [a, b] 1 = some b := rfl
theorem subN0 {a b c : AV} : sub false 1 [a, b, c] 0 = some a := rfl
theorem subN1 {a b c : AV} : sub false 1 [a, b, c] 1 = some b := rfl
theorem subN2 {a b c : AV} : sub false 1 [a, b, c] 2 = some c := rfl
theorem dec_zero : dec 0 = ⟨#[48]⟩ := rfl
theorem dec_one : dec 1 = ⟨#[49]⟩ := by rw [dec_eq, decL_digit (by omega)]; rfl
theorem dec_ne {a b : Nat} : strOp .ne (dec a) (dec b) = some (.bool (!decide (a = b))) := by
  rw [dec_eq, dec_eq]
  simp only [strOp, str_eq (decL_dig a).u8 (decL_dig b).u8]
  congr 3
  by_cases h : a = b
  · subst h; simp
  · rw [decide_eq_false h, decide_eq_false]
    intro hh
    exact h (by rw [← sval_decL a, hh, sval_decL])
theorem c182_ok {n : Bool} {p : Nat} (hp : (decL p).length ≤ 1000000000) : Go.V.Call tab E 182 [.bool n, .str (dec p)] [] (.agg (wdC (n && decide (p ≠ 0)) p)) [] := by
  refine Go.V.Call.mach i182 c182 rfl rfl rfl rfl ?_
  have h120 := c146_dig (E := E) (decL_dig p) (decL_ne p) hp
  rw [sval_decL, ← dec_eq] at h120
  have hne := dec_ne (a := p) (b := 0)
  rw [dec_zero] at hne
  have hd : (!decide (p = 0)) = decide (p ≠ 0) := by simp
  simp only [c182, go_sem, FL]
  refine goP h120 ?_
  cases n with
  | true =>
    simp only [go_sem, FL, hne, hd]
    simp only [i182, OT, reduceIte, Nat.reduceEqDiff, subD2, wdC, Bool.true_and]
  | false =>
    simp only [go_sem, FL]
    simp only [i182, OT, reduceIte, Nat.reduceEqDiff, subD2, wdC, Bool.false_and]
theorem c165_ok {x : Rt} (hp : (decL x.2.1).length ≤ 1000000000) : Go.V.Call tab E 165 [.agg (numG x.1 x.2.1 (dn x.2.2))] [] (.agg (wdC (x.1 && decide (x.2.1 ≠ 0)) x.2.1)) [] := by
  refine Go.V.Call.mach i165 c165 rfl rfl rfl rfl ?_
  have h := c182_ok (E := E) (n := x.1) hp
  simp only [c165, numG, go_sem, FL, subN0, subN1]
  refine goP h ?_
  simp only [wdC, go_sem, FL]
  simp only [i165, OT, reduceIte, Nat.reduceEqDiff, subD2, wdC]
theorem c84_ok {x : Rt} {m : Nat} (hm0 : 0 < m) (hm : m ≤ 10000) (hp : (decL x.2.1).length ≤ 1000000000) (hq : (decL (dn x.2.2)).length ≤ 1000000000) (hV : x.2.1 < 65536 ^ m) (hW : dn x.2.2 < 65536 ^ m) :
    Go.V.Call tab E 84 [.agg (numG x.1 x.2.1 (dn x.2.2))] [] (.int .i64 ((rlimbs x : Nat) : Int)) [] := by
  refine Go.V.Call.mach i84 c84 rfl rfl rfl rfl ?_
  have h1 := c136_ok (E := E) (decL_dig x.2.1) hp hm0 hm (by rw [sval_decL]; exact hV)
  have h2 := c136_ok (E := E) (decL_dig (dn x.2.2)) hq hm0 hm (by rw [sval_decL]; exact hW)
  rw [sval_decL, ← dec_eq] at h1 h2
  simp only [c84, numG, go_sem, FL, subN1, subN2]
  refine goP h1 ?_
  simp only [go_sem, subN1, subN2]
  refine goP h2 ?_
  by_cases h : (limG (dn x.2.2)).length < (limG x.2.1).length
  · have h' : ((limG (dn x.2.2)).length : Int) < ((limG x.2.1).length : Int) := by omega
    have hr : rlimbs x = (limG x.2.1).length := by rw [rlimbs, Nat.max_def, if_neg (by omega)]
    simp only [go_sem, h']
    simp only [i84, OT, reduceIte, Nat.reduceEqDiff, hr]
  · have h' : ¬ ((limG (dn x.2.2)).length : Int) < ((limG x.2.1).length : Int) := by omega
    have hr : rlimbs x = (limG (dn x.2.2)).length := by rw [rlimbs, Nat.max_def, if_pos (by omega)]
    simp only [go_sem, h']
    simp only [i84, OT, reduceIte, Nat.reduceEqDiff, hr]
end
end Go.Proofs.YtlejgleocnemoaaGreat.I

namespace Go.Proofs.YtlejgleocnemoaaGreat.I
open Go Go.V
attribute [local go_sem] mNil nat0 beq_self_eq_true mSkip mRet mExit mReg mSeq mCond mTrue mFalse mBlock mLv mCodeE mCodeR mEndN mEndR mEndE mOps mSome mGuard mGtt mGff mGtf mGft mGu mCallP mCallR mCallF mCallO mCallZ mCallG mCallM mCallV loopQ_exit loopQ_ret mO_mov mO_newnil mO_pick mO_alloc mO_box mO_build mO_bsl mO_bslF mO_newnilB mO_bslB mO_lenB mO_appB mO_allocA mO_bslA mO_appA mO_ldb mO_faddrb mRsv mO_ldf mO_ld mO_st mO_sta mO_nilchk mO_bin mO_binb mO_binp mO_bins mO_neg mO_com mO_not mO_conv mO_mk mO_mk0 mO_mkB mO_s2b mO_b2s mO_cpy mO_cut mO_faddr mO_fld mO_iaddr mO_iaddrf mO_sidx mO_len mO_lenf mO_slen mO_scut mO_app mO_ext mO_mx mO_mn mO_mkfn evalOp cutOp argsE ev getE putE cellsOf adopt rowOf binV boolV nilV ar_add ar_sub ar_mul ar_quo ar_rem ar_eq ar_ne ar_lt ar_le ar_gt ar_ge ar_and ar_or ar_xor geto bound finRet finNrm ints List.length_cons List.length_nil List.length_append List.getElem?_cons_zero List.getElem?_cons_succ List.nil_append List.cons_append List.map_cons List.map_nil List.mapM_cons List.mapM_nil Option.map_some Option.map_none Option.bind_some Option.pure_def Option.bind_eq_bind List.drop_zero or_self or_false false_or or_true true_or true_and and_true and_self decide_true decide_false Bool.false_eq_true Bool.true_eq_false Bool.not_true Bool.not_false Nat.le_refl eq_self gt_iff_lt ge_iff_le ne_eq not_true_eq_false not_false_eq_true storeOp apartOf freeze_nil refsL refs List.flatMap_cons List.flatMap_nil List.append_nil List.contains_nil List.set_cons_zero List.set_cons_succ snap snapL fill_nums flat_nums nums_length Go.V.freeze List.mapIdx_cons List.mapIdx_nil List.contains_cons Bool.or_false Bool.false_or Bool.or_true Bool.true_or
def rv (x : Rt) : Int := (rint x).getD 0
def WhO (l : List Rt) : Prop := ∀ x ∈ l, (rint x).isSome = true
theorem RtOk.len {x : Rt} (h : RtOk x) : (decL x.2.1).length ≤ 1000000000 ∧ (decL (dn x.2.2)).length ≤ 1000000000 := ⟨Nat.le_trans (lim2000_len h.1) (by omega), Nat.le_trans (lim2000_len h.2) (by omega)⟩
def lmax (l : List Rt) : Nat := l.foldl (fun a x => max a (rlimbs x)) 0
def rbytes (x : Rt) : Nat := 8 + 4 * ((limG x.2.1).length + (limG (dn x.2.2)).length)
def bsum (l : List Rt) : Nat := l.foldl (fun a x => a + rbytes x) 0
def runeAt (t : List Int) (k : Int) : Int := if 0 ≤ k ∧ k < t.length then t.getD k.toNat 0 else 0
theorem c58_ok {s t : List Int} {l : List Rt} {ch : Bool} : Go.V.Call tab E 58 [.agg (arrX s ch t l)] [] (.bool ch) [] := by
  refine Go.V.Call.mach i58 c58 rfl rfl rfl rfl ?_
  simp only [c58, arrX, runes, go_sem, ↓reduceIte, Nat.reduceEqDiff, Nat.reduceAdd, Nat.reduceMul, Nat.reduceLeDiff, Nat.reduceLT, Int.reduceToNat, Int.reduceLT, Int.reduceLE, reduceCtorEq, Nat.reduceBEq, subX1, FL]
  simp only [i58, OT, reduceIte, Nat.reduceEqDiff]
theorem c117_X {l : List Rt} (hl : (l.length : Int) ≤ 1000000000000) : Go.V.Call tab E 117 [.sl l.length 3 (rtsC l)] [] (.arr 0 0) [⟨false, 98, 3, 0, l.length, rtsC l, false⟩] := by
  refine ⟨0, ?_⟩
  have h1 : l.length * 56 ≤ 140737488355328 := by omega
  have h2 : l.length ≤ 140737488355328 := by omega
  simp only [CallN, E, ext, cloneOf, h1, h2, and_self, if_true]
def roomX (s t : List Int) (l : List Rt) : Nat := 16 + 4 * s.length + t.length + bsum l
end Go.Proofs.YtlejgleocnemoaaGreat.I

namespace Go.Proofs.YtlejgleocnemoaaGreat.I
open Go Go.V
theorem sgn_mul {a b : Int} : decide (a * b < 0) = ((decide (a < 0) != decide (b < 0)) && decide (a.natAbs * b.natAbs ≠ 0)) := by
  by_cases ha : a < 0
  · by_cases hb : b < 0
    · have h1 := Int.mul_pos_of_neg_of_neg ha hb
      rw [decide_eq_true ha, decide_eq_true hb, decide_eq_false (show ¬ a * b < 0 by omega)]
      rfl
    · rw [decide_eq_true ha, decide_eq_false hb]
      by_cases h0 : b = 0
      · subst h0; simp
      · have h1 := Int.mul_neg_of_neg_of_pos ha (show 0 < b by omega)
        rw [decide_eq_true h1, decide_eq_true (Nat.mul_ne_zero (by omega) (by omega))]
        rfl
  · rw [decide_eq_false ha]
    by_cases hb : b < 0
    · rw [decide_eq_true hb]
      by_cases h0 : a = 0
      · subst h0; simp
      · have h1 := Int.mul_neg_of_pos_of_neg (show 0 < a by omega) hb
        rw [decide_eq_true h1, decide_eq_true (Nat.mul_ne_zero (by omega) (by omega))]
        rfl
    · have h1 := Int.mul_nonneg (show 0 ≤ a by omega) (show 0 ≤ b by omega)
      rw [decide_eq_false hb, decide_eq_false (show ¬ a * b < 0 by omega)]
      rfl
theorem divInt_parts {a b : Int} (hb : b ≠ 0) : (Rat.divInt a b).num.natAbs = a.natAbs / Nat.gcd a.natAbs b.natAbs ∧ (Rat.divInt a b).den = b.natAbs / Nat.gcd a.natAbs b.natAbs ∧
    (decide ((Rat.divInt a b).num < 0)) = ((decide (a < 0) != decide (b < 0)) && decide (a.natAbs / Nat.gcd a.natAbs b.natAbs ≠ 0)) := by
  have hg : Int.gcd b a = Nat.gcd a.natAbs b.natAbs := by rw [Int.gcd_comm]; rfl
  have hgp : 0 < Nat.gcd a.natAbs b.natAbs := Nat.gcd_pos_of_pos_right _ (by omega)
  have hd1 : Nat.gcd a.natAbs b.natAbs ∣ a.natAbs := Nat.gcd_dvd_left _ _
  rw [Rat.num_divInt, Rat.den_divInt, if_neg hb, hg]
  generalize Nat.gcd a.natAbs b.natAbs = g at *
  have hdi : (g : Int) ∣ a := Int.dvd_natAbs.1 (Int.natCast_dvd_natCast.2 hd1)
  obtain ⟨k, hk⟩ := hdi
  have hgz : (g : Int) ≠ 0 := by omega
  have hq : b.sign * a / (g : Int) = b.sign * k := by
    rw [hk, ← Int.mul_assoc, Int.mul_comm b.sign, Int.mul_assoc]
    exact Int.mul_ediv_cancel_left _ hgz
  have hka : a.natAbs / g = k.natAbs := by
    rw [hk, Int.natAbs_mul, Int.natAbs_natCast]
    exact Nat.mul_div_cancel_left _ hgp
  have hs : (b.sign).natAbs = 1 := Int.natAbs_sign_of_ne_zero hb
  rw [hq, hka]
  refine ⟨by rw [Int.natAbs_mul, hs, Nat.one_mul], rfl, ?_⟩
  have hak : decide (a < 0) = decide (k < 0) := by
    by_cases h : k < 0
    · have := Int.mul_neg_of_pos_of_neg (show (0 : Int) < g by omega) h
      rw [decide_eq_true h, decide_eq_true (show a < 0 by omega)]
    · have := Int.mul_nonneg (show (0 : Int) ≤ g by omega) (show 0 ≤ k by omega)
      rw [decide_eq_false h, decide_eq_false (show ¬ a < 0 by omega)]
  rw [hak, sgn_mul]
  have hsb : decide (b.sign < 0) = decide (b < 0) := by
    rcases Int.lt_trichotomy b 0 with h | h | h
    · rw [Int.sign_eq_neg_one_of_neg h]; simp [h]
    · exact absurd h hb
    · rw [Int.sign_eq_one_of_pos h]; simp; omega
  rw [hsb, hs, Nat.one_mul]
  cases decide (b < 0) <;> cases decide (k < 0) <;> rfl
theorem add_divInt (a b : Rat) : Rat.divInt (a.num * b.den + b.num * a.den) ((a.den : Int) * b.den) = a + b := by
  rw [Rat.add_def', ← Rat.divInt_ofNat]; rfl
theorem mul_divInt (a b : Rat) : Rat.divInt (a.num * b.num) ((a.den : Int) * b.den) = a * b := by
  rw [Rat.mul_def', ← Rat.divInt_ofNat]; rfl
theorem div_divInt (a b : Rat) : Rat.divInt (a.num * b.den) ((a.den : Int) * b.num) = a / b := by
  rw [Rat.div_def, Rat.inv_def]
  have : a = Rat.divInt a.num a.den := by rw [Rat.divInt_ofNat]; exact (Rat.mkRat_self a).symm
  conv => rhs; lhs; rw [this]
  rw [Rat.divInt_mul_divInt]
def Sz (k : Nat) (r : Rat) : Prop := r.num.natAbs < 2 ^ k ∧ r.den < 2 ^ k
theorem Sz.mono {i j : Nat} {r : Rat} (h : Sz i r) (hij : i ≤ j) : Sz j r := ⟨Nat.lt_of_lt_of_le h.1 (Nat.pow_le_pow_right (by omega) hij), Nat.lt_of_lt_of_le h.2 (Nat.pow_le_pow_right (by omega) hij)⟩
theorem lt_mul_pow {a b i j : Nat} (ha : a < 2 ^ i) (hb : b < 2 ^ j) : a * b < 2 ^ (i + j) := by
  rw [Nat.pow_add]
  exact Nat.mul_lt_mul'' ha hb
theorem add_num_lt {a b : Rat} {i j : Nat} (ha : Sz i a) (hb : Sz j b) : (a.num * b.den + b.num * a.den).natAbs < 2 ^ (i + j + 1) ∧ ((a.den : Int) * b.den).natAbs < 2 ^ (i + j) := by
  have h1 := lt_mul_pow ha.1 hb.2
  have h2 := lt_mul_pow hb.1 ha.2
  have h3 := lt_mul_pow ha.2 hb.2
  rw [Nat.add_comm j i] at h2
  have e1 : (a.num * b.den).natAbs = a.num.natAbs * b.den := by rw [Int.natAbs_mul, Int.natAbs_natCast]
  have e2 : (b.num * a.den).natAbs = b.num.natAbs * a.den := by rw [Int.natAbs_mul, Int.natAbs_natCast]
  refine ⟨?_, by rw [Int.natAbs_mul, Int.natAbs_natCast, Int.natAbs_natCast]; exact h3⟩
  rw [Nat.pow_succ]
  have := Int.natAbs_add_le (a.num * b.den) (b.num * a.den)
  omega
theorem Sz.of_divInt {a b : Int} {k : Nat} (h1 : a.natAbs < 2 ^ k) (h2 : b.natAbs < 2 ^ k) (hb : b ≠ 0) : Sz k (Rat.divInt a b) := by
  obtain ⟨p1, p2, _⟩ := divInt_parts (a := a) hb
  exact ⟨by rw [p1]; exact Nat.lt_of_le_of_lt (Nat.div_le_self _ _) h1, by rw [p2]; exact Nat.lt_of_le_of_lt (Nat.div_le_self _ _) h2⟩
theorem den_mul_ne {a b : Rat} : ((a.den : Int) * b.den) ≠ 0 := by
  have := a.den_nz; have := b.den_nz
  exact Int.mul_ne_zero (by omega) (by omega)
theorem Sz.add {a b : Rat} {i j : Nat} (ha : Sz i a) (hb : Sz j b) : Sz (i + j + 1) (a + b) := by
  obtain ⟨h1, h2⟩ := add_num_lt ha hb
  rw [← add_divInt]
  exact Sz.of_divInt h1 (Nat.lt_trans h2 (Nat.pow_lt_pow_right (by omega) (by omega))) den_mul_ne
theorem mul_num_lt {a b : Rat} {i j : Nat} (ha : Sz i a) (hb : Sz j b) : (a.num * b.num).natAbs < 2 ^ (i + j) ∧ ((a.den : Int) * b.den).natAbs < 2 ^ (i + j) :=
  ⟨by rw [Int.natAbs_mul]; exact lt_mul_pow ha.1 hb.1, by rw [Int.natAbs_mul, Int.natAbs_natCast, Int.natAbs_natCast]; exact lt_mul_pow ha.2 hb.2⟩
theorem Sz.mul {a b : Rat} {i j : Nat} (ha : Sz i a) (hb : Sz j b) : Sz (i + j) (a * b) := by
  obtain ⟨h1, h2⟩ := mul_num_lt ha hb
  rw [← mul_divInt]
  exact Sz.of_divInt h1 h2 den_mul_ne
theorem div_num_lt {a b : Rat} {i j : Nat} (ha : Sz i a) (hb : Sz j b) : (a.num * b.den).natAbs < 2 ^ (i + j) ∧ ((a.den : Int) * b.num).natAbs < 2 ^ (i + j) :=
  ⟨by rw [Int.natAbs_mul, Int.natAbs_natCast]; exact lt_mul_pow ha.1 hb.2, by rw [Int.natAbs_mul, Int.natAbs_natCast]; exact lt_mul_pow ha.2 hb.1⟩
theorem Sz.div {a b : Rat} {i j : Nat} (ha : Sz i a) (hb : Sz j b) (h0 : b.num ≠ 0) : Sz (i + j) (a / b) := by
  obtain ⟨h1, h2⟩ := div_num_lt ha hb
  rw [← div_divInt]
  exact Sz.of_divInt h1 h2 (Int.mul_ne_zero (by have := a.den_nz; omega) h0)
theorem Sz.neg {a : Rat} {i : Nat} (ha : Sz i a) : Sz i (-a) := by
  unfold Sz
  rw [Rat.neg_num, Rat.neg_den, Int.natAbs_neg]
  exact ha
def rR (r : Rat) : Rt := (decide (r.num < 0), r.num.natAbs, r.den)
def RV (x : Rt) (r : Rat) : Prop := x.1 = decide (r.num < 0) ∧ x.2.1 = r.num.natAbs ∧ dn x.2.2 = r.den
theorem RV.self {r : Rat} : RV (rR r) r := ⟨rfl, rfl, if_neg r.den_nz⟩
theorem RV.zero : RV (false, 0, 0) 0 := ⟨rfl, rfl, rfl⟩
def wI (z : Int) : List AV := whC (decide (z < 0)) z.natAbs
theorem wI_mul {a b : Int} : whC ((decide (a < 0) != decide (b < 0)) && decide (a.natAbs * b.natAbs ≠ 0)) (a.natAbs * b.natAbs) = wI (a * b) := by
  rw [← sgn_mul, ← Int.natAbs_mul]
  rfl
theorem rR_divInt {a b : Int} (hb : b ≠ 0) : ratG ((decide (a < 0) != decide (b < 0)) && decide (a.natAbs / Nat.gcd a.natAbs b.natAbs ≠ 0)) (a.natAbs / Nat.gcd a.natAbs b.natAbs) (b.natAbs / Nat.gcd a.natAbs b.natAbs) = rtC (rR (Rat.divInt a b)) := by
  obtain ⟨h1, h2, h3⟩ := divInt_parts (a := a) hb
  rw [← h3, ← h1, ← h2]
  rfl
theorem limG_two {n k : Nat} (h : n < 2 ^ (32 * k)) : (limG n).length ≤ k := limG_len (by rw [Nat.pow_mul] at h; exact h)
theorem limG_szB {n k : Nat} (B : Nat) (h : n < 2 ^ k) (hk : k ≤ 32 * B) : (limG n).length ≤ B := limG_two (Nat.lt_of_lt_of_le h (Nat.pow_le_pow_right (by omega) hk))
theorem limG_sz {n k : Nat} (h : n < 2 ^ k) (hk : k ≤ 32000000) : (limG n).length ≤ 1000000 := limG_szB _ h (by omega)
def ofN (x : Rt) : Rat := mkRat (if x.1 then -(x.2.1 : Int) else x.2.1) x.2.2
theorem ofN_rR {x : Rt} (hq : x.2.2 ≠ 0) (hg : Nat.gcd x.2.1 x.2.2 = 1) (hs : x.1 = true → x.2.1 ≠ 0) : rR (ofN x) = x := by
  obtain ⟨n, p, q⟩ := x
  simp only at hq hg hs
  have hnum : ∀ z : Int, z.natAbs = p → (mkRat z q).num = z ∧ (mkRat z q).den = q := fun z hz => by
    rw [Rat.mkRat_def, dif_neg hq, Rat.normalize_eq]
    simp only [hz, hg, Nat.div_one]
    exact ⟨by simp, trivial⟩
  cases n with
  | true =>
    have := hs rfl
    obtain ⟨h1, h2⟩ := hnum (-(p : Int)) (by omega)
    simp only [rR, ofN, if_true, h1, h2]
    rw [decide_eq_true (by omega)]
    congr 2
    omega
  | false =>
    obtain ⟨h1, h2⟩ := hnum (p : Int) (by omega)
    simp only [rR, ofN, Bool.false_eq_true, if_false, h1, h2]
    rw [decide_eq_false (by omega)]
    congr 2
end Go.Proofs.YtlejgleocnemoaaGreat.I

namespace Go.Proofs.YtlejgleocnemoaaGreat.I
open Go Go.V
attribute [local go_sem_proc ↓] reduceIte
attribute [local go_sem_proc] Nat.reduceEqDiff Nat.reduceAdd Nat.reduceMul Nat.reduceLeDiff Nat.reduceLT Int.reduceToNat Int.reduceLT Int.reduceLE reduceCtorEq Nat.reduceBEq
attribute [local go_sem] mNil nat0 beq_self_eq_true mSkip mRet mExit mReg mSeq mCond mTrue mFalse mBlock mLv mCodeE mCodeR mEndN mEndR mEndE mOps mSome mGuard mGtt mGff mGtf mGft mGu mCallP mCallR mCallF mCallO mCallZ mCallG mCallM mCallV loopQ_exit loopQ_ret mO_mov mO_newnil mO_pick mO_alloc mO_box mO_build mO_bsl mO_bslF mO_newnilB mO_bslB mO_lenB mO_appB mO_allocA mO_bslA mO_appA mO_ldb mO_faddrb mRsv mO_ldf mO_ld mO_st mO_sta mO_nilchk mO_bin mO_binb mO_binp mO_bins mO_neg mO_com mO_not mO_conv mO_mk mO_mk0 mO_mkB mO_s2b mO_b2s mO_cpy mO_cut mO_faddr mO_fld mO_iaddr mO_iaddrf mO_sidx mO_len mO_lenf mO_slen mO_scut mO_app mO_ext mO_mx mO_mn mO_mkfn evalOp cutOp argsE ev getE putE cellsOf adopt rowOf binV boolV nilV ar_add ar_sub ar_mul ar_quo ar_rem ar_eq ar_ne ar_lt ar_le ar_gt ar_ge ar_and ar_or ar_xor geto bound finRet finNrm ints List.length_cons List.length_nil List.length_append List.getElem?_cons_zero List.getElem?_cons_succ List.nil_append List.cons_append List.map_cons List.map_nil List.mapM_cons List.mapM_nil Option.map_some Option.map_none Option.bind_some Option.pure_def Option.bind_eq_bind List.drop_zero or_self or_false false_or or_true true_or true_and and_true and_self decide_true decide_false Bool.false_eq_true Bool.true_eq_false Bool.not_true Bool.not_false Nat.le_refl eq_self gt_iff_lt ge_iff_le ne_eq not_true_eq_false not_false_eq_true storeOp apartOf freeze_nil refsL refs List.flatMap_cons List.flatMap_nil List.append_nil List.contains_nil List.set_cons_zero List.set_cons_succ snap snapL fill_nums flat_nums nums_length Go.V.freeze List.mapIdx_cons List.mapIdx_nil List.contains_cons Bool.or_false Bool.false_or Bool.or_true Bool.true_or
section
variable {E : CallRel}
theorem sub_step {x y c : Nat} (hx : x < 4294967296) (hy : y < 4294967296) (hc : c ≤ 1) : ∃ d c' : Nat, d < 4294967296 ∧ c' ≤ 1 ∧ x + 4294967296 * c' = y + c + d ∧
    (x + 4294967296 - y + 4294967296 - c) % 4294967296 = d ∧ (if x < y + c then 1 else 0) = c' := by
  by_cases h : x < y + c
  · exact ⟨x + 4294967296 - y - c, 1, by omega, by omega, by omega, by omega, if_pos h⟩
  · exact ⟨x - y - c, 0, by omega, by omega, by omega, by omega, if_neg h⟩
theorem c177_ok {a b : Nat} (ha : (limG a).length ≤ 1000000) (hb : (limG b).length ≤ 1000000) : Go.V.Call tab E 177 [natC a, natC b] [] (.tup [natC (if b ≤ a then a - b else 0), .bool (decide (b ≤ a))]) [] := by
  refine Go.V.Call.mach i177 c177 rfl rfl rfl rfl ?_
  have hcmp := c179_ok (E := E) (a := a) (b := b) ha hb
  have hmono := fun h : b ≤ a => limG_mono (a := b) (b := a) h
  have hRa := R32_limG (n := a)
  have hRb := R32_limG (n := b)
  have ea := nval_limG (n := a)
  have eb := nval_limG (n := b)
  by_cases hab : b ≤ a
  · have hc : ¬ cmpZ a b < 0 := by
      unfold cmpZ
      rw [if_neg (by omega)]
      split <;> omega
    rw [if_pos hab, decide_eq_true hab]
    have hCA := hmono hab
    have htrim : ∀ l : List Int, R32 l → (l.length : Int) ≤ 1000000000000 → nval l = a - b → Go.V.Call tab E 175 [us32 l] [] (natC (a - b)) [] := fun l h1 h2 h3 => by
      have h := c175_ok (E := E) (l := l) h2
      rwa [trimL_limG h1, h3] at h
    simp only [natC, us32] at hcmp htrim ⊢
    clear hmono
    generalize hA : limG a = A at *
    generalize hC : limG b = C at *
    have b1 : (0 : Int) ≤ (A.length : Int) := by omega
    have b2 : 4 * A.length ≤ 140737488355328 := by omega
    have b3 : (A.length : Int) ≤ 140737488355328 := by omega
    simp only [c177, us32, go_sem, subB1, subT1, FL]
    refine goP hcmp ?_
    simp only [us32, go_sem, subB1, subT1, FL, hc, b1, b2, b3, Int.toNat_natCast, flat_nums]
    refine mLoop (fun N st => ∃ (i : Nat) (L : List Int) (c : Nat), i ≤ A.length ∧ N = A.length - i ∧ L.length = A.length ∧ R32 L ∧ c ≤ 1 ∧ (∀ j, i ≤ j → L.getD j 0 = 0) ∧ nval (A.take i) + 4294967296 ^ i * c = nval (C.take i) + nval L ∧
      st = ⟨[(2, .loc 0 0 0), (3, .loc 1 0 0), (4, .loc 3 0 0), (6, .arr 4 0), (7, .int .u32 c), (21, .int .i64 A.length), (22, .int .i64 i)],
        [⟨true, 94, 1, 0, 1, [us32 A], false⟩, ⟨true, 94, 1, 0, 1, [us32 C], false⟩, ⟨false, 191, 1, 0, 0, [], false⟩, ⟨true, 94, 1, 0, 1, [.arr 2 0], false⟩, ⟨false, 191, 1, 0, A.length, nums .u32 L, false⟩]⟩) A.length
      ⟨_, rfl, 0, List.replicate A.length 0, 0, by omega, by omega, by simp, R32_zeros, by omega, fun j _ => zeros_get, by rw [nval_zeros]; simp [nval], by simp [getE, us32]⟩ ?_
    rintro N s0 ⟨i, L, c, hi, rfl, hL, hR', hc1, hz, hv, rfl⟩
    by_cases hiX : i < A.length
    · have hi' : (i : Int) < (A.length : Int) := by omega
      have hi0 : (0 : Int) ≤ (i : Int) := by omega
      have hi1 : IntKind.i64.wrap ((i : Int) + 1) = ((i + 1 : Nat) : Int) := by rw [wrap_i64 (by omega) (by omega)]; omega
      have hsx := sub_nums (k := .u32) hiX
      have hxr := R32_get hRa i
      have hyr := R32_get hRb i
      have htx := nval_take_succ' (l := A) (k := i)
      have hty := nval_take_succ' (l := C) (k := i)
      obtain ⟨x, hx⟩ := Int.eq_ofNat_of_zero_le hxr.1
      obtain ⟨y, hy⟩ := Int.eq_ofNat_of_zero_le hyr.1
      rw [hx] at hsx hxr htx
      rw [hy] at hyr hty
      simp only [Int.toNat_natCast] at htx hty
      have h103 := c192_ok (E := E) (x := x) (y := y) (b := c) (by omega) (by omega) hc1
      obtain ⟨d, c', hdl, hc'1, hst, hd, hc'⟩ := sub_step (x := x) (y := y) (c := c) (by omega) (by omega) hc1
      rw [hd, hc'] at h103
      clear hd hc'
      have t1 : i * 1 + 1 ≤ L.length := by omega
      have p1 := put_nval (l := L) (k := i) (v := (d : Int)) (by omega)
      rw [hz i (by omega)] at p1
      simp only [Int.toNat_natCast, Int.toNat_zero, Nat.mul_zero, Nat.add_zero] at p1
      have inv : nval (A.take (i + 1)) + 4294967296 ^ (i + 1) * c' = nval (C.take (i + 1)) + nval (put L i (d : Int)) := by
        rw [p1, htx, hty, Nat.pow_succ, Nat.mul_assoc]
        generalize 4294967296 ^ i = P at *
        have e1 : P * (x + 4294967296 * c') = P * (y + c + d) := by rw [hst]
        simp only [Nat.mul_add] at e1
        omega
      have fin : (put L i (d : Int)).length = A.length ∧ R32 (put L i (d : Int)) ∧ (∀ j, i + 1 ≤ j → (put L i (d : Int)).getD j 0 = 0) := by
        refine ⟨by rw [put_len (by omega), hL], put_R32 hR' (by omega), fun j hj => ?_⟩
        rw [put_get (by omega), if_neg (by omega)]
        exact hz j (by omega)
      obtain ⟨f1, f2, f3⟩ := fin
      by_cases hiY : i < C.length
      · have hiY' : (i : Int) < (C.length : Int) := by omega
        have hsy := sub_nums (k := .u32) hiY
        rw [hy] at hsy
        simp only [b177_0, us32, go_sem, subB1, hi', hi0, hiY', hsx, hsy, Int.toNat_natCast]
        refine goP h103 ?_
        simp only [us32, go_sem, hi', hi0, Int.toNat_natCast, t1, hi1]
        exact loopQ_go rfl (A.length - (i + 1)) (by omega) ⟨i + 1, put L i (d : Int), c', by omega, rfl, f1, f2, hc'1, f3, inv, rfl⟩
      · have hiY' : ¬ (i : Int) < (C.length : Int) := by omega
        have hy0 : y = 0 := by
          have := getD_big (l := C) (k := i) (by omega)
          omega
        subst hy0
        simp only [b177_0, us32, go_sem, subB1, hi', hi0, hiY', hsx, Int.toNat_natCast]
        refine goP h103 ?_
        simp only [us32, go_sem, hi', hi0, Int.toNat_natCast, t1, hi1]
        exact loopQ_go rfl (A.length - (i + 1)) (by omega) ⟨i + 1, put L i (d : Int), c', by omega, rfl, f1, f2, hc'1, f3, inv, rfl⟩
    · have hn' : ¬ (i : Int) < (A.length : Int) := by omega
      obtain rfl : i = A.length := by omega
      rw [List.take_length, List.take_of_length_le hCA, ea, eb] at hv
      have hlt := nval_lt hR'
      rw [hL] at hlt
      have hc0 : c = 0 := by
        by_cases h : c = 0
        · exact h
        · have : c = 1 := by omega
          subst this
          omega
      have hval : nval L = a - b := by subst hc0; omega
      have h63 := htrim L hR' (by omega) hval
      rw [hL] at h63
      simp only [b177_0, k177_0, us32, go_sem, hn', Int.lt_irrefl]
      refine goF h63 ?_
      simp only [us32, go_sem, FL]
      simp only [i177, OT, reduceIte, Nat.reduceEqDiff, sub, FL, List.length_cons, List.length_nil, Nat.le_refl, us32]
  · have hc : cmpZ a b < 0 := by
      unfold cmpZ
      rw [if_pos (by omega)]
      omega
    rw [if_neg hab, decide_eq_false hab]
    simp only [natC, us32, limG_zero] at hcmp ⊢
    simp only [c177, us32, go_sem, subB1, subT1, FL]
    refine goP hcmp ?_
    simp only [us32, go_sem, subB1, subT1, FL, hc]
    simp only [i177, OT, reduceIte, Nat.reduceEqDiff, sub, FL, List.length_cons, List.length_nil, Nat.le_refl]
    rfl
end
theorem sgn_zero {z : Int} : (decide (z < 0) && decide (z.natAbs ≠ 0)) = decide (z < 0) := by
  by_cases h : z < 0
  · rw [decide_eq_true h, decide_eq_true (by omega)]; rfl
  · rw [decide_eq_false h]; rfl
theorem wI_neg {p : Nat} : whC (true && decide (p ≠ 0)) p = wI (-(p : Int)) := by
  have h1 : (-(p : Int)).natAbs = p := by omega
  rw [wI, h1]
  congr 1
  by_cases h : p = 0
  · subst h; rfl
  · rw [decide_eq_true h, decide_eq_true (show -(p : Int) < 0 by omega)]; rfl
theorem wI_pos {p : Nat} : whC (false && decide (p ≠ 0)) p = wI (p : Int) := by
  have h1 : ((p : Int)).natAbs = p := by omega
  rw [wI, h1, decide_eq_false (show ¬ (p : Int) < 0 by omega)]
  rfl
section
variable {E : CallRel}
theorem c159_ok {x y : Int} (hx : (limG x.natAbs).length ≤ 1000000) (hy : (limG y.natAbs).length ≤ 1000000) : Go.V.Call tab E 159 [.agg (wI x), .agg (wI y)] [] (.agg (wI (x + y))) [] := by
  refine Go.V.Call.mach i159 c159 rfl rfl rfl rfl ?_
  have h92 := c176_ok (E := E) hx hy
  have h93 := c177_ok (E := E) hx hy
  have h93' := c177_ok (E := E) hy hx
  have h68 := fun n p => c151_ok (E := E) (n := n) (p := p)
  simp only [natC, us32] at h92 h93 h93' h68
  by_cases hs : decide (x < 0) = decide (y < 0)
  · have hb : (decide (x < 0) == decide (y < 0)) = true := by rw [hs]; cases decide (y < 0) <;> rfl
    have hr : whC (decide (x < 0) && decide (x.natAbs + y.natAbs ≠ 0)) (x.natAbs + y.natAbs) = wI (x + y) := by
      by_cases h : x < 0
      · have hy0 : y < 0 := by rw [decide_eq_true h] at hs; simpa using hs.symm
        rw [decide_eq_true h, wI_neg]
        congr 1; omega
      · have hy0 : ¬ y < 0 := by rw [decide_eq_false h] at hs; simpa using hs.symm
        rw [decide_eq_false h, wI_pos]
        congr 1; omega
    rw [← hr]
    simp only [c159, wI, whC, us32, go_sem, FL, subW0, subW1, hb]
    refine goP h92 ?_
    simp only [us32, go_sem, FL]
    refine goP (h68 _ _) ?_
    simp only [us32, go_sem, FL]
    simp only [i159, OT, reduceIte, Nat.reduceEqDiff, subW2, whC, us32]
  · have hb : (decide (x < 0) == decide (y < 0)) = false := by
      revert hs; cases decide (x < 0) <;> cases decide (y < 0) <;> intro hs <;> first | rfl | exact absurd rfl hs
    by_cases hle : y.natAbs ≤ x.natAbs
    · rw [if_pos hle, decide_eq_true hle] at h93
      have hr : whC (decide (x < 0) && decide (x.natAbs - y.natAbs ≠ 0)) (x.natAbs - y.natAbs) = wI (x + y) := by
        by_cases h : x < 0
        · have hy0 : ¬ y < 0 := fun h2 => hs (by rw [decide_eq_true h, decide_eq_true h2])
          rw [decide_eq_true h, wI_neg]
          congr 1; omega
        · have hy0 : y < 0 := by
            by_cases h2 : y < 0
            · exact h2
            · exact absurd (by rw [decide_eq_false h, decide_eq_false h2]) hs
          rw [decide_eq_false h, wI_pos]
          congr 1; omega
      rw [← hr]
      simp only [c159, wI, whC, us32, go_sem, FL, subW0, subW1, hb]
      refine goP h93 ?_
      simp only [us32, go_sem, FL, subW0, subW1, subT1]
      refine goF (h68 _ _) ?_
      simp only [us32, go_sem, FL]
      simp only [i159, OT, reduceIte, Nat.reduceEqDiff, subW2, whC, us32]
    · rw [if_neg hle, decide_eq_false hle, limG_zero] at h93
      rw [if_pos (by omega), decide_eq_true (show x.natAbs ≤ y.natAbs by omega)] at h93'
      have hr : whC (decide (y < 0) && decide (y.natAbs - x.natAbs ≠ 0)) (y.natAbs - x.natAbs) = wI (x + y) := by
        by_cases h : y < 0
        · have hy0 : ¬ x < 0 := fun h2 => hs (by rw [decide_eq_true h, decide_eq_true h2])
          rw [decide_eq_true h, wI_neg]
          congr 1; omega
        · have hy0 : x < 0 := by
            by_cases h2 : x < 0
            · exact h2
            · exact absurd (by rw [decide_eq_false h, decide_eq_false h2]) hs
          rw [decide_eq_false h, wI_pos]
          congr 1; omega
      rw [← hr]
      simp only [c159, wI, whC, us32, go_sem, FL, subW0, subW1, hb]
      refine goP h93 ?_
      simp only [us32, go_sem, FL, subW0, subW1, subT1]
      refine goP h93' ?_
      simp only [us32, go_sem, FL, subW0, subW1, subT1]
      refine goF (h68 _ _) ?_
      simp only [us32, go_sem, FL]
      simp only [i159, OT, reduceIte, Nat.reduceEqDiff, subW2, whC, us32]
theorem c130_ok {x y : Int} (hx : (limG x.natAbs).length ≤ 1000000) (hy : (limG y.natAbs).length ≤ 1000000) : Go.V.Call tab E 130 [.agg (wI x), .sl 1 2 (wI y)] [] (.agg (wI (x + y))) [] := by
  refine Go.V.Call.mach i130 c130 rfl rfl rfl rfl ?_
  have h72 := c159_ok (E := E) hx hy
  simp only [wI, whC, us32] at h72
  simp only [c130, wI, whC, us32, go_sem, FL, subW2]
  refine mLoop (fun N st => ∃ (i : Nat) (z : Int), (i = 0 ∧ z = x ∨ i = 1 ∧ z = x + y) ∧ N = 1 - i ∧
    st = ⟨[(2, .loc 0 0 0), (4, .loc 2 0 0), (7, .sl 1 2 (wI y)), (8, .int .i64 1), (9, .int .i64 i)], [⟨true, 96, 2, 0, 1, wI z, false⟩, ⟨false, 191, 1, 0, 0, [], false⟩, ⟨true, 96, 2, 0, 1, [.arr 1 0, .bool false], false⟩]⟩) 1
    ⟨_, rfl, 0, x, .inl ⟨rfl, rfl⟩, by omega, by simp [getE, wI, whC, us32]⟩ ?_
  rintro N s0 ⟨i, z, hiv, rfl, rfl⟩
  rcases hiv with ⟨rfl, rfl⟩ | ⟨rfl, rfl⟩
  · have hs2 : sub true 2 (wI y) (0 * 2) = some (.agg (wI y)) := rfl
    have hs2' : sub true 2 (wI y) 0 = some (.agg (wI y)) := rfl
    have w1 : IntKind.i64.wrap (0 + 1) = 1 := by decide
    have h01 : (0 : Int) < ((1 : Nat) : Int) := by omega
    simp only [wI, whC, us32] at hs2 hs2'
    simp only [b130_0, wI, whC, us32, go_sem, FL, subW2, subW0, subW1, h01, hs2, hs2']
    refine goF h72 ?_
    simp only [us32, go_sem, FL, subW2, subW0, subW1, w1]
    exact loopQ_go rfl 0 (by omega) ⟨1, _, .inr ⟨rfl, rfl⟩, by omega, rfl⟩
  · have g : ¬ ((1 : Nat) : Int) < 1 := by omega
    simp only [b130_0, k130_0, wI, whC, us32, go_sem, FL, subW2, subW0, subW1, Int.lt_irrefl, g]
    simp only [i130, OT, reduceIte, Nat.reduceEqDiff, subW2, wI, whC, us32]
end
theorem decL_two {n k : Nat} (h : n < 2 ^ k) (hk : 1 ≤ k) : (decL n).length ≤ k := by
  by_cases h0 : n = 0
  · subst h0
    have : (decL 0).length = 1 := rfl
    omega
  · have h1 := decL_len h0
    have h2 : 2 ^ k ≤ 10 ^ k := Nat.pow_le_pow_left (by omega) k
    have h3 : 10 ^ ((decL n).length - 1) < 10 ^ k := by omega
    have := (Nat.pow_lt_pow_iff_right (a := 10) (by omega)).1 h3
    omega
theorem dgs_digit {n i : Nat} : ∃ d : Nat, (dgs n).getD i 0 = (d : Int) ∧ d ≤ 9 ∧ n % 10 ^ (i + 1) = n % 10 ^ i + 10 ^ i * d := by
  refine ⟨n / 10 ^ i % 10, dgs_get, by omega, ?_⟩
  rw [Nat.mod_pow_succ]
def R9d (l : List Int) : Prop := ∀ x ∈ l, 0 ≤ x ∧ x ≤ 9
theorem R9d_snoc {l : List Int} {d : Nat} (h : R9d l) (hd : d ≤ 9) : R9d (l ++ [(d : Int)]) := fun y hy => by
  rcases List.mem_append.1 hy with h1 | h1
  · exact h y h1
  · simp at h1; subst h1; omega
theorem R9d_put {l : List Int} {k d : Nat} (h : R9d l) (hd : d ≤ 9) : R9d (put l k (d : Int)) := fun y hy => by
  unfold put at hy
  rcases List.mem_append.1 hy with h1 | h1
  · exact h y (List.mem_of_mem_take h1)
  · rcases List.mem_cons.1 h1 with h1 | h1
    · subst h1; omega
    · exact h y (List.mem_of_mem_drop h1)
theorem dval_append : ∀ {a b : List Int}, dval (a ++ b) = dval a + 10 ^ a.length * dval b
  | [], b => by simp [dval]
  | x :: a, b => by
    rw [List.cons_append, dval, dval_append, dval, List.length_cons, Nat.pow_succ, Nat.mul_add, ← Nat.mul_assoc, Nat.mul_comm 10 (10 ^ a.length)]
    omega
theorem put_dval {l : List Int} {k : Nat} {v : Int} (h : k < l.length) : dval (put l k v) + 10 ^ k * (l.getD k 0).toNat = dval l + 10 ^ k * v.toNat := by
  have e1 : l = l.take k ++ l.getD k 0 :: l.drop (k + 1) := by
    conv => lhs; rw [← List.take_append_drop k l]
    congr 1
    rw [List.drop_eq_getElem_cons h]
    simp [List.getD, h]
  have hl : (l.take k).length = k := by rw [List.length_take]; omega
  have e2 : dval l = dval (l.take k) + 10 ^ k * ((l.getD k 0).toNat + 10 * dval (l.drop (k + 1))) := by
    conv => lhs; rw [e1]
    rw [dval_append, hl, dval]
  have e3 : dval (put l k v) = dval (l.take k) + 10 ^ k * (v.toNat + 10 * dval (l.drop (k + 1))) := by
    rw [put, dval_append, hl, dval]
  rw [e2, e3, Nat.mul_add, Nat.mul_add]
  omega
theorem dval_zeros : ∀ {n : Nat}, dval (List.replicate n 0) = 0
  | 0 => rfl
  | n + 1 => by rw [List.replicate_succ, dval, dval_zeros]; rfl
theorem add_facts {x y c : Nat} (hx : x ≤ 9) (hy : y ≤ 9) (hc : c ≤ 1) : ∃ d c' : Nat, d ≤ 9 ∧ c' ≤ 1 ∧ x + y + c = d + 10 * c' ∧ (x = 0 → y = 0 → c' = 0) ∧
    IntKind.i64.wrap ((x : Int) + (y : Int)) = ((x + y : Nat) : Int) ∧ IntKind.i64.wrap (((x + y : Nat) : Int) + (c : Int)) = ((x + y + c : Nat) : Int) ∧
    (((x + y + c : Nat) : Int)).tmod 10 = (d : Int) ∧ (((x + y + c : Nat) : Int)).tdiv 10 = (c' : Int) ∧ IntKind.i64.wrap (c' : Int) = (c' : Int) := by
  refine ⟨(x + y + c) % 10, (x + y + c) / 10, by omega, by omega, by omega, fun h1 h2 => by omega, by rw [wrap_i64 (by omega) (by omega)]; omega, by rw [wrap_i64 (by omega) (by omega)]; omega, tmodN _ 10, tdivN _ 10, wrap_i64 (by omega) (by omega)⟩
section
variable {E : CallRel}
theorem c184_ok {a b : Nat} (ha : (decL a).length ≤ 1000000) (hb : (decL b).length ≤ 1000000) : Go.V.Call tab E 184 [.str (dec a), .str (dec b)] [] (.str (dec (a + b))) [] := by
  refine Go.V.Call.mach i184 c184 rfl rfl rfl rfl ?_
  have hak := dgs_len (n := a)
  have hbk := dgs_len (n := b)
  have hna := decL_ne a
  have hda := fun i h => c200_ok (E := E) (n := a) (i := i) (by omega) h
  have hdb := fun i h => c200_ok (E := E) (n := b) (i := i) (by omega) h
  have hsa : (dec a).size = (decL a).length := by rw [dec_eq, bs_size]
  have hsb : (dec b).size = (decL b).length := by rw [dec_eq, bs_size]
  obtain ⟨la, hla⟩ : ∃ la, la = (decL a).length := ⟨_, rfl⟩
  obtain ⟨lb, hlb⟩ : ∃ lb, lb = (decL b).length := ⟨_, rfl⟩
  have hla0 : la ≠ 0 := fun h => hna (List.length_eq_zero_iff.1 (by omega))
  rw [← hla] at hak hsa ha
  rw [← hlb] at hbk hsb hb
  clear hna hla hlb
  have q10 : ¬ ((10 : Int) = 0) := by decide
  simp only [c184, go_sem]
  refine mLoop (fun N st => ∃ (i : Nat) (L : List Int) (c : Nat), N = max la lb + 1 - i ∧ i ≤ max la lb + 1 ∧ L.length = i ∧ R9d L ∧ c ≤ 1 ∧ (max la lb < i → c = 0) ∧ dval L + 10 ^ i * c = a % 10 ^ i + b % 10 ^ i ∧
    st = ⟨[(0, .str (dec a)), (1, .str (dec b)), (5, .arr 0 i), (6, .int .i64 c), (7, .int .i64 i)], [⟨false, 3, 1, i, i, nums .i64 L, false⟩]⟩) (max la lb + 1)
    ⟨_, rfl, 0, [], 0, by omega, by omega, rfl, fun x hx => by simp at hx, by omega, fun _ => rfl, by simp [dval, Nat.mod_one], by simp [getE, nums]⟩ ?_
  rintro N s0 ⟨i, L, c, rfl, hi, hL, hR, hc, hcm, hv, rfl⟩
  obtain ⟨x, hx, hx9, hax⟩ := dgs_digit (n := a) (i := i)
  obtain ⟨y, hy, hy9, hby⟩ := dgs_digit (n := b) (i := i)
  have h1 := hda i (by omega)
  have h2 := hdb i (by omega)
  rw [hx] at h1
  rw [hy] at h2
  have hi1 : IntKind.i64.wrap ((i : Int) + 1) = ((i + 1 : Nat) : Int) := by rw [wrap_i64 (by omega) (by omega)]; omega
  have e1 : (i + 1) * 8 ≤ 140737488355328 := by omega
  have e2 : i + 1 ≤ 140737488355328 := by omega
  have x0 : la ≤ i → x = 0 := fun h => by
    have h3 : a < 10 ^ i := Nat.lt_of_lt_of_le hak (Nat.pow_le_pow_right (by omega) h)
    have h4 : a < 10 ^ (i + 1) := Nat.lt_of_lt_of_le h3 (Nat.pow_le_pow_right (by omega) (by omega))
    rw [Nat.mod_eq_of_lt h3, Nat.mod_eq_of_lt h4] at hax
    have hp : 0 < 10 ^ i := Nat.pow_pos (by omega)
    rcases Nat.eq_zero_or_pos x with h5 | h5
    · exact h5
    · have := Nat.mul_pos hp h5; omega
  have y0 : lb ≤ i → y = 0 := fun h => by
    have h3 : b < 10 ^ i := Nat.lt_of_lt_of_le hbk (Nat.pow_le_pow_right (by omega) h)
    have h4 : b < 10 ^ (i + 1) := Nat.lt_of_lt_of_le h3 (Nat.pow_le_pow_right (by omega) (by omega))
    rw [Nat.mod_eq_of_lt h3, Nat.mod_eq_of_lt h4] at hby
    have hp : 0 < 10 ^ i := Nat.pow_pos (by omega)
    rcases Nat.eq_zero_or_pos y with h5 | h5
    · exact h5
    · have := Nat.mul_pos hp h5; omega
  obtain ⟨d, c', hd, hc', hst, hz, w1, w2, w3, w4, w5⟩ := add_facts hx9 hy9 hc
  have goOn : (i < la ∨ i < lb ∨ 0 < c) → ∃ m, m < max la lb + 1 - i ∧ ∃ (i' : Nat) (L' : List Int) (cc : Nat), m = max la lb + 1 - i' ∧ i' ≤ max la lb + 1 ∧ L'.length = i' ∧ R9d L' ∧ cc ≤ 1 ∧ (max la lb < i' → cc = 0) ∧ dval L' + 10 ^ i' * cc = a % 10 ^ i' + b % 10 ^ i' ∧
      (⟨[(0, .str (dec a)), (1, .str (dec b)), (5, .arr 0 (i + 1)), (6, .int .i64 c'), (7, .int .i64 ((i + 1 : Nat) : Int))], [⟨false, 3, 1, i + 1, i + 1, nums .i64 L ++ [.int .i64 (d : Int)], false⟩]⟩ : St) =
       ⟨[(0, .str (dec a)), (1, .str (dec b)), (5, .arr 0 i'), (6, .int .i64 cc), (7, .int .i64 i')], [⟨false, 3, 1, i', i', nums .i64 L', false⟩]⟩ := fun h => by
    have him : i ≤ max la lb := by
      by_cases hh : max la lb < i
      · have := hcm hh; omega
      · omega
    refine ⟨max la lb + 1 - (i + 1), by omega, i + 1, L ++ [(d : Int)], c', rfl, by omega, by simp [hL], R9d_snoc hR hd, hc', fun h => hz (x0 (by omega)) (y0 (by omega)), ?_, ?_⟩
    · rw [dval_snoc, hL, Int.toNat_natCast, hax, hby, Nat.pow_succ, Nat.mul_assoc]
      generalize 10 ^ i = P at *
      have e3 : P * (x + y + c) = P * (d + 10 * c') := by rw [hst]
      simp only [Nat.mul_add] at e3
      omega
    · simp only [nums, List.map_append, List.map_cons, List.map_nil]
  clear hax hby x0 y0 hst hz hda hdb
  by_cases h1a : i < la
  · have h1a' : (i : Int) < (la : Int) := by omega
    obtain ⟨m, hm, hI⟩ := goOn (.inl h1a)
    clear goOn
    simp only [b184_0, go_sem, hsa, hsb, h1a']
    refine goP h1 ?_
    simp only [go_sem]
    refine goP h2 ?_
    simp only [go_sem, w1, w2, w3, w4, w5, q10, e1, e2, hi1, List.flatten_cons, List.flatten_nil, Option.getD_some]
    exact loopQ_go rfl m hm hI
  · have h1a' : ¬ (i : Int) < (la : Int) := by omega
    by_cases h1b : i < lb
    · have h1b' : (i : Int) < (lb : Int) := by omega
      obtain ⟨m, hm, hI⟩ := goOn (.inr (.inl h1b))
      clear goOn
      simp only [b184_0, go_sem, hsa, hsb, h1a', h1b']
      refine goP h1 ?_
      simp only [go_sem]
      refine goP h2 ?_
      simp only [go_sem, w1, w2, w3, w4, w5, q10, e1, e2, hi1, List.flatten_cons, List.flatten_nil, Option.getD_some]
      exact loopQ_go rfl m hm hI
    · have h1b' : ¬ (i : Int) < (lb : Int) := by omega
      by_cases h1c : 0 < c
      · have h1c' : (0 : Int) < (c : Int) := by omega
        obtain ⟨m, hm, hI⟩ := goOn (.inr (.inr h1c))
        clear goOn
        simp only [b184_0, go_sem, hsa, hsb, h1a', h1b', h1c']
        refine goP h1 ?_
        simp only [go_sem]
        refine goP h2 ?_
        simp only [go_sem, w1, w2, w3, w4, w5, q10, e1, e2, hi1, List.flatten_cons, List.flatten_nil, Option.getD_some]
        exact loopQ_go rfl m hm hI
      · have h1c' : ¬ (0 : Int) < (c : Int) := by omega
        clear goOn
        have hc0 : c = 0 := by omega
        have h3 : a < 10 ^ i := Nat.lt_of_lt_of_le hak (Nat.pow_le_pow_right (by omega) (by omega))
        have h4 : b < 10 ^ i := Nat.lt_of_lt_of_le hbk (Nat.pow_le_pow_right (by omega) (by omega))
        rw [hc0, Nat.mul_zero, Nat.add_zero, Nat.mod_eq_of_lt h3, Nat.mod_eq_of_lt h4] at hv
        have h96 := c188_gen (E := E) (L := L) (by omega) (fun h => by rw [h] at hL; simp at hL; omega) hR
        rw [hv, ints, hL] at h96
        clear h3 h4 hak hbk
        simp only [b184_0, k184_0, go_sem, hsa, hsb, h1a', h1b', h1c']
        refine goR h96 rfl ?_
        simp only [go_sem]
        simp only [i184, OT, reduceIte, Nat.reduceEqDiff]
end
theorem mul_facts {o x y c : Nat} (ho : o ≤ 9) (hx : x ≤ 9) (hy : y ≤ 9) (hc : c ≤ 9) : ∃ d c' : Nat, d ≤ 9 ∧ c' ≤ 9 ∧ o + x * y + c = d + 10 * c' ∧
    IntKind.i64.wrap ((x : Int) * (y : Int)) = ((x * y : Nat) : Int) ∧ IntKind.i64.wrap ((o : Int) + ((x * y : Nat) : Int)) = ((o + x * y : Nat) : Int) ∧ IntKind.i64.wrap (((o + x * y : Nat) : Int) + (c : Int)) = ((o + x * y + c : Nat) : Int) ∧
    (((o + x * y + c : Nat) : Int)).tmod 10 = (d : Int) ∧ (((o + x * y + c : Nat) : Int)).tdiv 10 = (c' : Int) ∧ IntKind.i64.wrap (c' : Int) = (c' : Int) := by
  have hxy : x * y ≤ 81 := Nat.le_trans (Nat.mul_le_mul hx hy) (by omega)
  have hcast : (x : Int) * (y : Int) = ((x * y : Nat) : Int) := by omega
  rw [hcast]
  generalize x * y = z at *
  refine ⟨(o + z + c) % 10, (o + z + c) / 10, by omega, by omega, by omega, wrap_i64 (by omega) (by omega), by rw [wrap_i64 (by omega) (by omega)]; omega, by rw [wrap_i64 (by omega) (by omega)]; omega, tmodN _ 10, tdivN _ 10, wrap_i64 (by omega) (by omega)⟩
section
variable {E : CallRel}
theorem c183_ok {a b : Nat} (ha : (decL a).length ≤ 1000000) (hb : (decL b).length ≤ 1000000) : Go.V.Call tab E 183 [.str (dec a), .str (dec b)] [] (.str (dec (a * b))) [] := by
  refine Go.V.Call.mach i183 c183 rfl rfl rfl rfl ?_
  have hak := dgs_len (n := a)
  have hbk := dgs_len (n := b)
  have hda := fun i h => c200_ok (E := E) (n := a) (i := i) (by omega) h
  have hdb := fun i h => c200_ok (E := E) (n := b) (i := i) (by omega) h
  have hsa : (dec a).size = (decL a).length := by rw [dec_eq, bs_size]
  have hsb : (dec b).size = (decL b).length := by rw [dec_eq, bs_size]
  obtain ⟨la, hla⟩ : ∃ la, la = (decL a).length := ⟨_, rfl⟩
  obtain ⟨lb, hlb⟩ : ∃ lb, lb = (decL b).length := ⟨_, rfl⟩
  rw [← hla] at hak hsa ha
  rw [← hlb] at hbk hsb hb
  clear hla hlb
  obtain ⟨n, hn⟩ : ∃ n, n = la + lb + 1 := ⟨_, rfl⟩
  have v1 : IntKind.i64.wrap ((la : Int) + (lb : Int)) = (la : Int) + (lb : Int) := wrap_i64 (by omega) (by omega)
  have v2 : IntKind.i64.wrap ((la : Int) + (lb : Int) + 1) = (n : Int) := by rw [wrap_i64 (by omega) (by omega)]; omega
  have b1 : (0 : Int) ≤ (n : Int) := by omega
  have b2 : 8 * n ≤ 140737488355328 := by omega
  have b3 : (n : Int) ≤ 140737488355328 := by omega
  have q10 : ¬ ((10 : Int) = 0) := by decide
  simp only [c183, go_sem, hsa, hsb, v1, v2, b1, b2, b3, Int.toNat_natCast, flat_nums]
  refine mLoop (fun N st => ∃ (i : Nat) (L : List Int), N = la - i ∧ i ≤ la ∧ L.length = n ∧ R9d L ∧ dval L = a % 10 ^ i * b ∧
    st = ⟨[(0, .str (dec a)), (1, .str (dec b)), (5, .arr 0 0), (6, .int .i64 i)], [⟨false, 3, 1, 0, n, nums .i64 L, false⟩]⟩) la
    ⟨_, rfl, 0, List.replicate n 0, by omega, by omega, by simp, fun x hx => by have := List.eq_of_mem_replicate hx; omega, by rw [dval_zeros]; simp [Nat.mod_one], by simp [getE]⟩ ?_
  rintro N s0 ⟨i, L, rfl, hi, hL, hR, hv, rfl⟩
  by_cases hil : i < la
  · have hil' : (i : Int) < (la : Int) := by omega
    have hi1 : IntKind.i64.wrap ((i : Int) + 1) = ((i + 1 : Nat) : Int) := by rw [wrap_i64 (by omega) (by omega)]; omega
    obtain ⟨x, hx, hx9, hax⟩ := dgs_digit (n := a) (i := i)
    have h1 := hda i (by omega)
    rw [hx] at h1
    have hub : a % 10 ^ (i + 1) * b < 10 ^ (i + 1) * 10 ^ lb := by
      have h3 : a % 10 ^ (i + 1) < 10 ^ (i + 1) := Nat.mod_lt _ (Nat.pow_pos (by omega))
      exact Nat.mul_lt_mul'' h3 hbk
    have hax2 : a % 10 ^ (i + 1) * b = a % 10 ^ i * b + 10 ^ i * (x * b) := by rw [hax, Nat.add_mul, Nat.mul_assoc]
    simp only [b183_0, go_sem, hsa, hsb, hil']
    refine mLoop (fun N st => ∃ (j : Nat) (L : List Int) (c : Nat), N = lb + 1 - j ∧ j ≤ lb + 1 ∧ L.length = n ∧ R9d L ∧ c ≤ 9 ∧ (0 < c → j ≤ lb) ∧ dval L + 10 ^ (i + j) * c = a % 10 ^ i * b + 10 ^ i * (x * (b % 10 ^ j)) ∧
      st = ⟨[(0, .str (dec a)), (1, .str (dec b)), (5, .arr 0 0), (6, .int .i64 i), (7, .int .i64 c), (8, .int .i64 j)], [⟨false, 3, 1, 0, n, nums .i64 L, false⟩]⟩) (lb + 1)
      ⟨_, rfl, 0, L, 0, by omega, by omega, hL, hR, by omega, fun h => by omega, by rw [hv]; simp [Nat.mod_one], by simp [getE]⟩ ?_
    clear hv hR hL
    rintro N s0 ⟨j, L, c, rfl, hj, hL, hR, hc, hcj, hv, rfl⟩
    obtain ⟨y, hy, hy9, hby⟩ := dgs_digit (n := b) (i := j)
    have h2 := hdb j (by omega)
    rw [hy] at h2
    have hj1 : IntKind.i64.wrap ((j : Int) + 1) = ((j + 1 : Nat) : Int) := by rw [wrap_i64 (by omega) (by omega)]; omega
    have goOn : j ≤ lb → i + j < L.length ∧ ∃ o : Nat, L.getD (i + j) 0 = (o : Int) ∧ o ≤ 9 ∧ ∀ d c', d ≤ 9 → c' ≤ 9 → o + x * y + c = d + 10 * c' →
        ∃ m, m < lb + 1 - j ∧ ∃ (j' : Nat) (L' : List Int) (cc : Nat), m = lb + 1 - j' ∧ j' ≤ lb + 1 ∧ L'.length = n ∧ R9d L' ∧ cc ≤ 9 ∧ (0 < cc → j' ≤ lb) ∧ dval L' + 10 ^ (i + j') * cc = a % 10 ^ i * b + 10 ^ i * (x * (b % 10 ^ j')) ∧
        (⟨[(0, .str (dec a)), (1, .str (dec b)), (5, .arr 0 0), (6, .int .i64 i), (7, .int .i64 c'), (8, .int .i64 ((j + 1 : Nat) : Int))], [⟨false, 3, 1, 0, n, nums .i64 (put L (i + j) (d : Int)), false⟩]⟩ : St) =
         ⟨[(0, .str (dec a)), (1, .str (dec b)), (5, .arr 0 0), (6, .int .i64 i), (7, .int .i64 cc), (8, .int .i64 j')], [⟨false, 3, 1, 0, n, nums .i64 L', false⟩]⟩ := fun hjl => by
      have hlt : i + j < L.length := by omega
      have ho := hR (L.getD (i + j) 0) (by simp [List.getD, hlt])
      refine ⟨hlt, (L.getD (i + j) 0).toNat, by omega, by omega, fun d c' hd hc' hst => ?_⟩
      have hpd := put_dval (l := L) (k := i + j) (v := (d : Int)) hlt
      rw [Int.toNat_natCast] at hpd
      have hinv : dval (put L (i + j) (d : Int)) + 10 ^ (i + (j + 1)) * c' = a % 10 ^ i * b + 10 ^ i * (x * (b % 10 ^ (j + 1))) := by
        have e4 : 10 ^ i * (x * (b % 10 ^ (j + 1))) = 10 ^ i * (x * (b % 10 ^ j)) + 10 ^ (i + j) * (x * y) := by
          rw [hby, Nat.mul_add, Nat.mul_add, Nat.pow_add, Nat.mul_assoc (10 ^ i) (10 ^ j)]
          congr 2
          rw [← Nat.mul_assoc, ← Nat.mul_assoc, Nat.mul_comm x]
        rw [e4, show i + (j + 1) = (i + j) + 1 by omega, Nat.pow_succ, Nat.mul_assoc]
        generalize 10 ^ (i + j) = P at *
        have e3 : P * ((L.getD (i + j) 0).toNat + x * y + c) = P * (d + 10 * c') := by rw [hst]
        simp only [Nat.mul_add] at e3
        omega
      refine ⟨lb + 1 - (j + 1), by omega, j + 1, put L (i + j) (d : Int), c', rfl, by omega, by rw [put_len hlt, hL], R9d_put hR hd, hc', fun hcp => ?_, hinv, rfl⟩
      by_cases hjb : j + 1 ≤ lb
      · exact hjb
      · exfalso
        have hjb2 : j = lb := by omega
        subst hjb2
        have hbm : b % 10 ^ (j + 1) = b := Nat.mod_eq_of_lt (Nat.lt_of_lt_of_le hbk (Nat.pow_le_pow_right (by omega) (by omega)))
        rw [hbm, ← hax2] at hinv
        have h5 : 10 ^ (i + (j + 1)) ≤ 10 ^ (i + (j + 1)) * c' := Nat.le_mul_of_pos_right _ hcp
        have h6 : 10 ^ (i + (j + 1)) = 10 ^ (i + 1) * 10 ^ j := by rw [← Nat.pow_add]; congr 1; omega
        omega
    by_cases hjb : j < lb
    · have hjb' : (j : Int) < (lb : Int) := by omega
      obtain ⟨hlt, o, ho, ho9, hgo⟩ := goOn (by omega)
      obtain ⟨d, c', hd, hc', hst, w1, w2, w3, w4, w5, w6⟩ := mul_facts ho9 hx9 hy9 hc
      obtain ⟨m, hm, hI⟩ := hgo d c' hd hc' hst
      have hij : IntKind.i64.wrap ((i : Int) + (j : Int)) = ((i + j : Nat) : Int) := by rw [wrap_i64 (by omega) (by omega)]; omega
      have hij0 : (0 : Int) ≤ ((i + j : Nat) : Int) := by omega
      have hijn : ((i + j : Nat) : Int) < (n : Int) := by omega
      have hsub := sub_nums (k := .i64) hlt
      rw [ho] at hsub
      have t1 : (i + j) * 1 + 1 ≤ L.length := by omega
      clear goOn hgo hst hv hub hax hax2 hby hak hbk hda hdb hR hcj
      simp only [b183_1, go_sem, hsa, hsb, hjb', hij, hij0, hijn, Int.toNat_natCast, hsub]
      refine goP h1 ?_
      simp only [go_sem]
      refine goP h2 ?_
      simp only [go_sem, w1, w2, w3, w4, w5, w6, q10, hij, hij0, hijn, Int.toNat_natCast, t1, hj1]
      exact loopQ_go rfl m hm hI
    · have hjb' : ¬ (j : Int) < (lb : Int) := by omega
      by_cases hcp : 0 < c
      · have hcp' : (0 : Int) < (c : Int) := by omega
        obtain ⟨hlt, o, ho, ho9, hgo⟩ := goOn (hcj hcp)
        obtain ⟨d, c', hd, hc', hst, w1, w2, w3, w4, w5, w6⟩ := mul_facts ho9 hx9 hy9 hc
        obtain ⟨m, hm, hI⟩ := hgo d c' hd hc' hst
        have hij : IntKind.i64.wrap ((i : Int) + (j : Int)) = ((i + j : Nat) : Int) := by rw [wrap_i64 (by omega) (by omega)]; omega
        have hij0 : (0 : Int) ≤ ((i + j : Nat) : Int) := by omega
        have hijn : ((i + j : Nat) : Int) < (n : Int) := by omega
        have hsub := sub_nums (k := .i64) hlt
        rw [ho] at hsub
        have t1 : (i + j) * 1 + 1 ≤ L.length := by omega
        clear goOn hgo hst hv hub hax hax2 hby hak hbk hda hdb hR hcj
        simp only [b183_1, go_sem, hsa, hsb, hjb', hcp', hij, hij0, hijn, Int.toNat_natCast, hsub]
        refine goP h1 ?_
        simp only [go_sem]
        refine goP h2 ?_
        simp only [go_sem, w1, w2, w3, w4, w5, w6, q10, hij, hij0, hijn, Int.toNat_natCast, t1, hj1]
        exact loopQ_go rfl m hm hI
      · have hcp' : ¬ (0 : Int) < (c : Int) := by omega
        have hc0 : c = 0 := by omega
        have hbm : b % 10 ^ j = b := Nat.mod_eq_of_lt (Nat.lt_of_lt_of_le hbk (Nat.pow_le_pow_right (by omega) (by omega)))
        rw [hc0, Nat.mul_zero, Nat.add_zero, hbm, ← hax2] at hv
        clear goOn hub hax hax2 hby hak hbk hda hdb hcj hbm
        simp only [b183_1, k183_0, go_sem, hsa, hsb, hjb', hcp', hi1]
        exact loopQ_go rfl (la - (i + 1)) (by omega) ⟨i + 1, L, rfl, by omega, hL, hR, hv, rfl⟩
  · have hil' : ¬ (i : Int) < (la : Int) := by omega
    obtain rfl : i = la := by omega
    rw [Nat.mod_eq_of_lt hak] at hv
    have h96 := c188_gen (E := E) (L := L) (by omega) (fun h => by rw [h] at hL; simp at hL; omega) hR
    rw [hv, ints, hL] at h96
    simp only [b183_0, k183_1, go_sem, hsa, hsb, hil', Int.lt_irrefl]
    refine goR h96 rfl ?_
    simp only [go_sem]
    simp only [i183, OT, reduceIte, Nat.reduceEqDiff]
theorem c147_two {a b m : Nat} (hm : 2 * m ≤ 19998) (hb : b < 2 ^ m) (hla : (decL a).length ≤ 100000) (hlb : (decL b).length ≤ 100000) : Go.V.Call tab E 147 [.str (dec a), .str (dec b)] [] (.str (dec (Nat.gcd a b))) [] := by
  refine Go.V.Call.mach i147 c147 rfl rfl rfl rfl ?_
  obtain ⟨S, hS⟩ : ∃ S, S = 2 ^ (2 * m) := ⟨_, rfl⟩
  have hbb : b * b ≤ S := by
    rw [hS, show 2 * m = m + m by omega, Nat.pow_add]
    exact Nat.mul_le_mul (by omega) (by omega)
  have hpow : ∀ j, 2 ^ j < S → j < 19998 := fun j h => by
    rw [hS] at h
    have := (Nat.pow_lt_pow_iff_right (a := 2) (by omega)).1 h
    omega
  clear hS hb
  have hd0 : (⟨#[48]⟩ : ByteArray) = dec 0 := rfl
  simp only [c147, go_sem, hd0]
  refine mLoop (fun N st => ∃ (i x y : Nat), N = y ∧ Nat.gcd x y = Nat.gcd a b ∧ (decL x).length ≤ 100000 ∧ (decL y).length ≤ 100000 ∧ (i = 0 ∧ y = b ∨ 1 ≤ i ∧ y < x ∧ x * y * 2 ^ (i - 1) < S) ∧
    st = ⟨[(0, .str (dec x)), (1, .str (dec y)), (5, .int .i64 i)], []⟩) b ⟨_, rfl, 0, a, b, rfl, rfl, hla, hlb, .inl ⟨rfl, rfl⟩, by simp [getE]⟩ ?_
  rintro N s0 ⟨i, x, y, rfl, hg, hx, hy, hm, h2⟩
  have hne : strOp .ne (dec N) (dec 0) = some (.bool (decide (N ≠ 0))) := by
    rw [dec_ne]
    congr 2
    rw [← decide_not]
  by_cases hN : N = 0
  · subst hN
    rw [Nat.gcd_zero_right] at hg
    subst hg
    rw [decide_eq_false (by omega)] at hne
    by_cases hi : i < 20000
    · have hi' : (i : Int) < 20000 := by omega
      simp only [h2, b147_0, k147_0, go_sem, hd0, hi', hne]
      simp only [i147, OT, reduceIte, Nat.reduceEqDiff]
    · have hi' : ¬ (i : Int) < 20000 := by omega
      simp only [h2, b147_0, k147_0, go_sem, hd0, hi', hne]
      simp only [i147, OT, reduceIte, Nat.reduceEqDiff]
  · rw [decide_eq_true hN] at hne
    have hNp : 0 < N := Nat.pos_of_ne_zero hN
    have hi : i < 20000 := by
      rcases hm with h | ⟨h1, h5', h3⟩
      · omega
      · have h4 : 1 ≤ x * N := Nat.mul_pos (by omega) hNp
        have h5 := Nat.mul_le_mul_right (2 ^ (i - 1)) h4
        rw [Nat.one_mul] at h5
        have h6 : 2 ^ (i - 1) < S := Nat.lt_of_le_of_lt h5 h3
        have h7 := hpow _ h6
        omega
    have hi' : (i : Int) < 20000 := by omega
    have hi1 : IntKind.i64.wrap ((i : Int) + 1) = ((i + 1 : Nat) : Int) := by rw [wrap_i64 (by omega) (by omega)]; omega
    have h138 := c174_ok (E := E) (a := x) hN hx hy
    have hml := Nat.mod_lt x hNp
    have hg2 : Nat.gcd N (x % N) = Nat.gcd a b := by rw [← hg, Nat.gcd_comm N, ← Nat.gcd_rec, Nat.gcd_comm]
    have hnew : N * (x % N) * 2 ^ i < S := by
      rcases hm with ⟨h, h'⟩ | ⟨h1, h5', h3⟩
      · subst h
        subst h'
        rw [Nat.pow_zero, Nat.mul_one]
        exact Nat.lt_of_lt_of_le (Nat.mul_lt_mul_of_pos_left hml hNp) hbb
      · have h4 : 2 * (x % N) ≤ x := by
          have e1 := Nat.div_add_mod x N
          have e2 : 1 ≤ x / N := (Nat.one_le_div_iff hNp).2 (by omega)
          have e3 := Nat.mul_le_mul_left N e2
          omega
        obtain ⟨k, rfl⟩ : ∃ k, i = k + 1 := ⟨i - 1, by omega⟩
        rw [Nat.add_sub_cancel] at h3
        refine Nat.lt_of_le_of_lt ?_ h3
        rw [Nat.pow_succ, Nat.mul_comm (2 ^ k) 2, ← Nat.mul_assoc]
        refine Nat.mul_le_mul_right _ ?_
        rw [Nat.mul_assoc, Nat.mul_comm x, Nat.mul_comm (x % N)]
        exact Nat.mul_le_mul_left _ h4
    have hlr : (decL (x % N)).length ≤ 100000 := by
      by_cases h : (decL N).length < (decL (x % N)).length
      · have := decL_short h; omega
      · omega
    generalize x % N = r at *
    simp only [h2, b147_0, go_sem, hd0, hi', hne]
    refine goP h138 ?_
    simp only [go_sem, hi1]
    exact loopQ_go rfl r (by omega) ⟨i + 1, N, r, rfl, hg2, hy, hlr, .inr ⟨by omega, hml, by rw [Nat.add_sub_cancel]; exact hnew⟩, rfl⟩
end
def wdI (z : Int) : List AV := wdC (decide (z < 0)) z.natAbs
def numR (r : Rat) : List AV := numG (decide (r.num < 0)) r.num.natAbs r.den
theorem numR_nm {r : Rat} : numR r = nmC (toNm (rR r)) := by
  rw [← nmC_dec]
  simp only [rR, dn_pos r.den_nz]
  rfl
theorem wdI_mul {a b : Int} : wdC ((decide (a < 0) != decide (b < 0)) && decide (a.natAbs * b.natAbs ≠ 0)) (a.natAbs * b.natAbs) = wdI (a * b) := by
  rw [← sgn_mul, ← Int.natAbs_mul]
  rfl
theorem wdI_neg {p : Nat} : wdC (true && decide (p ≠ 0)) p = wdI (-(p : Int)) := by
  have h1 : (-(p : Int)).natAbs = p := by omega
  rw [wdI, h1]
  congr 1
  by_cases h : p = 0
  · subst h; rfl
  · rw [decide_eq_true h, decide_eq_true (show -(p : Int) < 0 by omega)]; rfl
theorem wdI_pos {p : Nat} : wdC (false && decide (p ≠ 0)) p = wdI (p : Int) := by
  have h1 : ((p : Int)).natAbs = p := by omega
  rw [wdI, h1, decide_eq_false (show ¬ (p : Int) < 0 by omega)]
  rfl
theorem dec_eqB {a b : Nat} : strOp .eq (dec a) (dec b) = some (.bool (decide (a = b))) := by
  rw [dec_eq, dec_eq]
  simp only [strOp, str_eq (decL_dig a).u8 (decL_dig b).u8]
  congr 2
  by_cases h : a = b
  · subst h; simp
  · rw [decide_eq_false h, decide_eq_false]
    intro hh
    exact h (by rw [← sval_decL a, hh, sval_decL])
theorem decL_le {a b : Nat} (h : a ≤ b) : (decL a).length ≤ (decL b).length := by
  by_cases hl : (decL b).length < (decL a).length
  · have := decL_short hl; omega
  · omega
theorem Sz.pos {i : Nat} {r : Rat} (h : Sz i r) : 1 ≤ i := by
  rcases Nat.eq_zero_or_pos i with h0 | h0
  · subst h0
    have := h.2
    have := r.den_nz
    simp at *
    omega
  · exact h0
theorem numR_parts {a b : Int} (hb : b ≠ 0) : numG ((decide (a < 0) != decide (b < 0)) && decide (a.natAbs / Nat.gcd a.natAbs b.natAbs ≠ 0)) (a.natAbs / Nat.gcd a.natAbs b.natAbs) (b.natAbs / Nat.gcd a.natAbs b.natAbs) = numR (Rat.divInt a b) := by
  obtain ⟨h1, h2, h3⟩ := divInt_parts (a := a) hb
  rw [← h3, ← h1, ← h2]
  rfl
theorem natAbs_den {r : Rat} : ((r.den : Int)).natAbs = r.den := by omega
theorem den_neg {r : Rat} : decide ((r.den : Int) < 0) = false := decide_eq_false (by omega)
section
variable {E : CallRel}
theorem c164_ok {a b : Int} (ha : (decL a.natAbs).length ≤ 1000000) (hb : (decL b.natAbs).length ≤ 1000000) (hab : (decL (a * b).natAbs).length ≤ 1000000000) : Go.V.Call tab E 164 [.agg (wdI a), .agg (wdI b)] [] (.agg (wdI (a * b))) [] := by
  refine Go.V.Call.mach i164 c164 rfl rfl rfl rfl ?_
  have h82 := c183_ok (E := E) ha hb
  rw [Int.natAbs_mul] at hab
  have h78 := c182_ok (E := E) (n := decide (a < 0) != decide (b < 0)) hab
  rw [wdI_mul] at h78
  simp only [wdI, wdC] at h78
  simp only [c164, wdI, wdC, go_sem, FL, subD0, subD1]
  refine goP h82 ?_
  simp only [go_sem, FL]
  refine goP h78 ?_
  simp only [go_sem, FL]
  simp only [i164, OT, reduceIte, Nat.reduceEqDiff, subD2, wdI, wdC]
theorem c167_ok {x y : Int} (hx : (decL x.natAbs).length ≤ 1000000) (hy : (decL y.natAbs).length ≤ 1000000) (hs : (decL (x.natAbs + y.natAbs)).length ≤ 1000000000) : Go.V.Call tab E 167 [.agg (wdI x), .agg (wdI y)] [] (.agg (wdI (x + y))) [] := by
  refine Go.V.Call.mach i167 c167 rfl rfl rfl rfl ?_
  have h79 := c184_ok (E := E) hx hy
  have h80 := c185_ok (E := E) (a := x.natAbs) (b := y.natAbs)
  have h81 := fun h => c186_ok (E := E) (a := x.natAbs) (b := y.natAbs) h hx hy
  have h81' := fun h => c186_ok (E := E) (a := y.natAbs) (b := x.natAbs) h hy hx
  have h78 := fun n p h => c182_ok (E := E) (n := n) (p := p) h
  simp only [wdC] at h78
  by_cases hs2 : decide (x < 0) = decide (y < 0)
  · have hb : (decide (x < 0) == decide (y < 0)) = true := by rw [hs2]; cases decide (y < 0) <;> rfl
    have hr : wdC (decide (x < 0) && decide (x.natAbs + y.natAbs ≠ 0)) (x.natAbs + y.natAbs) = wdI (x + y) := by
      by_cases h : x < 0
      · have hy0 : y < 0 := by rw [decide_eq_true h] at hs2; simpa using hs2.symm
        rw [decide_eq_true h, wdI_neg]
        congr 1; omega
      · have hy0 : ¬ y < 0 := by rw [decide_eq_false h] at hs2; simpa using hs2.symm
        rw [decide_eq_false h, wdI_pos]
        congr 1; omega
    rw [← hr]
    simp only [c167, wdI, wdC, go_sem, FL, subD0, subD1, hb]
    refine goP h79 ?_
    simp only [go_sem, FL]
    refine goP (h78 _ _ hs) ?_
    simp only [go_sem, FL]
    simp only [i167, OT, reduceIte, Nat.reduceEqDiff, subD2, wdC]
  · have hb : (decide (x < 0) == decide (y < 0)) = false := by
      revert hs2; cases decide (x < 0) <;> cases decide (y < 0) <;> intro hs2 <;> first | rfl | exact absurd rfl hs2
    by_cases hle : y.natAbs ≤ x.natAbs
    · have hc : (0 : Int) ≤ cmpZ x.natAbs y.natAbs := by
        unfold cmpZ
        rw [if_neg (by omega)]
        split <;> omega
      have hr : wdC (decide (x < 0) && decide (x.natAbs - y.natAbs ≠ 0)) (x.natAbs - y.natAbs) = wdI (x + y) := by
        by_cases h : x < 0
        · have hy0 : ¬ y < 0 := fun h2 => hs2 (by rw [decide_eq_true h, decide_eq_true h2])
          rw [decide_eq_true h, wdI_neg]
          congr 1; omega
        · have hy0 : y < 0 := by
            by_cases h2 : y < 0
            · exact h2
            · exact absurd (by rw [decide_eq_false h, decide_eq_false h2]) hs2
          rw [decide_eq_false h, wdI_pos]
          congr 1; omega
      rw [← hr]
      simp only [c167, wdI, wdC, go_sem, FL, subD0, subD1, hb]
      refine goP h80 ?_
      simp only [go_sem, FL, subD0, subD1, hc]
      refine goP (h81 hle) ?_
      simp only [go_sem, FL]
      refine goP (h78 _ _ (Nat.le_trans (decL_le (Nat.sub_le _ _)) (by omega))) ?_
      simp only [go_sem, FL]
      simp only [i167, OT, reduceIte, Nat.reduceEqDiff, subD2, wdC]
    · have hc : ¬ (0 : Int) ≤ cmpZ x.natAbs y.natAbs := by
        unfold cmpZ
        rw [if_pos (by omega)]
        omega
      have hr : wdC (decide (y < 0) && decide (y.natAbs - x.natAbs ≠ 0)) (y.natAbs - x.natAbs) = wdI (x + y) := by
        by_cases h : y < 0
        · have hy0 : ¬ x < 0 := fun h2 => hs2 (by rw [decide_eq_true h, decide_eq_true h2])
          rw [decide_eq_true h, wdI_neg]
          congr 1; omega
        · have hy0 : x < 0 := by
            by_cases h2 : x < 0
            · exact h2
            · exact absurd (by rw [decide_eq_false h, decide_eq_false h2]) hs2
          rw [decide_eq_false h, wdI_pos]
          congr 1; omega
      rw [← hr]
      simp only [c167, wdI, wdC, go_sem, FL, subD0, subD1, hb]
      refine goP h80 ?_
      simp only [go_sem, FL, subD0, subD1, hc]
      refine goP (h81' (by omega)) ?_
      simp only [go_sem, FL]
      refine goP (h78 _ _ (Nat.le_trans (decL_le (Nat.sub_le _ _)) (by omega))) ?_
      simp only [go_sem, FL]
      simp only [i167, OT, reduceIte, Nat.reduceEqDiff, subD2, wdC]
theorem c165_R {r : Rat} (hp : (decL r.num.natAbs).length ≤ 1000000000) : Go.V.Call tab E 165 [.agg (numR r)] [] (.agg (wdI r.num)) [] := by
  have h := c165_ok (E := E) (x := rR r) hp
  have e1 : wdC ((rR r).1 && decide ((rR r).2.1 ≠ 0)) (rR r).2.1 = wdI r.num := by
    show wdC (decide (r.num < 0) && decide (r.num.natAbs ≠ 0)) r.num.natAbs = _
    rw [sgn_zero]; rfl
  have e2 : numG (rR r).1 (rR r).2.1 (dn (rR r).2.2) = numR r := by
    show numG _ _ (dn r.den) = _
    rw [dn_pos r.den_nz]; rfl
  rw [e1, e2] at h
  exact h
theorem c166_ok {r : Rat} (hp : (decL r.den).length ≤ 1000000000) : Go.V.Call tab E 166 [.agg (numR r)] [] (.agg (wdI (r.den : Int))) [] := by
  refine Go.V.Call.mach i166 c166 rfl rfl rfl rfl ?_
  have h := c182_ok (E := E) (n := false) hp
  rw [wdI_pos] at h
  simp only [wdI, wdC] at h
  simp only [c166, numR, numG, go_sem, FL, subN2]
  refine goP h ?_
  simp only [go_sem, FL]
  simp only [i166, OT, reduceIte, Nat.reduceEqDiff, subD2, wdI, wdC]
theorem c163_ok {a b : Int} {m : Nat} (hb : b ≠ 0) (hm : 2 * m ≤ 19998) (hbm : b.natAbs < 2 ^ m) (hla : (decL a.natAbs).length ≤ 100000) (hlb : (decL b.natAbs).length ≤ 100000) :
    Go.V.Call tab E 163 [.agg (wdI a), .agg (wdI b)] [] (.tup [.agg (numR (Rat.divInt a b)), .bool true]) [] := by
  refine Go.V.Call.mach i163 c163 rfl rfl rfl rfl ?_
  have hz := dec_eqB (a := b.natAbs) (b := 0)
  rw [dec_zero, decide_eq_false (by omega)] at hz
  have h76 := c147_two (E := E) (a := a.natAbs) hm hbm hla hlb
  have hgp : 0 < Nat.gcd a.natAbs b.natAbs := Nat.gcd_pos_of_pos_right _ (by omega)
  have hlg : (decL (Nat.gcd a.natAbs b.natAbs)).length ≤ 100000 := Nat.le_trans (decL_le (Nat.gcd_le_right _ (by omega))) hlb
  have h77 := c174_ok (E := E) (a := a.natAbs) (b := Nat.gcd a.natAbs b.natAbs) (by omega) hla hlg
  have h77' := c174_ok (E := E) (a := b.natAbs) (b := Nat.gcd a.natAbs b.natAbs) (by omega) hlb hlg
  have hne := dec_ne (a := a.natAbs / Nat.gcd a.natAbs b.natAbs) (b := 0)
  rw [dec_zero] at hne
  rw [← numR_parts hb]
  generalize Nat.gcd a.natAbs b.natAbs = g at *
  have hnd : (!decide (a.natAbs / g = 0)) = decide (a.natAbs / g ≠ 0) := decide_not.symm
  rw [hnd] at hne
  clear hnd hgp hlg hbm
  cases hs : (decide (a < 0) != decide (b < 0)) with
  | true =>
    have hs : (decide (a < 0) == decide (b < 0)) = false := by
      revert hs; cases decide (a < 0) <;> cases decide (b < 0) <;> intro hs <;> first | rfl | cases hs
    simp only [c163, wdI, wdC, go_sem, FL, subD0, subD1, hz]
    refine goP h76 ?_
    simp only [go_sem, FL, subD0, subD1]
    refine goP h77 ?_
    simp only [go_sem, FL, subD0, subD1]
    refine goP h77' ?_
    simp only [go_sem, FL, subD0, subD1, hs, hne]
    simp only [i163, OT, reduceIte, Nat.reduceEqDiff, subT3, numG, Bool.true_and]
  | false =>
    have hs : (decide (a < 0) == decide (b < 0)) = true := by
      revert hs; cases decide (a < 0) <;> cases decide (b < 0) <;> intro hs <;> first | rfl | cases hs
    simp only [c163, wdI, wdC, go_sem, FL, subD0, subD1, hz]
    refine goP h76 ?_
    simp only [go_sem, FL, subD0, subD1]
    refine goP h77 ?_
    simp only [go_sem, FL, subD0, subD1]
    refine goP h77' ?_
    simp only [go_sem, FL, subD0, subD1, hs]
    simp only [i163, OT, reduceIte, Nat.reduceEqDiff, subT3, numG, Bool.false_and]
theorem c128_I {a b : Int} (ha : (limG a.natAbs).length ≤ 1000000) (hb : (limG b.natAbs).length ≤ 1000000) : Go.V.Call tab E 128 [.agg (wI a), .sl 1 2 (wI b)] [] (.agg (wI (a * b))) [] := by
  rw [← wI_mul]
  exact c128_ok ha hb
theorem c129_R {x : Rt} {r : Rat} (h : RV x r) : Go.V.Call tab E 129 [.agg (rtC x)] [] (.agg (wI (r.den : Int))) [] := by
  have h1 := c129_ok (E := E) (n := x.1) (p := x.2.1) (q := x.2.2)
  rw [h.2.2] at h1
  rw [wI, den_neg, natAbs_den]
  exact h1
theorem c127_I {a b : Int} (hb : b ≠ 0) (hla : (limG a.natAbs).length ≤ 1000000) (hlb : (limG b.natAbs).length ≤ 1000000) :
    Go.V.Call tab E 127 [.agg (wI a), .agg (wI b)] [] (.tup [.agg (rtC (rR (Rat.divInt a b))), .bool true]) [] := by
  rw [← rR_divInt hb]
  exact c127_ok (by omega) hla hlb
theorem rtC_top {x : Rt} {r : Rat} (h : RV x r) : rtC x = wI r.num ++ [us32 (limG x.2.2)] := by
  obtain ⟨n, p, q⟩ := x
  obtain ⟨h1, h2, _⟩ := h
  simp only at h1 h2
  subst h1; subst h2
  rfl
set_option maxHeartbeats 1000000 in
theorem c74_ok {x y : Rt} {a b : Rat} {i j : Nat} (hx : RV x a) (hy : RV y b) (ha : Sz i a) (hb : Sz j b) (hij : i + j + 1 ≤ 32000000) : Go.V.Call tab E 74 [.agg (rtC x), .sl 1 3 (rtC y)] [] (.agg (rtC (rR (a + b)))) [] := by
  refine Go.V.Call.mach i74 c74 rfl rfl rfl rfl ?_
  obtain ⟨hn, hd⟩ := add_num_lt ha hb
  have ux := c129_R (E := E) hx
  have uy := c129_R (E := E) hy
  have e1 : (a.num * b.den).natAbs < 2 ^ (i + j) := by rw [Int.natAbs_mul, Int.natAbs_natCast]; exact lt_mul_pow ha.1 hb.2
  have e2 : (b.num * a.den).natAbs < 2 ^ (i + j) := by rw [Int.natAbs_mul, Int.natAbs_natCast, Nat.add_comm]; exact lt_mul_pow hb.1 ha.2
  have l1 := limG_sz ha.1 (by omega)
  have l2 := limG_sz ha.2 (by omega)
  have l3 := limG_sz hb.1 (by omega)
  have l4 := limG_sz hb.2 (by omega)
  have p1 := c128_I (E := E) (a := a.num) (b := (b.den : Int)) l1 (by rw [natAbs_den]; exact l4)
  have p2 := c128_I (E := E) (a := b.num) (b := (a.den : Int)) l3 (by rw [natAbs_den]; exact l2)
  have p3 := c128_I (E := E) (a := (a.den : Int)) (b := (b.den : Int)) (by rw [natAbs_den]; exact l2) (by rw [natAbs_den]; exact l4)
  have s := c130_ok (E := E) (x := a.num * b.den) (y := b.num * a.den) (limG_sz e1 (by omega)) (limG_sz e2 (by omega))
  have h38 := c127_I (E := E) (a := a.num * b.den + b.num * a.den) (b := (a.den : Int) * b.den) den_mul_ne (limG_sz hn (by omega)) (limG_sz hd (by omega))
  rw [add_divInt] at h38
  clear e1 e2 l1 l2 l3 l4 hn hd
  generalize a.num * (b.den : Int) = A1 at *
  generalize b.num * (a.den : Int) = A2 at *
  generalize (a.den : Int) * (b.den : Int) = A3 at *
  have tx := rtC_top hx
  have ty := rtC_top hy
  generalize rR (a + b) = z at *
  rw [tx] at ux
  rw [ty] at uy
  simp only [wI, whC, us32, List.cons_append, List.nil_append] at ux uy p1 p2 p3 s
  simp only [rtC, ratG, us32, wI, whC] at h38
  simp only [c74, tx, ty, rtC, ratG, wI, whC, us32, go_sem, FL, subT3]
  refine mLoop (fun N st => ∃ (k : Nat) (cs : List AV), (k = 0 ∧ cs = rtC x ∨ k = 1 ∧ cs = rtC z) ∧ N = 1 - k ∧
    st = ⟨[(2, .loc 0 0 0), (4, .loc 3 0 0), (7, .sl 1 3 (rtC y)), (8, .int .i64 1), (9, .int .i64 k)], [⟨true, 98, 3, 0, 1, cs, false⟩, ⟨false, 191, 1, 0, 0, [], false⟩, ⟨false, 191, 1, 0, 0, [], false⟩, ⟨true, 98, 3, 0, 1, [.arr 1 0, .bool false, .arr 2 0], false⟩]⟩) 1
    ⟨_, rfl, 0, rtC x, .inl ⟨rfl, rfl⟩, by omega, by simp [getE, tx, ty, wI, whC, us32, hx.1, hx.2.1, hy.1, hy.2.1]⟩ ?_
  rintro N s0 ⟨k, cs, hiv, rfl, rfl⟩
  rcases hiv with ⟨rfl, rfl⟩ | ⟨rfl, rfl⟩
  · have hs2 : sub true 3 (rtC y) (0 * 3) = some (.agg (rtC y)) := rfl
    have hs2' : sub true 3 (rtC y) 0 = some (.agg (rtC y)) := rfl
    have w1 : IntKind.i64.wrap (0 + 1) = 1 := by decide
    have h01 : (0 : Int) < ((1 : Nat) : Int) := by omega
    rw [ty] at hs2 hs2'
    simp only [wI, whC, us32, List.cons_append, List.nil_append] at hs2 hs2'
    simp only [b74_0, tx, ty, wI, whC, us32, go_sem, FL, subT3, subT2, h01, hs2, hs2']
    refine goF uy ?_
    simp only [us32, go_sem, FL, subT3, subT2, List.flatten_cons, List.flatten_nil, Option.getD_some]
    refine goF p1 ?_
    simp only [us32, go_sem, FL, subT3, subT2]
    refine goP ux ?_
    simp only [us32, go_sem, FL, subT3, subT2, List.flatten_cons, List.flatten_nil, Option.getD_some]
    refine goF p2 ?_
    simp only [us32, go_sem, FL, subT3, subT2, List.flatten_cons, List.flatten_nil, Option.getD_some]
    refine goF s ?_
    simp only [us32, go_sem, FL, subT3, subT2]
    refine goP ux ?_
    simp only [us32, go_sem, FL, subT3, subT2]
    refine goF uy ?_
    simp only [us32, go_sem, FL, subT3, subT2, List.flatten_cons, List.flatten_nil, Option.getD_some]
    refine goF p3 ?_
    simp only [us32, go_sem, FL, subT3, subT2]
    refine goP h38 ?_
    simp only [us32, go_sem, FL, subT3, subT2, w1]
    exact loopQ_go rfl 0 (by omega) ⟨1, _, .inr ⟨rfl, rfl⟩, by omega, by simp only [ty, wI, whC, us32, rtC, ratG, List.cons_append, List.nil_append]; rfl⟩
  · have g : ¬ ((1 : Nat) : Int) < 1 := by omega
    simp only [b74_0, k74_0, rtC, ratG, us32, go_sem, FL, subT3, Int.lt_irrefl, g]
    simp only [i74, OT, reduceIte, Nat.reduceEqDiff, subT3, rtC, ratG, us32]
end
theorem wI_minus {z : Int} : whC (!decide (z < 0) && decide (z.natAbs ≠ 0)) z.natAbs = wI (-z) := by
  have h1 : (-z).natAbs = z.natAbs := by omega
  rw [wI, h1]
  congr 1
  by_cases h : z < 0
  · rw [decide_eq_true h, decide_eq_false (show ¬ -z < 0 by omega)]; rfl
  · rw [decide_eq_false h]
    by_cases h0 : z = 0
    · subst h0; rfl
    · rw [decide_eq_true (show z.natAbs ≠ 0 by omega), decide_eq_true (show -z < 0 by omega)]; rfl
def flr (r : Rat) : Int := r.num / (r.den : Int)
def restR (b r : Rat) : Rat := if b = 0 then r else r + -(b * ((flr (r / b) : Int) : Rat))
theorem flr_lt {r : Rat} {k : Nat} (h : Sz k r) : (flr r).natAbs < 2 ^ (k + 1) := by
  have hd := r.den_nz
  have h1 : flr r * (r.den : Int) ≤ r.num := Int.ediv_mul_le _ (by omega)
  have h2 : r.num < (flr r + 1) * (r.den : Int) := Int.lt_ediv_add_one_mul_self _ (by omega)
  have hn := h.1
  have hp : 0 < 2 ^ k := Nat.pow_pos (by omega)
  rw [Nat.pow_succ]
  generalize flr r = f at *
  have hd1 : (1 : Int) ≤ (r.den : Int) := by omega
  by_cases hf : 0 ≤ f
  · have : f * 1 ≤ f * (r.den : Int) := Int.mul_le_mul_of_nonneg_left hd1 hf
    omega
  · have h3 : (-(f + 1)) * 1 ≤ (-(f + 1)) * (r.den : Int) := Int.mul_le_mul_of_nonneg_left hd1 (by omega)
    have h4 : (-(f + 1)) * (r.den : Int) = -((f + 1) * (r.den : Int)) := Int.neg_mul _ _
    omega
theorem Sz.int {z : Int} {k : Nat} (h : z.natAbs < 2 ^ k) (hk : 1 ≤ k) : Sz k (z : Rat) := by
  refine ⟨by rw [Rat.num_intCast]; exact h, ?_⟩
  rw [Rat.den_intCast]
  exact Nat.one_lt_two_pow (by omega)
theorem rnum_ne {b : Rat} (h : b ≠ 0) : b.num ≠ 0 := fun hh => h (Rat.num_eq_zero.1 hh)
theorem Sz.rest {b r : Rat} {i j : Nat} (hr : Sz i r) (hb : Sz j b) : Sz (2 * i + 2 * j + 2) (restR b r) := by
  unfold restR
  split
  · exact hr.mono (by omega)
  · rename_i h0
    have h1 := hr.div hb (rnum_ne h0)
    have h2 := Sz.int (flr_lt h1) (by omega)
    exact (hr.add (hb.mul h2).neg).mono (by omega)
section
variable {E : CallRel}
theorem c131_I {z : Int} : Go.V.Call tab E 131 [.agg (wI z)] [] (.agg (wI (-z))) [] := by
  refine Go.V.Call.mach i131 c131 rfl rfl rfl rfl ?_
  have h := c151_ok (E := E) (n := !decide (z < 0)) (p := z.natAbs)
  have hw := wI_minus (z := z)
  simp only [natC, us32] at h
  simp only [wI, whC, us32] at hw ⊢
  simp only [c131, us32, go_sem, FL, subW2, subW0, subW1]
  refine goP h ?_
  simp only [us32, go_sem, FL]
  simp only [i131, OT, reduceIte, Nat.reduceEqDiff, subW2]
  rw [hw]
theorem rtC_neg {r : Rat} : wI (-r.num) ++ [us32 (limG r.den)] = rtC (rR (-r)) := by
  simp only [rtC, ratG, rR, Rat.neg_num, Rat.neg_den, wI, whC, List.cons_append, List.nil_append]
theorem c75_ok {x : Rt} {r : Rat} (hx : RV x r) : Go.V.Call tab E 75 [.agg (rtC x)] [] (.agg (rtC (rR (-r)))) [] := by
  refine Go.V.Call.mach i75 c75 rfl rfl rfl rfl ?_
  have h := c131_I (E := E) (z := r.num)
  have hd := c126_gen (E := E) (n := x.1) (p := x.2.1) (q := x.2.2)
  have tx := rtC_top hx
  have hn := rtC_neg (r := r)
  change Go.V.Call tab E 126 [.agg (rtC x)] [] _ [] at hd
  rw [tx, hx.2.2] at hd
  rw [tx, ← hn]
  simp only [wI, whC, us32, natC, List.cons_append, List.nil_append] at h hd ⊢
  simp only [c75, us32, go_sem, FL, subT3, subT2]
  refine goP h ?_
  simp only [us32, go_sem, FL, subT3, subT2]
  refine goP hd ?_
  simp only [us32, go_sem, FL, subT3, subT2]
  simp only [i75, OT, reduceIte, Nat.reduceEqDiff, subT3]
set_option maxHeartbeats 1000000 in
theorem c119_ok {x y : Rt} {a b : Rat} {i j : Nat} (hx : RV x a) (hy : RV y b) (ha : Sz i a) (hb : Sz j b) (hij : i + j + 1 ≤ 32000000) : Go.V.Call tab E 119 [.agg (rtC x), .sl 1 3 (rtC y)] [] (.agg (rtC (rR (a * b)))) [] := by
  refine Go.V.Call.mach i119 c119 rfl rfl rfl rfl ?_
  obtain ⟨hn, hd⟩ := mul_num_lt ha hb
  have ux := c129_R (E := E) hx
  have uy := c129_R (E := E) hy
  have l1 := limG_sz ha.1 (by omega)
  have l2 := limG_sz ha.2 (by omega)
  have l3 := limG_sz hb.1 (by omega)
  have l4 := limG_sz hb.2 (by omega)
  have p1 := c128_I (E := E) (a := a.num) (b := b.num) l1 l3
  have p3 := c128_I (E := E) (a := (a.den : Int)) (b := (b.den : Int)) (by rw [natAbs_den]; exact l2) (by rw [natAbs_den]; exact l4)
  have h38 := c127_I (E := E) (a := a.num * b.num) (b := (a.den : Int) * b.den) den_mul_ne (limG_sz hn (by omega)) (limG_sz hd (by omega))
  rw [mul_divInt] at h38
  clear l1 l2 l3 l4 hn hd
  generalize a.num * b.num = A1 at *
  generalize (a.den : Int) * (b.den : Int) = A3 at *
  have tx := rtC_top hx
  have ty := rtC_top hy
  generalize rR (a * b) = z at *
  rw [tx] at ux
  rw [ty] at uy
  simp only [wI, whC, us32, List.cons_append, List.nil_append] at ux uy p1 p3
  simp only [rtC, ratG, us32, wI, whC] at h38
  simp only [c119, tx, ty, rtC, ratG, wI, whC, us32, go_sem, FL, subT3]
  refine mLoop (fun N st => ∃ (k : Nat) (cs : List AV), (k = 0 ∧ cs = rtC x ∨ k = 1 ∧ cs = rtC z) ∧ N = 1 - k ∧
    st = ⟨[(2, .loc 0 0 0), (4, .loc 3 0 0), (7, .sl 1 3 (rtC y)), (8, .int .i64 1), (9, .int .i64 k)], [⟨true, 98, 3, 0, 1, cs, false⟩, ⟨false, 191, 1, 0, 0, [], false⟩, ⟨false, 191, 1, 0, 0, [], false⟩, ⟨true, 98, 3, 0, 1, [.arr 1 0, .bool false, .arr 2 0], false⟩]⟩) 1
    ⟨_, rfl, 0, rtC x, .inl ⟨rfl, rfl⟩, by omega, by simp [getE, tx, ty, wI, whC, us32, hx.1, hx.2.1, hy.1, hy.2.1]⟩ ?_
  rintro N s0 ⟨k, cs, hiv, rfl, rfl⟩
  rcases hiv with ⟨rfl, rfl⟩ | ⟨rfl, rfl⟩
  · have hs2 : sub true 3 (rtC y) (0 * 3) = some (.agg (rtC y)) := rfl
    have hs2' : sub true 3 (rtC y) 0 = some (.agg (rtC y)) := rfl
    have w1 : IntKind.i64.wrap (0 + 1) = 1 := by decide
    have h01 : (0 : Int) < ((1 : Nat) : Int) := by omega
    rw [ty] at hs2 hs2'
    simp only [wI, whC, us32, List.cons_append, List.nil_append] at hs2 hs2'
    simp only [b119_0, tx, ty, wI, whC, us32, go_sem, FL, subT3, subT2, h01, hs2, hs2']
    refine goF p1 ?_
    simp only [us32, go_sem, FL, subT3, subT2, List.flatten_cons, List.flatten_nil, Option.getD_some]
    refine goP ux ?_
    simp only [us32, go_sem, FL, subT3, subT2, List.flatten_cons, List.flatten_nil, Option.getD_some]
    refine goF uy ?_
    simp only [us32, go_sem, FL, subT3, subT2, List.flatten_cons, List.flatten_nil, Option.getD_some]
    refine goF p3 ?_
    simp only [us32, go_sem, FL, subT3, subT2]
    refine goP h38 ?_
    simp only [us32, go_sem, FL, subT3, subT2, w1]
    exact loopQ_go rfl 0 (by omega) ⟨1, _, .inr ⟨rfl, rfl⟩, by omega, by simp only [ty, wI, whC, us32, rtC, ratG, List.cons_append, List.nil_append]; rfl⟩
  · have g : ¬ ((1 : Nat) : Int) < 1 := by omega
    simp only [b119_0, k119_0, rtC, ratG, us32, go_sem, FL, subT3, Int.lt_irrefl, g]
    simp only [i119, OT, reduceIte, Nat.reduceEqDiff, subT3, rtC, ratG, us32]
theorem c76_ok {x y : Rt} {a b : Rat} {i j : Nat} (hx : RV x a) (hy : RV y b) (ha : Sz i a) (hb : Sz j b) (h0 : b ≠ 0) (hij : i + j + 1 ≤ 32000000) : Go.V.Call tab E 76 [.agg (rtC x), .agg (rtC y)] [] (.tup [.agg (rtC (rR (a / b))), .bool true]) [] := by
  refine Go.V.Call.mach i76 c76 rfl rfl rfl rfl ?_
  obtain ⟨hn, hd⟩ := div_num_lt ha hb
  have ux := c129_R (E := E) hx
  have uy := c129_R (E := E) hy
  have p1 := c128_I (E := E) (a := a.num) (b := (b.den : Int)) (limG_sz ha.1 (by omega)) (by rw [natAbs_den]; exact limG_sz hb.2 (by omega))
  have p3 := c128_I (E := E) (a := (a.den : Int)) (b := b.num) (by rw [natAbs_den]; exact limG_sz ha.2 (by omega)) (limG_sz hb.1 (by omega))
  have h38 := c127_I (E := E) (a := a.num * b.den) (b := (a.den : Int) * b.num) (Int.mul_ne_zero (by have := a.den_nz; omega) (rnum_ne h0)) (limG_sz hn (by omega)) (limG_sz hd (by omega))
  rw [div_divInt] at h38
  clear hn hd
  generalize a.num * (b.den : Int) = A1 at *
  generalize (a.den : Int) * b.num = A3 at *
  have tx := rtC_top hx
  have ty := rtC_top hy
  generalize rR (a / b) = z at *
  rw [tx] at ux
  rw [ty] at uy
  rw [tx, ty]
  simp only [wI, whC, us32, List.cons_append, List.nil_append] at ux uy p1 p3 ⊢
  simp only [rtC, ratG, us32, wI, whC] at h38 ⊢
  simp only [c76, us32, go_sem, FL, subT3, subT2]
  refine goP uy ?_
  simp only [us32, go_sem, FL, subT3, subT2, List.flatten_cons, List.flatten_nil]
  refine goP p1 ?_
  simp only [us32, go_sem, FL, subT3, subT2]
  refine goP ux ?_
  simp only [us32, go_sem, FL, subT3, subT2, List.flatten_cons, List.flatten_nil]
  refine goP p3 ?_
  simp only [us32, go_sem, FL, subT3, subT2]
  refine goP h38 ?_
  simp only [us32, go_sem, FL, subT3, subT2]
  simp only [i76, OT, reduceIte, Nat.reduceEqDiff, subT3]
theorem c76_zero {x y : Rt} {a : Rat} {i : Nat} (hx : RV x a) (hy : RV y 0) (ha : Sz i a) (hij : i + 1 ≤ 32000000) : Go.V.Call tab E 76 [.agg (rtC x), .agg (rtC y)] [] (.tup [.agg (ratG false 0 0), .bool false]) [] := by
  refine Go.V.Call.mach i76 c76 rfl rfl rfl rfl ?_
  have ux := c129_R (E := E) hx
  have uy := c129_R (E := E) hy
  have p1 := c128_I (E := E) (a := a.num) (b := (((0 : Rat).den : Nat) : Int)) (limG_sz ha.1 (by omega)) (by rw [natAbs_den]; exact limG_sz (k := 1) (by decide) (by omega))
  have p3 := c128_I (E := E) (a := (a.den : Int)) (b := (0 : Rat).num) (by rw [natAbs_den]; exact limG_sz ha.2 (by omega)) (limG_sz (k := 1) (by decide) (by omega))
  have h38 := c127_zero (E := E) (n1 := decide (a.num * (((0 : Rat).den : Nat) : Int) < 0)) (n2 := false) (p := (a.num * (((0 : Rat).den : Nat) : Int)).natAbs)
  have e0 : (a.den : Int) * (0 : Rat).num = 0 := by rw [Rat.num_ofNat]; exact Int.mul_zero _
  rw [e0] at p3
  generalize a.num * (((0 : Rat).den : Nat) : Int) = A1 at *
  have tx := rtC_top hx
  have ty := rtC_top hy
  rw [tx] at ux
  rw [ty] at uy
  rw [tx, ty]
  have d0 : decide ((0 : Int) < 0) = false := by decide
  simp only [wI, whC, us32, List.cons_append, List.nil_append, d0, Int.natAbs_zero] at ux uy p1 p3 ⊢
  simp only [rtC, ratG, us32, wI, whC] at h38 ⊢
  simp only [c76, us32, go_sem, FL, subT3, subT2]
  refine goP uy ?_
  simp only [us32, go_sem, FL, subT3, subT2, List.flatten_cons, List.flatten_nil]
  refine goP p1 ?_
  simp only [us32, go_sem, FL, subT3, subT2]
  refine goP ux ?_
  simp only [us32, go_sem, FL, subT3, subT2, List.flatten_cons, List.flatten_nil]
  refine goP p3 ?_
  simp only [us32, go_sem, FL, subT3, subT2]
  refine goP h38 ?_
  simp only [us32, go_sem, FL, subT3, subT2]
  simp only [i76, OT, reduceIte, Nat.reduceEqDiff, subT3]
theorem rR_int {z : Int} : rtC (rR (z : Rat)) = wI z ++ [us32 [1]] := by
  have h1 : limG 1 = [1] := limG_one (d := 1) (by omega) (by omega)
  simp only [rtC, ratG, rR, Rat.num_intCast, Rat.den_intCast, wI, whC, List.cons_append, List.nil_append, h1]
  rfl
theorem c123_ok {z : Int} : Go.V.Call tab E 123 [.agg (wI z)] [] (.agg (rtC (rR (z : Rat)))) [] := by
  refine Go.V.Call.mach i123 c123 rfl rfl rfl rfl ?_
  have h := c149_one (E := E)
  rw [rR_int]
  simp only [wI, whC, us32, List.cons_append, List.nil_append] at h ⊢
  simp only [c123, us32, go_sem, FL, subW2]
  refine goP h ?_
  simp only [us32, go_sem, FL]
  simp only [i123, OT, reduceIte, Nat.reduceEqDiff, subT3]
end
end Go.Proofs.YtlejgleocnemoaaGreat.I
