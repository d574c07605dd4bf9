/- The texts L16n WSized LNum, one behind the other. Conditions: each text's own. -/
import Derived.Test.YtlejgleocnemoaaGreatG08
import Derived.SizedLaws
import Derived.ChangeSlices
import Derived.Test.YtlejgleocnemoaaGreatG02
import Derived.Test.YtlejgleocnemoaaGreatG06
import Derived.Deep.Slices
import Derived.Deep.Fields
import Derived.ChangeArms
set_option linter.unusedSimpArgs false
set_option linter.unusedVariables false
namespace Go.Proofs.YtlejgleocnemoaaGreat.I
open Go Go.V
attribute [local go_sem_proc ↓] reduceIte
attribute [local go_sem_proc] Nat.reduceEqDiff Nat.reduceAdd Nat.reduceMul Nat.reduceLeDiff Nat.reduceLT Int.reduceToNat Int.reduceLT Int.reduceLE reduceCtorEq Nat.reduceBEq
attribute [local go_sem] mNil nat0 beq_self_eq_true mSkip mRet mExit mReg mSeq mCond mTrue mFalse mBlock mLv mCodeE mCodeR mEndN mEndR mEndE mOps mSome mGuard mGtt mGff mGtf mGft mGu mCallP mCallR mCallF mCallO mCallZ mCallG mCallM mCallV loopQ_exit loopQ_ret mO_mov mO_newnil mO_pick mO_alloc mO_box mO_build mO_bsl mO_bslF mO_newnilB mO_bslB mO_lenB mO_appB mO_allocA mO_bslA mO_appA mO_ldb mO_faddrb mRsv mO_ldf mO_ld mO_st mO_sta mO_nilchk mO_bin mO_binb mO_binp mO_bins mO_neg mO_com mO_not mO_conv mO_mk mO_mk0 mO_mkB mO_s2b mO_b2s mO_cpy mO_cut mO_faddr mO_fld mO_iaddr mO_iaddrf mO_sidx mO_len mO_lenf mO_slen mO_scut mO_app mO_ext mO_mx mO_mn mO_mkfn evalOp cutOp argsE ev getE putE cellsOf adopt rowOf binV boolV nilV ar_add ar_sub ar_mul ar_quo ar_rem ar_eq ar_ne ar_lt ar_le ar_gt ar_ge ar_and ar_or ar_xor geto bound finRet finNrm ints List.length_cons List.length_nil List.length_append List.getElem?_cons_zero List.getElem?_cons_succ List.nil_append List.cons_append List.map_cons List.map_nil List.mapM_cons List.mapM_nil Option.map_some Option.map_none Option.bind_some Option.pure_def Option.bind_eq_bind List.drop_zero or_self or_false false_or or_true true_or true_and and_true and_self decide_true decide_false Bool.false_eq_true Bool.true_eq_false Bool.not_true Bool.not_false Nat.le_refl eq_self gt_iff_lt ge_iff_le ne_eq not_true_eq_false not_false_eq_true storeOp apartOf freeze_nil refsL refs List.flatMap_cons List.flatMap_nil List.append_nil List.contains_nil List.set_cons_zero List.set_cons_succ snap snapL fill_nums flat_nums nums_length Go.V.freeze List.mapIdx_cons List.mapIdx_nil List.contains_cons Bool.or_false Bool.false_or Bool.or_true Bool.true_or
theorem lim_short {n : Nat} (h : (limG n).length ≤ 60) : n < lim2000 := by
  have h1 := limG_lt n
  have h2 : (4294967296 : Nat) = 2 ^ 32 := by decide
  rw [h2, ← Nat.pow_mul] at h1
  exact Nat.lt_of_lt_of_le h1 (Nat.le_trans (Nat.pow_le_pow_left (by omega) _) (pow10_le (by omega)))
theorem Sd_right {x : Nm} (h : RightN x.1 x.2.1 x.2.2) (h1 : x.2.1.length ≤ 40) (h2 : x.2.2.length ≤ 40) : rR (ofN (toRt x)) = toRt x ∧ Sd 134 134 (ofN (toRt x)) := by
  obtain ⟨hRa, hRb, t1, t2, hb48, hg, hn⟩ := h
  have hq : sval x.2.2 ≠ 0 := fun h => hb48 ((right_zero hRb t2).1 h)
  have hr : rR (ofN (toRt x)) = toRt x := ofN_rR (x := toRt x) hq hg (fun hs h0 => hn ⟨hs, (right_zero hRa t1).1 h0⟩)
  have p : ∀ {l : List Int}, Dig l → l.length ≤ 40 → sval l < 2 ^ 134 := fun hd hl => by
    have h1 := sval_lt hd
    have h2 : (10 : Nat) ^ 40 ≤ 2 ^ 134 := by decide
    exact Nat.lt_of_lt_of_le h1 (Nat.le_trans (Nat.pow_le_pow_right (by omega) hl) h2)
  have e1 : (ofN (toRt x)).num.natAbs = sval x.2.1 := congrArg (fun z : Rt => z.2.1) hr
  have e2 : (ofN (toRt x)).den = sval x.2.2 := congrArg (fun z : Rt => z.2.2) hr
  exact ⟨hr, by rw [e1]; exact p hRa.1 h1, by rw [e2]; exact p hRb.1 h2⟩
theorem light_rats {l : List Nm} (hR : ∀ x ∈ l, RightN x.1 x.2.1 x.2.2) (h4 : ∀ x ∈ l, x.2.1.length ≤ 40 ∧ x.2.2.length ≤ 40) : ∃ A : List Rat, A.length = l.length ∧ l.map toRt = A.map rR ∧ l = A.map nR ∧ ∀ a ∈ A, Sd 134 134 a := by
  refine ⟨l.map fun x => ofN (toRt x), by simp, ?_, ?_, ?_⟩
  · rw [List.map_map]
    exact List.map_congr_left fun x hx => (Sd_right (hR x hx) (h4 x hx).1 (h4 x hx).2).1.symm
  · rw [List.map_map]
    conv => lhs; rw [← List.map_id l]
    exact List.map_congr_left fun x hx => by
      simp only [Function.comp, nR, (Sd_right (hR x hx) (h4 x hx).1 (h4 x hx).2).1, back_nm (hR x hx), id]
  · intro a ha
    obtain ⟨x, hx, rfl⟩ := List.mem_map.1 ha
    exact (Sd_right (hR x hx) (h4 x hx).1 (h4 x hx).2).2
theorem toNm_V {x : Option Rat} : toNm (xT x) = nR (xV x) := by
  cases x with
  | none => rfl
  | some r => rfl
theorem encLN {A B : List Rat} {n w : Nat} : (encL A B n w).map toNm = encN A B n w := by
  rw [encL, encN, List.map_map]
  exact List.map_congr_left fun q _ => toNm_V
section
variable {s s' t t' : List Int} {ch ch' : Bool} {lim : Int}
theorem c22_bad {l l' : List Rt} (ht : (t.length : Int) ≤ 1000000000) (hl : (l.length : Int) ≤ 1000000000) (ht' : (t'.length : Int) ≤ 1000000000) (hl' : (l'.length : Int) ≤ 1000000000) (h : (badA ch t l || badA ch' t' l') = true) :
    Go.V.Call tab E 22 [.agg (arrX s ch t l), .agg (arrX s' ch' t' l'), .int .i64 lim] [] (.tup [.agg noA, .int .i64 22]) [] := by
  refine Go.V.Call.mach i22 c22 rfl rfl rfl rfl ?_
  have h68 := c68_two (s := s) (t := t) (l := l) (ch := ch) (s' := s') (t' := t') (l' := l') (ch' := ch') ht hl ht' hl'
  rw [h] at h68
  simp only [arrX, runes, List.cons_append, List.nil_append] at h68
  simp only [c22, arrX, runes, go_sem, FL, subA5, List.flatten_cons, List.flatten_nil, Option.getD_some, List.append_nil]
  refine goR h68 rfl ?_
  simp only [go_sem, FL, subA5]
  simp only [i22, OT, reduceIte, Nat.reduceEqDiff, subA5, noA]
theorem c22_room {l l' : List Rt} (hs : ∀ d ∈ s, In64 d) (hs' : ∀ d ∈ s', In64 d) (hsl : s.length ≤ 8) (hsl' : s'.length ≤ 8) (ht : (t.length : Int) ≤ 1000000000) (hl : (l.length : Int) ≤ 1000000000) (ht' : (t'.length : Int) ≤ 1000000000) (hl' : (l'.length : Int) ≤ 1000000000)
    (h : (badA ch t l || badA ch' t' l') = false) (hr : roomE (s ++ s') ≠ 0) :
    Go.V.Call tab E 22 [.agg (arrX s ch t l), .agg (arrX s' ch' t' l'), .int .i64 lim] [] (.tup [.agg noA, .int .i64 (roomE (s ++ s'))]) [] := by
  refine Go.V.Call.mach i22 c22 rfl rfl rfl rfl ?_
  have h68 := c68_two (s := s) (t := t) (l := l) (ch := ch) (s' := s') (t' := t') (l' := l') (ch' := ch') ht hl ht' hl'
  rw [h] at h68
  have h48 := c48_X (s := s) (t := t) (l := l) (ch := ch) (by omega)
  have h48' := c48_X (s := s') (t := t') (l := l') (ch := ch') (by omega)
  have h69 := c69_ok (L := [s, s']) (by simp) (by simp [lensum]; omega)
  have h70 := c70_ok (s := s ++ s') (fun d hd => (List.mem_append.1 hd).elim (hs d) (hs' d)) (by simp; omega)
  simp only [rows, List.map_cons, List.map_nil, List.flatten_cons, List.flatten_nil, List.append_nil] at h69
  have hne : (roomE (s ++ s') != 0) = true := by rw [bne_iff_ne]; exact hr
  generalize roomE (s ++ s') = e at *
  generalize roomN (s ++ s') = m at *
  generalize s ++ s' = S at *
  simp only [arrX, runes, List.cons_append, List.nil_append] at h68 h48 h48'
  simp only [c22, arrX, runes, go_sem, FL, subA5, List.flatten_cons, List.flatten_nil, Option.getD_some, List.append_nil]
  refine goR h68 rfl ?_
  simp only [go_sem, FL, subA5]
  refine goP h48 ?_
  simp only [go_sem, FL, subA5]
  refine goP h48' ?_
  simp only [go_sem, FL, subA5, List.flatten_cons, List.flatten_nil, Option.getD_some, List.append_nil]
  refine goF h69 ?_
  simp only [go_sem, FL, subA5]
  refine goP h70 ?_
  simp only [go_sem, FL, subA5, hne]
  simp only [i22, OT, reduceIte, Nat.reduceEqDiff, subA5, noA]
theorem c23_bad {l l' : List Nm} (h : 0 < t.length ∨ 0 < t'.length) :
    Go.V.Call tab E 23 [.agg (plX s ch t l), .agg (plX s' ch' t' l'), .int .i64 lim] [] (.tup [.agg noP, .int .i64 22]) [] := by
  refine Go.V.Call.mach i23 c23 rfl rfl rfl rfl ?_
  by_cases h0 : 0 < t.length
  · have h0' : (0 : Int) < (t.length : Int) := by omega
    simp only [c23, plX, runes, ints, go_sem, FL, subP4, subP4a, subP4c, h0']
    simp only [i23, OT, reduceIte, Nat.reduceEqDiff, subP4, noP, plX, runes]
    rfl
  · have h0' : ¬ (0 : Int) < (t.length : Int) := by omega
    have h1' : (0 : Int) < (t'.length : Int) := by omega
    simp only [c23, plX, runes, ints, go_sem, FL, subP4, subP4a, subP4c, h0', h1']
    simp only [i23, OT, reduceIte, Nat.reduceEqDiff, subP4, noP, plX, runes]
    rfl
theorem c23_room {l l' : List Nm} (hs : ∀ d ∈ s, In64 d) (hs' : ∀ d ∈ s', In64 d) (hsl : s.length ≤ 8) (hsl' : s'.length ≤ 8) (hr : roomE (s ++ s') ≠ 0) :
    Go.V.Call tab E 23 [.agg (plX s ch [] l), .agg (plX s' ch' [] l'), .int .i64 lim] [] (.tup [.agg noP, .int .i64 (roomE (s ++ s'))]) [] := by
  refine Go.V.Call.mach i23 c23 rfl rfl rfl rfl ?_
  have h77 := c77_ok (s := s ++ s') (fun d hd => (List.mem_append.1 hd).elim (hs d) (hs' d)) (by simp; omega)
  have hes : ints (s ++ s') = .sl (s.length + s'.length) 1 (nums .i64 s ++ nums .i64 s') := by simp [ints, nums]
  rw [hes] at h77
  have hne : (roomE (s ++ s') != 0) = true := by rw [bne_iff_ne]; exact hr
  generalize roomE (s ++ s') = e at *
  have z1 : s.length * 8 ≤ 140737488355328 := by omega
  have z2 : s.length ≤ 140737488355328 := by omega
  have z3 : (s.length + s'.length) * 8 ≤ 140737488355328 := by omega
  have z4 : s.length + s'.length ≤ 140737488355328 := by omega
  simp only [c23, plX, runes, List.length_nil, nums_nil, go_sem, FL, subP4, subP4a, subP4c, List.flatten_cons, List.flatten_nil, Option.getD_some, List.append_nil, z1, z2, z3, z4, Nat.zero_add, Int.natCast_zero, Int.lt_irrefl]
  refine goR h77 rfl ?_
  simp only [go_sem, FL, subP4, subP4a, subP4c, hne]
  simp only [i23, OT, reduceIte, Nat.reduceEqDiff, subP4, noP, plX, runes]
  rfl
def Enc2 (X Y : List AV) (e : Int) : Prop :=
  (∃ (a1 a2 a3 b1 b2 b3 : Nat) (x1 x2 x3 y1 y2 y3 : List AV) (c d f : Bool), X = [.sl a1 1 x1, .bool c, .sl a2 1 x2, .sl a3 3 x3, .bool f] ∧ Y = [.sl b1 1 y1, .bool d, .sl b2 1 y2, .sl b3 3 y3]) ∧
  Go.V.Call tab E 24 [.agg X, .int .i64 e, .agg Y, .int .i64 e] [] (.bool true) []
theorem Enc2.err {e : Int} (he : e ≠ 0) : Enc2 noA noP e := by
  refine ⟨?_, c24_err he⟩
  simp only [noA, noP, plX, runes, ints]
  exact ⟨_, _, _, _, _, _, _, _, _, _, _, _, _, _, _, rfl, rfl⟩
theorem enc_both {l l' : List Nm} {lim : Int} (hs : ∀ d ∈ s, In64 d) (hs' : ∀ d ∈ s', In64 d) (h1 : LightP s ch t l 60) (h2 : LightP s' ch' t' l' 60) (hlim : 1 ≤ lim ∧ lim ≤ 12) : ∃ X Y e, Enc2 X Y e ∧
    Go.V.Call tab E 22 [.agg (arrX s ch t (l.map toRt)), .agg (arrX s' ch' t' (l'.map toRt)), .int .i64 lim] [] (.tup [.agg X, .int .i64 e]) [] ∧
    Go.V.Call tab E 23 [.agg (plX s ch t l), .agg (plX s' ch' t' l'), .int .i64 lim] [] (.tup [.agg Y, .int .i64 e]) [] := by
  obtain ⟨l1, l2, l3, l4, hR⟩ := h1
  obtain ⟨m1, m2, m3, m4, hR'⟩ := h2
  obtain ⟨A, A1, A2, A3, A4⟩ := light_rats hR.2 l4
  obtain ⟨B, B1, B2, B3, B4⟩ := light_rats hR'.2 m4
  have bad : ∀ {s t : List Int} {ch : Bool} {l : List Nm}, RightP s ch t l → badA ch t (l.map toRt) = decide (0 < t.length) := fun {s t ch l} h => by
    have h1 := h.1
    unfold Shapes at h1
    unfold badA
    rw [List.length_map]
    cases ch with
    | true => simp only [if_true] at h1; rw [h1.2, Nat.add_zero, Bool.true_and]
    | false => simp only [Bool.false_eq_true, if_false] at h1; rw [h1.2]; simp
  have e1 := bad hR
  have e2 := bad hR'
  by_cases ht : 0 < t.length ∨ 0 < t'.length
  · refine ⟨noA, noP, 22, Enc2.err (by omega), c22_bad (by omega) (by simp; omega) (by omega) (by simp; omega) ?_, c23_bad ht⟩
    rw [e1, e2]
    rcases ht with h | h
    · rw [decide_eq_true h]; rfl
    · rw [decide_eq_true h]; simp
  · obtain rfl : t = [] := List.eq_nil_of_length_eq_zero (by omega)
    obtain rfl : t' = [] := List.eq_nil_of_length_eq_zero (by omega)
    have hb1 : badA ch [] (l.map toRt) = false := by rw [e1]; rfl
    have hb2 : badA ch' [] (l'.map toRt) = false := by rw [e2]; rfl
    by_cases hr : roomE (s ++ s') = 0
    · have hc : count s = some (A.length : Int) := by
        have h := hR.1
        unfold Shapes at h
        rw [A1]
        cases ch with
        | true => simp only [if_true] at h; rw [h.1, h.2]; rfl
        | false => simp only [Bool.false_eq_true, if_false] at h; exact h.1
      have hc' : count s' = some (B.length : Int) := by
        have h := hR'.1
        unfold Shapes at h
        rw [B1]
        cases ch' with
        | true => simp only [if_true] at h; rw [h.1, h.2]; rfl
        | false => simp only [Bool.false_eq_true, if_false] at h; exact h.1
      have hcs : count s ≠ none := by rw [hc]; simp
      obtain ⟨_, _, _, _, q5, q6⟩ := count_parts hcs 1
      obtain ⟨w, hw⟩ := Int.eq_ofNat_of_zero_le q5
      have hn0 : 0 ≤ s.getD 0 1 := by
        cases s with
        | nil => decide
        | cons d ds => exact ((count_bound hc).2.1 d (by simp)).1
      obtain ⟨n, hn⟩ := Int.eq_ofNat_of_zero_le hn0
      have hnw : A.length = n * w := by
        have h := count_prd hc
        have h2 : prd s = s.getD 0 1 * prd (s.drop 1) := by
          cases s with
          | nil => rfl
          | cons d ds => rfl
        rw [h2, hn, hw, ← Int.natCast_mul] at h
        omega
      have k1 := c22_core (s := s) (s' := s') (A := A) (B := B) (ch := ch) (ch' := ch') (lim := lim) hs hs' hc hc' (by omega) (by omega) (fun a ha => A4 a ha) (fun a ha => B4 a ha) (by rw [← A2]; exact hb1) (by rw [← B2]; exact hb2) hn hw hnw hr ⟨by omega, by omega⟩
      have k2 := c23_core (s := s) (s' := s') (A := A) (B := B) (ch := ch) (ch' := ch') (lim := lim) hs hs' hc hc' (by omega) (by omega) A4 B4 hn hw hnw hr ⟨by omega, by omega⟩
      rw [← A2, ← B2] at k1
      rw [← A3, ← B3] at k2
      by_cases hg : encB A B n w lim = true
      · rw [if_pos hg, if_pos hg] at k1 k2
        refine ⟨_, _, _, ⟨?_, ?_⟩, k1, k2⟩
        · exact ⟨_, _, _, _, _, _, _, _, _, _, _, _, _, _, _, rfl, rfl⟩
        · have hall : n * w * B.length ≤ 3600 := by rw [← hnw]; exact Nat.le_trans (Nat.mul_le_mul (show A.length ≤ 60 by omega) (show B.length ≤ 60 by omega)) (by omega)
          have hel : (encL A B n w).length = n * w * B.length := by simp [encL]
          have := c24_yes (s := s ++ s') (t := []) (ch := false) (L := encL A B n w) (by simp; omega) (by simp) (by rw [hel]; omega) (fun x hx => by
            simp only [encL, List.mem_map, List.mem_range] at hx
            obtain ⟨q, hq, rfl⟩ := hx
            have h3 := encB_iff.1 hg q hq
            have h4 : max (limG (xT (dAt A B n w q)).2.1).length (limG (dn (xT (dAt A B n w q)).2.2)).length ≤ 12 := by
              have : rlimbs (xT (dAt A B n w q)) ≤ 12 := by omega
              exact this
            exact ⟨lim_short (by omega), lim_short (by omega)⟩)
          rw [encLN] at this
          exact this
      · rw [if_neg hg, if_neg hg] at k1 k2
        exact ⟨noA, noP, 26, Enc2.err (by omega), k1, k2⟩
    · exact ⟨noA, noP, _, Enc2.err hr, c22_room hs hs' l3 m3 (by simp) (by simp; omega) (by simp) (by simp; omega) (by rw [hb1, hb2]; rfl) hr, c23_room hs hs' l3 m3 hr⟩
theorem c19_ok {l : List Nm} {ok : Bool} (hs : ∀ d ∈ s, In64 d) (hu : ∀ x ∈ l, U8 x.2.1 ∧ U8 x.2.2) (hok : ok = true ↔ LightP s ch t l 60) : Go.V.Call tab E 19 [.agg (plX s ch t l)] [] (.bool ok) [] := by
  refine Go.V.Call.mach i19 c19 rfl rfl rfl rfl ?_
  have h := c10_ok (s := s) (t := t) (l := l) (ch := ch) (ok := ok) (most := 60) (by omega) hs hu hok
  simp only [plX, runes, ints] at h
  simp only [c19, plX, runes, ints, go_sem, FL, subP4]
  refine goP h ?_
  simp only [go_sem]
  simp only [i19, OT, reduceIte, Nat.reduceEqDiff]
theorem c5_ok {l l' : List Nm} {a : Int} (hs : ∀ d ∈ s, In64 d) (hu : ∀ x ∈ l, U8 x.2.1 ∧ U8 x.2.2) (hs' : ∀ d ∈ s', In64 d) (hu' : ∀ x ∈ l', U8 x.2.1 ∧ U8 x.2.2) (ha : 0 ≤ a ∧ a ≤ 255) :
    Go.V.Call tab E 5 [.agg (plX s ch t l), .agg (plX s' ch' t' l'), .int .u8 a] [] (.bool true) [] := by
  refine Go.V.Call.mach i5 c5 rfl rfl rfl rfl ?_
  have h19 := fun ok h => c19_ok (s := s) (t := t) (l := l) (ch := ch) (ok := ok) hs hu h
  have h19' := fun ok h => c19_ok (s := s') (t := t') (l := l') (ch := ch') (ok := ok) hs' hu' h
  have h21 := c21_base
  by_cases hL : LightP s ch t l 60
  · have k1 := h19 true ⟨fun _ => hL, fun _ => rfl⟩
    by_cases hL' : LightP s' ch' t' l' 60
    · have k2 := h19' true ⟨fun _ => hL', fun _ => rfl⟩
      have hLc := hL
      have hLc' := hL'
      obtain ⟨l1, l2, l3, l4, hR⟩ := hLc
      obtain ⟨m1, m2, m3, m4, hR'⟩ := hLc'
      have h20 := c20_ok (s := s) (t := t) (l := l) (ch := ch) (by omega) (by omega)
      have h20' := c20_ok (s := s') (t := t') (l := l') (ch := ch') (by omega) (by omega)
      have hmul : ((t.length + l.length : Nat) : Int) * ((t'.length + l'.length : Nat) : Int) ≤ 14400 := by
        have : (t.length + l.length) * (t'.length + l'.length) ≤ 120 * 120 := Nat.mul_le_mul (by omega) (by omega)
        rw [← Int.natCast_mul]; omega
      have hmul0 : 0 ≤ ((t.length + l.length : Nat) : Int) * ((t'.length + l'.length : Nat) : Int) := by rw [← Int.natCast_mul]; omega
      have hwr : IntKind.i64.wrap (((t.length + l.length : Nat) : Int) * ((t'.length + l'.length : Nat) : Int)) = ((t.length + l.length : Nat) : Int) * ((t'.length + l'.length : Nat) : Int) := wrap_i64 (by omega) (by omega)
      have w1 : IntKind.i64.wrap (a.tmod 12) = a.tmod 12 := by rw [Int.tmod_eq_emod_of_nonneg ha.1]; exact wrap_i64 (by omega) (by omega)
      have w2 : IntKind.i64.wrap (1 + a.tmod 12) = 1 + a.tmod 12 := by rw [Int.tmod_eq_emod_of_nonneg ha.1]; exact wrap_i64 (by omega) (by omega)
      have hUl : ∀ x ∈ l, NmU x := fun x hx => ⟨(hu x hx).1, (hu x hx).2, by have := (l4 x hx).1; omega, by have := (l4 x hx).2; omega⟩
      have hUl' : ∀ x ∈ l', NmU x := fun x hx => ⟨(hu' x hx).1, (hu' x hx).2, by have := (m4 x hx).1; omega, by have := (m4 x hx).2; omega⟩
      have h13 := c13_ok hs (by omega) (by omega) (by omega) hUl hR
      have h13' := c13_ok hs' (by omega) (by omega) (by omega) hUl' hR'
      obtain ⟨X, Y, e, ⟨⟨a1, a2, a3, b1, b2, b3, x1, x2, x3, y1, y2, y3, c, d, f, rfl, rfl⟩, h24⟩, h22, h23⟩ := enc_both (lim := 1 + a.tmod 12) hs hs' hL hL' (by rw [Int.tmod_eq_emod_of_nonneg ha.1]; omega)
      clear hR hR' l4 m4 hL hL' hu hu' hUl hUl' hs hs'
      simp only [plX, arrX, runes, ints] at k1 k2 h20 h20' h13 h13' h22 h23
      generalize ((t.length + l.length : Nat) : Int) = nl at *
      generalize ((t'.length + l'.length : Nat) : Int) = nl' at *
      by_cases h4 : 400 < nl * nl'
      · simp only [c5, plX, runes, ints, go_sem, FL, subP4]
        refine goP k1 ?_
        simp only [go_sem, FL, subP4]
        refine goP k2 ?_
        simp only [go_sem, FL, subP4]
        refine goP h20 ?_
        simp only [go_sem, FL, subP4]
        refine goP h20' ?_
        simp only [go_sem, FL, subP4, hwr, h4]
        refine goP h21 ?_
        simp only [go_sem]
        simp only [i5, OT, reduceIte, Nat.reduceEqDiff]
      · simp only [c5, plX, runes, ints, go_sem, FL, subP4]
        refine goP k1 ?_
        simp only [go_sem, FL, subP4]
        refine goP k2 ?_
        simp only [go_sem, FL, subP4]
        refine goP h20 ?_
        simp only [go_sem, FL, subP4]
        refine goP h20' ?_
        simp only [go_sem, FL, subP4, hwr, h4, w1, w2, show ¬ ((12 : Int) = 0) by omega]
        refine goP h13 ?_
        simp only [go_sem, FL, subP4]
        refine goP h13' ?_
        simp only [go_sem, FL, subP4]
        refine goP h22 ?_
        simp only [go_sem, FL, subP4, subA5]
        refine goP h23 ?_
        simp only [go_sem, FL, subP4, subA5]
        refine goR h24 rfl ?_
        simp only [go_sem, FL, subP4, subA5]
        refine goP h21 ?_
        simp only [go_sem]
        simp only [i5, OT, reduceIte, Nat.reduceEqDiff]
    · have k2 := h19' false ⟨fun h => (by cases h), fun h => absurd h hL'⟩
      simp only [plX, runes, ints] at k1 k2
      simp only [c5, plX, runes, ints, go_sem, FL, subP4]
      refine goP k1 ?_
      simp only [go_sem, FL, subP4]
      refine goP k2 ?_
      simp only [go_sem]
      refine goP h21 ?_
      simp only [go_sem]
      simp only [i5, OT, reduceIte, Nat.reduceEqDiff]
  · have k1 := h19 false ⟨fun h => (by cases h), fun h => absurd h hL⟩
    simp only [plX, runes, ints] at k1
    simp only [c5, plX, runes, ints, go_sem, FL, subP4]
    refine goP k1 ?_
    simp only [go_sem]
    refine goP h21 ?_
    simp only [go_sem]
    simp only [i5, OT, reduceIte, Nat.reduceEqDiff]
end
end Go.Proofs.YtlejgleocnemoaaGreat.I

-- PRINTED BY print.sh 35421559b90ae4d0a3588c463048766b98c2df88dd9212a6774a882060cdf62d: not written by this session
-- PRINTED WORDS (module Derived/Print/Sized.lean): go-gate-2's, for the rows of laws over slices: an AI agent of Go's test side, Tue Nov 17 2026; no person has read it. Lean checks it.
namespace Go.Proofs.YtlejgleocnemoaaGreatW.PrintWords
open Go.ChangeShapes Go.WideShapes
end Go.Proofs.YtlejgleocnemoaaGreatW.PrintWords

namespace Go.Proofs.YtlejgleocnemoaaGreat.I
open Go Go.V Go.ChangeShapes Go.WideShapes Go.Deep
section
variable {H : Type} {enc : TypeId × Value → H} {P : Program} {w : World} {spare : Nat → Bool} {held : Bool}
theorem open_num1 {e : TypeId} {f0 f1 f2 : Field} {fuel : Nat} {a : Addr} {cs : List Value} {y : DataW H × List MemPlace} (he : P.underlying e = some (.struct #[f0, f1, f2])) (hone : oneCellFields P #[f0, f1, f2] = true)
    (h0 : P.underlying f0.type = some .bool) (h1 : P.underlying f1.type = some .string) (h2 : P.underlying f2.type = some .string) (hc : w.cells? 0 a 3 = some cs) (h : DataW.trod enc P w 0 spare held fuel e cs = some y) :
    ∃ q : Nm, (w.cell? (a.add 0) = some (.bool q.1) ∧ w.cell? (a.add 1) = some (.string (bs q.2.1)) ∧ w.cell? (a.add 2) = some (.string (bs q.2.2))) ∧ U8 q.2.1 ∧ U8 q.2.2 ∧ q.2.1.length ≤ maxLen ∧ q.2.2.length ≤ maxLen := by
  obtain ⟨_, hlen, hcell⟩ := World.cells?_some hc
  obtain ⟨xs, k, _, _, _, hxl, hf⟩ := DataW.trod_struct he h
  obtain ⟨o0, k0⟩ := hone_of hone 0 f0 rfl
  obtain ⟨o1, k1⟩ := hone_of hone 1 f1 rfl
  obtain ⟨o2, k2⟩ := hone_of hone 2 f2 rfl
  match xs, hxl, cs, hlen with
  | [y0, y1, y2], _, [v0, v1, v2], _ =>
    have g0 := hf 0 f0 rfl
    have g1 := hf 1 f1 rfl
    have g2 := hf 2 f2 rfl
    simp [o0, k0] at g0
    simp [o1, k1] at g1
    simp [o2, k2] at g2
    obtain ⟨b, hb, _⟩ := DataW.trod_bool h0 g0
    obtain ⟨s1, hs1, _, hm1⟩ := DataW.trod_string h1 g1
    obtain ⟨s2, hs2, _, hm2⟩ := DataW.trod_string h2 g2
    obtain ⟨l1, hu1, rfl⟩ := bs_all s1
    obtain ⟨l2, hu2, rfl⟩ := bs_all s2
    simp only [List.cons.injEq, and_true] at hb hs1 hs2
    subst hb; subst hs1; subst hs2
    have c0 := hcell 0 (by omega)
    have c1 := hcell 1 (by omega)
    have c2 := hcell 2 (by omega)
    rw [bs_size] at hm1 hm2
    exact ⟨(b, l1, l2), ⟨by simpa using c0, by simpa using c1, by simpa using c2⟩, hu1, hu2, hm1, hm2⟩
theorem open_nums {t e : TypeId} {f0 f1 f2 : Field} {fuel : Nat} {cs : List Value} {x : DataW H × List MemPlace} (ht : P.underlying t = some (.slice e)) (he : P.underlying e = some (.struct #[f0, f1, f2])) (hone : oneCellFields P #[f0, f1, f2] = true)
    (hC : P.cellsOf e = 3) (h0 : P.underlying f0.type = some .bool) (h1 : P.underlying f1.type = some .string) (h2 : P.underlying f2.type = some .string) (h : DataW.trod enc P w 0 spare held fuel t cs = some x) :
    ∃ (a : Option Addr) (len cap : Nat) (l : List Nm), cs = [.slice a len cap] ∧ l.length = len ∧ len ≤ maxLen ∧ (∀ q ∈ l, U8 q.2.1 ∧ U8 q.2.2 ∧ q.2.1.length ≤ maxLen ∧ q.2.2.length ≤ maxLen) ∧ RG w (fun b => b < w.heap.size) (.sl l.length 3 (nmsC l)) (.slice a len cap) := by
  rcases open_slice ht h with ⟨rfl, _⟩ | ⟨a, len, cap, m, n, D, Pl, rfl, _, hl, hm, hmm, _, hx⟩
  · exact ⟨none, 0, 0, [], rfl, rfl, Nat.zero_le _, fun q hq => by simp at hq, .sl0⟩
  have hlm : len ≤ m := by rw [hmm]; split <;> omega
  rw [hC] at hx
  have each : ∀ i, i < len → ∃ q : Nm, (w.cell? (a.add (i * 3)) = some (.bool q.1) ∧ w.cell? (a.add (i * 3 + 1)) = some (.string (bs q.2.1)) ∧ w.cell? (a.add (i * 3 + 2)) = some (.string (bs q.2.2))) ∧ U8 q.2.1 ∧ U8 q.2.2 ∧ q.2.1.length ≤ maxLen ∧ q.2.2.length ≤ maxLen := fun i hi => by
    obtain ⟨cs', hc, hy⟩ := hx i (by omega)
    obtain ⟨q, ⟨g0, g1, g2⟩, hq⟩ := open_num1 he hone h0 h1 h2 hc hy
    rw [add_add] at g0 g1 g2
    exact ⟨q, ⟨g0, g1, g2⟩, hq⟩
  obtain ⟨f, hf⟩ := choose_lt (α := Nm) each
  refine ⟨some a, len, cap, (List.range len).map f, rfl, by simp, Nat.le_trans hl hm, fun q hq => ?_, ?_⟩
  · obtain ⟨i, hi, rfl⟩ := List.mem_map.1 hq
    exact (hf i (List.mem_range.1 hi)).2
  · have hll : ((List.range len).map f).length = len := by simp
    rw [hll]
    by_cases hz : len = 0
    · subst hz; exact .sl0
    obtain ⟨b, o, sp⟩ := a
    have hc0 := (hf 0 (by omega)).1.1
    have hsp : sp = none := by
      simp only [Addr.add, Nat.zero_mul, if_true, World.cell?] at hc0
      split at hc0
      · split at hc0
        · cases hc0
        · rename_i hh; simpa using hh
      · cases hc0
    subst hsp
    have addE : ∀ i, (⟨b, o, none⟩ : Addr).add i = ⟨b, o + i, none⟩ := fun i => by
      unfold Addr.add
      split
      · rename_i h; rw [h]; rfl
      · rfl
    have hb : b < w.heap.size := by
      rw [addE] at hc0
      unfold World.cell? at hc0
      split at hc0
      · rename_i hh; exact (Array.getElem?_eq_some_iff.1 hh).1
      · cases hc0
    have hat : ∀ i, i < len → ((List.range len).map f).getD i (false, [], []) = f i := fun i hi => by simp [List.getD, hi]
    have vlen : ∀ l : List Nm, (l.flatMap fun q => [Value.bool q.1, .string (bs q.2.1), .string (bs q.2.2)]).length = l.length * 3 := fun l => by
      induction l with
      | nil => rfl
      | cons q l ih => rw [List.flatMap_cons, List.length_append, ih, List.length_cons]; simp; omega
    have vget : ∀ (l : List Nm) (i k : Nat), i < l.length → k < 3 → (l.flatMap fun q => [Value.bool q.1, .string (bs q.2.1), .string (bs q.2.2)])[i * 3 + k]? = ([Value.bool (l.getD i (false, [], [])).1, .string (bs (l.getD i (false, [], [])).2.1), .string (bs (l.getD i (false, [], [])).2.2)])[k]? := fun l => by
      induction l with
      | nil => intro i k h; simp at h
      | cons q l ih =>
        intro i k hi hk
        cases i with
        | zero => rw [List.flatMap_cons, Nat.zero_mul, Nat.zero_add, List.getElem?_append_left (by simp; omega)]; rfl
        | succ i =>
          rw [List.flatMap_cons, List.getElem?_append_right (by simp; omega)]
          have e : (i + 1) * 3 + k - [Value.bool q.1, .string (bs q.2.1), .string (bs q.2.2)].length = i * 3 + k := by simp; omega
          rw [e, ih i k (by simpa using hi) hk]
          rfl
    have cget : ∀ (l : List Nm) (i k : Nat), i < l.length → k < 3 → (nmsC l)[i * 3 + k]? = (nmC (l.getD i (false, [], [])))[k]? := fun l i k hi hk => by
      rw [← flat_get (f := nmC) (fun _ => rfl) hi, List.getElem?_take, if_pos hk, List.getElem?_drop]
      rfl
    have split3 : ∀ j, j < len * 3 → ∃ i k, i < len ∧ k < 3 ∧ j = i * 3 + k := fun j hj => ⟨j / 3, j % 3, by omega, by omega, by omega⟩
    refine .sl (vs := ((List.range len).map f).flatMap fun q => [Value.bool q.1, .string (bs q.2.1), .string (bs q.2.2)]) (by omega) hl (by rw [nmsC, flat_len (fun _ => rfl), hll]) (by rw [vlen, nmsC, flat_len (fun _ => rfl)]) hb (fun u hu => ?_) (fun j u hu => ?_) (fun j c u hc hu => ?_)
    · obtain ⟨q, _, hq⟩ := List.mem_flatMap.1 hu
      simp only [List.mem_cons, List.not_mem_nil, or_false] at hq
      rcases hq with rfl | rfl | rfl <;> rfl
    · have hj := (List.getElem?_eq_some_iff.1 hu).1
      rw [vlen, hll] at hj
      obtain ⟨i, k, hi, hk, rfl⟩ := split3 j hj
      rw [vget _ i k (by rw [hll]; exact hi) hk, hat i hi] at hu
      obtain ⟨⟨g0, g1, g2⟩, _⟩ := hf i hi
      rw [addE] at g0 g1 g2
      match k, hk with
      | 0, _ => simp at hu; subst hu; exact g0
      | 1, _ => simp at hu; subst hu; exact g1
      | 2, _ => simp at hu; subst hu; exact g2
    · have hj := (List.getElem?_eq_some_iff.1 hu).1
      rw [vlen, hll] at hj
      obtain ⟨i, k, hi, hk, rfl⟩ := split3 j hj
      rw [vget _ i k (by rw [hll]; exact hi) hk] at hu
      rw [cget _ i k (by rw [hll]; exact hi) hk] at hc
      match k, hk with
      | 0, _ => simp [nmC] at hu hc; subst hu; subst hc; exact .bool
      | 1, _ => simp [nmC] at hu hc; subst hu; subst hc; exact .str
      | 2, _ => simp [nmC] at hu hc; subst hu; subst hc; exact .str
end
end Go.Proofs.YtlejgleocnemoaaGreat.I
