/- The texts L08q L08r L08t L08u L08v WSized LNum, one behind the other. Conditions: each text's own. -/
import Derived.Test.YtlejgleocnemoaaGreatG07
import Derived.SizedLaws
import Derived.ChangeSlices
import Derived.Test.YtlejgleocnemoaaGreatG02
import Derived.Test.YtlejgleocnemoaaGreatG06
import Derived.Deep.Slices
import Derived.Deep.Fields
import Derived.ChangeArms
set_option linter.unusedSimpArgs false
set_option linter.unusedVariables false
namespace Go.Proofs.YtlejgleocnemoaaGreat.I
open Go Go.V
attribute [local go_sem_proc ↓] reduceIte
attribute [local go_sem_proc] Nat.reduceEqDiff Nat.reduceAdd Nat.reduceMul Nat.reduceLeDiff Nat.reduceLT Int.reduceToNat Int.reduceLT Int.reduceLE reduceCtorEq Nat.reduceBEq
attribute [local go_sem] mNil nat0 beq_self_eq_true mSkip mRet mExit mReg mSeq mCond mTrue mFalse mBlock mLv mCodeE mCodeR mEndN mEndR mEndE mOps mSome mGuard mGtt mGff mGtf mGft mGu mCallP mCallR mCallF mCallO mCallZ mCallG mCallM mCallV loopQ_exit loopQ_ret mO_mov mO_newnil mO_pick mO_alloc mO_box mO_build mO_bsl mO_bslF mO_ldf mO_ld mO_st mO_sta mO_nilchk mO_bin mO_binb mO_binp mO_bins mO_neg mO_com mO_not mO_conv mO_mk mO_mk0 mO_s2b mO_b2s mO_cpy mO_cut mO_faddr mO_fld mO_iaddr mO_iaddrf mO_sidx mO_len mO_lenf mO_slen mO_scut mO_app mO_ext mO_mx mO_mn mO_mkfn evalOp cutOp argsE ev getE putE cellsOf adopt rowOf binV boolV nilV ar_add ar_sub ar_mul ar_quo ar_rem ar_eq ar_ne ar_lt ar_le ar_gt ar_ge ar_and ar_or ar_xor geto bound finRet finNrm ints List.length_cons List.length_nil List.length_append List.getElem?_cons_zero List.getElem?_cons_succ List.nil_append List.cons_append List.map_cons List.map_nil List.mapM_cons List.mapM_nil Option.map_some Option.map_none Option.bind_some Option.pure_def Option.bind_eq_bind List.drop_zero or_self or_false false_or or_true true_or true_and and_true and_self decide_true decide_false Bool.false_eq_true Bool.true_eq_false Bool.not_true Bool.not_false Nat.le_refl eq_self gt_iff_lt ge_iff_le ne_eq not_true_eq_false not_false_eq_true storeOp apartOf freeze_nil refsL refs List.flatMap_cons List.flatMap_nil List.append_nil List.contains_nil List.set_cons_zero List.set_cons_succ snap snapL fill_nums flat_nums nums_length Go.V.freeze List.mapIdx_cons List.mapIdx_nil List.contains_cons Bool.or_false Bool.false_or Bool.or_true Bool.true_or
def idx1 (k : Int) : List Int → Int → Int
  | [], _ => -1
  | a :: l, i => if k = a then i else idx1 k l (i + 1)
theorem idx1_mem {k : Int} : ∀ {l : List Int} {i : Int}, 0 ≤ i → (0 ≤ idx1 k l i ↔ k ∈ l)
  | [], i, _ => by simp [idx1]
  | a :: l, i, h => by
    rw [idx1, List.mem_cons]
    by_cases he : k = a
    · rw [if_pos he]; exact ⟨fun _ => .inl he, fun _ => h⟩
    · rw [if_neg he, idx1_mem (by omega)]
      exact ⟨.inr, fun h => h.elim (fun e => absurd e he) id⟩
theorem take_getD {l : List Int} {i : Nat} (h : i < l.length) : l.take (i + 1) = l.take i ++ [l.getD i 0] := by
  rw [List.take_add_one]
  simp [List.getD, h]
theorem inR_get : ∀ {s x : List Int} {i : Nat}, inR s x → i < s.length → 0 ≤ x.getD i 0 ∧ x.getD i 0 < s.getD i 0
  | d :: s, y :: x, 0, h, _ => h.1
  | d :: s, y :: x, i + 1, h, hi => by
    rw [List.getD_cons_succ, List.getD_cons_succ]
    exact inR_get h.2 (by simpa using hi)
  | [], _, i, _, hi => by simp at hi
  | d :: s, [], i, h, _ => by simp [inR] at h
theorem min_if {x y : Int} : min x y = if y < x then y else x := by split <;> omega
section
variable {E : CallRel}
theorem c140_ok {l : List Int} {k : Int} (hl : (l.length : Int) ≤ 1000000000) : Go.V.Call tab E 140 [ints l, .int .i64 k] [] (.int .i64 (idx1 k l 0)) [] := by
  refine Go.V.Call.mach i140 c140 rfl rfl rfl rfl ?_
  simp only [c140, go_sem]
  refine mLoop (fun N st => ∃ i : Nat, i ≤ l.length ∧ N = l.length - i ∧ idx1 k l 0 = idx1 k (l.drop i) i ∧ st = ⟨[(0, ints l), (1, .int .i64 k), (7, .int .i64 l.length), (8, .int .i64 i)], []⟩) l.length ⟨_, rfl, 0, by omega, by omega, rfl, rfl⟩ ?_
  rintro N s0 ⟨i, hi, rfl, hx, rfl⟩
  by_cases hlt : i < l.length
  · have hlt' : (i : Int) < (l.length : Int) := by omega
    have hi0 : (0 : Int) ≤ (i : Int) := by omega
    have hi1 : IntKind.i64.wrap ((i : Int) + 1) = ((i + 1 : Nat) : Int) := by rw [wrap_i64 (by omega) (by omega)]; omega
    have hsub := sub_nums (k := .i64) hlt
    rw [getD_drop hlt, idx1] at hx
    by_cases he : k = l.getD i 0
    · rw [if_pos he] at hx
      have he' : (k == l.getD i 0) = true := by simpa using he
      simp only [b140_0, go_sem, hlt', hi0, Int.toNat_natCast, hsub, he']
      simp only [i140, Out, resAll, geto, ints, List.getElem?_cons_zero, List.getElem?_cons_succ, resOf, outOf, snap, snapL, ev, getE, List.mapM_cons, List.mapM_nil, Option.bind_some, Option.pure_def, Option.bind_eq_bind, Option.map_some, reduceIte, Nat.reduceEqDiff, true_and, and_true, hx]
    · rw [if_neg he] at hx
      have he' : (k == l.getD i 0) = false := by simpa using he
      simp only [b140_0, go_sem, hlt', hi0, Int.toNat_natCast, hsub, he', hi1]
      exact loopQ_go rfl (l.length - (i + 1)) (by omega) ⟨i + 1, by omega, rfl, hx, rfl⟩
  · have hlt' : ¬ (i : Int) < (l.length : Int) := by omega
    rw [List.drop_eq_nil_of_le (by omega), idx1] at hx
    simp only [b140_0, k140_0, go_sem, hlt']
    simp only [i140, Out, resAll, geto, ints, List.getElem?_cons_zero, List.getElem?_cons_succ, resOf, outOf, snap, snapL, ev, getE, List.mapM_cons, List.mapM_nil, Option.bind_some, Option.pure_def, Option.bind_eq_bind, Option.map_some, reduceIte, Nat.reduceEqDiff, true_and, and_true, hx]
theorem c93_ok {l : List Int} {k : Int} {b : Bool} (hl : (l.length : Int) ≤ 1000000000) (hb : b = true ↔ k ∈ l) : Go.V.Call tab E 93 [ints l, .int .i64 k] [] (.bool b) [] := by
  refine Go.V.Call.mach i93 c93 rfl rfl rfl rfl ?_
  have h := c140_ok (E := E) (k := k) hl
  have hm := idx1_mem (k := k) (l := l) (i := 0) (by omega)
  generalize idx1 k l 0 = r at *
  simp only [c93, go_sem, snap]
  refine goP h ?_
  by_cases hr : 0 ≤ r
  · have : b = true := hb.2 (hm.1 hr)
    subst this
    simp only [go_sem, hr, decide_true]
    simp only [i93, Out, resAll, geto, ints, List.getElem?_cons_zero, List.getElem?_cons_succ, resOf, outOf, snap, snapL, ev, getE, List.mapM_cons, List.mapM_nil, Option.bind_some, Option.pure_def, Option.bind_eq_bind, Option.map_some, reduceIte, Nat.reduceEqDiff, true_and, and_true]
  · have : b = false := by
      cases b with
      | true => exact absurd (hm.2 (hb.1 rfl)) hr
      | false => rfl
    subst this
    simp only [go_sem, hr, decide_false]
    simp only [i93, Out, resAll, geto, ints, List.getElem?_cons_zero, List.getElem?_cons_succ, resOf, outOf, snap, snapL, ev, getE, List.mapM_cons, List.mapM_nil, Option.bind_some, Option.pure_def, Option.bind_eq_bind, Option.map_some, reduceIte, Nat.reduceEqDiff, true_and, and_true]
theorem c142_ok {x l s : List Int} (hin : inR s (l.map fun a => x.getD a.toNat 0)) (hl : l.length = s.length) (hll : (l.length : Int) ≤ 1000000) (ha : ∀ a ∈ l, 0 ≤ a ∧ a < x.length) (hd : ∀ d ∈ s, d ≤ 4096) (hp : ∀ k : Nat, 0 ≤ prd (s.drop k) ∧ prd (s.drop k) ≤ 4096) :
    Go.V.Call tab E 142 [ints x, .ptr [ints l] 0, .ptr [ints (strP s)] 0] [] (.int .i64 (dotT l (strP s) x)) [] := by
  refine Go.V.Call.mach i142 c142 rfl rfl rfl rfl ?_
  have hst : (strP s).length = l.length := by rw [strP_len, hl]
  simp only [c142, go_sem, subOne]
  refine mLoop (fun N st => ∃ i : Nat, i ≤ l.length ∧ N = l.length - i ∧ st = ⟨[(0, ints x), (2, .ptr [ints (strP s)] 0), (5, .int .i64 (dotT (l.take i) ((strP s).take i) x)), (8, ints l), (9, .int .i64 l.length), (10, .int .i64 i)], []⟩) l.length ⟨_, rfl, 0, by omega, by omega, rfl⟩ ?_
  rintro N s0 ⟨i, hi, rfl, rfl⟩
  by_cases hlt : i < l.length
  · have hlt' : (i : Int) < (l.length : Int) := by omega
    have hi0 : (0 : Int) ≤ (i : Int) := by omega
    have hi1 : IntKind.i64.wrap ((i : Int) + 1) = ((i + 1 : Nat) : Int) := by rw [wrap_i64 (by omega) (by omega)]; omega
    have hsub := sub_nums (k := .i64) hlt
    have hsub2 := sub_nums (k := .i64) (l := strP s) (i := i) (by omega)
    have ha' := ha (l.getD i 0) (by simp [List.getD, hlt])
    have hsub3 := sub_nums (k := .i64) (l := x) (i := (l.getD i 0).toNat) (by omega)
    have b1 := dotT_take (i := i) hin
    have b2 := dotT_take (i := i + 1) hin
    have b3 := dI_bound hin
    have b4 := hp 0
    rw [List.drop_zero] at b4
    have b5 := hp (i + 1)
    rw [← strP_get (by omega)] at b5
    have b6 := inR_get (i := i) hin (by omega)
    have e1 : (l.map fun a => x.getD a.toNat 0).getD i 0 = x.getD (l.getD i 0).toNat 0 := by simp [List.getD, hlt]
    rw [e1] at b6
    have b7 := hd (s.getD i 0) (by simp [List.getD, show i < s.length by omega])
    rw [take_getD hlt, take_getD (l := strP s) (by omega), dotT_snoc (by simp; omega)] at b2
    have e2 : dotT (l.take (i + 1)) ((strP s).take (i + 1)) x = dotT (l.take i) ((strP s).take i) x + (strP s).getD i 0 * x.getD (l.getD i 0).toNat 0 := by
      rw [take_getD hlt, take_getD (l := strP s) (by omega), dotT_snoc (by simp; omega)]
    have b8 := mul_bound b5.1 b5.2 b6.1 (show x.getD (l.getD i 0).toNat 0 ≤ 4096 by omega)
    have hst' : (i : Int) < ((strP s).length : Int) := by omega
    clear e1 hin
    generalize x.getD (l.getD i 0).toNat 0 = v at *
    generalize l.getD i 0 = a at *
    generalize (strP s).getD i 0 = w at *
    generalize dI s _ = z at *
    generalize hn : dotT (l.take i) ((strP s).take i) x = n at *
    generalize hwv : w * v = wv at *
    have w1 : IntKind.i64.wrap wv = wv := wrap_i64 (by omega) (by omega)
    have w2 : IntKind.i64.wrap (n + wv) = n + wv := wrap_i64 (by omega) (by omega)
    simp only [b142_0, go_sem, subOne, hlt', hi0, Int.toNat_natCast, hsub, hst', hsub2, ha', hsub3, hwv, w1, w2, hi1]
    exact loopQ_go rfl (l.length - (i + 1)) (by omega) ⟨i + 1, by omega, rfl, by rw [e2]; rfl⟩
  · have hlt' : ¬ (i : Int) < (l.length : Int) := by omega
    obtain rfl : i = l.length := by omega
    rw [List.take_length, List.take_of_length_le (by omega)]
    simp only [b142_0, k142_0, go_sem, hlt']
    simp only [i142, Out, resAll, geto, ints, List.getElem?_cons_zero, List.getElem?_cons_succ, resOf, outOf, snap, snapL, ev, getE, List.mapM_cons, List.mapM_nil, Option.bind_some, Option.pure_def, Option.bind_eq_bind, Option.map_some, reduceIte, Nat.reduceEqDiff, true_and, and_true]
end
def turnM (l s t : List Int) (ch : Bool) (L : List Rt) (k : Nat) : List AObj :=
  [⟨true, 22, 1, 0, 1, [ints l], false⟩, ⟨true, 35, 5, 0, 1, arrX s ch t L, false⟩, ⟨false, 3, 1, 0, 0, [], false⟩, ⟨false, 21, 1, 0, 0, [], false⟩, ⟨false, 98, 3, 0, 0, [], false⟩, ⟨true, 35, 5, 0, 1, [.arr 2 0, .bool false, .arr 3 0, .arr 4 0, .bool false], false⟩, ⟨false, 3, 1, k, k, nums .i64 (shpT l s k), false⟩]
theorem shpT_snoc {l s : List Int} {k : Nat} : shpT l s (k + 1) = shpT l s k ++ [dmin k l s 4096] := by simp [shpT, List.range_succ]
set_option maxHeartbeats 1000000 in
theorem c94_ok {l s t : List Int} {ch : Bool} {L : List Rt} {m n : Nat} (hs : ∀ d ∈ s, In64 d) (hcs : count s ≠ none) (hl : l.length = s.length) (ht : (t.length : Int) ≤ 1000000000) (hL : (L.length : Int) ≤ 1000000000)
    (hr : ∀ a ∈ l, 0 ≤ a ∧ a < m) (hm : ∀ k : Nat, k < m → (k : Int) ∈ l) (hc : count (shpT l s m) = some (n : Int)) :
    Go.V.Call tab E 94 [ints l, .agg (arrX s ch t L)] [] (.tup [.agg (arrX (shpT l s m) ch (picksT ch t (turnK l s m n)) (picksR ch L (turnK l s m n))), .int .i64 0]) [] := by
  refine Go.V.Call.mach i94 c94 rfl rfl rfl rfl ?_
  obtain ⟨hl8, _, _⟩ := count_iff.2 hcs
  obtain ⟨_, hd4, hpp⟩ := count_bound hc
  have hsd : ∀ d ∈ s, d ≤ 4096 := by
    have h0 := (count_parts hcs s.length).1
    rw [List.take_length] at h0
    exact fun d hd => ((count_bound h0).2.1 d hd).2
  have hp : ∀ k : Nat, 0 ≤ prd (s.drop k) ∧ prd (s.drop k) ≤ 4096 := fun k => by
    obtain ⟨_, _, _, _, h1, h2⟩ := count_parts hcs k
    exact ⟨h1, h2⟩
  have hm8 := pig hm
  have hn4 : (n : Int) ≤ 4096 := by
    have := (hpp (shpT l s m).length).2
    rw [List.take_length, ← count_prd hc] at this
    exact this
  have h44 := c48_X (s := s) (t := t) (l := L) (ch := ch) (by omega)
  have h121 := c111_ok (E := E) (s := s) (by omega)
  rw [str_P hp] at h121
  have h126 := c141_ok (E := E) (s := shpT l s m) (f := 142) (caps := [.ptr [ints l] 0, .ptr [ints (strP s)] 0]) (n := n) (v := fun j => dotT l (strP s) (ix (shpT l s m) j).1) hc (fun _ => rfl) rfl
    (fun j hj => c142_ok (turn_in hl hr hc hj) hl (by omega) (by rw [ix_len, shpT_len]; exact hr) hsd hp)
  have h84 := c91_ok (s := s) (t := t) (s' := shpT l s m) (ks := turnK l s m n) (L := L) (ch := ch) (fun d hd => ⟨by have := hd4 d hd; omega, by have := hd4 d hd; omega⟩) (by rw [shpT_len]; omega) (by omega) (by omega) (by rw [turnK_len]; omega)
  rw [turnK_len, fits_of hc, if_pos rfl, if_pos rfl] at h84
  have h125 : ∀ k : Nat, k ≤ m → Go.V.Call tab E 93 [ints l, .int .i64 k] [] (.bool (decide (k < m))) [] := fun k hk => c93_ok (by omega) (by
    rw [decide_eq_true_eq]
    exact ⟨hm k, fun h => by have := (hr _ h).2; omega⟩)
  change Go.V.Call tab E 141 [ints (shpT l s m), .fn 142 [.ptr [ints l] 0, .ptr [ints (strP s)] 0]] [] (ints (turnK l s m n)) [] at h126
  simp only [ints, turnK_len, shpT_len, arrX, runes] at h44 h121 h126 h84 h125
  have z0 : (0 : Int) ≤ (l.length : Int) := by omega
  have z1 : 8 * l.length ≤ 140737488355328 := by omega
  have z2 : (l.length : Int) ≤ 140737488355328 := by omega
  simp only [c94, arrX, runes, ints, go_sem, fillAll, fillIn, shiftR, shiftV, List.take_succ_cons, List.take_zero, List.drop_succ_cons, List.drop_zero, List.append_nil, Nat.zero_add, subA5]
  refine goP h44 ?_
  simp only [go_sem, fillAll, fillIn, shiftR, shiftV, List.take_succ_cons, List.take_zero, List.drop_succ_cons, List.drop_zero, List.append_nil, Nat.zero_add, subA5, subOne, Int.toNat_natCast, z0, z1, z2]
  refine mLoop (fun N st => ∃ k : Nat, k ≤ m ∧ N = m - k ∧ st = ⟨[(2, .loc 0 0 0), (3, .loc 1 0 0), (4, .loc 5 0 0), (6, ints s), (7, .arr 6 k), (8, .int .i64 k)], turnM l s t ch L k⟩) m ⟨_, rfl, 0, by omega, by omega, by simp [getE, turnM, shpT, arrX, ints, runes, nums]⟩ ?_
  rintro N s0 ⟨k, hk, rfl, rfl⟩
  by_cases hlt : k < m
  · have h125k := h125 k hk
    rw [decide_eq_true hlt] at h125k
    have hk1 : IntKind.i64.wrap ((k : Int) + 1) = ((k + 1 : Nat) : Int) := by rw [wrap_i64 (by omega) (by omega)]; omega
    simp only [b94_0, turnM, ints, go_sem, subOne]
    refine goP h125k ?_
    simp only [go_sem, subOne]
    refine mLoop (fun N st => ∃ i : Nat, i ≤ l.length ∧ N = l.length - i ∧ st = ⟨[(2, .loc 0 0 0), (3, .loc 1 0 0), (4, .loc 5 0 0), (6, ints s), (7, .arr 6 k), (8, .int .i64 k), (9, .int .i64 (dmin k (l.take i) (s.take i) 4096)), (24, ints l), (25, .int .i64 l.length), (26, .int .i64 i)], turnM l s t ch L k⟩) l.length ⟨_, rfl, 0, by omega, by omega, rfl⟩ ?_
    rintro N1 s1 ⟨i, hi, rfl, rfl⟩
    by_cases hlti : i < l.length
    · have hlti' : (i : Int) < (l.length : Int) := by omega
      have hlts' : (i : Int) < (s.length : Int) := by omega
      have hi0 : (0 : Int) ≤ (i : Int) := by omega
      have hi1 : IntKind.i64.wrap ((i : Int) + 1) = ((i + 1 : Nat) : Int) := by rw [wrap_i64 (by omega) (by omega)]; omega
      have hsub := sub_nums (k := .i64) hlti
      have hsub2 := sub_nums (k := .i64) (l := s) (i := i) (by omega)
      have e1 : dmin k (l.take (i + 1)) (s.take (i + 1)) 4096 = if l.getD i 0 = (k : Int) then min (dmin k (l.take i) (s.take i) 4096) (s.getD i 0) else dmin k (l.take i) (s.take i) 4096 := by
        rw [take_getD hlti, take_getD (l := s) (by omega), dmin_snoc (by simp; omega)]
      generalize l.getD i 0 = a at *
      generalize s.getD i 0 = b at *
      by_cases he : a = (k : Int)
      · rw [if_pos he, min_if] at e1
        have he' : (a == (k : Int)) = true := by simpa using he
        simp only [b94_1, turnM, ints, go_sem, subOne, hlti', hlts', hi0, Int.toNat_natCast, hsub, hsub2, he', hi1]
        exact loopQ_go rfl (l.length - (i + 1)) (by omega) ⟨i + 1, by omega, rfl, by rw [e1]; rfl⟩
      · rw [if_neg he] at e1
        have he' : (a == (k : Int)) = false := by simpa using he
        simp only [b94_1, turnM, ints, go_sem, subOne, hlti', hlts', hi0, Int.toNat_natCast, hsub, hsub2, he', hi1]
        exact loopQ_go rfl (l.length - (i + 1)) (by omega) ⟨i + 1, by omega, rfl, by rw [e1]; rfl⟩
    · have hlti' : ¬ (i : Int) < (l.length : Int) := by omega
      obtain rfl : i = l.length := by omega
      have e1 : dmin k (l.take l.length) (s.take l.length) 4096 = dmin k l s 4096 := by rw [List.take_length, List.take_of_length_le (by omega)]
      have q1 : (k + 1) * 8 ≤ 140737488355328 := by omega
      have q2 : k + 1 ≤ 140737488355328 := by omega
      rw [e1]
      simp only [b94_1, k94_0, k94_1, turnM, ints, go_sem, fillAll, fillIn, shiftR, shiftV, List.take_succ_cons, List.take_zero, List.drop_succ_cons, List.drop_zero, List.append_nil, Nat.zero_add, subOne, hlti', hk1, q1, q2, List.flatten_cons, List.flatten_nil, Option.getD_some]
      refine loopQ_go rfl (m - (k + 1)) (by omega) ⟨k + 1, by omega, rfl, ?_⟩
      rw [shpT_snoc, nums_app]
      rfl
  · have h125k := h125 k hk
    rw [decide_eq_false hlt] at h125k
    obtain rfl : k = m := by omega
    simp only [b94_0, k94_2, turnM, arrX, runes, ints, go_sem, fillAll, fillIn, shiftR, shiftV, List.take_succ_cons, List.take_zero, List.drop_succ_cons, List.drop_zero, List.append_nil, Nat.zero_add, subOne, subA5]
    refine goP h125k ?_
    simp only [go_sem, fillAll, fillIn, shiftR, shiftV, List.take_succ_cons, List.take_zero, List.drop_succ_cons, List.drop_zero, List.append_nil, Nat.zero_add, subOne, subA5]
    refine goP h121 ?_
    simp only [go_sem, fillAll, fillIn, shiftR, shiftV, List.take_succ_cons, List.take_zero, List.drop_succ_cons, List.drop_zero, List.append_nil, Nat.zero_add, subOne, subA5]
    refine goF h126 ?_
    simp only [go_sem, fillAll, fillIn, shiftR, shiftV, List.take_succ_cons, List.take_zero, List.drop_succ_cons, List.drop_zero, List.append_nil, Nat.zero_add, subOne, subA5]
    refine goF h84 ?_
    simp only [go_sem, fillAll, fillIn, shiftR, shiftV, List.take_succ_cons, List.take_zero, List.drop_succ_cons, List.drop_zero, List.append_nil, Nat.zero_add, subOne, subA5]
    simp only [i94, Out, resAll, geto, ints, List.getElem?_cons_zero, List.getElem?_cons_succ, resOf, outOf, snap, snapL, ev, getE, List.mapM_cons, List.mapM_nil, Option.bind_some, Option.pure_def, Option.bind_eq_bind, Option.map_some, reduceIte, Nat.reduceEqDiff, true_and, and_true, subA5, shpT_len]
theorem c38_ok {s t s' T : List Int} {ch : Bool} {L R : List Rt} (hsl : (s.length : Int) ≤ 1000000)
    (h87 : Go.V.Call tab E 94 [ints (revl s.length), .agg (arrX s ch t L)] [] (.tup [.agg (arrX s' ch T R), .int .i64 0]) []) :
    Go.V.Call tab E 38 [.agg (arrX s ch t L)] [] (.agg (arrX s' ch T R)) [] := by
  refine Go.V.Call.mach i38 c38 rfl rfl rfl rfl ?_
  have h66 := c56_X (s := s) (t := t) (l := L) (ch := ch) (by omega)
  have z0 : (0 : Int) ≤ (s.length : Int) := by omega
  have z1 : 8 * s.length ≤ 140737488355328 := by omega
  have z2 : (s.length : Int) ≤ 140737488355328 := by omega
  simp only [arrX, runes, ints, revl_len] at h66 h87
  simp only [c38, arrX, runes, ints, go_sem, fillAll, fillIn, shiftR, shiftV, List.take_succ_cons, List.take_zero, List.drop_succ_cons, List.drop_zero, List.append_nil, Nat.zero_add, subA5]
  refine goP h66 ?_
  simp only [go_sem, fillAll, fillIn, shiftR, shiftV, List.take_succ_cons, List.take_zero, List.drop_succ_cons, List.drop_zero, List.append_nil, Nat.zero_add, subA5, Int.toNat_natCast, z0, z1, z2, flat_nums]
  refine mLoop (fun N st => ∃ i : Nat, i ≤ s.length ∧ N = s.length - i ∧ st = ⟨[(1, .loc 0 0 0), (2, .loc 4 0 0), (3, .arr 5 0), (11, .int .i64 s.length), (12, .int .i64 i)],
      [⟨true, 35, 5, 0, 1, arrX s ch t L, false⟩, ⟨false, 3, 1, 0, 0, [], false⟩, ⟨false, 21, 1, 0, 0, [], false⟩, ⟨false, 98, 3, 0, 0, [], false⟩, ⟨true, 35, 5, 0, 1, [.arr 1 0, .bool false, .arr 2 0, .arr 3 0, .bool false], false⟩, ⟨false, 3, 1, 0, s.length, nums .i64 ((revl s.length).take i ++ List.replicate (s.length - i) 0), false⟩]⟩) s.length ⟨_, rfl, 0, by omega, by omega, by simp [getE, arrX, ints, runes, nums]⟩ ?_
  rintro N s0 ⟨i, hi, rfl, rfl⟩
  by_cases hlt : i < s.length
  · have hlt' : (i : Int) < (s.length : Int) := by omega
    have hi0 : (0 : Int) ≤ (i : Int) := by omega
    have hi1 : IntKind.i64.wrap ((i : Int) + 1) = ((i + 1 : Nat) : Int) := by rw [wrap_i64 (by omega) (by omega)]; omega
    have w1 : IntKind.i64.wrap ((s.length : Int) - 1) = (s.length : Int) - 1 := wrap_i64 (by omega) (by omega)
    have w2 : IntKind.i64.wrap ((s.length : Int) - 1 - (i : Int)) = (revl s.length).getD i 0 := by
      rw [wrap_i64 (by omega) (by omega)]; simp [revl, List.getD, hlt]
    have hrow := fill_row (ks := revl s.length) (i := i) (n := s.length) revl_len hlt
    have hst : i * 1 + 1 ≤ ((revl s.length).take i ++ List.replicate (s.length - i) 0).length := by rw [row_len revl_len (by omega)]; omega
    simp only [b38_0, go_sem, subA5, hlt']
    simp only [arrX, runes, ints, go_sem, fillAll, fillIn, shiftR, shiftV, List.take_succ_cons, List.take_zero, List.drop_succ_cons, List.drop_zero, List.append_nil, Nat.zero_add, subA5]
    refine goP h66 ?_
    generalize (revl s.length).take i ++ List.replicate (s.length - i) 0 = y at *
    simp only [go_sem, fillAll, fillIn, shiftR, shiftV, List.take_succ_cons, List.take_zero, List.drop_succ_cons, List.drop_zero, List.append_nil, Nat.zero_add, subA5, hlt', hi0, Int.toNat_natCast, w1, w2, hst, hi1]
    refine loopQ_go rfl (s.length - (i + 1)) (by omega) ⟨i + 1, by omega, rfl, ?_⟩
    rw [← hrow]
    simp [getE, nums, List.map_take, List.map_drop, arrX, ints, runes]
  · have hlt' : ¬ (i : Int) < (s.length : Int) := by omega
    obtain rfl : i = s.length := by omega
    rw [List.take_of_length_le (by rw [revl_len]; omega), Nat.sub_self, List.replicate_zero, List.append_nil]
    simp only [b38_0, k38_0, arrX, runes, ints, go_sem, fillAll, fillIn, shiftR, shiftV, List.take_succ_cons, List.take_zero, List.drop_succ_cons, List.drop_zero, List.append_nil, Nat.zero_add, subA5, hlt']
    refine goF h87 ?_
    simp only [go_sem, fillAll, fillIn, shiftR, shiftV, List.take_succ_cons, List.take_zero, List.drop_succ_cons, List.drop_zero, List.append_nil, Nat.zero_add, subA5]
    simp only [i38, Out, resAll, geto, ints, List.getElem?_cons_zero, List.getElem?_cons_succ, resOf, outOf, snap, snapL, ev, getE, List.mapM_cons, List.mapM_nil, Option.bind_some, Option.pure_def, Option.bind_eq_bind, Option.map_some, reduceIte, Nat.reduceEqDiff, true_and, and_true, subA5]
section
variable {s t : List Int} {ch : Bool} {L : List Rt}
end
def lmx : List Int → Int → Int
  | [], m => m
  | a :: l, m => lmx l (max m a)
theorem lmx_snoc {a : Int} : ∀ {l : List Int} {m : Int}, lmx (l ++ [a]) m = max (lmx l m) a
  | [], m => rfl
  | b :: l, m => by rw [List.cons_append, lmx, lmx, lmx_snoc]
theorem lmx_fact : ∀ {l : List Int} {m : Int}, m ≤ lmx l m ∧ (∀ a ∈ l, a ≤ lmx l m) ∧ (lmx l m = m ∨ lmx l m ∈ l)
  | [], m => ⟨Int.le_refl _, by simp, .inl rfl⟩
  | b :: l, m => by
    obtain ⟨h1, h2, h3⟩ := lmx_fact (l := l) (m := max m b)
    rw [lmx]
    refine ⟨by omega, fun a ha => ?_, ?_⟩
    · rcases List.mem_cons.1 ha with rfl | ha
      · omega
      · exact h2 a ha
    · rcases h3 with h3 | h3
      · by_cases hb : b ≤ m
        · exact .inl (by omega)
        · exact .inr (by rw [h3, show max m b = b by omega]; simp)
      · exact .inr (by simp [h3])
theorem max_if {x y : Int} : max x y = if x < y then y else x := by split <;> omega
theorem not_take {l : List Int} {i : Nat} {k : Int} (h : k ∉ l.take i) (hi : i < l.length) (hk : l.getD i 0 ≠ k) : k ∉ l.take (i + 1) := by
  rw [take_getD hi, List.mem_append]
  exact fun h2 => h2.elim h fun h3 => hk (List.mem_singleton.1 h3).symm
section
variable {E : CallRel}
theorem c95_ok {l : List Int} {k : Int} {b : Bool} (hl : (l.length : Int) ≤ 1000000000) (hb : b = true ↔ k ∈ l) : Go.V.Call tab E 95 [ints l, .int .i64 k] [] (.bool b) [] := by
  refine Go.V.Call.mach i95 c95 rfl rfl rfl rfl ?_
  simp only [c95, go_sem]
  refine mLoop (fun N st => ∃ i : Nat, i ≤ l.length ∧ N = l.length - i ∧ k ∉ l.take i ∧ st = ⟨[(0, ints l), (1, .int .i64 k), (5, .int .i64 i)], []⟩) l.length ⟨_, rfl, 0, by omega, by omega, by simp, rfl⟩ ?_
  rintro N s0 ⟨i, hi, rfl, hx, rfl⟩
  by_cases hlt : i < l.length
  · have hlt' : (i : Int) < (l.length : Int) := by omega
    have hi0 : (0 : Int) ≤ (i : Int) := by omega
    have hi1 : IntKind.i64.wrap ((i : Int) + 1) = ((i + 1 : Nat) : Int) := by rw [wrap_i64 (by omega) (by omega)]; omega
    have hsub := sub_nums (k := .i64) hlt
    by_cases he : l.getD i 0 = k
    · have hbt : b = true := hb.2 (by rw [← he]; simp [List.getD, hlt])
      subst hbt
      have he' : (l.getD i 0 == k) = true := by simpa using he
      simp only [b95_0, go_sem, hlt', hi0, Int.toNat_natCast, hsub, he']
      simp only [i95, Out, resAll, geto, ints, List.getElem?_cons_zero, List.getElem?_cons_succ, resOf, outOf, snap, snapL, ev, getE, List.mapM_cons, List.mapM_nil, Option.bind_some, Option.pure_def, Option.bind_eq_bind, Option.map_some, reduceIte, Nat.reduceEqDiff, true_and, and_true]
    · have he' : (l.getD i 0 == k) = false := by simpa using he
      simp only [b95_0, go_sem, hlt', hi0, Int.toNat_natCast, hsub, he', hi1]
      exact loopQ_go rfl (l.length - (i + 1)) (by omega) ⟨i + 1, by omega, rfl, not_take hx hlt he, rfl⟩
  · have hlt' : ¬ (i : Int) < (l.length : Int) := by omega
    rw [List.take_of_length_le (by omega)] at hx
    have hbf : b = false := by
      cases b with
      | true => exact absurd (hb.1 rfl) hx
      | false => rfl
    subst hbf
    simp only [b95_0, k95_0, go_sem, hlt']
    simp only [i95, Out, resAll, geto, ints, List.getElem?_cons_zero, List.getElem?_cons_succ, resOf, outOf, snap, snapL, ev, getE, List.mapM_cons, List.mapM_nil, Option.bind_some, Option.pure_def, Option.bind_eq_bind, Option.map_some, reduceIte, Nat.reduceEqDiff, true_and, and_true]
end
def docM (s t : List Int) (ch : Bool) (L : List Nm) (r : List AObj) : List AObj :=
  ⟨true, 26, 4, 0, 1, plX s ch t L, false⟩ :: ⟨false, 3, 1, 0, 0, [], false⟩ :: ⟨false, 21, 1, 0, 0, [], false⟩ :: ⟨false, 72, 3, 0, 0, [], false⟩ :: ⟨true, 26, 4, 0, 1, [.arr 1 0, .bool false, .arr 2 0, .arr 3 0], false⟩ :: r
theorem turnK_snoc {l s : List Int} {m j : Nat} : turnK l s m (j + 1) = turnK l s m j ++ [dotT l (strP s) (ix (shpT l s m) j).1] := by simp [turnK, List.range_succ]
set_option maxHeartbeats 2000000 in
theorem c96_ok {l s t : List Int} {ch : Bool} {L : List Nm} {m n : Nat} (hcs : count s ≠ none) (hl : l.length = s.length) (hch : (ch = true → L = []) ∧ (ch = false → t = [])) (ht : (t.length : Int) ≤ 1000000000) (hL : (L.length : Int) ≤ 1000000000)
    (hr : ∀ a ∈ l, 0 ≤ a ∧ a < m) (hm : ∀ k : Nat, k < m → (k : Int) ∈ l) (hmx : lmx l (-1) = (m : Int) - 1) (hc : count (shpT l s m) = some (n : Int)) :
    Go.V.Call tab E 96 [ints l, .agg (plX s ch t L)] [] (.agg (plX (shpT l s m) ch (picksT ch t (turnK l s m n)) (picksN ch L (turnK l s m n)))) [] := by
  refine Go.V.Call.mach i96 c96 rfl rfl rfl rfl ?_
  obtain ⟨hl8, _, _⟩ := count_iff.2 hcs
  obtain ⟨_, hd4, hpp⟩ := count_bound hc
  have hm8 := pig hm
  have hn4 : (n : Int) ≤ 4096 := by
    have := (hpp (shpT l s m).length).2
    rw [List.take_length, ← count_prd hc] at this
    exact this
  obtain ⟨hall, hget⟩ := allL_all hc
  have h80 := c80_ok (E := E) hc
  have h53 := c53_ok (s := s) (t := t) (s' := shpT l s m) (ks := turnK l s m n) (l := L) (ch := ch) hch (by omega) (by omega) (by rw [turnK_len]; omega)
  simp only [plX, runes, ints, rows, shpT_len, turnK_len] at h53 h80
  simp only [c96, plX, runes, ints, go_sem, fillAll, fillIn, shiftR, shiftV, List.take_succ_cons, List.take_zero, List.drop_succ_cons, List.drop_zero, List.append_nil, Nat.zero_add, subP4]
  refine mLoop (fun N st => ∃ i : Nat, i ≤ l.length ∧ N = l.length - i ∧ st = ⟨[(0, ints l), (3, .loc 0 0 0), (4, .loc 4 0 0), (5, .int .i64 (lmx (l.take i) (-1))), (6, .int .i64 i)], docM s t ch L []⟩) l.length ⟨_, rfl, 0, by omega, by omega, by simp [getE, docM, ints, runes, plX, lmx]⟩ ?_
  rintro N s0 ⟨i, hi, rfl, rfl⟩
  by_cases hlt : i < l.length
  · have hlt' : (i : Int) < (l.length : Int) := by omega
    have hi0 : (0 : Int) ≤ (i : Int) := by omega
    have hi1 : IntKind.i64.wrap ((i : Int) + 1) = ((i + 1 : Nat) : Int) := by rw [wrap_i64 (by omega) (by omega)]; omega
    have hsub := sub_nums (k := .i64) hlt
    have e1 : lmx (l.take (i + 1)) (-1) = if lmx (l.take i) (-1) < l.getD i 0 then l.getD i 0 else lmx (l.take i) (-1) := by rw [take_getD hlt, lmx_snoc, max_if]
    generalize l.getD i 0 = a at *
    generalize hM : lmx (l.take i) (-1) = M at *
    by_cases hg : M < a
    · rw [if_pos hg] at e1
      simp only [b96_0, docM, ints, go_sem, hlt', hi0, Int.toNat_natCast, hsub, hg, hi1]
      exact loopQ_go rfl (l.length - (i + 1)) (by omega) ⟨i + 1, by omega, rfl, by rw [e1]; rfl⟩
    · rw [if_neg hg] at e1
      simp only [b96_0, docM, ints, go_sem, hlt', hi0, Int.toNat_natCast, hsub, hg, hi1]
      exact loopQ_go rfl (l.length - (i + 1)) (by omega) ⟨i + 1, by omega, rfl, by rw [e1]; rfl⟩
  · have hlt' : ¬ (i : Int) < (l.length : Int) := by omega
    rw [List.take_of_length_le (by omega), hmx]
    simp only [b96_0, k96_6, docM, ints, go_sem, fillAll, fillIn, shiftR, shiftV, List.take_succ_cons, List.take_zero, List.drop_succ_cons, List.drop_zero, List.append_nil, Nat.zero_add, hlt']
    refine mLoop (fun N st => ∃ k : Nat, k ≤ m ∧ N = m - k ∧ st = ⟨[(0, ints l), (3, .loc 0 0 0), (4, .loc 4 0 0), (5, .int .i64 ((m : Int) - 1)), (7, .arr 5 k), (8, .int .i64 k)], docM s t ch L [⟨false, 3, 1, k, k, nums .i64 (shpT l s k), false⟩]⟩) m ⟨_, rfl, 0, by omega, by omega, by simp [getE, docM, ints, nums, shpT]⟩ ?_
    rintro N1 s1 ⟨k, hk, rfl, rfl⟩
    by_cases hltk : k < m
    · have hltk' : (k : Int) ≤ (m : Int) - 1 := by omega
      have hk1 : IntKind.i64.wrap ((k : Int) + 1) = ((k + 1 : Nat) : Int) := by rw [wrap_i64 (by omega) (by omega)]; omega
      simp only [b96_1, docM, ints, go_sem, hltk']
      refine mLoop (fun N st => ∃ i : Nat, i ≤ l.length ∧ N = l.length - i ∧ st = ⟨[(0, ints l), (3, .loc 0 0 0), (4, .loc 4 0 0), (5, .int .i64 ((m : Int) - 1)), (7, .arr 5 k), (8, .int .i64 k), (9, .int .i64 (dmin k (l.take i) (s.take i) 4096)), (10, .int .i64 i)], docM s t ch L [⟨false, 3, 1, k, k, nums .i64 (shpT l s k), false⟩]⟩) l.length ⟨_, rfl, 0, by omega, by omega, rfl⟩ ?_
      rintro N2 s2 ⟨i, hi, rfl, rfl⟩
      by_cases hlti : i < l.length
      · have hlti' : (i : Int) < (l.length : Int) := by omega
        have hlts' : (i : Int) < (s.length : Int) := by omega
        have hi0 : (0 : Int) ≤ (i : Int) := by omega
        have hi1 : IntKind.i64.wrap ((i : Int) + 1) = ((i + 1 : Nat) : Int) := by rw [wrap_i64 (by omega) (by omega)]; omega
        have hsub := sub_nums (k := .i64) hlti
        have hsub2 := sub_nums (k := .i64) (l := s) (i := i) (by omega)
        have e1 : dmin k (l.take (i + 1)) (s.take (i + 1)) 4096 = if l.getD i 0 = (k : Int) then (if s.getD i 0 < dmin k (l.take i) (s.take i) 4096 then s.getD i 0 else dmin k (l.take i) (s.take i) 4096) else dmin k (l.take i) (s.take i) 4096 := by
          rw [take_getD hlti, take_getD (l := s) (by omega), dmin_snoc (by simp; omega), min_if]
        generalize l.getD i 0 = a at *
        generalize s.getD i 0 = b at *
        generalize hD : dmin k (l.take i) (s.take i) 4096 = D at *
        by_cases he : a = (k : Int)
        · rw [if_pos he] at e1
          have he' : (a == (k : Int)) = true := by simpa using he
          by_cases hb : b < D
          · rw [if_pos hb] at e1
            simp only [b96_2, docM, plX, runes, ints, go_sem, subP4, subP4a, hlti', hlts', hi0, Int.toNat_natCast, hsub, hsub2, he', hb, hi1]
            exact loopQ_go rfl (l.length - (i + 1)) (by omega) ⟨i + 1, by omega, rfl, by rw [e1]; rfl⟩
          · rw [if_neg hb] at e1
            simp only [b96_2, docM, plX, runes, ints, go_sem, subP4, subP4a, hlti', hlts', hi0, Int.toNat_natCast, hsub, hsub2, he', hb, hi1]
            exact loopQ_go rfl (l.length - (i + 1)) (by omega) ⟨i + 1, by omega, rfl, by rw [e1]; rfl⟩
        · rw [if_neg he] at e1
          have he' : (a == (k : Int)) = false := by simpa using he
          simp only [b96_2, docM, plX, runes, ints, go_sem, subP4, subP4a, hlti', hlts', hi0, Int.toNat_natCast, hsub, hsub2, he', hi1]
          exact loopQ_go rfl (l.length - (i + 1)) (by omega) ⟨i + 1, by omega, rfl, by rw [e1]; rfl⟩
      · have hlti' : ¬ (i : Int) < (l.length : Int) := by omega
        obtain rfl : i = l.length := by omega
        have e1 : dmin k (l.take l.length) (s.take l.length) 4096 = dmin k l s 4096 := by rw [List.take_length, List.take_of_length_le (by omega)]
        have q1 : (k + 1) * 8 ≤ 140737488355328 := by omega
        have q2 : k + 1 ≤ 140737488355328 := by omega
        rw [e1]
        simp only [b96_2, k96_0, k96_1, docM, ints, go_sem, fillAll, fillIn, shiftR, shiftV, List.take_succ_cons, List.take_zero, List.drop_succ_cons, List.drop_zero, List.append_nil, Nat.zero_add, hlti', hk1, q1, q2, List.flatten_cons, List.flatten_nil, Option.getD_some]
        refine loopQ_go rfl (m - (k + 1)) (by omega) ⟨k + 1, by omega, rfl, ?_⟩
        rw [shpT_snoc, nums_app]
        rfl
    · have hltk' : ¬ (k : Int) ≤ (m : Int) - 1 := by omega
      obtain rfl : k = m := by omega
      simp only [b96_1, k96_5, docM, ints, go_sem, fillAll, fillIn, shiftR, shiftV, List.take_succ_cons, List.take_zero, List.drop_succ_cons, List.drop_zero, List.append_nil, Nat.zero_add, hltk']
      refine goF h80 ?_
      simp only [go_sem, fillAll, fillIn, shiftR, shiftV, List.take_succ_cons, List.take_zero, List.drop_succ_cons, List.drop_zero, List.append_nil, Nat.zero_add]
      refine mLoop (fun N st => ∃ j : Nat, j ≤ n ∧ N = n - j ∧ st = ⟨[(0, ints l), (3, .loc 0 0 0), (4, .loc 4 0 0), (7, .arr 5 k), (11, .sl (allL (shpT l s k)).length 1 ((allL (shpT l s k)).map ints)), (12, .arr 6 j), (13, .int .i64 j)], docM s t ch L [⟨false, 3, 1, k, k, nums .i64 (shpT l s k), true⟩, ⟨false, 3, 1, j, j, nums .i64 (turnK l s k j), false⟩]⟩) n ⟨_, rfl, 0, by omega, by omega, rfl⟩ ?_
      rintro N2 s2 ⟨j, hj, rfl, rfl⟩
      by_cases hltj : j < n
      · have hltj' : (j : Int) < ((allL (shpT l s k)).length : Int) := by rw [hall]; omega
        have hj0 : (0 : Int) ≤ (j : Int) := by omega
        have hj1 : IntKind.i64.wrap ((j : Int) + 1) = ((j + 1 : Nat) : Int) := by rw [wrap_i64 (by omega) (by omega)]; omega
        have hsubj := sub_rows (L := allL (shpT l s k)) (j := j) (by omega)
        rw [hget j hltj] at hsubj
        have hxl := ix_len (s := shpT l s k) (a := (j : Int))
        rw [shpT_len] at hxl
        have hin := turn_in hl hr hc hltj
        have hpl := pl_dI (n := 0) hin
        rw [Int.zero_mul, Int.zero_add, ← dotT_dI hl] at hpl
        have hsn := turnK_snoc (l := l) (s := s) (m := k) (j := j)
        generalize (ix (shpT l s k) j).1 = x at *
        generalize dotT l (strP s) x = z at *
        have hfl : (l.map fun a => x.getD a.toNat 0).length = l.length := List.length_map _
        obtain ⟨p, h99, hp⟩ := c99_ok (E := E) (s := s) (idx := l.map fun a => x.getD a.toNat 0) (by omega) (by omega)
        have hpv : p = z := by
          rcases hp hcs with ⟨h1, _⟩ | ⟨_, h1⟩
          · rw [hpl] at h1; cases h1
          · rw [hpl] at h1; exact (Option.some.inj h1).symm
        subst hpv
        simp only [ints, hfl] at h99
        rw [ints, hxl] at hsubj
        simp only [b96_3, docM, ints, go_sem, fillAll, fillIn, shiftR, shiftV, List.take_succ_cons, List.take_zero, List.drop_succ_cons, List.drop_zero, List.append_nil, Nat.zero_add, hltj']
        refine mLoop (fun N st => ∃ i : Nat, i ≤ l.length ∧ N = l.length - i ∧ st = ⟨[(0, ints l), (3, .loc 0 0 0), (4, .loc 4 0 0), (7, .arr 5 k), (11, .sl (allL (shpT l s k)).length 1 ((allL (shpT l s k)).map ints)), (12, .arr 6 j), (13, .int .i64 j), (14, .arr 7 i), (15, .int .i64 i)], docM s t ch L [⟨false, 3, 1, k, k, nums .i64 (shpT l s k), true⟩, ⟨false, 3, 1, j, j, nums .i64 (turnK l s k j), false⟩, ⟨false, 3, 1, i, i, nums .i64 ((l.map fun a => x.getD a.toNat 0).take i), false⟩]⟩) l.length ⟨_, rfl, 0, by omega, by omega, rfl⟩ ?_
        rintro N3 s3 ⟨i, hi, rfl, rfl⟩
        by_cases hlti : i < l.length
        · have hlti' : (i : Int) < (l.length : Int) := by omega
          have hi0 : (0 : Int) ≤ (i : Int) := by omega
          have hi1 : IntKind.i64.wrap ((i : Int) + 1) = ((i + 1 : Nat) : Int) := by rw [wrap_i64 (by omega) (by omega)]; omega
          have hsub := sub_nums (k := .i64) hlti
          have ha := hr (l.getD i 0) (by simp [List.getD, hlti])
          have ha1 := ha.1
          have ha2 := ha.2
          have hsub3 := sub_nums (k := .i64) (l := x) (i := (l.getD i 0).toNat) (by omega)
          have e1 : (l.map fun a => x.getD a.toNat 0).take (i + 1) = (l.map fun a => x.getD a.toNat 0).take i ++ [x.getD (l.getD i 0).toNat 0] := by
            rw [take_getD (by omega)]
            simp [List.getD, hlti]
          have q1 : (i + 1) * 8 ≤ 140737488355328 := by omega
          have q2 : i + 1 ≤ 140737488355328 := by omega
          generalize (l.map fun a => x.getD a.toNat 0).take i = y at *
          generalize x.getD (l.getD i 0).toNat 0 = v at *
          generalize l.getD i 0 = a at *
          simp only [b96_4, docM, ints, go_sem, fillAll, fillIn, shiftR, shiftV, List.take_succ_cons, List.take_zero, List.drop_succ_cons, List.drop_zero, List.append_nil, Nat.zero_add, hlti', hltj', hi0, hj0, Int.toNat_natCast, hsub, hsubj, ha1, ha2, hsub3, hi1, q1, q2, List.flatten_cons, List.flatten_nil, Option.getD_some]
          refine loopQ_go rfl (l.length - (i + 1)) (by omega) ⟨i + 1, by omega, rfl, ?_⟩
          rw [e1, nums_app]
          rfl
        · have hlti' : ¬ (i : Int) < (l.length : Int) := by omega
          obtain rfl : i = l.length := by omega
          have q1 : (j + 1) * 8 ≤ 140737488355328 := by omega
          have q2 : j + 1 ≤ 140737488355328 := by omega
          rw [List.take_of_length_le (by omega)]
          simp only [b96_4, k96_2, k96_3, docM, plX, runes, ints, go_sem, fillAll, fillIn, shiftR, shiftV, List.take_succ_cons, List.take_zero, List.drop_succ_cons, List.drop_zero, List.append_nil, Nat.zero_add, subP4, subP4a, hlti']
          refine goR h99 rfl ?_
          simp only [go_sem, fillAll, fillIn, shiftR, shiftV, List.take_succ_cons, List.take_zero, List.drop_succ_cons, List.drop_zero, List.append_nil, Nat.zero_add, hj1, q1, q2, List.flatten_cons, List.flatten_nil, Option.getD_some]
          refine loopQ_go rfl (n - (j + 1)) (by omega) ⟨j + 1, by omega, rfl, ?_⟩
          rw [hsn, nums_app]
          rfl
      · have hltj' : ¬ (j : Int) < ((allL (shpT l s k)).length : Int) := by rw [hall]; omega
        obtain rfl : j = n := by omega
        simp only [b96_3, k96_4, docM, plX, runes, ints, go_sem, fillAll, fillIn, shiftR, shiftV, List.take_succ_cons, List.take_zero, List.drop_succ_cons, List.drop_zero, List.append_nil, Nat.zero_add, subP4, subP4a, hltj']
        refine goF h53 ?_
        simp only [go_sem, fillAll, fillIn, shiftR, shiftV, List.take_succ_cons, List.take_zero, List.drop_succ_cons, List.drop_zero, List.append_nil, Nat.zero_add, subP4]
        simp only [i96, Out, resAll, geto, ints, List.getElem?_cons_zero, List.getElem?_cons_succ, resOf, outOf, snap, snapL, ev, getE, List.mapM_cons, List.mapM_nil, Option.bind_some, Option.pure_def, Option.bind_eq_bind, Option.map_some, reduceIte, Nat.reduceEqDiff, true_and, and_true, subP4, plX, runes, ints, shpT_len]
theorem c39_ok {s t s' T : List Int} {ch : Bool} {L R : List Nm} (hsl : (s.length : Int) ≤ 1000000)
    (h96 : Go.V.Call tab E 96 [ints (revl s.length), .agg (plX s ch t L)] [] (.agg (plX s' ch T R)) []) :
    Go.V.Call tab E 39 [.agg (plX s ch t L)] [] (.agg (plX s' ch T R)) [] := by
  refine Go.V.Call.mach i39 c39 rfl rfl rfl rfl ?_
  simp only [plX, runes, ints, revl_len] at h96
  simp only [c39, plX, runes, ints, go_sem, fillAll, fillIn, shiftR, shiftV, List.take_succ_cons, List.take_zero, List.drop_succ_cons, List.drop_zero, List.append_nil, Nat.zero_add, subP4]
  refine mLoop (fun N st => ∃ i : Nat, i ≤ s.length ∧ N = s.length - i ∧ st = ⟨[(1, .loc 0 0 0), (2, .loc 4 0 0), (3, .arr 5 i), (4, .int .i64 i)], docM s t ch L [⟨false, 3, 1, i, i, nums .i64 ((revl s.length).take i), false⟩]⟩) s.length ⟨_, rfl, 0, by omega, by omega, by simp [getE, docM, ints, runes, plX, nums]⟩ ?_
  rintro N s0 ⟨i, hi, rfl, rfl⟩
  by_cases hlt : i < s.length
  · have hlt' : (i : Int) < (s.length : Int) := by omega
    have hi1 : IntKind.i64.wrap ((i : Int) + 1) = ((i + 1 : Nat) : Int) := by rw [wrap_i64 (by omega) (by omega)]; omega
    have w1 : IntKind.i64.wrap ((s.length : Int) - 1) = (s.length : Int) - 1 := wrap_i64 (by omega) (by omega)
    have w2 : IntKind.i64.wrap ((s.length : Int) - 1 - (i : Int)) = (revl s.length).getD i 0 := by
      rw [wrap_i64 (by omega) (by omega)]; simp [revl, List.getD, hlt]
    have e1 := take_getD (l := revl s.length) (i := i) (by rw [revl_len]; exact hlt)
    have q1 : (i + 1) * 8 ≤ 140737488355328 := by omega
    have q2 : i + 1 ≤ 140737488355328 := by omega
    generalize (revl s.length).take i = y at *
    generalize (revl s.length).getD i 0 = v at *
    simp only [b39_0, docM, plX, runes, ints, go_sem, fillAll, fillIn, shiftR, shiftV, List.take_succ_cons, List.take_zero, List.drop_succ_cons, List.drop_zero, List.append_nil, Nat.zero_add, subP4, subP4a, hlt', w1, w2, hi1, q1, q2, List.flatten_cons, List.flatten_nil, Option.getD_some]
    refine loopQ_go rfl (s.length - (i + 1)) (by omega) ⟨i + 1, by omega, rfl, ?_⟩
    rw [e1, nums_app]
    rfl
  · have hlt' : ¬ (i : Int) < (s.length : Int) := by omega
    obtain rfl : i = s.length := by omega
    rw [List.take_of_length_le (by rw [revl_len]; omega)]
    simp only [b39_0, k39_0, docM, plX, runes, ints, go_sem, fillAll, fillIn, shiftR, shiftV, List.take_succ_cons, List.take_zero, List.drop_succ_cons, List.drop_zero, List.append_nil, Nat.zero_add, subP4, subP4a, hlt']
    refine goF h96 ?_
    simp only [go_sem, fillAll, fillIn, shiftR, shiftV, List.take_succ_cons, List.take_zero, List.drop_succ_cons, List.drop_zero, List.append_nil, Nat.zero_add, subP4]
    simp only [i39, Out, resAll, geto, ints, List.getElem?_cons_zero, List.getElem?_cons_succ, resOf, outOf, snap, snapL, ev, getE, List.mapM_cons, List.mapM_nil, Option.bind_some, Option.pure_def, Option.bind_eq_bind, Option.map_some, reduceIte, Nat.reduceEqDiff, true_and, and_true, subP4, plX, runes, ints]
def shw (w : List Int) (o : Int) : List Int := w.map fun a => a - o
theorem shw_len {w : List Int} {o : Int} : (shw w o).length = w.length := by simp [shw]
theorem shw_get {w : List Int} {o : Int} {i : Nat} (h : i < w.length) : (shw w o).getD i 0 = w.getD i 0 - o := by simp [shw, List.getD, h]
def okW (w : List Int) (o : Int) : Prop := ∀ a ∈ w, o ≤ a ∧ a < o + w.length
theorem okW_no {w : List Int} {o : Int} {i : Nat} (h : i < w.length) (hb : w.getD i 0 < o ∨ o + w.length ≤ w.getD i 0) : ¬ okW w o := fun hk => by
  have := hk (w.getD i 0) (by simp [List.getD, h])
  omega
theorem okW_snoc {w : List Int} {o : Int} {i : Nat} (h : i < w.length) (hk : ∀ a ∈ w.take i, o ≤ a ∧ a < o + w.length) (h1 : ¬ w.getD i 0 < o) (h2 : ¬ o + w.length ≤ w.getD i 0) : ∀ a ∈ w.take (i + 1), o ≤ a ∧ a < o + w.length := by
  intro a ha
  rw [take_getD h, List.mem_append] at ha
  rcases ha with ha | ha
  · exact hk a ha
  · obtain rfl := List.mem_singleton.1 ha
    omega
theorem mid_get {u v : List Int} {i : Nat} (h : u.length = v.length) (hi : i < v.length) : (u.take i ++ v.drop i).getD i 0 = v.getD i 0 ∧ (u.take i ++ v.drop i).length = v.length ∧ (u.take i ++ v.drop i).take i ++ u.getD i 0 :: (u.take i ++ v.drop i).drop (i + 1) = u.take (i + 1) ++ v.drop (i + 1) := by
  have e : (u.take i).length = i := by simp; omega
  refine ⟨?_, by simp; omega, ?_⟩
  · simp only [List.getD]
    rw [List.getElem?_append_right (by omega), e, Nat.sub_self, List.getElem?_drop]
    simp
  · rw [List.take_left' e, take_getD (l := u) (by omega), List.drop_append, List.drop_eq_nil_of_le (by omega), e, List.drop_drop]
    simp [show i + (i + 1 - i) = i + 1 by omega]
section
variable {sb tb s t s' T w : List Int} {cb ch : Bool} {Lb : List Rt} {o : Int} {res : AV}
theorem c36_err {L : List Rt} (hsb : (sb.length : Int) ≤ 1000000000) (htb : (tb.length : Int) ≤ 1000000000) (hlb : (Lb.length : Int) ≤ 1000000000) (hE : lisE sb cb tb Lb ≠ 0) :
    Go.V.Call tab E 36 [.agg (arrX sb cb tb Lb), .agg (arrX s ch t L), .int .i64 o] [] (.tup [.agg noA, .int .i64 (lisE sb cb tb Lb)]) [] := by
  refine Go.V.Call.mach i36 c36 rfl rfl rfl rfl ?_
  have h89 := c89_ok (s := sb) (t := tb) (ch := cb) (L := Lb) (by omega) (by omega) (by omega)
  generalize lisE sb cb tb Lb = e at *
  have hne : (e != 0) = true := by rw [bne_iff_ne]; exact hE
  simp only [arrX, runes, ints, rowI] at h89
  simp only [c36, arrX, runes, ints, go_sem, fillAll, fillIn, shiftR, shiftV, List.take_succ_cons, List.take_zero, List.drop_succ_cons, List.drop_zero, List.append_nil, Nat.zero_add, subA5]
  refine goO h89 rfl rfl ?_
  simp only [go_sem, fillAll, fillIn, shiftR, shiftV, List.take_succ_cons, List.take_zero, List.drop_succ_cons, List.drop_zero, List.append_nil, Nat.zero_add, subA5, hne]
  simp only [i36, Out, resAll, geto, ints, List.getElem?_cons_zero, List.getElem?_cons_succ, resOf, outOf, snap, snapL, ev, getE, List.mapM_cons, List.mapM_nil, Option.bind_some, Option.pure_def, Option.bind_eq_bind, Option.map_some, reduceIte, Nat.reduceEqDiff, true_and, and_true, subA5, noA]
theorem c36_len {L : List Rt} (hsb : (sb.length : Int) ≤ 1000000000) (htb : (tb.length : Int) ≤ 1000000000) (hlb : (Lb.length : Int) ≤ 1000000000) (hsl : (s.length : Int) ≤ 1000000000) (hE : lisE sb cb tb Lb = 0) (hw : lisV sb cb tb Lb = w) (hl : w.length ≠ s.length) :
    Go.V.Call tab E 36 [.agg (arrX sb cb tb Lb), .agg (arrX s ch t L), .int .i64 o] [] (.tup [.agg noA, .int .i64 24]) [] := by
  refine Go.V.Call.mach i36 c36 rfl rfl rfl rfl ?_
  have h89 := c89_ok (s := sb) (t := tb) (ch := cb) (L := Lb) (by omega) (by omega) (by omega)
  rw [hE, hw] at h89
  have h56 := c56_X (s := s) (t := t) (l := L) (ch := ch) (by omega)
  have hne : ((w.length : Int) != (s.length : Int)) = true := by rw [bne_iff_ne]; omega
  simp only [arrX, runes, ints, rowI] at h89 h56
  simp only [c36, arrX, runes, ints, go_sem, fillAll, fillIn, shiftR, shiftV, List.take_succ_cons, List.take_zero, List.drop_succ_cons, List.drop_zero, List.append_nil, Nat.zero_add, subA5]
  refine goO h89 rfl rfl ?_
  simp only [go_sem, fillAll, fillIn, shiftR, shiftV, List.take_succ_cons, List.take_zero, List.drop_succ_cons, List.drop_zero, List.append_nil, Nat.zero_add, subA5, bne_self_eq_false]
  refine goP h56 ?_
  simp only [go_sem, fillAll, fillIn, shiftR, shiftV, List.take_succ_cons, List.take_zero, List.drop_succ_cons, List.drop_zero, List.append_nil, Nat.zero_add, subA5, hne]
  simp only [i36, Out, resAll, geto, ints, List.getElem?_cons_zero, List.getElem?_cons_succ, resOf, outOf, snap, snapL, ev, getE, List.mapM_cons, List.mapM_nil, Option.bind_some, Option.pure_def, Option.bind_eq_bind, Option.map_some, reduceIte, Nat.reduceEqDiff, true_and, and_true, subA5, noA]
def tbyM (sb tb s t : List Int) (cb ch : Bool) (Lb L : List Rt) (n : Nat) (y : List Int) : List AObj :=
  [⟨true, 35, 5, 0, 1, arrX sb cb tb Lb, false⟩, ⟨true, 35, 5, 0, 1, arrX s ch t L, false⟩, ⟨false, 3, 1, 0, 0, [], false⟩, ⟨false, 21, 1, 0, 0, [], false⟩, ⟨false, 98, 3, 0, 0, [], false⟩, ⟨true, 35, 5, 0, 1, [.arr 2 0, .bool false, .arr 3 0, .arr 4 0, .bool false], false⟩, ⟨false, 3, 1, 0, n, nums .i64 y, false⟩]
set_option maxHeartbeats 2000000 in
theorem c36_go {L R : List Rt} (hsb : (sb.length : Int) ≤ 1000000000) (htb : (tb.length : Int) ≤ 1000000000) (hlb : (Lb.length : Int) ≤ 1000000000) (hs8 : s.length ≤ 8) (ho : 0 ≤ o ∧ o ≤ 1) (hE : lisE sb cb tb Lb = 0) (hw : lisV sb cb tb Lb = w) (hl : w.length = s.length)
    (h1 : ¬ okW w o → res = .tup [.agg noA, .int .i64 22]) (h2 : okW w o → (∃ k : Nat, (k : Int) < lmx (shw w o) (-1) ∧ (k : Int) ∉ shw w o) → res = .tup [.agg noA, .int .i64 22])
    (h3 : okW w o → (∀ k : Nat, (k : Int) < lmx (shw w o) (-1) → (k : Int) ∈ shw w o) → res = .tup [.agg (arrX s' ch T R), .int .i64 0] ∧ Go.V.Call tab E 94 [ints (shw w o), .agg (arrX s ch t L)] [] (.tup [.agg (arrX s' ch T R), .int .i64 0]) []) :
    Go.V.Call tab E 36 [.agg (arrX sb cb tb Lb), .agg (arrX s ch t L), .int .i64 o] [] res [] := by
  refine Go.V.Call.mach i36 c36 rfl rfl rfl rfl ?_
  have h89 := c89_ok (s := sb) (t := tb) (ch := cb) (L := Lb) (by omega) (by omega) (by omega)
  rw [hE, hw] at h89
  have h56 := c56_X (s := s) (t := t) (l := L) (ch := ch) (by omega)
  have hne : ((w.length : Int) != (s.length : Int)) = false := by rw [hl, bne_self_eq_false]
  have hws := shw_len (w := w) (o := o)
  simp only [arrX, runes, ints, rowI] at h89 h56
  simp only [c36, arrX, runes, ints, go_sem, fillAll, fillIn, shiftR, shiftV, List.take_succ_cons, List.take_zero, List.drop_succ_cons, List.drop_zero, List.append_nil, Nat.zero_add, subA5]
  refine goO h89 rfl rfl ?_
  simp only [go_sem, fillAll, fillIn, shiftR, shiftV, List.take_succ_cons, List.take_zero, List.drop_succ_cons, List.drop_zero, List.append_nil, Nat.zero_add, subA5, bne_self_eq_false]
  refine goP h56 ?_
  simp only [go_sem, fillAll, fillIn, shiftR, shiftV, List.take_succ_cons, List.take_zero, List.drop_succ_cons, List.drop_zero, List.append_nil, Nat.zero_add, subA5, hne]
  refine mLoop (fun N st => ∃ i : Nat, i ≤ w.length ∧ N = w.length - i ∧ (∀ a ∈ w.take i, o ≤ a ∧ a < o + w.length) ∧ st = ⟨[(2, .int .i64 o), (4, .loc 1 0 0), (6, .loc 5 0 0), (8, .arr 6 0), (10, .int .i64 (lmx ((shw w o).take i) (-1))), (31, .int .i64 w.length), (32, .int .i64 i)], tbyM sb tb s t cb ch Lb L w.length ((shw w o).take i ++ w.drop i)⟩) w.length ⟨_, rfl, 0, by omega, by omega, by simp, by simp [getE, tbyM, arrX, ints, runes, lmx]⟩ ?_
  rintro N s0 ⟨i, hi, rfl, hk, rfl⟩
  by_cases hlt : i < w.length
  · have hlt' : (i : Int) < (w.length : Int) := by omega
    have hi0 : (0 : Int) ≤ (i : Int) := by omega
    have hi1 : IntKind.i64.wrap ((i : Int) + 1) = ((i + 1 : Nat) : Int) := by rw [wrap_i64 (by omega) (by omega)]; omega
    obtain ⟨g1, g2, g3⟩ := mid_get hws hlt
    have hn1 := okW_no (o := o) hlt
    have hn2 := okW_snoc (o := o) hlt hk
    have w0 : IntKind.i64.wrap (o + (w.length : Int)) = o + (w.length : Int) := wrap_i64 (by omega) (by omega)
    have e1 : lmx ((shw w o).take (i + 1)) (-1) = if lmx ((shw w o).take i) (-1) < w.getD i 0 - o then w.getD i 0 - o else lmx ((shw w o).take i) (-1) := by
      rw [take_getD (by omega), lmx_snoc, shw_get hlt, max_if]
    rw [shw_get hlt] at g3
    generalize lmx ((shw w o).take i) (-1) = M at *
    generalize hy : (shw w o).take i ++ w.drop i = y at *
    have hsub := sub_nums (k := .i64) (l := y) (i := i) (by omega)
    rw [g1] at hsub
    have hst : i * 1 + 1 ≤ y.length := by omega
    by_cases hneg : w.getD i 0 < o
    · have := h1 (hn1 (.inl hneg))
      subst this
      simp only [b36_0, tbyM, arrX, runes, ints, go_sem, fillAll, fillIn, shiftR, shiftV, List.take_succ_cons, List.take_zero, List.drop_succ_cons, List.drop_zero, List.append_nil, Nat.zero_add, subA5, hlt', hi0, Int.toNat_natCast, hsub, hneg]
      simp only [i36, Out, resAll, geto, ints, List.getElem?_cons_zero, List.getElem?_cons_succ, resOf, outOf, snap, snapL, ev, getE, List.mapM_cons, List.mapM_nil, Option.bind_some, Option.pure_def, Option.bind_eq_bind, Option.map_some, reduceIte, Nat.reduceEqDiff, true_and, and_true, subA5, noA]
    · by_cases hbig : o + (w.length : Int) ≤ w.getD i 0
      · have := h1 (hn1 (.inr hbig))
        subst this
        simp only [b36_0, tbyM, arrX, runes, ints, go_sem, fillAll, fillIn, shiftR, shiftV, List.take_succ_cons, List.take_zero, List.drop_succ_cons, List.drop_zero, List.append_nil, Nat.zero_add, subA5, hlt', hi0, Int.toNat_natCast, hsub, hneg, w0, hbig]
        simp only [i36, Out, resAll, geto, ints, List.getElem?_cons_zero, List.getElem?_cons_succ, resOf, outOf, snap, snapL, ev, getE, List.mapM_cons, List.mapM_nil, Option.bind_some, Option.pure_def, Option.bind_eq_bind, Option.map_some, reduceIte, Nat.reduceEqDiff, true_and, and_true, subA5, noA]
      · have hn3 := hn2 hneg hbig
        have w3 : IntKind.i64.wrap (w.getD i 0 - o) = w.getD i 0 - o := wrap_i64 (by omega) (by omega)
        have hsub2 := sub_nums (k := .i64) (l := y.take i ++ (w.getD i 0 - o) :: y.drop (i + 1)) (i := i) (by rw [set_len (by omega)]; omega)
        rw [set_get (by omega)] at hsub2
        generalize hX : w.getD i 0 = X at *
        generalize hV : X - o = V at *
        have hcv : List.take (i * 1) (nums .i64 y) ++ [.int .i64 V] ++ List.drop (i * 1 + 1) (nums .i64 y) = nums .i64 (y.take i ++ V :: y.drop (i + 1)) := by simp [nums, List.map_take, List.map_drop]
        simp only [b36_0, tbyM, arrX, runes, ints, go_sem, fillAll, fillIn, shiftR, shiftV, List.take_succ_cons, List.take_zero, List.drop_succ_cons, List.drop_zero, List.append_nil, Nat.zero_add, subA5, hlt', hi0, Int.toNat_natCast, hsub, hneg, w0, hbig, hV, w3, hst, hcv, hsub2, hi1]
        refine loopQ_go rfl (w.length - (i + 1)) (by omega) ⟨i + 1, by omega, rfl, hn3, ?_⟩
        rw [e1, ← g3]
        rfl
  · have hlt' : ¬ (i : Int) < (w.length : Int) := by omega
    obtain rfl : i = w.length := by omega
    have hok : okW w o := by rw [List.take_length] at hk; exact hk
    rw [List.take_of_length_le (by omega), List.drop_length, List.append_nil]
    have h2 := h2 hok
    have h3 := h3 hok
    have hM := (lmx_fact (l := shw w o) (m := -1)).1
    have h93 := fun (k : Nat) (b : Bool) hb => c93_ok (E := E) (l := shw w o) (k := (k : Int)) (b := b) (by omega) hb
    have hM2 : lmx (shw w o) (-1) < 1000 := by
      rcases (lmx_fact (l := shw w o) (m := -1)).2.2 with h | h
      · omega
      · obtain ⟨a, ha, he⟩ := List.mem_map.1 h
        have := hok a ha
        omega
    simp only [ints, hws] at h93
    generalize hMM : lmx (shw w o) (-1) = M at *
    simp only [b36_0, k36_1, tbyM, arrX, runes, ints, go_sem, fillAll, fillIn, shiftR, shiftV, List.take_succ_cons, List.take_zero, List.drop_succ_cons, List.drop_zero, List.append_nil, Nat.zero_add, subA5, hlt']
    refine mLoop (fun N st => ∃ k : Nat, (k : Int) ≤ M + 1 ∧ N = (M - k).toNat ∧ (∀ j : Nat, j < k → (j : Int) ∈ shw w o) ∧ st = ⟨[(4, .loc 1 0 0), (6, .loc 5 0 0), (8, .arr 6 0), (67, .int .i64 M), (68, .int .i64 k)], tbyM sb tb s t cb ch Lb L w.length (shw w o)⟩) M.toNat ⟨_, rfl, 0, by omega, by omega, by omega, rfl⟩ ?_
    rintro N1 s1 ⟨k, hkM, rfl, hj, rfl⟩
    by_cases hltk : (k : Int) < M
    · have hk1 : IntKind.i64.wrap ((k : Int) + 1) = ((k + 1 : Nat) : Int) := by rw [wrap_i64 (by omega) (by omega)]; omega
      by_cases hmem : (k : Int) ∈ shw w o
      · have h93t := h93 k true ⟨fun _ => hmem, fun _ => rfl⟩
        simp only [b36_1, tbyM, go_sem, fillAll, fillIn, shiftR, shiftV, List.take_succ_cons, List.take_zero, List.drop_succ_cons, List.drop_zero, List.append_nil, Nat.zero_add, hltk]
        refine goR h93t rfl ?_
        simp only [go_sem, fillAll, fillIn, shiftR, shiftV, List.take_succ_cons, List.take_zero, List.drop_succ_cons, List.drop_zero, List.append_nil, Nat.zero_add, hk1]
        refine loopQ_go rfl (M - ((k + 1 : Nat) : Int)).toNat (by omega) ⟨k + 1, by omega, rfl, fun j hjk => ?_, rfl⟩
        by_cases he : j = k
        · subst he; exact hmem
        · exact hj j (by omega)
      · have h93f := h93 k false ⟨fun h => (by cases h), fun h => absurd h hmem⟩
        have := h2 ⟨k, hltk, hmem⟩
        subst this
        simp only [b36_1, tbyM, arrX, runes, ints, go_sem, fillAll, fillIn, shiftR, shiftV, List.take_succ_cons, List.take_zero, List.drop_succ_cons, List.drop_zero, List.append_nil, Nat.zero_add, subA5, hltk]
        refine goR h93f rfl ?_
        simp only [go_sem, fillAll, fillIn, shiftR, shiftV, List.take_succ_cons, List.take_zero, List.drop_succ_cons, List.drop_zero, List.append_nil, Nat.zero_add, subA5]
        simp only [i36, Out, resAll, geto, ints, List.getElem?_cons_zero, List.getElem?_cons_succ, resOf, outOf, snap, snapL, ev, getE, List.mapM_cons, List.mapM_nil, Option.bind_some, Option.pure_def, Option.bind_eq_bind, Option.map_some, reduceIte, Nat.reduceEqDiff, true_and, and_true, subA5, noA]
    · obtain ⟨hres, h94⟩ := h3 fun j hjM => hj j (by omega)
      subst hres
      simp only [arrX, runes, ints, hws] at h94
      simp only [b36_1, k36_0, tbyM, arrX, runes, ints, go_sem, fillAll, fillIn, shiftR, shiftV, List.take_succ_cons, List.take_zero, List.drop_succ_cons, List.drop_zero, List.append_nil, Nat.zero_add, subA5, hltk]
      refine goF h94 ?_
      simp only [go_sem, fillAll, fillIn, shiftR, shiftV, List.take_succ_cons, List.take_zero, List.drop_succ_cons, List.drop_zero, List.append_nil, Nat.zero_add, subA5]
      simp only [i36, Out, resAll, geto, ints, List.getElem?_cons_zero, List.getElem?_cons_succ, resOf, outOf, snap, snapL, ev, getE, List.mapM_cons, List.mapM_nil, Option.bind_some, Option.pure_def, Option.bind_eq_bind, Option.map_some, reduceIte, Nat.reduceEqDiff, true_and, and_true, subA5]
end
section
variable {sb tb s t s' T w : List Int} {cb ch : Bool} {Lb : List Rt} {l R : List Nm} {o : Int} {res : AV}
theorem c37_err (hsb : (sb.length : Int) ≤ 1000000000) (htb : (tb.length : Int) ≤ 1000000000) (hlb : (Lb.length : Int) ≤ 1000000000) (hlk : ∀ x ∈ Lb, RtOk x) (hcb : (cb = true → Lb = []) ∧ (cb = false → tb = [])) (hE : lisE sb cb tb Lb ≠ 0) :
    Go.V.Call tab E 37 [.agg (plX sb cb tb (Lb.map toNm)), .agg (plX s ch t l), .int .i64 o] [] (.tup [.agg noP, .int .i64 (lisE sb cb tb Lb)]) [] := by
  refine Go.V.Call.mach i37 c37 rfl rfl rfl rfl ?_
  have h92 := c92_ok (s := sb) (t := tb) (ch := cb) (L := Lb) (by omega) (by omega) (by omega) hlk hcb
  generalize lisE sb cb tb Lb = e at *
  have hne : (e != 0) = true := by rw [bne_iff_ne]; exact hE
  simp only [plX, runes, ints] at h92
  simp only [c37, plX, runes, ints, go_sem, fillAll, fillIn, shiftR, shiftV, List.take_succ_cons, List.take_zero, List.drop_succ_cons, List.drop_zero, List.append_nil, Nat.zero_add, subP4]
  refine goP h92 ?_
  simp only [go_sem, fillAll, fillIn, shiftR, shiftV, List.take_succ_cons, List.take_zero, List.drop_succ_cons, List.drop_zero, List.append_nil, Nat.zero_add, subP4, hne]
  simp only [i37, Out, resAll, geto, ints, List.getElem?_cons_zero, List.getElem?_cons_succ, resOf, outOf, snap, snapL, ev, getE, List.mapM_cons, List.mapM_nil, Option.bind_some, Option.pure_def, Option.bind_eq_bind, Option.map_some, reduceIte, Nat.reduceEqDiff, true_and, and_true, subP4, noP, plX]
  rfl
theorem c37_len (hsb : (sb.length : Int) ≤ 1000000000) (htb : (tb.length : Int) ≤ 1000000000) (hlb : (Lb.length : Int) ≤ 1000000000) (hlk : ∀ x ∈ Lb, RtOk x) (hcb : (cb = true → Lb = []) ∧ (cb = false → tb = [])) (hE : lisE sb cb tb Lb = 0) (hw : lisV sb cb tb Lb = w) (hl : w.length ≠ s.length) :
    Go.V.Call tab E 37 [.agg (plX sb cb tb (Lb.map toNm)), .agg (plX s ch t l), .int .i64 o] [] (.tup [.agg noP, .int .i64 24]) [] := by
  refine Go.V.Call.mach i37 c37 rfl rfl rfl rfl ?_
  have h92 := c92_ok (s := sb) (t := tb) (ch := cb) (L := Lb) (by omega) (by omega) (by omega) hlk hcb
  rw [hE, hw] at h92
  have hne : ((w.length : Int) != (s.length : Int)) = true := by rw [bne_iff_ne]; omega
  simp only [plX, runes, ints] at h92
  simp only [c37, plX, runes, ints, go_sem, fillAll, fillIn, shiftR, shiftV, List.take_succ_cons, List.take_zero, List.drop_succ_cons, List.drop_zero, List.append_nil, Nat.zero_add, subP4]
  refine goP h92 ?_
  simp only [go_sem, fillAll, fillIn, shiftR, shiftV, List.take_succ_cons, List.take_zero, List.drop_succ_cons, List.drop_zero, List.append_nil, Nat.zero_add, subP4, subP4a, bne_self_eq_false, hne]
  simp only [i37, Out, resAll, geto, ints, List.getElem?_cons_zero, List.getElem?_cons_succ, resOf, outOf, snap, snapL, ev, getE, List.mapM_cons, List.mapM_nil, Option.bind_some, Option.pure_def, Option.bind_eq_bind, Option.map_some, reduceIte, Nat.reduceEqDiff, true_and, and_true, subP4, noP, plX]
  rfl
def tbyP (sb tb s t : List Int) (cb ch : Bool) (lb l : List Nm) (n : Nat) (y : List Int) : List AObj :=
  [⟨true, 26, 4, 0, 1, plX sb cb tb lb, false⟩, ⟨true, 26, 4, 0, 1, plX s ch t l, false⟩, ⟨false, 3, 1, 0, 0, [], false⟩, ⟨false, 21, 1, 0, 0, [], false⟩, ⟨false, 72, 3, 0, 0, [], false⟩, ⟨true, 26, 4, 0, 1, [.arr 2 0, .bool false, .arr 3 0, .arr 4 0], false⟩, ⟨false, 3, 1, n, n, nums .i64 y, false⟩]
set_option maxHeartbeats 2000000 in
theorem c37_go (hsb : (sb.length : Int) ≤ 1000000000) (htb : (tb.length : Int) ≤ 1000000000) (hlb : (Lb.length : Int) ≤ 1000000000) (hlk : ∀ x ∈ Lb, RtOk x) (hcb : (cb = true → Lb = []) ∧ (cb = false → tb = [])) (hs8 : s.length ≤ 8) (ho : 0 ≤ o ∧ o ≤ 1) (hE : lisE sb cb tb Lb = 0) (hw : lisV sb cb tb Lb = w) (hl : w.length = s.length)
    (h1 : ¬ okW w o → res = .tup [.agg noP, .int .i64 22]) (h2 : okW w o → (∃ k : Nat, (k : Int) < lmx (shw w o) (-1) ∧ (k : Int) ∉ shw w o) → res = .tup [.agg noP, .int .i64 22])
    (h3 : okW w o → (∀ k : Nat, (k : Int) < lmx (shw w o) (-1) → (k : Int) ∈ shw w o) → res = .tup [.agg (plX s' ch T R), .int .i64 0] ∧ Go.V.Call tab E 96 [ints (shw w o), .agg (plX s ch t l)] [] (.agg (plX s' ch T R)) []) :
    Go.V.Call tab E 37 [.agg (plX sb cb tb (Lb.map toNm)), .agg (plX s ch t l), .int .i64 o] [] res [] := by
  refine Go.V.Call.mach i37 c37 rfl rfl rfl rfl ?_
  have h92 := c92_ok (s := sb) (t := tb) (ch := cb) (L := Lb) (by omega) (by omega) (by omega) hlk hcb
  rw [hE, hw] at h92
  generalize Lb.map toNm = lb at *
  have hne : ((w.length : Int) != (s.length : Int)) = false := by rw [hl, bne_self_eq_false]
  have hws := shw_len (w := w) (o := o)
  simp only [plX, runes, ints] at h92
  simp only [c37, plX, runes, ints, go_sem, fillAll, fillIn, shiftR, shiftV, List.take_succ_cons, List.take_zero, List.drop_succ_cons, List.drop_zero, List.append_nil, Nat.zero_add, subP4]
  refine goP h92 ?_
  simp only [go_sem, fillAll, fillIn, shiftR, shiftV, List.take_succ_cons, List.take_zero, List.drop_succ_cons, List.drop_zero, List.append_nil, Nat.zero_add, subP4, subP4a, bne_self_eq_false, hne]
  refine mLoop (fun N st => ∃ i : Nat, i ≤ w.length ∧ N = w.length - i ∧ (∀ a ∈ w.take i, o ≤ a ∧ a < o + w.length) ∧ st = ⟨[(2, .int .i64 o), (4, .loc 1 0 0), (6, .loc 5 0 0), (8, ints w), (10, .int .i64 (lmx ((shw w o).take i) (-1))), (11, .arr 6 i), (12, .int .i64 i)], tbyP sb tb s t cb ch lb l i ((shw w o).take i)⟩) w.length ⟨_, rfl, 0, by omega, by omega, by simp, by simp [getE, tbyP, plX, ints, runes, lmx, nums]⟩ ?_
  rintro N s0 ⟨i, hi, rfl, hk, rfl⟩
  by_cases hlt : i < w.length
  · have hlt' : (i : Int) < (w.length : Int) := by omega
    have hi0 : (0 : Int) ≤ (i : Int) := by omega
    have hi1 : IntKind.i64.wrap ((i : Int) + 1) = ((i + 1 : Nat) : Int) := by rw [wrap_i64 (by omega) (by omega)]; omega
    have hn1 := okW_no (o := o) hlt
    have hn2 := okW_snoc (o := o) hlt hk
    have w0 : IntKind.i64.wrap (o + (w.length : Int)) = o + (w.length : Int) := wrap_i64 (by omega) (by omega)
    have e2 : (shw w o).take (i + 1) = (shw w o).take i ++ [w.getD i 0 - o] := by rw [take_getD (by omega), shw_get hlt]
    have e1 : lmx ((shw w o).take (i + 1)) (-1) = if lmx ((shw w o).take i) (-1) < w.getD i 0 - o then w.getD i 0 - o else lmx ((shw w o).take i) (-1) := by
      rw [e2, lmx_snoc, max_if]
    have hsub := sub_nums (k := .i64) hlt
    have q1 : (i + 1) * 8 ≤ 140737488355328 := by omega
    have q2 : i + 1 ≤ 140737488355328 := by omega
    generalize lmx ((shw w o).take i) (-1) = M at *
    generalize (shw w o).take i = y at *
    by_cases hneg : w.getD i 0 < o
    · have := h1 (hn1 (.inl hneg))
      subst this
      simp only [b37_0, tbyP, plX, runes, ints, go_sem, fillAll, fillIn, shiftR, shiftV, List.take_succ_cons, List.take_zero, List.drop_succ_cons, List.drop_zero, List.append_nil, Nat.zero_add, subP4, hlt', hi0, Int.toNat_natCast, hsub, hneg]
      simp only [i37, Out, resAll, geto, ints, List.getElem?_cons_zero, List.getElem?_cons_succ, resOf, outOf, snap, snapL, ev, getE, List.mapM_cons, List.mapM_nil, Option.bind_some, Option.pure_def, Option.bind_eq_bind, Option.map_some, reduceIte, Nat.reduceEqDiff, true_and, and_true, subP4, noP, plX]
      rfl
    · by_cases hbig : o + (w.length : Int) ≤ w.getD i 0
      · have := h1 (hn1 (.inr hbig))
        subst this
        simp only [b37_0, tbyP, plX, runes, ints, go_sem, fillAll, fillIn, shiftR, shiftV, List.take_succ_cons, List.take_zero, List.drop_succ_cons, List.drop_zero, List.append_nil, Nat.zero_add, subP4, hlt', hi0, Int.toNat_natCast, hsub, hneg, w0, hbig]
        simp only [i37, Out, resAll, geto, ints, List.getElem?_cons_zero, List.getElem?_cons_succ, resOf, outOf, snap, snapL, ev, getE, List.mapM_cons, List.mapM_nil, Option.bind_some, Option.pure_def, Option.bind_eq_bind, Option.map_some, reduceIte, Nat.reduceEqDiff, true_and, and_true, subP4, noP, plX]
        rfl
      · have hn3 := hn2 hneg hbig
        have w3 : IntKind.i64.wrap (w.getD i 0 - o) = w.getD i 0 - o := wrap_i64 (by omega) (by omega)
        generalize hX : w.getD i 0 = X at *
        generalize hV : X - o = V at *
        by_cases hg : M < V
        · rw [if_pos hg] at e1
          simp only [b37_0, tbyP, plX, runes, ints, go_sem, fillAll, fillIn, shiftR, shiftV, List.take_succ_cons, List.take_zero, List.drop_succ_cons, List.drop_zero, List.append_nil, Nat.zero_add, subP4, hlt', hi0, Int.toNat_natCast, hsub, hneg, w0, hbig, hV, w3, hg, hi1, q1, q2, List.flatten_cons, List.flatten_nil, Option.getD_some]
          refine loopQ_go rfl (w.length - (i + 1)) (by omega) ⟨i + 1, by omega, rfl, hn3, ?_⟩
          rw [e1, e2, nums_app]
          rfl
        · rw [if_neg hg] at e1
          simp only [b37_0, tbyP, plX, runes, ints, go_sem, fillAll, fillIn, shiftR, shiftV, List.take_succ_cons, List.take_zero, List.drop_succ_cons, List.drop_zero, List.append_nil, Nat.zero_add, subP4, hlt', hi0, Int.toNat_natCast, hsub, hneg, w0, hbig, hV, w3, hg, hi1, q1, q2, List.flatten_cons, List.flatten_nil, Option.getD_some]
          refine loopQ_go rfl (w.length - (i + 1)) (by omega) ⟨i + 1, by omega, rfl, hn3, ?_⟩
          rw [e1, e2, nums_app]
          rfl
  · have hlt' : ¬ (i : Int) < (w.length : Int) := by omega
    obtain rfl : i = w.length := by omega
    have hok : okW w o := by rw [List.take_length] at hk; exact hk
    rw [List.take_of_length_le (by omega)]
    have h2 := h2 hok
    have h3 := h3 hok
    have hM := (lmx_fact (l := shw w o) (m := -1)).1
    have h95 := fun (k : Nat) (b : Bool) hb => c95_ok (E := E) (l := shw w o) (k := (k : Int)) (b := b) (by omega) hb
    have hM2 : lmx (shw w o) (-1) < 1000 := by
      rcases (lmx_fact (l := shw w o) (m := -1)).2.2 with h | h
      · omega
      · obtain ⟨a, ha, he⟩ := List.mem_map.1 h
        have := hok a ha
        omega
    simp only [ints, hws] at h95
    generalize hMM : lmx (shw w o) (-1) = M at *
    simp only [b37_0, k37_1, tbyP, plX, runes, ints, go_sem, fillAll, fillIn, shiftR, shiftV, List.take_succ_cons, List.take_zero, List.drop_succ_cons, List.drop_zero, List.append_nil, Nat.zero_add, subP4, hlt']
    refine mLoop (fun N st => ∃ k : Nat, (k : Int) ≤ M + 1 ∧ N = (M - k).toNat ∧ (∀ j : Nat, j < k → (j : Int) ∈ shw w o) ∧ st = ⟨[(4, .loc 1 0 0), (6, .loc 5 0 0), (10, .int .i64 M), (11, .arr 6 w.length), (13, .int .i64 k)], tbyP sb tb s t cb ch lb l w.length (shw w o)⟩) M.toNat ⟨_, rfl, 0, by omega, by omega, by omega, rfl⟩ ?_
    rintro N1 s1 ⟨k, hkM, rfl, hj, rfl⟩
    by_cases hltk : (k : Int) < M
    · have hk1 : IntKind.i64.wrap ((k : Int) + 1) = ((k + 1 : Nat) : Int) := by rw [wrap_i64 (by omega) (by omega)]; omega
      by_cases hmem : (k : Int) ∈ shw w o
      · have h95t := h95 k true ⟨fun _ => hmem, fun _ => rfl⟩
        simp only [b37_1, tbyP, go_sem, fillAll, fillIn, shiftR, shiftV, List.take_succ_cons, List.take_zero, List.drop_succ_cons, List.drop_zero, List.append_nil, Nat.zero_add, hltk]
        refine goR h95t rfl ?_
        simp only [go_sem, fillAll, fillIn, shiftR, shiftV, List.take_succ_cons, List.take_zero, List.drop_succ_cons, List.drop_zero, List.append_nil, Nat.zero_add, hk1]
        refine loopQ_go rfl (M - ((k + 1 : Nat) : Int)).toNat (by omega) ⟨k + 1, by omega, rfl, fun j hjk => ?_, rfl⟩
        by_cases he : j = k
        · subst he; exact hmem
        · exact hj j (by omega)
      · have h95f := h95 k false ⟨fun h => (by cases h), fun h => absurd h hmem⟩
        have := h2 ⟨k, hltk, hmem⟩
        subst this
        simp only [b37_1, tbyP, plX, runes, ints, go_sem, fillAll, fillIn, shiftR, shiftV, List.take_succ_cons, List.take_zero, List.drop_succ_cons, List.drop_zero, List.append_nil, Nat.zero_add, subP4, hltk]
        refine goR h95f rfl ?_
        simp only [go_sem, fillAll, fillIn, shiftR, shiftV, List.take_succ_cons, List.take_zero, List.drop_succ_cons, List.drop_zero, List.append_nil, Nat.zero_add, subP4]
        simp only [i37, Out, resAll, geto, ints, List.getElem?_cons_zero, List.getElem?_cons_succ, resOf, outOf, snap, snapL, ev, getE, List.mapM_cons, List.mapM_nil, Option.bind_some, Option.pure_def, Option.bind_eq_bind, Option.map_some, reduceIte, Nat.reduceEqDiff, true_and, and_true, subP4, noP, plX]
        rfl
    · obtain ⟨hres, h96⟩ := h3 fun j hjM => hj j (by omega)
      subst hres
      simp only [plX, runes, ints, hws] at h96
      simp only [b37_1, k37_0, tbyP, plX, runes, ints, go_sem, fillAll, fillIn, shiftR, shiftV, List.take_succ_cons, List.take_zero, List.drop_succ_cons, List.drop_zero, List.append_nil, Nat.zero_add, subP4, subP4a, hltk]
      refine goF h96 ?_
      simp only [go_sem, fillAll, fillIn, shiftR, shiftV, List.take_succ_cons, List.take_zero, List.drop_succ_cons, List.drop_zero, List.append_nil, Nat.zero_add, subP4]
      simp only [i37, Out, resAll, geto, ints, List.getElem?_cons_zero, List.getElem?_cons_succ, resOf, outOf, snap, snapL, ev, getE, List.mapM_cons, List.mapM_nil, Option.bind_some, Option.pure_def, Option.bind_eq_bind, Option.map_some, reduceIte, Nat.reduceEqDiff, true_and, and_true, subP4, plX, runes, ints]
end
theorem lmx_revl {n : Nat} : lmx (revl n) (-1) = (n : Int) - 1 := by
  obtain ⟨h1, h2, h3⟩ := lmx_fact (l := revl n) (m := -1)
  rcases h3 with h3 | h3
  · rcases Nat.eq_zero_or_pos n with h | h
    · subst h; rw [h3]; rfl
    · have := h2 ((n : Int) - 1) (revl_mem.2 ⟨by omega, by omega⟩)
      omega
  · have h4 := revl_mem.1 h3
    have := h2 ((n : Int) - 1) (revl_mem.2 ⟨by omega, by omega⟩)
    omega
section
variable {sb tb s t : List Int} {cb ch : Bool} {lb l : List Nm} {o : Int}
theorem tra_both (hs : ∀ d ∈ s, In64 d) (ht : (t.length : Int) ≤ 1000000) (hl : (l.length : Int) ≤ 1000000) (hR : RightP s ch t l) :
    ∃ A P, Both 0 A P ∧ Go.V.Call tab E 38 [.agg (arrX s ch t (l.map toRt))] [] (.agg A) [] ∧ Go.V.Call tab E 39 [.agg (plX s ch t l)] [] (.agg P) [] := by
  have hc := len_right hR
  have hcs : count s ≠ none := by rw [hc]; simp
  obtain ⟨hl8, _, _⟩ := count_bound hc
  have hm : ∀ k : Nat, k < s.length → (k : Int) ∈ revl s.length := fun k hk => revl_mem.2 ⟨by omega, by omega⟩
  obtain ⟨n, hn⟩ := shpT_count (l := revl s.length) (s := s) (m := s.length) hcs revl_len hm
  obtain ⟨h8, _, hp⟩ := count_bound hn
  have hn4 : (n : Int) ≤ 4096 := by
    have := (hp (shpT (revl s.length) s s.length).length).2
    rw [List.take_length, ← count_prd hn] at this
    exact this
  have a1 := c94_ok (ch := ch) (t := t) (L := l.map toRt) hs hcs revl_len (by omega) (by simp; omega) (fun a h => revl_mem.1 h) hm hn
  have a2 := c96_ok (ch := ch) (t := t) (L := l) hcs revl_len (Right_chm hR) (by omega) (by omega) (fun a h => revl_mem.1 h) hm lmx_revl hn
  exact ⟨_, _, Both.picks (by omega) (by rw [turnK_len]; omega) hR.2, c38_ok (by omega) a1, c39_ok (by omega) a2⟩
theorem tby_both (hsb : (sb.length : Int) ≤ 1000000) (htb : (tb.length : Int) ≤ 1000000) (hlb : (lb.length : Int) ≤ 1000000) (hRb : RightP sb cb tb lb) (ho : 0 ≤ o ∧ o ≤ 1)
    (hs : ∀ d ∈ s, In64 d) (ht : (t.length : Int) ≤ 1000000) (hl : (l.length : Int) ≤ 1000000) (hR : RightP s ch t l) :
    ∃ e A P, Both e A P ∧ Go.V.Call tab E 36 [.agg (arrX sb cb tb (lb.map toRt)), .agg (arrX s ch t (l.map toRt)), .int .i64 o] [] (.tup [.agg A, .int .i64 e]) [] ∧ Go.V.Call tab E 37 [.agg (plX sb cb tb lb), .agg (plX s ch t l), .int .i64 o] [] (.tup [.agg P, .int .i64 e]) [] := by
  have hLb : ((lb.map toRt).length : Int) ≤ 1000000 := by simp; omega
  have hlk : ∀ x ∈ lb.map toRt, RtOk x := fun z hz => by
    obtain ⟨x, hx, rfl⟩ := List.mem_map.1 hz
    exact right_ok (hRb.2 x hx)
  have hbk := back_nms hRb.2
  have hcb : (cb = true → lb.map toRt = []) ∧ (cb = false → tb = []) := ⟨fun h => by rw [(Right_chm hRb).1 h]; rfl, (Right_chm hRb).2⟩
  have hc := len_right hR
  have hcs : count s ≠ none := by rw [hc]; simp
  obtain ⟨hl8, _, _⟩ := count_bound hc
  rw [show plX sb cb tb lb = plX sb cb tb ((lb.map toRt).map toNm) by rw [hbk]]
  clear hbk
  generalize lb.map toRt = Lb at *
  by_cases hE : lisE sb cb tb Lb = 0
  · generalize hw : lisV sb cb tb Lb = w at *
    by_cases hwl : w.length = s.length
    · by_cases hok : okW w o
      · by_cases hgap : ∃ k : Nat, (k : Int) < lmx (shw w o) (-1) ∧ (k : Int) ∉ shw w o
        · exact ⟨22, _, _, Both.err (by omega), c36_go (s' := []) (T := []) (R := []) (by omega) (by omega) (by omega) hl8 ho hE hw hwl (fun _ => rfl) (fun _ _ => rfl) (fun _ h => by obtain ⟨k, h1, h2⟩ := hgap; exact absurd (h k h1) h2),
            c37_go (s' := []) (T := []) (R := []) (by omega) (by omega) (by omega) hlk hcb hl8 ho hE hw hwl (fun _ => rfl) (fun _ _ => rfl) (fun _ h => by obtain ⟨k, h1, h2⟩ := hgap; exact absurd (h k h1) h2)⟩
        · obtain ⟨f1, f2, f3⟩ := lmx_fact (l := shw w o) (m := -1)
          have hmx : lmx (shw w o) (-1) = (((lmx (shw w o) (-1) + 1).toNat : Nat) : Int) - 1 := by omega
          generalize hme : (lmx (shw w o) (-1) + 1).toNat = m at *
          have hr : ∀ a ∈ shw w o, 0 ≤ a ∧ a < m := fun a ha => by
            have h1 := f2 a ha
            obtain ⟨x, hx, rfl⟩ := List.mem_map.1 ha
            have := hok x hx
            omega
          have hm : ∀ k : Nat, k < m → (k : Int) ∈ shw w o := fun k hk => by
            by_cases hk2 : (k : Int) < lmx (shw w o) (-1)
            · exact Classical.byContradiction fun h => hgap ⟨k, hk2, h⟩
            · rcases f3 with f3 | f3
              · omega
              · rwa [show (k : Int) = lmx (shw w o) (-1) by omega]
          have hsl : (shw w o).length = s.length := by rw [shw_len, hwl]
          obtain ⟨n, hn⟩ := shpT_count hcs hsl hm
          obtain ⟨h8, _, hp⟩ := count_bound hn
          have hn4 : (n : Int) ≤ 4096 := by
            have := (hp (shpT (shw w o) s m).length).2
            rw [List.take_length, ← count_prd hn] at this
            exact this
          have a1 := c94_ok (ch := ch) (t := t) (L := l.map toRt) hs hcs hsl (by omega) (by simp; omega) hr hm hn
          have a2 := c96_ok (ch := ch) (t := t) (L := l) hcs hsl (Right_chm hR) (by omega) (by omega) hr hm hmx hn
          exact ⟨0, _, _, Both.picks (by omega) (by rw [turnK_len]; omega) hR.2, c36_go (by omega) (by omega) (by omega) hl8 ho hE hw hwl (fun h => absurd hok h) (fun _ h => absurd h hgap) (fun _ _ => ⟨rfl, a1⟩),
            c37_go (by omega) (by omega) (by omega) hlk hcb hl8 ho hE hw hwl (fun h => absurd hok h) (fun _ h => absurd h hgap) (fun _ _ => ⟨rfl, a2⟩)⟩
      · exact ⟨22, _, _, Both.err (by omega), c36_go (s' := []) (T := []) (R := []) (by omega) (by omega) (by omega) hl8 ho hE hw hwl (fun _ => rfl) (fun _ _ => rfl) (fun h _ => absurd h hok),
          c37_go (s' := []) (T := []) (R := []) (by omega) (by omega) (by omega) hlk hcb hl8 ho hE hw hwl (fun _ => rfl) (fun _ _ => rfl) (fun h _ => absurd h hok)⟩
    · exact ⟨24, _, _, Both.err (by omega), c36_len (by omega) (by omega) (by omega) (by omega) hE hw hwl, c37_len (by omega) (by omega) (by omega) hlk hcb hE hw hwl⟩
  · exact ⟨_, _, _, Both.err hE, c36_err (by omega) (by omega) (by omega) hE, c37_err (by omega) (by omega) (by omega) hlk hcb hE⟩
set_option maxHeartbeats 2000000 in
theorem c7_axes {one : Bool} (hsb : ∀ d ∈ sb, In64 d) (hub : ∀ x ∈ lb, U8 x.2.1 ∧ U8 x.2.2) (hs : ∀ d ∈ s, In64 d) (hu : ∀ x ∈ l, U8 x.2.1 ∧ U8 x.2.2) :
    Go.V.Call tab E 7 [.agg (plX sb cb tb lb), .agg (plX s ch t l), .bool one] [] (.bool true) [] := by
  refine Go.V.Call.mach i7 c7 rfl rfl rfl rfl ?_
  have h25b := fun ok h => c25_ok (s := sb) (t := tb) (l := lb) (ch := cb) (ok := ok) hsb hub h
  have h25 := fun ok h => c25_ok (s := s) (t := t) (l := l) (ch := ch) (ok := ok) hs hu h
  by_cases hLb : LightP sb cb tb lb 250
  · have h25bt := h25b true ⟨fun _ => hLb, fun _ => rfl⟩
    by_cases hL : LightP s ch t l 250
    · have h25t := h25 true ⟨fun _ => hL, fun _ => rfl⟩
      obtain ⟨m1, m2, m3, m4, hRb⟩ := hLb
      obtain ⟨l1, l2, l3, l4, hR⟩ := hL
      have hUb : ∀ x ∈ lb, NmU x := fun x hx => ⟨(hub x hx).1, (hub x hx).2, by have := (m4 x hx).1; omega, by have := (m4 x hx).2; omega⟩
      have hU : ∀ x ∈ l, NmU x := fun x hx => ⟨(hu x hx).1, (hu x hx).2, by have := (l4 x hx).1; omega, by have := (l4 x hx).2; omega⟩
      have h13b := c13_ok hsb (by omega) (by omega) (by omega) hUb hRb
      have h13 := c13_ok hs (by omega) (by omega) (by omega) hU hR
      obtain ⟨e, A, P, hB, h36, h37⟩ := tby_both (sb := sb) (tb := tb) (cb := cb) (lb := lb) (o := if one then 1 else 0) (by omega) (by omega) (by omega) hRb (by cases one <;> simp) hs (by omega) (by omega) hR
      obtain ⟨A2, P2, hB2, h38, h39⟩ := tra_both hs (by omega) (by omega) hR
      obtain ⟨_, s2, t2, ch2, L2, p2, rfl, rfl, h35b⟩ := hB2.resolve_right fun h => h.1 rfl
      generalize l.map toRt = L at *
      generalize lb.map toRt = Lb at *
      rcases hB with ⟨rfl, s1, t1, ch1, L1, p1, rfl, rfl, h35⟩ | ⟨he, rfl, rfl⟩
      · cases one <;>
        · simp only [if_true, Bool.false_eq_true, if_false, plX, arrX, runes, ints] at h25bt h25t h13b h13 h36 h37 h38 h39 h35 h35b
          simp only [c7, plX, runes, ints, go_sem, fillAll, fillIn, shiftR, shiftV, List.take_succ_cons, List.take_zero, List.drop_succ_cons, List.drop_zero, List.append_nil, Nat.zero_add, subP4]
          refine goP h25bt ?_
          simp only [go_sem, fillAll, fillIn, shiftR, shiftV, List.take_succ_cons, List.take_zero, List.drop_succ_cons, List.drop_zero, List.append_nil, Nat.zero_add, subP4, subA5]
          refine goP h25t ?_
          simp only [go_sem, fillAll, fillIn, shiftR, shiftV, List.take_succ_cons, List.take_zero, List.drop_succ_cons, List.drop_zero, List.append_nil, Nat.zero_add, subP4, subA5]
          refine goP h13b ?_
          simp only [go_sem, fillAll, fillIn, shiftR, shiftV, List.take_succ_cons, List.take_zero, List.drop_succ_cons, List.drop_zero, List.append_nil, Nat.zero_add, subP4, subA5]
          refine goP h13 ?_
          simp only [go_sem, fillAll, fillIn, shiftR, shiftV, List.take_succ_cons, List.take_zero, List.drop_succ_cons, List.drop_zero, List.append_nil, Nat.zero_add, subP4, subA5]
          refine goP h36 ?_
          simp only [go_sem, fillAll, fillIn, shiftR, shiftV, List.take_succ_cons, List.take_zero, List.drop_succ_cons, List.drop_zero, List.append_nil, Nat.zero_add, subP4, subA5]
          refine goP h37 ?_
          simp only [go_sem, fillAll, fillIn, shiftR, shiftV, List.take_succ_cons, List.take_zero, List.drop_succ_cons, List.drop_zero, List.append_nil, Nat.zero_add, subP4, subA5]
          refine goR h35 rfl ?_
          simp only [go_sem, fillAll, fillIn, shiftR, shiftV, List.take_succ_cons, List.take_zero, List.drop_succ_cons, List.drop_zero, List.append_nil, Nat.zero_add, subP4, subA5]
          refine goP h13 ?_
          simp only [go_sem, fillAll, fillIn, shiftR, shiftV, List.take_succ_cons, List.take_zero, List.drop_succ_cons, List.drop_zero, List.append_nil, Nat.zero_add, subP4, subA5]
          refine goP h38 ?_
          simp only [go_sem, fillAll, fillIn, shiftR, shiftV, List.take_succ_cons, List.take_zero, List.drop_succ_cons, List.drop_zero, List.append_nil, Nat.zero_add, subP4, subA5]
          refine goP h39 ?_
          simp only [go_sem, fillAll, fillIn, shiftR, shiftV, List.take_succ_cons, List.take_zero, List.drop_succ_cons, List.drop_zero, List.append_nil, Nat.zero_add, subP4, subA5]
          refine goP h35b ?_
          simp only [go_sem, fillAll, fillIn, shiftR, shiftV, List.take_succ_cons, List.take_zero, List.drop_succ_cons, List.drop_zero, List.append_nil, Nat.zero_add, subP4, subA5]
          refine goP c26_ok ?_
          simp only [go_sem]
          simp only [i7, Out, resAll, geto, ints, List.getElem?_cons_zero, List.getElem?_cons_succ, resOf, outOf, snap, snapL, ev, getE, List.mapM_cons, List.mapM_nil, Option.bind_some, Option.pure_def, Option.bind_eq_bind, Option.map_some, reduceIte, Nat.reduceEqDiff, true_and, and_true]
      · have h35 := c35_err he
        cases one <;>
        · simp only [if_true, Bool.false_eq_true, if_false, plX, arrX, noA, noP, runes, ints] at h25bt h25t h13b h13 h36 h37 h38 h39 h35 h35b
          simp only [c7, plX, runes, ints, go_sem, fillAll, fillIn, shiftR, shiftV, List.take_succ_cons, List.take_zero, List.drop_succ_cons, List.drop_zero, List.append_nil, Nat.zero_add, subP4]
          refine goP h25bt ?_
          simp only [go_sem, fillAll, fillIn, shiftR, shiftV, List.take_succ_cons, List.take_zero, List.drop_succ_cons, List.drop_zero, List.append_nil, Nat.zero_add, subP4, subA5]
          refine goP h25t ?_
          simp only [go_sem, fillAll, fillIn, shiftR, shiftV, List.take_succ_cons, List.take_zero, List.drop_succ_cons, List.drop_zero, List.append_nil, Nat.zero_add, subP4, subA5]
          refine goP h13b ?_
          simp only [go_sem, fillAll, fillIn, shiftR, shiftV, List.take_succ_cons, List.take_zero, List.drop_succ_cons, List.drop_zero, List.append_nil, Nat.zero_add, subP4, subA5]
          refine goP h13 ?_
          simp only [go_sem, fillAll, fillIn, shiftR, shiftV, List.take_succ_cons, List.take_zero, List.drop_succ_cons, List.drop_zero, List.append_nil, Nat.zero_add, subP4, subA5]
          refine goP h36 ?_
          simp only [go_sem, fillAll, fillIn, shiftR, shiftV, List.take_succ_cons, List.take_zero, List.drop_succ_cons, List.drop_zero, List.append_nil, Nat.zero_add, subP4, subA5]
          refine goP h37 ?_
          simp only [go_sem, fillAll, fillIn, shiftR, shiftV, List.take_succ_cons, List.take_zero, List.drop_succ_cons, List.drop_zero, List.append_nil, Nat.zero_add, subP4, subA5]
          refine goR h35 rfl ?_
          simp only [go_sem, fillAll, fillIn, shiftR, shiftV, List.take_succ_cons, List.take_zero, List.drop_succ_cons, List.drop_zero, List.append_nil, Nat.zero_add, subP4, subA5]
          refine goP h13 ?_
          simp only [go_sem, fillAll, fillIn, shiftR, shiftV, List.take_succ_cons, List.take_zero, List.drop_succ_cons, List.drop_zero, List.append_nil, Nat.zero_add, subP4, subA5]
          refine goP h38 ?_
          simp only [go_sem, fillAll, fillIn, shiftR, shiftV, List.take_succ_cons, List.take_zero, List.drop_succ_cons, List.drop_zero, List.append_nil, Nat.zero_add, subP4, subA5]
          refine goP h39 ?_
          simp only [go_sem, fillAll, fillIn, shiftR, shiftV, List.take_succ_cons, List.take_zero, List.drop_succ_cons, List.drop_zero, List.append_nil, Nat.zero_add, subP4, subA5]
          refine goP h35b ?_
          simp only [go_sem, fillAll, fillIn, shiftR, shiftV, List.take_succ_cons, List.take_zero, List.drop_succ_cons, List.drop_zero, List.append_nil, Nat.zero_add, subP4, subA5]
          refine goP c26_ok ?_
          simp only [go_sem]
          simp only [i7, Out, resAll, geto, ints, List.getElem?_cons_zero, List.getElem?_cons_succ, resOf, outOf, snap, snapL, ev, getE, List.mapM_cons, List.mapM_nil, Option.bind_some, Option.pure_def, Option.bind_eq_bind, Option.map_some, reduceIte, Nat.reduceEqDiff, true_and, and_true]
    · have h25f := h25 false ⟨fun h => (by cases h), fun h => absurd h hL⟩
      simp only [plX, runes, ints] at h25bt h25f
      simp only [c7, plX, runes, ints, go_sem, fillAll, fillIn, shiftR, shiftV, List.take_succ_cons, List.take_zero, List.drop_succ_cons, List.drop_zero, List.append_nil, Nat.zero_add, subP4]
      refine goP h25bt ?_
      simp only [go_sem, fillAll, fillIn, shiftR, shiftV, List.take_succ_cons, List.take_zero, List.drop_succ_cons, List.drop_zero, List.append_nil, Nat.zero_add, subP4]
      refine goP h25f ?_
      simp only [go_sem]
      refine goP c26_ok ?_
      simp only [go_sem]
      simp only [i7, Out, resAll, geto, ints, List.getElem?_cons_zero, List.getElem?_cons_succ, resOf, outOf, snap, snapL, ev, getE, List.mapM_cons, List.mapM_nil, Option.bind_some, Option.pure_def, Option.bind_eq_bind, Option.map_some, reduceIte, Nat.reduceEqDiff, true_and, and_true]
  · have h25bf := h25b false ⟨fun h => (by cases h), fun h => absurd h hLb⟩
    simp only [plX, runes, ints] at h25bf
    simp only [c7, plX, runes, ints, go_sem, fillAll, fillIn, shiftR, shiftV, List.take_succ_cons, List.take_zero, List.drop_succ_cons, List.drop_zero, List.append_nil, Nat.zero_add, subP4]
    refine goP h25bf ?_
    simp only [go_sem]
    refine goP c26_ok ?_
    simp only [go_sem]
    simp only [i7, Out, resAll, geto, ints, List.getElem?_cons_zero, List.getElem?_cons_succ, resOf, outOf, snap, snapL, ev, getE, List.mapM_cons, List.mapM_nil, Option.bind_some, Option.pure_def, Option.bind_eq_bind, Option.map_some, reduceIte, Nat.reduceEqDiff, true_and, and_true]
end
end Go.Proofs.YtlejgleocnemoaaGreat.I

-- PRINTED BY print.sh 35421559b90ae4d0a3588c463048766b98c2df88dd9212a6774a882060cdf62d: not written by this session
-- PRINTED WORDS (module Derived/Print/Sized.lean): go-gate-2's, for the rows of laws over slices: an AI agent of Go's test side, Tue Nov 17 2026; no person has read it. Lean checks it.
namespace Go.Proofs.YtlejgleocnemoaaGreatW.PrintWords
open Go.ChangeShapes Go.WideShapes
end Go.Proofs.YtlejgleocnemoaaGreatW.PrintWords

namespace Go.Proofs.YtlejgleocnemoaaGreat.I
open Go Go.V Go.ChangeShapes Go.WideShapes Go.Deep
section
variable {H : Type} {enc : TypeId × Value → H} {P : Program} {w : World} {spare : Nat → Bool} {held : Bool}
theorem open_num1 {e : TypeId} {f0 f1 f2 : Field} {fuel : Nat} {a : Addr} {cs : List Value} {y : DataW H × List MemPlace} (he : P.underlying e = some (.struct #[f0, f1, f2])) (hone : oneCellFields P #[f0, f1, f2] = true)
    (h0 : P.underlying f0.type = some .bool) (h1 : P.underlying f1.type = some .string) (h2 : P.underlying f2.type = some .string) (hc : w.cells? 0 a 3 = some cs) (h : DataW.trod enc P w 0 spare held fuel e cs = some y) :
    ∃ q : Nm, (w.cell? (a.add 0) = some (.bool q.1) ∧ w.cell? (a.add 1) = some (.string (bs q.2.1)) ∧ w.cell? (a.add 2) = some (.string (bs q.2.2))) ∧ U8 q.2.1 ∧ U8 q.2.2 ∧ q.2.1.length ≤ maxLen ∧ q.2.2.length ≤ maxLen := by
  obtain ⟨_, hlen, hcell⟩ := World.cells?_some hc
  obtain ⟨xs, k, _, _, _, hxl, hf⟩ := DataW.trod_struct he h
  obtain ⟨o0, k0⟩ := hone_of hone 0 f0 rfl
  obtain ⟨o1, k1⟩ := hone_of hone 1 f1 rfl
  obtain ⟨o2, k2⟩ := hone_of hone 2 f2 rfl
  match xs, hxl, cs, hlen with
  | [y0, y1, y2], _, [v0, v1, v2], _ =>
    have g0 := hf 0 f0 rfl
    have g1 := hf 1 f1 rfl
    have g2 := hf 2 f2 rfl
    simp [o0, k0] at g0
    simp [o1, k1] at g1
    simp [o2, k2] at g2
    obtain ⟨b, hb, _⟩ := DataW.trod_bool h0 g0
    obtain ⟨s1, hs1, _, hm1⟩ := DataW.trod_string h1 g1
    obtain ⟨s2, hs2, _, hm2⟩ := DataW.trod_string h2 g2
    obtain ⟨l1, hu1, rfl⟩ := bs_all s1
    obtain ⟨l2, hu2, rfl⟩ := bs_all s2
    simp only [List.cons.injEq, and_true] at hb hs1 hs2
    subst hb; subst hs1; subst hs2
    have c0 := hcell 0 (by omega)
    have c1 := hcell 1 (by omega)
    have c2 := hcell 2 (by omega)
    rw [bs_size] at hm1 hm2
    exact ⟨(b, l1, l2), ⟨by simpa using c0, by simpa using c1, by simpa using c2⟩, hu1, hu2, hm1, hm2⟩
theorem open_nums {t e : TypeId} {f0 f1 f2 : Field} {fuel : Nat} {cs : List Value} {x : DataW H × List MemPlace} (ht : P.underlying t = some (.slice e)) (he : P.underlying e = some (.struct #[f0, f1, f2])) (hone : oneCellFields P #[f0, f1, f2] = true)
    (hC : P.cellsOf e = 3) (h0 : P.underlying f0.type = some .bool) (h1 : P.underlying f1.type = some .string) (h2 : P.underlying f2.type = some .string) (h : DataW.trod enc P w 0 spare held fuel t cs = some x) :
    ∃ (a : Option Addr) (len cap : Nat) (l : List Nm), cs = [.slice a len cap] ∧ l.length = len ∧ len ≤ maxLen ∧ (∀ q ∈ l, U8 q.2.1 ∧ U8 q.2.2 ∧ q.2.1.length ≤ maxLen ∧ q.2.2.length ≤ maxLen) ∧ RG w (fun b => b < w.heap.size) (.sl l.length 3 (nmsC l)) (.slice a len cap) := by
  rcases open_slice ht h with ⟨rfl, _⟩ | ⟨a, len, cap, m, n, D, Pl, rfl, _, hl, hm, hmm, _, hx⟩
  · exact ⟨none, 0, 0, [], rfl, rfl, Nat.zero_le _, fun q hq => by simp at hq, .sl0⟩
  have hlm : len ≤ m := by rw [hmm]; split <;> omega
  rw [hC] at hx
  have each : ∀ i, i < len → ∃ q : Nm, (w.cell? (a.add (i * 3)) = some (.bool q.1) ∧ w.cell? (a.add (i * 3 + 1)) = some (.string (bs q.2.1)) ∧ w.cell? (a.add (i * 3 + 2)) = some (.string (bs q.2.2))) ∧ U8 q.2.1 ∧ U8 q.2.2 ∧ q.2.1.length ≤ maxLen ∧ q.2.2.length ≤ maxLen := fun i hi => by
    obtain ⟨cs', hc, hy⟩ := hx i (by omega)
    obtain ⟨q, ⟨g0, g1, g2⟩, hq⟩ := open_num1 he hone h0 h1 h2 hc hy
    rw [add_add] at g0 g1 g2
    exact ⟨q, ⟨g0, g1, g2⟩, hq⟩
  obtain ⟨f, hf⟩ := choose_lt (α := Nm) each
  refine ⟨some a, len, cap, (List.range len).map f, rfl, by simp, Nat.le_trans hl hm, fun q hq => ?_, ?_⟩
  · obtain ⟨i, hi, rfl⟩ := List.mem_map.1 hq
    exact (hf i (List.mem_range.1 hi)).2
  · have hll : ((List.range len).map f).length = len := by simp
    rw [hll]
    by_cases hz : len = 0
    · subst hz; exact .sl0
    obtain ⟨b, o, sp⟩ := a
    have hc0 := (hf 0 (by omega)).1.1
    have hsp : sp = none := by
      simp only [Addr.add, Nat.zero_mul, if_true, World.cell?] at hc0
      split at hc0
      · split at hc0
        · cases hc0
        · rename_i hh; simpa using hh
      · cases hc0
    subst hsp
    have addE : ∀ i, (⟨b, o, none⟩ : Addr).add i = ⟨b, o + i, none⟩ := fun i => by
      unfold Addr.add
      split
      · rename_i h; rw [h]; rfl
      · rfl
    have hb : b < w.heap.size := by
      rw [addE] at hc0
      unfold World.cell? at hc0
      split at hc0
      · rename_i hh; exact (Array.getElem?_eq_some_iff.1 hh).1
      · cases hc0
    have hat : ∀ i, i < len → ((List.range len).map f).getD i (false, [], []) = f i := fun i hi => by simp [List.getD, hi]
    have vlen : ∀ l : List Nm, (l.flatMap fun q => [Value.bool q.1, .string (bs q.2.1), .string (bs q.2.2)]).length = l.length * 3 := fun l => by
      induction l with
      | nil => rfl
      | cons q l ih => rw [List.flatMap_cons, List.length_append, ih, List.length_cons]; simp; omega
    have vget : ∀ (l : List Nm) (i k : Nat), i < l.length → k < 3 → (l.flatMap fun q => [Value.bool q.1, .string (bs q.2.1), .string (bs q.2.2)])[i * 3 + k]? = ([Value.bool (l.getD i (false, [], [])).1, .string (bs (l.getD i (false, [], [])).2.1), .string (bs (l.getD i (false, [], [])).2.2)])[k]? := fun l => by
      induction l with
      | nil => intro i k h; simp at h
      | cons q l ih =>
        intro i k hi hk
        cases i with
        | zero => rw [List.flatMap_cons, Nat.zero_mul, Nat.zero_add, List.getElem?_append_left (by simp; omega)]; rfl
        | succ i =>
          rw [List.flatMap_cons, List.getElem?_append_right (by simp; omega)]
          have e : (i + 1) * 3 + k - [Value.bool q.1, .string (bs q.2.1), .string (bs q.2.2)].length = i * 3 + k := by simp; omega
          rw [e, ih i k (by simpa using hi) hk]
          rfl
    have cget : ∀ (l : List Nm) (i k : Nat), i < l.length → k < 3 → (nmsC l)[i * 3 + k]? = (nmC (l.getD i (false, [], [])))[k]? := fun l i k hi hk => by
      rw [← flat_get (f := nmC) (fun _ => rfl) hi, List.getElem?_take, if_pos hk, List.getElem?_drop]
      rfl
    have split3 : ∀ j, j < len * 3 → ∃ i k, i < len ∧ k < 3 ∧ j = i * 3 + k := fun j hj => ⟨j / 3, j % 3, by omega, by omega, by omega⟩
    refine .sl (vs := ((List.range len).map f).flatMap fun q => [Value.bool q.1, .string (bs q.2.1), .string (bs q.2.2)]) (by omega) hl (by rw [nmsC, flat_len (fun _ => rfl), hll]) (by rw [vlen, nmsC, flat_len (fun _ => rfl)]) hb (fun u hu => ?_) (fun j u hu => ?_) (fun j c u hc hu => ?_)
    · obtain ⟨q, _, hq⟩ := List.mem_flatMap.1 hu
      simp only [List.mem_cons, List.not_mem_nil, or_false] at hq
      rcases hq with rfl | rfl | rfl <;> rfl
    · have hj := (List.getElem?_eq_some_iff.1 hu).1
      rw [vlen, hll] at hj
      obtain ⟨i, k, hi, hk, rfl⟩ := split3 j hj
      rw [vget _ i k (by rw [hll]; exact hi) hk, hat i hi] at hu
      obtain ⟨⟨g0, g1, g2⟩, _⟩ := hf i hi
      rw [addE] at g0 g1 g2
      match k, hk with
      | 0, _ => simp at hu; subst hu; exact g0
      | 1, _ => simp at hu; subst hu; exact g1
      | 2, _ => simp at hu; subst hu; exact g2
    · have hj := (List.getElem?_eq_some_iff.1 hu).1
      rw [vlen, hll] at hj
      obtain ⟨i, k, hi, hk, rfl⟩ := split3 j hj
      rw [vget _ i k (by rw [hll]; exact hi) hk] at hu
      rw [cget _ i k (by rw [hll]; exact hi) hk] at hc
      match k, hk with
      | 0, _ => simp [nmC] at hu hc; subst hu; subst hc; exact .bool
      | 1, _ => simp [nmC] at hu hc; subst hu; subst hc; exact .str
      | 2, _ => simp [nmC] at hu hc; subst hu; subst hc; exact .str
end
end Go.Proofs.YtlejgleocnemoaaGreat.I
