/- Layer 7, in plain numbers: products, the index of a place and the place of an index, counting up. -/
import Derived.Test.YtcmbaabkfihdmaaL07c
import Derived.Test.YtcmbaabkfihdmaaL07d
import Derived.Test.YtcmbaabkfihdmaaL07h
import Derived.Test.YtcmbaabkfihdmaaL07i
set_option linter.unusedVariables false
set_option linter.unusedSimpArgs false
namespace Go.Proofs.Ytcmbaabkfihdmaa.I
open Go Go.V

def prd : List Int → Int
  | [] => 1
  | d :: ds => d * prd ds

theorem wrap_def (n : Int) : IntKind.i64.wrap n = (n + 9223372036854775808) % 18446744073709551616 - 9223372036854775808 := by
  simp only [IntKind.wrap, IntKind.bits, IntKind.signed]
  simp
  omega
theorem wrap_eq (n : Int) : ∃ k, IntKind.i64.wrap n = n + 18446744073709551616 * k := by
  refine ⟨-((n + 9223372036854775808) / 18446744073709551616), ?_⟩
  rw [wrap_def]
  omega
theorem wrap_add_mul (n k : Int) : IntKind.i64.wrap (n + 18446744073709551616 * k) = IntKind.i64.wrap n := by
  rw [wrap_def, wrap_def]
  omega
theorem wrap_mul_l (a b : Int) : IntKind.i64.wrap (IntKind.i64.wrap a * b) = IntKind.i64.wrap (a * b) := by
  obtain ⟨k, hk⟩ := wrap_eq a
  rw [hk, Int.add_mul, Int.mul_assoc, wrap_add_mul]

theorem prodR_wrap : ∀ {s : List Int}, prodR s = IntKind.i64.wrap (prd s)
  | [] => by rw [prodR, prd, wrap_i64 (by omega) (by omega)]
  | d :: ds => by rw [prodR, prodR_wrap, wrap_mul_l, prd, Int.mul_comm]
theorem prodW_wrap' : ∀ {s : List Int} {n : Int}, s.foldl (fun n d => IntKind.i64.wrap (n * d)) (IntKind.i64.wrap n) = IntKind.i64.wrap (n * prd s)
  | [], n => by rw [List.foldl_nil, prd, Int.mul_one]
  | d :: ds, n => by rw [List.foldl_cons, wrap_mul_l, prodW_wrap', prd, Int.mul_assoc]
theorem prodW_wrap {s : List Int} : prodW s = IntKind.i64.wrap (prd s) := by
  have := prodW_wrap' (s := s) (n := 1)
  rw [Int.one_mul, wrap_i64 (n := 1) (by omega) (by omega)] at this
  exact this
theorem str_same : ∀ {s : List Int}, str s = strW s
  | [] => rfl
  | d :: ds => by rw [str, strW, prodR_wrap, prodW_wrap, str_same]

theorem cnt_prd : ∀ {s : List Int} {most m n : Int}, cnt most m s = some n → n = m * prd s
  | [], most, m, n, h => by rw [cnt] at h; rw [prd, Int.mul_one]; exact (Option.some.inj h).symm
  | d :: ds, most, m, n, h => by
    rw [cnt] at h
    split at h
    · cases h
    · rw [cnt_prd h, prd, Int.mul_assoc]
theorem count_prd {s : List Int} {n : Int} (h : count s = some n) : n = prd s := by
  unfold count at h
  split at h
  · cases h
  · rw [cnt_prd h, Int.one_mul]

theorem prd_pos : ∀ {s : List Int}, (∀ d ∈ s, 1 ≤ d) → 1 ≤ prd s
  | [], _ => Int.le_refl _
  | d :: ds, h => by
    have h1 := prd_pos (s := ds) (fun x hx => h x (by simp [hx]))
    have h2 := h d (by simp)
    have := Int.mul_le_mul_of_nonneg_left (a := 1) (b := prd ds) (c := d) h1 (by omega)
    rw [prd]
    omega

theorem emod_mul (a p d : Int) (hp : 0 < p) : a % (d * p) = (a / p) % d * p + a % p := by
  rw [Int.emod_def a (d * p), Int.emod_def (a / p) d, Int.emod_def a p, Int.mul_comm d p, ← Int.ediv_ediv_of_nonneg (by omega), Int.sub_mul, Int.mul_assoc p d, Int.mul_comm (d * (a / p / d)) p, Int.mul_comm (a / p) p]
  omega

theorem ix_snd : ∀ {s : List Int} {a : Int}, 0 ≤ a → (∀ d ∈ s, 1 ≤ d) → (ix s a).2 = a / prd s
  | [], a, _, _ => by rw [ix, prd, Int.ediv_one]
  | d :: ds, a, ha, h => by
    have hp := prd_pos (s := ds) (fun x hx => h x (by simp [hx]))
    rw [ix, ix_snd ha (fun x hx => h x (by simp [hx])), prd, Int.mul_comm d, Int.ediv_ediv_of_nonneg (by omega)]

/-- The place of a place's index is the place. -/
theorem pl_ix : ∀ {s : List Int} {a m : Int}, 0 ≤ a → (∀ d ∈ s, 1 ≤ d) → pl m s (ix s a).1 = some (m * prd s + a % prd s)
  | [], a, m, ha, _ => by simp [ix, pl, prd]
  | d :: ds, a, m, ha, h => by
    have h' : ∀ x ∈ ds, 1 ≤ x := fun x hx => h x (by simp [hx])
    have hp := prd_pos h'
    have hd := h d (by simp)
    have h1 := Int.emod_nonneg (a / prd ds) (show d ≠ 0 by omega)
    have h2 := Int.emod_lt_of_pos (a / prd ds) (show 0 < d by omega)
    rw [ix, ix_snd ha h', pl, if_neg (by omega), pl_ix ha h', prd, emod_mul _ _ _ (by omega), Int.add_mul, Int.mul_assoc]
    congr 1
    omega
theorem pl_ix0 {s : List Int} {a : Int} (ha : 0 ≤ a) (h : ∀ d ∈ s, 1 ≤ d) (hl : a < prd s) : pl 0 s (ix s a).1 = some a := by
  rw [pl_ix ha h, Int.zero_mul, Int.zero_add, Int.emod_eq_of_lt ha hl]

/-- Counting up by one, the last number first; was it the last one? -/
def inc : List Int → List Int → List Int × Bool
  | d :: ds, x :: xs => if (inc ds xs).2 then (if x + 1 < d then ((x + 1) :: (inc ds xs).1, false) else (0 :: (inc ds xs).1, true)) else (x :: (inc ds xs).1, false)
  | _, _ => ([], true)
theorem inc_ix : ∀ {s : List Int} {a : Int}, 0 ≤ a → (∀ d ∈ s, 1 ≤ d) → (inc s (ix s a).1).1 = (ix s (a + 1)).1 ∧ (ix s (a + 1)).2 = (ix s a).2 + if (inc s (ix s a).1).2 then 1 else 0
  | [], a, _, _ => by simp [ix, inc]
  | d :: ds, a, ha, h => by
    have h' : ∀ x ∈ ds, 1 ≤ x := fun x hx => h x (by simp [hx])
    have hd := h d (by simp)
    obtain ⟨h1, h2⟩ := inc_ix ha h'
    have h3 := (ix_nonneg ha h').1
    simp only [ix, inc]
    cases hc : (inc ds (ix ds a).1).2
    · rw [hc] at h2
      simp only [Bool.false_eq_true, if_false, Int.add_zero] at h2 ⊢
      rw [h2, h1]
      exact ⟨rfl, rfl⟩
    · rw [hc] at h2
      simp only [if_true] at h2 ⊢
      rw [h2]
      generalize (ix ds a).2 = q at *
      have e1 := Int.emod_nonneg q (show d ≠ 0 by omega)
      have e2 := Int.emod_lt_of_pos q (show 0 < d by omega)
      have e3 := Int.emod_def q d
      by_cases hl : q % d + 1 < d
      · have e4 : (q + 1) / d = q / d := by
          rw [show q + 1 = q % d + 1 + d * (q / d) by omega, Int.add_mul_ediv_left _ _ (by omega), Int.ediv_eq_zero_of_lt (by omega) hl, Int.zero_add]
        have e5 : (q + 1) % d = q % d + 1 := by rw [Int.emod_def, e4]; omega
        rw [if_pos hl]
        simp only [h1, e4, e5, Bool.false_eq_true, if_false, Int.add_zero, and_self]
      · have e4 : (q + 1) / d = q / d + 1 := by
          have : d * (q / d + 1) = d * (q / d) + d := by rw [Int.mul_add, Int.mul_one]
          rw [show q + 1 = d * (q / d + 1) by omega, Int.mul_ediv_cancel_left _ (by omega)]
        have e5 : (q + 1) % d = 0 := by
          have : d * (q / d + 1) = d * (q / d) + d := by rw [Int.mul_add, Int.mul_one]
          rw [Int.emod_def, e4]; omega
        rw [if_neg hl]
        simp only [h1, e4, e5, if_true, and_self]

theorem inc_len : ∀ {s x : List Int}, s.length = x.length → (inc s x).1.length = x.length
  | [], [], _ => rfl
  | d :: ds, x :: xs, h => by
    have := inc_len (s := ds) (x := xs) (by simpa using h)
    simp only [inc]
    split
    · split <;> simp [this]
    · simp [this]
theorem inc_drop : ∀ {k : Nat} {s x t : List Int}, s.length = x.length → k ≤ s.length → inc (s.drop k) (x.drop k) = (t, false) → inc s x = (x.take k ++ t, false)
  | 0, s, x, t, _, _, h => by simpa using h
  | k + 1, [], x, t, _, hk, h => by simp at hk
  | k + 1, d :: ds, [], t, hl, hk, h => by simp at hl
  | k + 1, d :: ds, y :: ys, t, hl, hk, h => by
    have := inc_drop (k := k) (s := ds) (x := ys) (by simpa using hl) (by simpa using hk) (by simpa using h)
    simp only [inc, this, Bool.false_eq_true, if_false, List.take_succ_cons, List.cons_append]

/-- All indexes, as the document makes them. -/
def allS (L : List (List Int)) (d : Nat) : List (List Int) := L.flatMap fun p => (List.range d).map fun n : Nat => p ++ [(n : Int)]
def allL (s : List Int) : List (List Int) := s.foldl (fun L d => allS L d.toNat) [[]]

theorem allS_len {L : List (List Int)} {d : Nat} : (allS L d).length = L.length * d := by
  induction L with
  | nil => simp [allS]
  | cons p L ih =>
    have : allS (p :: L) d = ((List.range d).map fun n : Nat => p ++ [(n : Int)]) ++ allS L d := rfl
    rw [this, List.length_append, ih, List.length_map, List.length_range, List.length_cons, Nat.succ_mul, Nat.add_comm]
theorem allS_get : ∀ {L : List (List Int)} {d j : Nat}, j < L.length * d → (allS L d)[j]? = (L[j / d]?).map fun p => p ++ [((j % d : Nat) : Int)]
  | [], d, j, h => by simp at h
  | p :: L, d, j, h => by
    have hd : 0 < d := by
      rcases Nat.eq_zero_or_pos d with rfl | h0
      · simp at h
      · exact h0
    have e : allS (p :: L) d = ((List.range d).map fun n : Nat => p ++ [(n : Int)]) ++ allS L d := rfl
    rw [e, List.getElem?_append]
    simp only [List.length_map, List.length_range]
    split
    · rename_i hj
      rw [Nat.div_eq_of_lt hj, Nat.mod_eq_of_lt hj]
      simp [hj]
    · rename_i hj
      rw [List.length_cons, Nat.succ_mul] at h
      rw [allS_get (L := L) (by omega)]
      have h1 : j / d = (j - d) / d + 1 := by rw [Nat.div_eq_sub_div hd (by omega)]
      have h2 : j % d = (j - d) % d := by rw [Nat.mod_eq_sub_mod (by omega)]
      rw [h1, h2, List.getElem?_cons_succ]

theorem ix_snoc : ∀ {s : List Int} {d a : Int}, ix (s ++ [d]) a = ((ix s (a / d)).1 ++ [a % d], (ix s (a / d)).2)
  | [], d, a => rfl
  | x :: s, d, a => by simp only [List.cons_append, ix, ix_snoc]
theorem prd_snoc : ∀ {s : List Int} {d : Int}, prd (s ++ [d]) = prd s * d
  | [], d => by simp [prd]
  | x :: s, d => by simp only [List.cons_append, prd, prd_snoc, Int.mul_assoc]
theorem allL_snoc {s : List Int} {d : Int} : allL (s ++ [d]) = allS (allL s) d.toNat := by simp [allL]

/-- The first numbers' indexes, told one by one: ahead of the rest, which are counted from the right. -/
theorem allL_take {s : List Int} (h : ∀ d ∈ s, 0 ≤ d) : ∀ {k : Nat}, k ≤ s.length → ((allL (s.take k)).length : Int) = prd (s.take k) ∧ ∀ j : Nat, (j : Int) < prd (s.take k) → (allL (s.take k))[j]? = some (ix (s.take k) j).1
  | 0, _ => by
    refine ⟨by simp [allL, prd], fun j hj => ?_⟩
    simp only [List.take_zero, prd] at hj
    obtain rfl : j = 0 := by omega
    simp [allL, ix]
  | k + 1, hk => by
    obtain ⟨h1, h2⟩ := allL_take h (k := k) (by omega)
    have hs : s.take (k + 1) = s.take k ++ [s.getD k 0] := by
      rw [List.take_add_one]
      congr 1
      simp [List.getD, show k < s.length by omega]
    have hd : 0 ≤ s.getD k 0 := h _ (by simp [List.getD, show k < s.length by omega])
    rw [hs, allL_snoc, prd_snoc, allS_len]
    obtain ⟨d, hdd⟩ := Int.eq_ofNat_of_zero_le hd
    rw [hdd, Int.toNat_natCast]
    refine ⟨by rw [Int.natCast_mul, h1], fun j hj => ?_⟩
    have hj' : j < (allL (s.take k)).length * d := by
      rw [← h1, ← Int.natCast_mul] at hj
      omega
    have hd0 : 0 < d := by
      rcases Nat.eq_zero_or_pos d with rfl | h0
      · simp at hj'
      · exact h0
    rw [allS_get hj', h2 (j / d) (by
      rw [← h1]
      have := (Nat.div_lt_iff_lt_mul hd0).2 hj'
      omega), ix_snoc]
    simp
end Go.Proofs.Ytcmbaabkfihdmaa.I
