/- Layer 1: limbs and digits, in plain numbers. -/
import Derived.Test.YtcmbaabkfihdmaaL06b
set_option linter.unusedVariables false
set_option linter.unusedSimpArgs false
namespace Go.Proofs.Ytcmbaabkfihdmaa.I
open Go Go.V

def nval : List Int → Nat
  | [] => 0
  | x :: xs => x.toNat + 4294967296 * nval xs
def R32 (l : List Int) : Prop := ∀ x ∈ l, 0 ≤ x ∧ x < 4294967296
def limG (n : Nat) : List Int := if h : n = 0 then [] else ((n % 4294967296 : Nat) : Int) :: limG (n / 4294967296)
termination_by n
decreasing_by omega
theorem limG_zero : limG 0 = [] := by rw [limG]; rfl
theorem limG_pos {n : Nat} (h : n ≠ 0) : limG n = ((n % 4294967296 : Nat) : Int) :: limG (n / 4294967296) := by
  rw [limG, dif_neg h]
theorem lim_limG {n : Nat} (h : n < 18446744073709551616) : lim n = limG n := by
  unfold lim
  by_cases h0 : n = 0
  · subst h0; rw [limG_zero]; rfl
  · rw [if_neg h0, limG_pos h0]
    by_cases h1 : n < 4294967296
    · rw [if_pos h1, Nat.mod_eq_of_lt h1, Nat.div_eq_of_lt h1, limG_zero]
    · have e1 : n / 4294967296 ≠ 0 := by omega
      have e2 : n / 4294967296 / 4294967296 = 0 := by omega
      have e3 : n / 4294967296 % 4294967296 = n / 4294967296 := by omega
      rw [if_neg h1, limG_pos e1, e2, e3, limG_zero]
theorem nval_limG : ∀ {n : Nat}, nval (limG n) = n := by
  intro n
  induction n using Nat.strongRecOn with
  | _ n ih =>
    by_cases h0 : n = 0
    · subst h0; rw [limG_zero]; rfl
    · rw [limG_pos h0, nval, ih _ (by omega)]
      omega
theorem R32_limG : ∀ {n : Nat}, R32 (limG n) := by
  intro n
  induction n using Nat.strongRecOn with
  | _ n ih =>
    by_cases h0 : n = 0
    · subst h0; rw [limG_zero]; intro x hx; simp at hx
    · rw [limG_pos h0]
      intro x hx
      rcases List.mem_cons.1 hx with rfl | hx
      · omega
      · exact ih _ (by omega) x hx
theorem limG_mono : ∀ {b a : Nat}, a ≤ b → (limG a).length ≤ (limG b).length := by
  intro b
  induction b using Nat.strongRecOn with
  | _ b ih =>
    intro a hab
    by_cases h0 : a = 0
    · subst h0; rw [limG_zero]; simp
    · rw [limG_pos h0, limG_pos (n := b) (by omega), List.length_cons, List.length_cons]
      have := ih (b / 4294967296) (by omega) (a := a / 4294967296) (Nat.div_le_div_right hab)
      omega
theorem trimL_limG : ∀ {l : List Int}, R32 l → trimL l = limG (nval l)
  | [], _ => by rw [nval, limG_zero]; rfl
  | x :: xs, h => by
    have h' : R32 xs := fun y hy => h y (by simp [hy])
    have hx := h x (by simp)
    have ih := trimL_limG h'
    rw [trimL, ih, nval]
    by_cases hv : nval xs = 0
    · rw [hv, limG_zero, Nat.mul_zero, Nat.add_zero]
      by_cases h0 : x = 0
      · subst h0; simp [limG_zero]
      · have e1 : x.toNat ≠ 0 := by omega
        have e2 : x.toNat % 4294967296 = x.toNat := by omega
        have e3 : x.toNat / 4294967296 = 0 := by omega
        have e4 : (x.toNat : Int) = x := by omega
        rw [if_neg h0, limG_pos e1, e2, e3, limG_zero, e4]
    · have e1 : (x.toNat + 4294967296 * nval xs) / 4294967296 = nval xs := by omega
      have e2 : (((x.toNat + 4294967296 * nval xs) % 4294967296 : Nat) : Int) = x := by omega
      rw [limG_pos (n := x.toNat + 4294967296 * nval xs) (by omega), e1, e2]
      cases hq : limG (nval xs) with
      | nil =>
        have := nval_limG (n := nval xs)
        rw [hq] at this
        exact absurd this.symm hv
      | cons y ys => rfl

/-- Digits, the least first. -/
def dgs (n : Nat) : List Int := if h : n = 0 then [] else ((n % 10 : Nat) : Int) :: dgs (n / 10)
termination_by n
decreasing_by omega
theorem dgs_zero : dgs 0 = [] := by rw [dgs]; rfl
theorem dgs_pos {n : Nat} (h : n ≠ 0) : dgs n = ((n % 10 : Nat) : Int) :: dgs (n / 10) := by
  rw [dgs, dif_neg h]
theorem dgs_range : ∀ {n : Nat}, ∀ d ∈ dgs n, 0 ≤ d ∧ d ≤ 9 := by
  intro n
  induction n using Nat.strongRecOn with
  | _ n ih =>
    by_cases h0 : n = 0
    · subst h0; rw [dgs_zero]; intro d hd; simp at hd
    · rw [dgs_pos h0]
      intro d hd
      rcases List.mem_cons.1 hd with rfl | hd
      · omega
      · exact ih _ (by omega) d hd
/-- The greatest digit is not 0. -/
theorem dgs_last : ∀ {n : Nat}, n ≠ 0 → ∃ l d, dgs n = l ++ [d] ∧ 1 ≤ d ∧ d ≤ 9 := by
  intro n
  induction n using Nat.strongRecOn with
  | _ n ih =>
    intro h0
    rw [dgs_pos h0]
    by_cases h1 : n / 10 = 0
    · rw [h1, dgs_zero]
      exact ⟨[], _, rfl, by omega, by omega⟩
    · obtain ⟨l, d, e, h2⟩ := ih _ (by omega) h1
      rw [e]
      exact ⟨_ :: l, d, rfl, h2⟩
theorem nums_app {k : IntKind} {a b : List Int} : nums k (a ++ b) = nums k a ++ nums k b := by simp [nums]
def bs (l : List Int) : ByteArray := ⟨(l.map fun n => UInt8.ofNat n.toNat).toArray⟩
def asc (l : List Int) : List Int := l.map fun d => 48 + d
def dec (n : Nat) : ByteArray := if n = 0 then ⟨#[48]⟩ else bs (asc (dgs n)).reverse
theorem bytesOf_nums : ∀ {l : List Int}, bytesOfAV (nums .u8 l) = some (bs l) := by
  intro l
  have : (nums .u8 l).mapM byteOfAV = some (l.map fun n => UInt8.ofNat n.toNat) := by
    induction l with
    | nil => rfl
    | cons x l ih =>
      have e : nums .u8 (x :: l) = .int .u8 x :: nums .u8 l := rfl
      rw [e, List.mapM_cons, ih]
      rfl
  simp only [bytesOfAV, this, Option.map_some, bs]
theorem bs_size {l : List Int} : (bs l).size = l.length := by simp [bs, ByteArray.size]
theorem bs_get {x : Int} {l : List Int} (h : 0 ≤ x ∧ x < 256) : ((bs (x :: l))[0]?).map (fun b : UInt8 => (b.toNat : Int)) = some x := by
  have e : (bs (x :: l))[0]? = some (UInt8.ofNat x.toNat) := rfl
  rw [e, Option.map_some]
  simp
  omega
end Go.Proofs.Ytcmbaabkfihdmaa.I
