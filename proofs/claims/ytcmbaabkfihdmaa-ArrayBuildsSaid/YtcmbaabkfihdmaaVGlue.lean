/- From the small form to the row's own words. -/
import Derived.Test.YtcmbaabkfihdmaaVCalls
import Derived.Test.YtcmbaabkfihdmaaVLoop
import Derived.Below
set_option linter.unusedVariables false
namespace Go.V
open Go Go.RowKit

theorem walk_of {P : Program} {tab : Nat → Option IFn} {E : CallRel} (hE : CallsOk P E) (hm : P.follows .mixedOrders = true) (ht : ∀ f i, tab f = some i → okFun P f i = true) {f : Nat} {as : List AV} {b : Bool} (h : Call tab E f as [] (.bool b) []) {W : World} {vals : Array Value}
    (hsz : vals.size = as.length) (hr : ∀ (j : Nat) (c : AV) (u : Value), as[j]? = some c → vals[j]? = some u → RG W (fun b => b < W.heap.size) c u) :
    Calls P f vals W fun e W' => e = .returned (.bool b) ∧ Below W.heap.size W W' := by
  refine (call_ok hE hm ht h W (fun b => b < W.heap.size) [] vals ⟨rfl, fun n o v h => by simp at h, fun n m u v b _ h => by simp at h, fun b h => h⟩ hsz (fun j c u hc hu => .gr (hr j c u hc hu))).mono fun e W' hh => ?_
  obtain ⟨v, fz', ρ', rfl, e1, e2, e3⟩ := hh
  refine ⟨by rw [rep_bool e3], e1.os, e1.tape, e1.output, e1.size, fun k hk => e1.fzblk k hk⟩

theorem noCalls {P : Program} : CallsOk P (fun _ _ _ _ _ => False) := fun h => h.elim

/-- A row of numbers that came as an argument. -/
theorem rg_row {k : IntKind} {W : World} {a : Option Addr} {len cap : Nat} {zs : List Int}
    (h : (a = none ∧ len = 0 ∧ cap = 0 ∧ zs = []) ∨ ∃ x, a = some x ∧ len ≤ cap ∧ zs.length = cap ∧ (∀ i, i < zs.length → W.cell? (x.add i) = some (.int k (zs.getD i 0)))) :
    RG W (fun b => b < W.heap.size) (.sl (zs.take len).length 1 (nums k (zs.take len))) (.slice a len cap) := by
  rcases h with ⟨rfl, rfl, rfl, rfl⟩ | ⟨x, rfl, h1, h2, h3⟩
  · exact .sl0
  · have hlen : (zs.take len).length = len := by simp; omega
    rw [hlen]
    by_cases h0 : len = 0
    · subst h0
      simp only [List.take_zero, nums, List.map_nil]
      exact .sl0
    · obtain ⟨b, o, sp⟩ := x
      have hc0 := h3 0 (by omega)
      have hsp : sp = none := by
        simp only [Addr.add, if_true, World.cell?] at hc0
        split at hc0
        · split at hc0
          · cases hc0
          · rename_i hh; simpa using hh
        · cases hc0
      subst hsp
      have hcell : ∀ i, i < zs.length → W.cell? ⟨b, o + i, none⟩ = some (.int k (zs.getD i 0)) := by
        intro i hi
        have := h3 i hi
        unfold Addr.add at this
        split at this
        · rename_i hi0; subst hi0; simpa using this
        · exact this
      have hb : b < W.heap.size := by
        have := hcell 0 (by omega)
        unfold World.cell? at this
        split at this
        · rename_i hh; exact (Array.getElem?_eq_some_iff.1 hh).1
        · cases this
      have hget : ∀ (j : Nat), j < len → ((zs.take len).map (Value.int k))[j]? = some (.int k (zs.getD j 0)) := by
        intro j hj
        rw [List.getElem?_map, List.getElem?_take, if_pos hj, List.getElem?_eq_getElem (by omega)]
        simp [List.getD, show j < zs.length by omega]
      refine .sl (vs := (zs.take len).map (Value.int k)) (by omega) h1 (by simp [nums]; omega) (by simp [nums]) hb (fun u hu => ?_) (fun j u hu => ?_) (fun j c u hc hu => ?_)
      · obtain ⟨n, _, rfl⟩ := List.mem_map.1 hu; rfl
      · have hj : j < len := by
          have := (List.getElem?_eq_some_iff.1 hu).1
          simp at this; omega
        rw [hget j hj] at hu
        rw [← hu]
        exact hcell j (by omega)
      · rw [nums, List.getElem?_map] at hc
        rw [List.getElem?_map] at hu
        obtain ⟨n, hn, rfl⟩ := Option.map_eq_some_iff.1 hc
        rw [hn] at hu
        simp only [Option.map_some, Option.some.injEq] at hu
        subst hu
        exact .int

end Go.V
