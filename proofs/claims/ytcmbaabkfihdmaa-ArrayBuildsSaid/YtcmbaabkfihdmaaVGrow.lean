/- slices.Grow of the nil slice: an empty row of its own with room. Conditions: no more room than Go lets a row have. -/
import Derived.Test.YtcmbaabkfihdmaaProg
import Derived.Test.YtcmbaabkfihdmaaVCalls
import Derived.Test.YtcmbaabkfihdmaaVLoop
import Derived.Lib.AppendZeros
import Derived.WalkKit
import Derived.RegionTactic
set_option linter.unusedVariables false
set_option linter.unusedSimpArgs false
namespace Go.Proofs.Ytcmbaabkfihdmaa.I
open Go Go.V Go.RowKit

theorem info3 : (Try.prog.info? 3).map (fun i => (i.zero, i.size, i.bytes)) = some (some (.int .i64 0), 1, 8) := by kernel_rfl
set_option maxHeartbeats 3200000 in
set_option maxRecDepth 100000 in
theorem grow_run0 (w : World) : Calls Try.prog 111 #[.slice none 0 0, .int .i64 0] w fun e w' => e = .returned (.slice none 0 0) ∧ w' = w := by
  have t22 := Try.underlying22
  have t3 := Try.underlying3
  go_enter Try.func111, Try.ntmps111
  go_wp2
  go_ret
  exact ⟨rfl, rfl⟩
set_option maxHeartbeats 3200000 in
set_option maxRecDepth 100000 in
theorem grow_run {n : Nat} (h0 : 0 < n) (hn : n * 8 ≤ 140737488355328) (w : World) : Calls Try.prog 111 #[.slice none 0 0, .int .i64 n] w fun e w' =>
    ∃ cur : Array Value, e = .returned (.slice (some ⟨w.heap.size, 0, none⟩) 0 (grownCap w n 0 3)) ∧ w' = w.drew.alloc (.cells cur 3) ∧ cur.size = grownCap w n 0 3 * 1 := by
  have t22 := Try.underlying22
  have t3 := Try.underlying3
  obtain ⟨i, hi, hz, hs, hb⟩ := info_parts info3
  have happ := fun W => Lib.run_append_nil_zeros (P := Try.prog) W 22 3 22 3 i (.int .i64 0) .i64 .i64 t22 t3 hi hz n h0 (by rw [hs]; omega) (by omega) (by rw [hb]; omega)
  have hpos : (0 : Int) < (n : Int) := by omega
  have hw : IntKind.i64.wrap ((n : Int) - 0) = (n : Int) := by rw [wrap_i64 (by omega) (by omega)]; omega
  go_enter Try.func111, Try.ntmps111
  go_wp2_with (at_builtin; refine Lib.wpList_append_run _ rfl _ _ _ _ rfl _ _ rfl rfl _ _ (happ _) ?_)
  go_ret
  refine ⟨_, rfl, rfl, ?_⟩
  have hge := grownCap_ge w n 0 3
  simp only [Array.size_append, size_zeroCells]
  simp
  omega

theorem grow_ok {n ty sz : Nat} (hn : (n : Int) * 8 ≤ 140737488355328) : okFn Try.prog 111 = true ∧ CallS Try.prog 111 [.nilsl ty sz, .int .i64 n] [] (.arr 0 0) [⟨false, 3, 1, 0, 0, [], false⟩] := by
  refine ⟨by kernel_rfl, ?_⟩
  intro w fz ρ vals hM hsz hrep
  have hρ : ρ = [] := List.length_eq_zero_iff.1 hM.len
  subst hρ
  obtain ⟨v0, v1, rfl⟩ : ∃ v0 v1, vals = #[v0, v1] := by
    have : vals.size = 2 := by simpa using hsz
    exact ⟨vals[0], vals[1], by
      apply Array.ext
      · simpa using this
      · intro i h1 h2
        have : i = 0 ∨ i = 1 := by simp at h2; omega
        rcases this with rfl | rfl <;> rfl⟩
  have r0 := hrep 0 _ v0 rfl rfl
  have r1 := rep_int (hrep 1 _ v1 rfl rfl)
  obtain rfl : v0 = .slice none 0 0 := by cases r0 with | gr h => cases h; rfl
  subst r1
  have fin : ∀ (v : Value) (w' : World), Old w w' → w'.ownsRow 0 3 1 v 0 [] → (∀ b, v.ownBlock = some b → w.heap.size ≤ b) →
      ∃ u fz' ρ', Ending.returned v = .returned u ∧ Ext w fz [] [] w' fz' [⟨false, 3, 1, 0, 0, [], false⟩] ρ' ∧ Mem w' fz' [⟨false, 3, 1, 0, 0, [], false⟩] ρ' ∧ Rep w' fz' [⟨false, 3, 1, 0, 0, [], false⟩] ρ' (.arr 0 0) u := fun v w' hw hr hb => by
    obtain ⟨c1, c2⟩ := hM.push hw ⟨false, 3, 1, 0, 0, [], false⟩ v rfl (by decide) hb ⟨[], hr, rfl, fun u hu => by simp at hu, fun j c u h => by simp at h⟩
    refine ⟨v, fz, _, rfl, c1, c2, .arr (o := ⟨false, 3, 1, 0, 0, [], false⟩) rfl (Nat.le_refl _) ?_ (fun _ => rfl)⟩
    rcases hr.2 with ⟨rfl, _⟩ | ⟨g, cap, cur, rfl, _⟩ <;> rfl
  rcases Nat.eq_zero_or_pos n with rfl | h0
  · refine (grow_run0 w).mono ?_
    rintro e w' ⟨rfl, rfl⟩
    exact fin _ _ (Old.refl _) (World.ownsRow_nil _ _ _ _) (fun b h => by simp [Value.ownBlock] at h)
  · refine (grow_run h0 (by omega) w).mono ?_
    rintro e w' ⟨cur, rfl, rfl, hs⟩
    refine fin _ _ ?_ (World.ownsRow_made w.drew cur _ (Nat.zero_le _) (grownCap_le_maxLen w n 0 3 (by simp only [maxLen]; omega)) hs) (fun b h => ?_)
    · have h1 := Old.drew w
      have h2 := Old.alloc w.drew (.cells cur 3)
      exact ⟨h2.os.trans h1.os, h2.tape.trans h1.tape, h2.output.trans h1.output, Nat.le_trans h1.size h2.size, fun b hb => (h2.blk b hb).trans (h1.blk b hb)⟩
    · simp only [Value.ownBlock, Option.some.injEq] at h
      omega
end Go.Proofs.Ytcmbaabkfihdmaa.I
