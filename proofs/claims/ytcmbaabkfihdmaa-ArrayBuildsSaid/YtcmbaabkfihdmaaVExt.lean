/- The calls whose contracts are shown by hand: slices.Clone of three kinds. Conditions: rows no longer than Go lets them be. -/
import Derived.Test.YtcmbaabkfihdmaaProg
import Derived.Test.YtcmbaabkfihdmaaVClone
import Derived.Test.YtcmbaabkfihdmaaVRun
import Derived.Test.YtcmbaabkfihdmaaVGrow
import Derived.WalkKit
set_option linter.unusedVariables false
namespace Go.Proofs.Ytcmbaabkfihdmaa.I
open Go Go.V

def cloneOf (sz e bytes : Nat) (ys : List AV) (mem : List AObj) : Option (AV × List AObj) :=
  match ys, mem with
  | [.sl n sz' cs], [] => if sz' = sz ∧ n * bytes ≤ 140737488355328 ∧ n ≤ 140737488355328 then some (.arr 0 0, [⟨false, e, sz, 0, n, cs, false⟩]) else none
  | _, _ => none
def growOf (e sz : Nat) (bytes : Int) (ys : List AV) (mem : List AObj) : Option (AV × List AObj) :=
  match ys, mem with
  | [.nilsl _ _, .int .i64 n], [] => if 0 ≤ n ∧ n * bytes ≤ 140737488355328 then some (.arr 0 0, [⟨false, e, sz, 0, 0, [], false⟩]) else none
  | _, _ => none
def ext : CallF := fun f ys mem =>
  match f with
  | 111 => growOf 3 1 8 ys mem
  | 85 => cloneOf 1 3 8 ys mem
  | 91 => cloneOf 3 70 56 ys mem
  | 92 => cloneOf 1 21 4 ys mem
  | _ => none
def E : CallRel := fun f ys mem r m => ext f ys mem = some (r, m)

theorem cloneOf_spec {sz e bytes : Nat} {ys : List AV} {mem : List AObj} {r : AV} {m : List AObj} (h : cloneOf sz e bytes ys mem = some (r, m)) :
    ∃ n cs, ys = [.sl n sz cs] ∧ mem = [] ∧ n * bytes ≤ 140737488355328 ∧ n ≤ 140737488355328 ∧ r = .arr 0 0 ∧ m = [⟨false, e, sz, 0, n, cs, false⟩] := by
  unfold cloneOf at h
  split at h
  · split at h
    · rename_i hc
      obtain ⟨rfl, h1, h2⟩ := hc
      simp only [Option.some.injEq, Prod.mk.injEq] at h
      exact ⟨_, _, rfl, rfl, h1, h2, h.1.symm, h.2.symm⟩
    · cases h
  · cases h

theorem growOf_spec {sz e : Nat} {bytes : Int} {ys : List AV} {mem : List AObj} {r : AV} {m : List AObj} (h : growOf e sz bytes ys mem = some (r, m)) :
    ∃ ty sz' n, ys = [.nilsl ty sz', .int .i64 n] ∧ mem = [] ∧ 0 ≤ n ∧ n * bytes ≤ 140737488355328 ∧ r = .arr 0 0 ∧ m = [⟨false, e, sz, 0, 0, [], false⟩] := by
  unfold growOf at h
  split at h
  · split at h
    · rename_i hc
      obtain ⟨h1, h2⟩ := hc
      simp only [Option.some.injEq, Prod.mk.injEq] at h
      exact ⟨_, _, _, rfl, rfl, h1, h2, h.1.symm, h.2.symm⟩
    · cases h
  · cases h

theorem calls_ok : CallsOk Try.prog E := by
  intro f ys mem r m h
  unfold E ext at h
  split at h
  · obtain ⟨ty, sz', n, rfl, rfl, h1, h2, rfl, rfl⟩ := growOf_spec h
    obtain ⟨m, rfl⟩ := Int.eq_ofNat_of_zero_le h1
    exact grow_ok (by omega)
  · obtain ⟨n, cs, rfl, rfl, h1, h2, rfl, rfl⟩ := cloneOf_spec h
    exact clone_ok (T := 22) (bytes := 8) (by kernel_rfl) Try.f85 (by kernel_rfl) rfl (by decide +kernel) rfl (by kernel_rfl) (by kernel_rfl) (by kernel_rfl) rfl rfl rfl (by kernel_rfl) (by kernel_rfl) (by kernel_rfl) h1 h2
  · obtain ⟨n, cs, rfl, rfl, h1, h2, rfl, rfl⟩ := cloneOf_spec h
    exact clone_ok (T := 46) (bytes := 56) (by kernel_rfl) Try.f91 (by kernel_rfl) rfl (by decide +kernel) rfl (by kernel_rfl) (by kernel_rfl) (by kernel_rfl) rfl rfl rfl (by kernel_rfl) (by kernel_rfl) (by kernel_rfl) h1 h2
  · obtain ⟨n, cs, rfl, rfl, h1, h2, rfl, rfl⟩ := cloneOf_spec h
    exact clone_ok (T := 45) (bytes := 4) (by kernel_rfl) Try.f92 (by kernel_rfl) rfl (by decide +kernel) rfl (by kernel_rfl) (by kernel_rfl) (by kernel_rfl) rfl rfl rfl (by kernel_rfl) (by kernel_rfl) (by kernel_rfl) h1 h2
  · cases h
end Go.Proofs.Ytcmbaabkfihdmaa.I
