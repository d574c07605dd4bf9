/- IndexBack returns true for every input: its row holds. No conditions beyond the row's own. (The opening of the row's arguments stands as print.sh printed it; the walk is the small form's.) -/
import Derived.Test.YtlejgleocnemoaaRows
import Derived.Test.YtlejgleocnemoaaChecked
import Derived.Test.YtlejgleocnemoaaG02
import Derived.Test.YtlejgleocnemoaaG04
import Derived.Test.YtlejgleocnemoaaG07
import Derived.WalkKit
import Derived.ProofKit
import Derived.OpenShut
import Derived.ShutString
import Derived.ChangeOld
import Derived.Below
import Derived.SizedLaws
import Derived.Test.YtlejgleocnemoaaG06
import Derived.Lib.SmallJoins
namespace Go.Proofs.Ytlejgleocnemoaa.indexBack
open Go.ChangeShapes Go.WideShapes Go.ChangeAt Go.RowKit
open Go.ChangeMaps (open_string shut_string)
set_option linter.unusedVariables false
theorem own : ownKnob Try.prog.godebug = none := by kernel_rfl
theorem laidOut : laidOutB Try.prog = true := by kernel_rfl
def IsRow (k : IntKind) (w : World) (a : Option Addr) (len cap : Nat) (zs : List Int) : Prop :=
  (a = none ∧ len = 0 ∧ cap = 0 ∧ zs = []) ∨
  ∃ x, a = some x ∧ len ≤ cap ∧ cap ≤ maxLen ∧ zs.length = cap ∧ (∀ i, i < zs.length → w.cell? (x.add i) = some (.int k (zs.getD i 0))) ∧ ∀ n ∈ zs, (Lit.int k n).wf = true
theorem in64 {n : Int} (h : (Lit.int .i64 n).wf = true) : I.In64 n := by
  have h1 : IntKind.i64.min = -9223372036854775808 := by decide
  have h2 : IntKind.i64.max = 9223372036854775807 := by decide
  simp only [Lit.wf, Bool.and_eq_true, decide_eq_true_eq, h1, h2] at h
  exact h
theorem in8 {n : Int} (h : (Lit.int .u8 n).wf = true) : ∃ m : Nat, n = m ∧ m ≤ 255 := by
  have h1 : IntKind.u8.min = 0 := by decide
  have h2 : IntKind.u8.max = 255 := by decide
  simp only [Lit.wf, Bool.and_eq_true, decide_eq_true_eq, h1, h2] at h
  exact ⟨n.toNat, by omega, by omega⟩
theorem inU64 {n : Int} (h : (Lit.int .u64 n).wf = true) : 0 ≤ n ∧ n ≤ 18446744073709551615 := by
  have h1 : IntKind.u64.min = 0 := by decide
  have h2 : IntKind.u64.max = 18446744073709551615 := by decide
  simp only [Lit.wf, Bool.and_eq_true, decide_eq_true_eq, h1, h2] at h
  exact h
open Go.V in
theorem hrow {k : IntKind} {W : World} {a : Option Addr} {len cap : Nat} {zs : List Int} (h : IsRow k W a len cap zs) : RG W (fun b => b < W.heap.size) (.sl (zs.take len).length 1 (nums k (zs.take len))) (.slice a len cap) ∧ (zs.take len).length ≤ len ∧ ∀ d ∈ zs.take len, (Lit.int k d).wf = true := by
  refine ⟨rg_row (h.imp id fun ⟨x, h1, h2, _, h3, h4, _⟩ => ⟨x, h1, h2, h3, h4⟩), by simp; omega, fun d hd => ?_⟩
  rcases h with ⟨_, _, _, rfl⟩ | ⟨x, _, _, _, _, _, h5⟩
  · simp at hd
  · exact h5 d (List.mem_of_mem_take hd)
open Go.V in
theorem walk {s0a : Option Addr} {s0l s0c : Nat} {s0 : List Int} {ch0 : Bool} {t0a : Option Addr} {t0l t0c : Nat} {t0 : List Int} {n0a : Option Addr} {n0l n0c : Nat} {n0 : List I.Nm} {s1a : Option Addr} {s1l s1c : Nat} {s1 : List Int} {ch1 : Bool} {t1a : Option Addr} {t1l t1c : Nat} {t1 : List Int} {n1a : Option Addr} {n1l n1c : Nat} {n1 : List I.Nm} {a2 : Option Addr} {len2 cap2 : Nat} {z2 : List I.SubN} {W : World} (ws0 : IsRow .i64 W s0a s0l s0c s0) (wt0 : IsRow .i32 W t0a t0l t0c t0) (wu0 : ∀ q ∈ n0, I.U8 q.2.1 ∧ I.U8 q.2.2) (wn0 : RG W (fun b => b < W.heap.size) (.sl n0.length 3 (I.nmsC n0)) (.slice n0a n0l n0c)) (ws1 : IsRow .i64 W s1a s1l s1c s1) (wt1 : IsRow .i32 W t1a t1l t1c t1) (wu1 : ∀ q ∈ n1, I.U8 q.2.1 ∧ I.U8 q.2.2) (wn1 : RG W (fun b => b < W.heap.size) (.sl n1.length 3 (I.nmsC n1)) (.slice n1a n1l n1c)) (w2 : (∀ y ∈ z2, ∀ d ∈ y.s, I.In64 d) ∧ ∀ y ∈ z2, ∀ z ∈ y.l, I.U8 z.2.1 ∧ I.U8 z.2.2) (r2 : RG W (fun b => b < W.heap.size) (.sl z2.length 5 (I.sbsN z2)) (.slice a2 len2 cap2)) :
    Calls Try.prog 4 #[.agg #[.slice s0a s0l s0c, .bool ch0, .slice t0a t0l t0c, .slice n0a n0l n0c], .agg #[.slice s1a s1l s1c, .bool ch1, .slice t1a t1l t1c, .slice n1a n1l n1c], .slice a2 len2 cap2] W fun e W' => e = .returned (.bool true) ∧ Below W.heap.size W W' := by
  obtain ⟨rs0, bs0, is0⟩ := hrow ws0
  obtain ⟨rt0, bt0, it0⟩ := hrow wt0
  have r0 : RG W (fun b => b < W.heap.size) (.agg (I.plX (s0.take s0l) ch0 (t0.take t0l) n0)) (.agg #[.slice s0a s0l s0c, .bool ch0, .slice t0a t0l t0c, .slice n0a n0l n0c]) := by
    refine .agg rfl (fun i u hu => ?_) (fun i c u hc hu => ?_)
    · match i, hu with
      | 0, hu => simp at hu; subst hu; rfl
      | 1, hu => simp at hu; subst hu; rfl
      | 2, hu => simp at hu; subst hu; rfl
      | 3, hu => simp at hu; subst hu; rfl
      | i + 4, hu => simp at hu
    · match i, hc, hu with
      | 0, hc, hu => simp [I.plX] at hc hu; subst hc; subst hu; exact rs0
      | 1, hc, hu => simp [I.plX] at hc hu; subst hc; subst hu; exact .bool
      | 2, hc, hu => simp [I.plX] at hc hu; subst hc; subst hu; exact rt0
      | 3, hc, hu => simp [I.plX] at hc hu; subst hc; subst hu; exact wn0
      | i + 4, hc, hu => simp [I.plX] at hc
  obtain ⟨rs1, bs1, is1⟩ := hrow ws1
  obtain ⟨rt1, bt1, it1⟩ := hrow wt1
  have r1 : RG W (fun b => b < W.heap.size) (.agg (I.plX (s1.take s1l) ch1 (t1.take t1l) n1)) (.agg #[.slice s1a s1l s1c, .bool ch1, .slice t1a t1l t1c, .slice n1a n1l n1c]) := by
    refine .agg rfl (fun i u hu => ?_) (fun i c u hc hu => ?_)
    · match i, hu with
      | 0, hu => simp at hu; subst hu; rfl
      | 1, hu => simp at hu; subst hu; rfl
      | 2, hu => simp at hu; subst hu; rfl
      | 3, hu => simp at hu; subst hu; rfl
      | i + 4, hu => simp at hu
    · match i, hc, hu with
      | 0, hc, hu => simp [I.plX] at hc hu; subst hc; subst hu; exact rs1
      | 1, hc, hu => simp [I.plX] at hc hu; subst hc; subst hu; exact .bool
      | 2, hc, hu => simp [I.plX] at hc hu; subst hc; subst hu; exact rt1
      | 3, hc, hu => simp [I.plX] at hc hu; subst hc; subst hu; exact wn1
      | i + 4, hc, hu => simp [I.plX] at hc
  have h := I.c4_ok (s := s0.take s0l) (t := t0.take t0l) (ch := ch0) (l := n0) (vs := s1.take s1l) (vt := t1.take t1l) (vch := ch1) (vl := n1) (L := z2) (fun d hd => in64 (is0 d hd)) wu0 (fun d hd => in64 (is1 d hd)) wu1 w2.1 w2.2
  refine walk_of I.calls_ok I.mixed I.tab_ok h (by rfl) (fun j c u hc hu => ?_)
  match j, hc, hu with
  | 0, hc, hu => simp at hc hu; subst hc; subst hu; exact r0
  | 1, hc, hu => simp at hc hu; subst hc; subst hu; exact r1
  | 2, hc, hu => simp at hc hu; subst hc; subst hu; exact r2
  | j + 3, hc, hu => simp at hc
set_option maxRecDepth 100000 in
theorem lifted (os : Os) (started : os.Started) (H : Type) (enc : TypeId × Value → H) :
    ReturnsInHanded {} Try.checked os 4 .any (Rows.indexBackSpec.pre6 enc Try.prog Try.f4 Rows.indexBackRow.domain false) (Rows.indexBackSpec.post enc Try.prog Try.f4 false true false false) := by
  refine returnsInHanded_of_change_sized (C := Try.checked) own started (by kernel_rfl) Try.func4
    (ChangeSpec.witness6 (enc := enc) (C := Try.checked) false ⟨#[], #[.agg #[.slice none 0 0, .bool false, .slice none 0 0, .slice none 0 0], .agg #[.slice none 0 0, .bool false, .slice none 0 0, .slice none 0 0], .slice none 0 0], []⟩ 8 (by kernel_rfl) (by kernel_rfl) (by kernel_rfl) (by kernel_rfl)) ?_
  intro W base args ds gs before hval0 hW hcnd hsz0 _
  have hsz : (DataW.weightsEach Try.prog (Try.f4.params.toList ++ Rows.indexBackSpec.plain.varTypes Try.prog) (ds ++ gs)).all (· ≤ reachBytes) = true := hsz0
  have hval : ∀ (j : Nat) t v, Try.f4.params[j]? = some t → args[j]? = some v → Value.okWide Try.prog W .any base t v := hval0
  have hW' := hW
  obtain ⟨p, q, hA0, hV, rfl, hfz, hnd⟩ := hW
  have hA : DataW.TrodAll enc Try.prog W 0 (fun _ => true) true Try.f4.params.toList args.toList ds p := hA0
  rw [Try.params4] at hA hval hsz
  obtain ⟨v0, vs0, d0, ds0, p0, q0, hargs, rfl, rfl, h0, r0⟩ := trodAll_cons hA
  obtain ⟨v1, vs1, d1, ds1, p1, q1, rfl, rfl, rfl, h1, r1⟩ := trodAll_cons r0
  obtain ⟨v2, vs2, d2, ds2, p2, q2, rfl, rfl, rfl, h2, r2⟩ := trodAll_cons r1
  obtain ⟨rfl, rfl, rfl⟩ := trodAll_nil r2
  obtain rfl : args = #[v0, v1, v2] := by cases args; simp_all
  obtain ⟨rfl, rfl⟩ := trodVars_none hV
  have k0 := h0
  have lt0 : ∀ x ∈ p0, x.block < W.heap.size := by obtain ⟨m, hm⟩ := k0; exact DataW.trod_lt m _ _ _ hm
  obtain ⟨e00, e01, e02, e03, y00, y01, y02, y03, nn0, rfl, _, _, g00, g01, g02, g03⟩ := Go.Joins.open_agg4 Try.underlying37 (by kernel_rfl) (by kernel_rfl) (hval 0 37 v0 rfl rfl) h0
  obtain ⟨s0a, s0l, s0c, s0, rfl, ws0⟩ : ∃ a len cap zs, e00 = .slice a len cap ∧ IsRow .i64 W a len cap zs := by
    rcases open_ints Try.underlying24 Try.underlying3 (by kernel_rfl) g00 with ⟨hcs, _⟩ | ⟨x, l, c, zs, hcs, _, hl, hm, hz, _, hcell, hwz⟩
    · simp at hcs
      exact ⟨_, _, _, [], hcs, .inl ⟨rfl, rfl, rfl, rfl⟩⟩
    · simp at hcs
      exact ⟨_, _, _, zs, hcs, .inr ⟨_, rfl, hl, hm, by simpa using hz, hcell, hwz⟩⟩
  obtain ⟨ch0, hch0, _⟩ := DataW.trod_bool Try.underlying4 g01
  obtain rfl : e01 = .bool ch0 := by simpa using hch0
  obtain ⟨t0a, t0l, t0c, t0, rfl, wt0⟩ : ∃ a len cap zs, e02 = .slice a len cap ∧ IsRow .i32 W a len cap zs := by
    rcases open_ints Try.underlying25 Try.underlying21 (by kernel_rfl) g02 with ⟨hcs, _⟩ | ⟨x, l, c, zs, hcs, _, hl, hm, hz, _, hcell, hwz⟩
    · simp at hcs
      exact ⟨_, _, _, [], hcs, .inl ⟨rfl, rfl, rfl, rfl⟩⟩
    · simp at hcs
      exact ⟨_, _, _, zs, hcs, .inr ⟨_, rfl, hl, hm, by simpa using hz, hcell, hwz⟩⟩
  obtain ⟨n0a, n0l, n0c, n0, hn0, _, _, wu0', wn0⟩ := I.open_nums Try.underlying35 Try.underlying52 (by kernel_rfl) (by kernel_rfl) Try.underlying4 Try.underlying9 Try.underlying9 g03
  obtain rfl : e03 = .slice n0a n0l n0c := by simpa using hn0
  have wu0 : ∀ q ∈ n0, I.U8 q.2.1 ∧ I.U8 q.2.2 := fun q hq => ⟨(wu0' q hq).1, (wu0' q hq).2.1⟩
  have k1 := h1
  have lt1 : ∀ x ∈ p1, x.block < W.heap.size := by obtain ⟨m, hm⟩ := k1; exact DataW.trod_lt m _ _ _ hm
  obtain ⟨e10, e11, e12, e13, y10, y11, y12, y13, nn1, rfl, _, _, g10, g11, g12, g13⟩ := Go.Joins.open_agg4 Try.underlying37 (by kernel_rfl) (by kernel_rfl) (hval 1 37 v1 rfl rfl) h1
  obtain ⟨s1a, s1l, s1c, s1, rfl, ws1⟩ : ∃ a len cap zs, e10 = .slice a len cap ∧ IsRow .i64 W a len cap zs := by
    rcases open_ints Try.underlying24 Try.underlying3 (by kernel_rfl) g10 with ⟨hcs, _⟩ | ⟨x, l, c, zs, hcs, _, hl, hm, hz, _, hcell, hwz⟩
    · simp at hcs
      exact ⟨_, _, _, [], hcs, .inl ⟨rfl, rfl, rfl, rfl⟩⟩
    · simp at hcs
      exact ⟨_, _, _, zs, hcs, .inr ⟨_, rfl, hl, hm, by simpa using hz, hcell, hwz⟩⟩
  obtain ⟨ch1, hch1, _⟩ := DataW.trod_bool Try.underlying4 g11
  obtain rfl : e11 = .bool ch1 := by simpa using hch1
  obtain ⟨t1a, t1l, t1c, t1, rfl, wt1⟩ : ∃ a len cap zs, e12 = .slice a len cap ∧ IsRow .i32 W a len cap zs := by
    rcases open_ints Try.underlying25 Try.underlying21 (by kernel_rfl) g12 with ⟨hcs, _⟩ | ⟨x, l, c, zs, hcs, _, hl, hm, hz, _, hcell, hwz⟩
    · simp at hcs
      exact ⟨_, _, _, [], hcs, .inl ⟨rfl, rfl, rfl, rfl⟩⟩
    · simp at hcs
      exact ⟨_, _, _, zs, hcs, .inr ⟨_, rfl, hl, hm, by simpa using hz, hcell, hwz⟩⟩
  obtain ⟨n1a, n1l, n1c, n1, hn1, _, _, wu1', wn1⟩ := I.open_nums Try.underlying35 Try.underlying52 (by kernel_rfl) (by kernel_rfl) Try.underlying4 Try.underlying9 Try.underlying9 g13
  obtain rfl : e13 = .slice n1a n1l n1c := by simpa using hn1
  have wu1 : ∀ q ∈ n1, I.U8 q.2.1 ∧ I.U8 q.2.2 := fun q hq => ⟨(wu1' q hq).1, (wu1' q hq).2.1⟩
  obtain ⟨a2', len2', cap2', rfl⟩ := okWide_slice Try.underlying40 (hval 2 40 v2 rfl rfl)
  have k2 := h2
  have lt2 : ∀ x ∈ p2, x.block < W.heap.size := by obtain ⟨m, hm⟩ := k2; exact DataW.trod_lt m _ _ _ hm
  obtain ⟨a2, len2, cap2, z2, hz2, w2, rr2⟩ : ∃ (a : Option Addr) (len cap : Nat) (L : List I.SubN), (Value.slice a2' len2' cap2') = .slice a len cap ∧ ((∀ y ∈ L, ∀ d ∈ y.s, I.In64 d) ∧ ∀ y ∈ L, ∀ z ∈ y.l, I.U8 z.2.1 ∧ I.U8 z.2.2) ∧ Go.V.RG W (fun b => b < W.heap.size) (.sl L.length 5 (I.sbsN L)) (.slice a len cap) := by
    obtain ⟨fuel, hf⟩ := h2
    obtain ⟨a, len, cap, L, h1, h2⟩ := I.open_subs Try.underlying40 Try.underlying94 (by kernel_rfl) ⟨by kernel_rfl, by kernel_rfl, by kernel_rfl, by kernel_rfl⟩ Try.underlying4 Try.underlying37 (by kernel_rfl) Try.underlying24 Try.underlying3 (by kernel_rfl) Try.underlying4 Try.underlying25 Try.underlying21 (by kernel_rfl) Try.underlying35 Try.underlying52 (by kernel_rfl) (by kernel_rfl) Try.underlying4 Try.underlying9 Try.underlying9 hf
    exact ⟨a, len, cap, L, by simpa [Value.cells] using h1, h2⟩
  obtain ⟨rfl, rfl, rfl⟩ : a2' = a2 ∧ len2' = len2 ∧ cap2' = cap2 := by simpa using hz2
  clear hA0 hval0 hsz0 hsz
  refine (walk ws0 wt0 wu0 wn0 ws1 wt1 wu1 wn1 w2 rr2).mono fun e W' ⟨he, bel⟩ => ?_
  subst he
  exact ⟨_, rfl, _, _, _, [], _, [], hW', trodAll_mk1 (shut_bool Try.underlying4 _), (trodAll_cons_mk (Below.trod laidOut (by kernel_rfl) (of_decide_eq_true (by kernel_rfl)) k0 bel lt0) (trodAll_cons_mk (Below.trod laidOut (by kernel_rfl) (of_decide_eq_true (by kernel_rfl)) k1 bel lt1) (trodAll_cons_mk (Below.trod laidOut (by kernel_rfl) (of_decide_eq_true (by kernel_rfl)) k2 bel lt2) trodAll_mk0))), rfl, bel.frame _, fun h => by cases h⟩
theorem over : Rows.indexBackRow.holds Try.pinned (OpenSpec.ofChange Rows.indexBackSpec) :=
  OpenClaim.holds_of_wide 4 Try.f4 rfl rfl rfl rfl rfl rfl rfl ⟨rfl, rfl, rfl, rfl, rfl⟩ rfl rfl rfl rfl rfl (by kernel_rfl) Try.func4 (by kernel_rfl)
    (of_decide_eq_true (by kernel_rfl)) (by unfold Func.isWrapper; first | (rw [if_pos (by decide +kernel)]; kernel_rfl) | (rw [if_neg (by decide +kernel)]; exact ⟨rfl, rfl⟩))
    (fun os started H enc _ => lifted os started H enc)
theorem proved : Rows.IndexBackSaid := over
#print axioms proved
end Go.Proofs.Ytlejgleocnemoaa.indexBack
namespace Go.Proofs.Ytlejgleocnemoaa
/-- The row, under a short name, for the claim. -/
theorem indexBack_holds : Rows.IndexBackSaid := indexBack.proved
end Go.Proofs.Ytlejgleocnemoaa
