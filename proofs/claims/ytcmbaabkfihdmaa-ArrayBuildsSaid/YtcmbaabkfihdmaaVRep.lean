/- What abstract values and objects stand for in the model's memory. -/
import Derived.Test.YtcmbaabkfihdmaaVDef
set_option linter.unusedVariables false
namespace Go.V
open Go

/-- A value of ground memory: it leads to blocks of 'fz' alone, which are written no more. -/
inductive RG (w : World) (fz : Nat → Prop) : AV → Value → Prop
  | any {v} : RG w fz .any v
  | int {k n} : RG w fz (.int k n) (.int k n)
  | bool {b} : RG w fz (.bool b) (.bool b)
  | str {s} : RG w fz (.str s) (.string s)
  | nilptr : RG w fz .nilptr (.pointer none)
  | nilsl {ty sz : Nat} : 0 < sz → RG w fz (.nilsl ty sz) (.slice none 0 0)
  | sl0 {sz A cap} : RG w fz (.sl 0 sz []) (.slice A 0 cap)
  | sl {n sz b o cap : Nat} {cs : List AV} {vs : List Value} : 0 < n → n ≤ cap → cs.length = n * sz → vs.length = cs.length → fz b → (∀ u ∈ vs, u.oneCell' = true) →
      (∀ (j : Nat) (u : Value), vs[j]? = some u → w.cell? ⟨b, o + j, none⟩ = some u) → (∀ (j : Nat) (c : AV) (u : Value), cs[j]? = some c → vs[j]? = some u → RG w fz c u) → RG w fz (.sl n sz cs) (.slice (some ⟨b, o, none⟩) n cap)
  | ptr {i b o : Nat} {cs : List AV} {vs : List Value} : vs.length = cs.length → fz b → (∀ u ∈ vs, u.oneCell' = true) →
      (∀ (j : Nat) (u : Value), vs[j]? = some u → w.cell? ⟨b, o + j, none⟩ = some u) → (∀ (j : Nat) (c : AV) (u : Value), cs[j]? = some c → vs[j]? = some u → RG w fz c u) → RG w fz (.ptr cs i) (.pointer (some ⟨b, o + i, none⟩))
  | agg {cs : List AV} {vs : Array Value} : vs.size = cs.length → (∀ (j : Nat) (u : Value), vs[j]? = some u → u.oneCell' = true) → (∀ (j : Nat) (c : AV) (u : Value), cs[j]? = some c → vs[j]? = some u → RG w fz c u) → RG w fz (.agg cs) (.agg vs)
  | tup {cs : List AV} {vs : Array Value} : vs.size = cs.length → (∀ (j : Nat) (c : AV) (u : Value), cs[j]? = some c → vs[j]? = some u → RG w fz c u) → RG w fz (.tup cs) (.tuple vs)
  | fn {f : Nat} {cs : List AV} {vs : Array Value} : vs.size = cs.length → (∀ (j : Nat) (c : AV) (u : Value), cs[j]? = some c → vs[j]? = some u → RG w fz c u) → RG w fz (.fn f cs) (.func (.func f) #[] vs)

/-- A value that may lead to objects. 'ρ': each object's own slice. -/
inductive Rep (w : World) (fz : Nat → Prop) (mem : List AObj) (ρ : List Value) : AV → Value → Prop
  | gr {a v} : RG w fz a v → Rep w fz mem ρ a v
  | arr {n g : Nat} {o : AObj} {v : Value} : mem[n]? = some o → g ≤ o.g → v.oneCell' = true → (g = o.g → ρ[n]? = some v) → Rep w fz mem ρ (.arr n g) v
  | loc {n g i : Nat} {o : AObj} {v : Value} : mem[n]? = some o → g ≤ o.g → v.oneCell' = true →
      (g = o.g → ∃ (b k cap : Nat), ρ[n]? = some (.slice (some ⟨b, 0, none⟩) k cap) ∧ v = .pointer (some ⟨b, i, none⟩)) → Rep w fz mem ρ (.loc n g i) v
  | msl {n g off len : Nat} {o : AObj} {v : Value} : mem[n]? = some o → g ≤ o.g → v.oneCell' = true →
      (g = o.g → off + len ≤ o.n ∧ ∃ (A : Option Addr) (c' : Nat), v = .slice A len c' ∧ len ≤ c' ∧ (len ≠ 0 → ∃ (b k cap : Nat), ρ[n]? = some (.slice (some ⟨b, 0, none⟩) k cap) ∧ A = some ⟨b, off * o.sz, none⟩)) → Rep w fz mem ρ (.msl n g off len) v
  | agg {cs : List AV} {vs : Array Value} : vs.size = cs.length → (∀ (j : Nat) (u : Value), vs[j]? = some u → u.oneCell' = true) → (∀ (j : Nat) (c : AV) (u : Value), cs[j]? = some c → vs[j]? = some u → Rep w fz mem ρ c u) → Rep w fz mem ρ (.agg cs) (.agg vs)
  | tup {cs : List AV} {vs : Array Value} : vs.size = cs.length → (∀ (j : Nat) (c : AV) (u : Value), cs[j]? = some c → vs[j]? = some u → Rep w fz mem ρ c u) → Rep w fz mem ρ (.tup cs) (.tuple vs)
  | fn {f : Nat} {cs : List AV} {vs : Array Value} : vs.size = cs.length → (∀ (j : Nat) (c : AV) (u : Value), cs[j]? = some c → vs[j]? = some u → Rep w fz mem ρ c u) → Rep w fz mem ρ (.fn f cs) (.func (.func f) #[] vs)

structure ObjR (w : World) (fz : Nat → Prop) (mem : List AObj) (ρ : List Value) (o : AObj) (v : Value) : Prop where
  pos : 0 < o.sz
  row : ∃ vs : List Value, w.ownsRow 0 o.ty o.sz v o.n vs ∧ vs.length = o.cs.length ∧ (∀ u ∈ vs, u.oneCell' = true) ∧
    (∀ (j : Nat) (c : AV) (u : Value), o.cs[j]? = some c → vs[j]? = some u → if o.box then Rep w fz mem ρ c u else RG w fz c u)
  frz : o.fr = true → ∀ b, v.ownBlock = some b → fz b
  live : o.fr = false → ∀ b, v.ownBlock = some b → ¬ fz b

structure Mem (w : World) (fz : Nat → Prop) (mem : List AObj) (ρ : List Value) : Prop where
  len : ρ.length = mem.length
  obj : ∀ (n : Nat) (o : AObj) (v : Value), mem[n]? = some o → ρ[n]? = some v → ObjR w fz mem ρ o v
  apart : ∀ (n m : Nat) (u v : Value) (b : Nat), n ≠ m → ρ[n]? = some u → ρ[m]? = some v → u.ownBlock = some b → v.ownBlock ≠ some b
  lt : ∀ b, fz b → b < w.heap.size

/-- The memory has grown, what was frozen or not handed over has stayed. -/
structure Ext (w : World) (fz : Nat → Prop) (mem : List AObj) (ρ : List Value) (w' : World) (fz' : Nat → Prop) (mem' : List AObj) (ρ' : List Value) : Prop where
  os : w'.os = w.os
  tape : w'.tape = w.tape
  output : w'.output = w.output
  size : w.heap.size ≤ w'.heap.size
  blk : ∀ b, b < w.heap.size → (∀ (n : Nat) (v : Value), ρ[n]? = some v → v.ownBlock ≠ some b) → w'.heap[b]? = w.heap[b]?
  fzblk : ∀ b, fz b → w'.heap[b]? = w.heap[b]?
  sub : ∀ b, fz b → fz' b
  new : ∀ b, fz' b → fz b ∨ w.heap.size ≤ b ∨ ∃ (n : Nat) (v : Value), ρ[n]? = some v ∧ v.ownBlock = some b
  mem : ∀ (n : Nat) (o : AObj), mem[n]? = some o → ∃ o' : AObj, mem'[n]? = some o' ∧ o.g ≤ o'.g ∧ (o'.g = o.g → ρ'[n]? = ρ[n]? ∧ o'.n = o.n) ∧ o'.sz = o.sz ∧ o'.box = o.box
  own : ∀ (n : Nat) (v : Value) (b : Nat), ρ'[n]? = some v → v.ownBlock = some b → (∃ (m : Nat) (u : Value), ρ[m]? = some u ∧ u.ownBlock = some b) ∨ w.heap.size ≤ b

theorem cell_of_block {w w' : World} {b o : Nat} (h : w'.heap[b]? = w.heap[b]?) : w'.cell? ⟨b, o, none⟩ = w.cell? ⟨b, o, none⟩ := by simp [World.cell?, h]

theorem RG.mono {w w' : World} {fz fz' : Nat → Prop} {a : AV} {v : Value} (h : RG w fz a v) (hb : ∀ b, fz b → w'.heap[b]? = w.heap[b]?) (hf : ∀ b, fz b → fz' b) : RG w' fz' a v := by
  induction h with
  | any => exact .any
  | int => exact .int
  | bool => exact .bool
  | str => exact .str
  | nilptr => exact .nilptr
  | nilsl h => exact .nilsl h
  | sl0 => exact .sl0
  | sl h1 h2 h3 h4 h5 h6 h7 _ ih => exact .sl h1 h2 h3 h4 (hf _ h5) h6 (fun j u hu => by rw [cell_of_block (hb _ h5)]; exact h7 j u hu) ih
  | ptr h4 h5 h6 h7 _ ih => exact .ptr h4 (hf _ h5) h6 (fun j u hu => by rw [cell_of_block (hb _ h5)]; exact h7 j u hu) ih
  | agg h1 h2 _ ih => exact .agg h1 h2 ih
  | tup h1 _ ih => exact .tup h1 ih
  | fn h1 _ ih => exact .fn h1 ih

theorem Rep.ext {w w' : World} {fz fz' : Nat → Prop} {mem mem' : List AObj} {ρ ρ' : List Value} {a : AV} {v : Value} (h : Rep w fz mem ρ a v) (e : Ext w fz mem ρ w' fz' mem' ρ') : Rep w' fz' mem' ρ' a v := by
  induction h with
  | gr h => exact .gr (h.mono e.fzblk e.sub)
  | arr h1 h2 h3 h4 =>
    obtain ⟨o', g1, g2, g3, g4, g5⟩ := e.mem _ _ h1
    refine .arr g1 (Nat.le_trans h2 g2) h3 (fun hg => ?_)
    have e1 := Nat.le_antisymm (by omega) g2
    rw [(g3 (by omega)).1]
    exact h4 (by omega)
  | loc h1 h2 h3 h4 =>
    obtain ⟨o', g1, g2, g3, g4, g5⟩ := e.mem _ _ h1
    refine .loc g1 (Nat.le_trans h2 g2) h3 (fun hg => ?_)
    rw [(g3 (by omega)).1]
    exact h4 (by omega)
  | msl h1 h2 h3 h4 =>
    obtain ⟨o', g1, g2, g3, g4, g5⟩ := e.mem _ _ h1
    refine .msl g1 (Nat.le_trans h2 g2) h3 (fun hg => ?_)
    rw [(g3 (by omega)).1, (g3 (by omega)).2, g4]
    exact h4 (by omega)
  | agg h1 h2 _ ih => exact .agg h1 h2 ih
  | tup h1 _ ih => exact .tup h1 ih
  | fn h1 _ ih => exact .fn h1 ih

theorem Ext.refl {w : World} {fz : Nat → Prop} {mem : List AObj} {ρ : List Value} : Ext w fz mem ρ w fz mem ρ :=
  ⟨rfl, rfl, rfl, Nat.le_refl _, fun _ _ _ => rfl, fun _ _ => rfl, fun _ h => h, fun _ h => .inl h, fun _ o h => ⟨o, h, Nat.le_refl _, fun _ => ⟨rfl, rfl⟩, rfl, rfl⟩, fun n v b h h' => .inl ⟨n, v, h, h'⟩⟩

theorem Ext.trans {w0 w1 w2 : World} {f0 f1 f2 : Nat → Prop} {m0 m1 m2 : List AObj} {r0 r1 r2 : List Value} (a : Ext w0 f0 m0 r0 w1 f1 m1 r1) (b : Ext w1 f1 m1 r1 w2 f2 m2 r2) : Ext w0 f0 m0 r0 w2 f2 m2 r2 where
  os := b.os.trans a.os
  tape := b.tape.trans a.tape
  output := b.output.trans a.output
  size := Nat.le_trans a.size b.size
  blk := fun k hk hn => by
    rw [b.blk k (Nat.lt_of_lt_of_le hk a.size), a.blk k hk hn]
    intro n v hv hb
    rcases a.own n v k hv hb with ⟨m, u, h1, h2⟩ | h
    · exact hn m u h1 h2
    · omega
  fzblk := fun k hk => (b.fzblk k (a.sub k hk)).trans (a.fzblk k hk)
  sub := fun k hk => b.sub k (a.sub k hk)
  new := fun k hk => by
    rcases b.new k hk with h | h | ⟨n, v, h1, h2⟩
    · exact a.new k h
    · exact .inr (.inl (Nat.le_trans a.size h))
    · rcases a.own n v k h1 h2 with h | h
      · exact .inr (.inr h)
      · exact .inr (.inl h)
  mem := fun n o h => by
    obtain ⟨o1, g1, g2, g3, g4, g5⟩ := a.mem n o h
    obtain ⟨o2, k1, k2, k3, k4, k5⟩ := b.mem n o1 g1
    refine ⟨o2, k1, Nat.le_trans g2 k2, fun hg => ?_, k4.trans g4, k5.trans g5⟩
    have e1 : o1.g = o.g := by omega
    have e2 : o2.g = o1.g := by omega
    exact ⟨(k3 e2).1.trans (g3 e1).1, (k3 e2).2.trans (g3 e1).2⟩
  own := fun n v k h1 h2 => by
    rcases b.own n v k h1 h2 with ⟨m, u, h3, h4⟩ | h
    · exact a.own m u k h3 h4
    · exact .inr (Nat.le_trans a.size h)

end Go.V
