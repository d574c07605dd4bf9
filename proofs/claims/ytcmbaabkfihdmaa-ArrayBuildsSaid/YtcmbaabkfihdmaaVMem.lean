/- How the memory's picture moves: a new object, a store, an append, freezing, a call. -/
import Derived.Test.YtcmbaabkfihdmaaVRep
import Derived.Maps.AppendAt
import Derived.Deep.OwnRows
set_option linter.unusedVariables false
namespace Go.V
open Go

/-- Old blocks as they were. -/
structure Old (w w' : World) : Prop where
  os : w'.os = w.os
  tape : w'.tape = w.tape
  output : w'.output = w.output
  size : w.heap.size ≤ w'.heap.size
  blk : ∀ b, b < w.heap.size → w'.heap[b]? = w.heap[b]?
theorem Old.refl (w : World) : Old w w := ⟨rfl, rfl, rfl, Nat.le_refl _, fun _ _ => rfl⟩
theorem Old.alloc (w : World) (o : Obj) : Old w (w.alloc o) := ⟨rfl, rfl, rfl, by simp, fun b hb => heap_alloc_old w o b hb⟩
theorem Old.drew (w : World) : Old w w.drew := ⟨rfl, rfl, rfl, Nat.le_refl _, fun _ _ => rfl⟩

theorem ownBlock_lt {w : World} {base e sz : Nat} {v : Value} {n : Nat} {vs : List Value} (h : w.ownsRow base e sz v n vs) {b : Nat} (hb : v.ownBlock = some b) : b < w.heap.size := (h.lt b hb).2

theorem ownsRow_old {w w' : World} (hw : ∀ b, b < w.heap.size → w'.heap[b]? = w.heap[b]?) {base e sz : Nat} {v : Value} {n : Nat} {vs : List Value} (h : w.ownsRow base e sz v n vs) : w'.ownsRow base e sz v n vs := by
  refine ⟨h.1, ?_⟩
  rcases h.2 with h0 | ⟨g, cap, cur, h1, h2, h3, h4⟩
  · exact .inl h0
  · refine .inr ⟨g, cap, cur, h1, h2, ?_, h4⟩
    rw [hw g (Array.getElem?_eq_some_iff.1 h3).1]
    exact h3
theorem ownsRow_at {w w' : World} {base e sz : Nat} {v : Value} {n : Nat} {vs : List Value} (h : w.ownsRow base e sz v n vs) (hw : ∀ b, v.ownBlock = some b → w'.heap[b]? = w.heap[b]?) : w'.ownsRow base e sz v n vs := by
  refine ⟨h.1, ?_⟩
  rcases h.2 with h0 | ⟨g, cap, cur, h1, h2, h3, h4⟩
  · exact .inl h0
  · refine .inr ⟨g, cap, cur, h1, h2, ?_, h4⟩
    rw [hw g (by rw [h1]; rfl)]
    exact h3

theorem Mem.blk_lt {w : World} {fz : Nat → Prop} {mem : List AObj} {ρ : List Value} (h : Mem w fz mem ρ) {n : Nat} {v : Value} (hv : ρ[n]? = some v) {b : Nat} (hb : v.ownBlock = some b) : b < w.heap.size := by
  have hn : n < mem.length := by
    rw [← h.len]
    exact (List.getElem?_eq_some_iff.1 hv).1
  obtain ⟨vs, h1, _⟩ := (h.obj n mem[n] v (by simp [hn]) hv).row
  exact ownBlock_lt h1 hb

theorem getElem?_snoc {α : Type} {l : List α} {x y : α} {n : Nat} (h : (l ++ [x])[n]? = some y) : l[n]? = some y ∨ (n = l.length ∧ y = x) := by
  rw [List.getElem?_append] at h
  split at h
  · exact .inl h
  · rename_i hn
    have : n - l.length = 0 := by
      rcases Nat.eq_zero_or_pos (n - l.length) with h0 | h0
      · exact h0
      · rw [List.getElem?_eq_none (by simp; omega)] at h
        cases h
    rw [this] at h
    simp at h
    exact .inr ⟨by omega, h.symm⟩

/-- The world has only grown, or orders have been drawn: nothing else has moved. -/
theorem Mem.old {w w' : World} {fz : Nat → Prop} {mem : List AObj} {ρ : List Value} (hm : Mem w fz mem ρ) (hw : Old w w') : Ext w fz mem ρ w' fz mem ρ ∧ Mem w' fz mem ρ := by
  have he : Ext w fz mem ρ w' fz mem ρ := ⟨hw.os, hw.tape, hw.output, hw.size, fun b hb _ => hw.blk b hb, fun b hb => hw.blk b (hm.lt b hb), fun _ h => h, fun _ h => .inl h,
    fun _ o h => ⟨o, h, Nat.le_refl _, fun _ => ⟨rfl, rfl⟩, rfl, rfl⟩, fun n v b h h' => .inl ⟨n, v, h, h'⟩⟩
  refine ⟨he, hm.len, fun n o v ho hv => ?_, hm.apart, fun b hb => Nat.lt_of_lt_of_le (hm.lt b hb) hw.size⟩
  obtain ⟨h1, ⟨vs, h2, h3, h4, h5⟩, h6, h7⟩ := hm.obj n o v ho hv
  refine ⟨h1, ⟨vs, ownsRow_old hw.blk h2, h3, h4, fun j c u hc hu => ?_⟩, h6, h7⟩
  have := h5 j c u hc hu
  split at this
  · rename_i hb; rw [if_pos hb]; exact this.ext he
  · rename_i hb; rw [if_neg hb]; exact this.mono he.fzblk he.sub

/-- A new object. -/
theorem Mem.push {w w' : World} {fz : Nat → Prop} {mem : List AObj} {ρ : List Value} (hm : Mem w fz mem ρ) (hw : Old w w') (o : AObj) (v : Value) (hfr : o.fr = false) (hpos : 0 < o.sz)
    (hb : ∀ b, v.ownBlock = some b → w.heap.size ≤ b) (hrow : ∃ vs : List Value, w'.ownsRow 0 o.ty o.sz v o.n vs ∧ vs.length = o.cs.length ∧ (∀ u ∈ vs, u.oneCell' = true) ∧
      (∀ (j : Nat) (c : AV) (u : Value), o.cs[j]? = some c → vs[j]? = some u → if o.box then Rep w fz mem ρ c u else RG w fz c u)) :
    Ext w fz mem ρ w' fz (mem ++ [o]) (ρ ++ [v]) ∧ Mem w' fz (mem ++ [o]) (ρ ++ [v]) := by
  have he : Ext w fz mem ρ w' fz (mem ++ [o]) (ρ ++ [v]) := by
    refine ⟨hw.os, hw.tape, hw.output, hw.size, fun b hb _ => hw.blk b hb, fun b hb => hw.blk b (hm.lt b hb), fun _ h => h, fun _ h => .inl h, fun n o' h => ?_, fun n u b h h' => ?_⟩
    · have hn := (List.getElem?_eq_some_iff.1 h).1
      refine ⟨o', by rw [List.getElem?_append_left hn]; exact h, Nat.le_refl _, fun _ => ⟨?_, rfl⟩, rfl, rfl⟩
      rw [List.getElem?_append_left (by rw [hm.len]; exact hn)]
    · rcases getElem?_snoc h with h | ⟨_, rfl⟩
      · exact .inl ⟨n, u, h, h'⟩
      · exact .inr (hb b h')
  refine ⟨he, by simp [hm.len], fun n o' u ho hu => ?_, fun n m u v' b hnm hu hv hub => ?_, fun b hb => Nat.lt_of_lt_of_le (hm.lt b hb) hw.size⟩
  · rcases getElem?_snoc ho with ho | ⟨rfl, rfl⟩
    · have hn := (List.getElem?_eq_some_iff.1 ho).1
      have hu' : ρ[n]? = some u := by rw [List.getElem?_append_left (by rw [hm.len]; exact hn)] at hu; exact hu
      obtain ⟨h1, ⟨vs, h2, h3, h4, h5⟩, h6, h7⟩ := hm.obj n o' u ho hu'
      refine ⟨h1, ⟨vs, ownsRow_old hw.blk h2, h3, h4, fun j c x hc hx => ?_⟩, h6, h7⟩
      have := h5 j c x hc hx
      split at this
      · rename_i hb; rw [if_pos hb]; exact this.ext he
      · rename_i hb; rw [if_neg hb]; exact this.mono he.fzblk he.sub
    · have hu' : u = v := by
        rw [List.getElem?_append_right (by rw [hm.len]; exact Nat.le_refl _), hm.len] at hu
        simpa using hu.symm
      subst hu'
      obtain ⟨vs, h2, h3, h4, h5⟩ := hrow
      refine ⟨hpos, ⟨vs, h2, h3, h4, fun j c x hc hx => ?_⟩, fun h => absurd h (by rw [hfr]; decide), fun _ b hb' hf => ?_⟩
      · have := h5 j c x hc hx
        split at this
        · rename_i hb; rw [if_pos hb]; exact this.ext he
        · rename_i hb; rw [if_neg hb]; exact this.mono he.fzblk he.sub
      · have := hb b hb'
        have := hm.lt b hf
        omega
  · rcases getElem?_snoc hu with ku | ⟨h1, e1⟩
    · rcases getElem?_snoc hv with kv | ⟨h1, e1⟩
      · exact hm.apart n m u v' b hnm ku kv hub
      · intro h
        rw [e1] at h
        have := hb b h
        have := hm.blk_lt ku hub
        omega
    · rcases getElem?_snoc hv with kv | ⟨h2, e2⟩
      · intro h
        rw [e1] at hub
        have := hb b hub
        have := hm.blk_lt kv h
        omega
      · omega

/-- One live object's row is written, or grows. 'o' is what it was, 'o2' what it becomes. -/
theorem Mem.write {w w' : World} {fz : Nat → Prop} {mem : List AObj} {ρ : List Value} (hm : Mem w fz mem ρ) {m : Nat} {o o2 : AObj} {v v2 : Value} (ho : mem[m]? = some o) (hv : ρ[m]? = some v)
    (hg : w.grownBy w' v.ownBlock) (hfr : o.fr = false) (hfr2 : o2.fr = false) (hsz : o2.sz = o.sz) (hbox : o2.box = o.box) (hgen : o.g ≤ o2.g) (hsame : o2.g = o.g → v2 = v ∧ o2.n = o.n)
    (hat : ∀ b, v2.ownBlock = some b → v.ownBlock = some b ∨ w.heap.size ≤ b)
    (hrow : ∃ vs : List Value, w'.ownsRow 0 o2.ty o2.sz v2 o2.n vs ∧ vs.length = o2.cs.length ∧ (∀ u ∈ vs, u.oneCell' = true) ∧
      (∀ (j : Nat) (c : AV) (u : Value), o2.cs[j]? = some c → vs[j]? = some u → if o2.box then Rep w fz mem ρ c u else RG w fz c u)) :
    Ext w fz mem ρ w' fz (mem.set m o2) (ρ.set m v2) ∧ Mem w' fz (mem.set m o2) (ρ.set m v2) := by
  have hlive := (hm.obj m o v ho hv).live hfr
  have hmlt := (List.getElem?_eq_some_iff.1 ho).1
  have hrlt := (List.getElem?_eq_some_iff.1 hv).1
  have hne : ∀ b, fz b → some b ≠ v.ownBlock := fun b hb h => hlive b h.symm hb
  have he : Ext w fz mem ρ w' fz (mem.set m o2) (ρ.set m v2) := by
    refine ⟨hg.os, hg.tape, hg.output, hg.size, fun b hb hn => hg.block b hb (fun h => hn m v hv h.symm), fun b hb => hg.block b (hm.lt b hb) (hne b hb), fun _ h => h, fun _ h => .inl h, fun n o' h => ?_, fun n u b h h' => ?_⟩
    · by_cases hnm : m = n
      · subst hnm
        obtain rfl : o' = o := by rw [ho] at h; exact (Option.some.inj h).symm
        refine ⟨o2, by simp [hmlt], hgen, fun hh => ?_, hsz, hbox⟩
        obtain ⟨h1, h2⟩ := hsame hh
        subst h1
        exact ⟨by rw [hv]; simp [hrlt], h2⟩
      · refine ⟨o', by rw [List.getElem?_set_ne hnm]; exact h, Nat.le_refl _, fun _ => ⟨by rw [List.getElem?_set_ne hnm], rfl⟩, rfl, rfl⟩
    · by_cases hnm : m = n
      · subst hnm
        have hu : u = v2 := by simpa [hrlt] using h.symm
        subst hu
        rcases hat b h' with h1 | h1
        · exact .inl ⟨m, v, hv, h1⟩
        · exact .inr h1
      · rw [List.getElem?_set_ne hnm] at h
        exact .inl ⟨n, u, h, h'⟩
  refine ⟨he, by simp [hm.len], fun n o' u ho' hu => ?_, fun n k u x b hnk hu hx hub => ?_, fun b hb => Nat.lt_of_lt_of_le (hm.lt b hb) hg.size⟩
  · by_cases hnm : m = n
    · subst hnm
      have e1 : o' = o2 := by simpa [hmlt] using ho'.symm
      have e2 : u = v2 := by simpa [hrlt] using hu.symm
      subst e1; subst e2
      obtain ⟨vs, h2, h3, h4, h5⟩ := hrow
      refine ⟨by rw [hsz]; exact (hm.obj m o v ho hv).pos, ⟨vs, h2, h3, h4, fun j c x hc hx => ?_⟩, fun h => absurd h (by rw [hfr2]; decide), fun _ b hb' hf => ?_⟩
      · have := h5 j c x hc hx
        split at this
        · rename_i hb; rw [if_pos hb]; exact this.ext he
        · rename_i hb; rw [if_neg hb]; exact this.mono he.fzblk he.sub
      · rcases hat b hb' with h1 | h1
        · exact hlive b h1 hf
        · have := hm.lt b hf; omega
    · rw [List.getElem?_set_ne hnm] at ho' hu
      obtain ⟨h1, ⟨vs, h2, h3, h4, h5⟩, h6, h7⟩ := hm.obj n o' u ho' hu
      refine ⟨h1, ⟨vs, ownsRow_at h2 (fun b hb => hg.block b (ownBlock_lt h2 hb) (fun h => hm.apart n m u v b (Ne.symm hnm) hu hv hb h.symm)), h3, h4, fun j c x hc hx => ?_⟩, h6, h7⟩
      have := h5 j c x hc hx
      split at this
      · rename_i hb; rw [if_pos hb]; exact this.ext he
      · rename_i hb; rw [if_neg hb]; exact this.mono he.fzblk he.sub
  · by_cases hnm : m = n
    · subst hnm
      have e2 : u = v2 := by simpa [hrlt] using hu.symm
      subst e2
      rw [List.getElem?_set_ne hnk] at hx
      intro h
      rcases hat b hub with h1 | h1
      · exact hm.apart m k v x b hnk hv hx h1 h
      · have := hm.blk_lt hx h; omega
    · rw [List.getElem?_set_ne hnm] at hu
      by_cases hkm : m = k
      · subst hkm
        have e2 : x = v2 := by simpa [hrlt] using hx.symm
        subst e2
        intro h
        rcases hat b h with h1 | h1
        · exact hm.apart n m u v b hnk hu hv hub h1
        · have := hm.blk_lt hu hub; omega
      · rw [List.getElem?_set_ne hkm] at hx
        exact hm.apart n k u x b hnk hu hx hub

end Go.V
