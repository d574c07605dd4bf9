/- Freezing. -/
import Derived.Test.YtcmbaabkfihdmaaVMem
set_option linter.unusedVariables false
namespace Go.V
open Go

theorem mapM_spec {α β : Type} {f : α → Option β} : ∀ {l : List α} {l' : List β}, l.mapM f = some l' → l'.length = l.length ∧ ∀ (j : Nat) (c' : β), l'[j]? = some c' → ∃ c, l[j]? = some c ∧ f c = some c'
  | [], l', h => by
    simp at h
    subst h
    exact ⟨rfl, fun j c' h => by simp at h⟩
  | a :: l, l', h => by
    rw [List.mapM_cons] at h
    cases ha : f a with
    | none => simp [ha] at h
    | some b =>
      cases hl : l.mapM f with
      | none => simp [ha, hl] at h
      | some bs =>
        simp [ha, hl] at h
        subst h
        obtain ⟨h1, h2⟩ := mapM_spec hl
        refine ⟨by simp [h1], fun j c' hc => ?_⟩
        cases j with
        | zero => simp at hc; subst hc; exact ⟨a, rfl, ha⟩
        | succ j => simp at hc; obtain ⟨c, h3, h4⟩ := h2 j c' hc; exact ⟨c, by simpa using h3, h4⟩

theorem geto_some {mem : List AObj} {n g : Nat} {o : AObj} (h : geto mem n g = some o) : mem[n]? = some o ∧ o.g = g := by
  unfold geto at h
  split at h
  · rename_i o' ho
    split at h
    · rename_i hg; obtain rfl := Option.some.inj h; exact ⟨ho, hg⟩
    · cases h
  · cases h

theorem rg_agg_rep {w : World} {fz : Nat → Prop} {mem : List AObj} {ρ : List Value} {cs : List AV} {v : Value} (h : Rep w fz mem ρ (.agg cs) v) :
    ∃ vs : Array Value, v = .agg vs ∧ vs.size = cs.length ∧ (∀ (j : Nat) (u : Value), vs[j]? = some u → u.oneCell' = true) ∧ (∀ (j : Nat) (c : AV) (u : Value), cs[j]? = some c → vs[j]? = some u → Rep w fz mem ρ c u) := by
  cases h with
  | gr h => cases h with | agg h1 h2 h3 => exact ⟨_, rfl, h1, h2, fun j c u a b => .gr (h3 j c u a b)⟩
  | agg h1 h2 h3 => exact ⟨_, rfl, h1, h2, h3⟩
theorem rg_tup_rep {w : World} {fz : Nat → Prop} {mem : List AObj} {ρ : List Value} {cs : List AV} {v : Value} (h : Rep w fz mem ρ (.tup cs) v) :
    ∃ vs : Array Value, v = .tuple vs ∧ vs.size = cs.length ∧ (∀ (j : Nat) (c : AV) (u : Value), cs[j]? = some c → vs[j]? = some u → Rep w fz mem ρ c u) := by
  cases h with
  | gr h => cases h with | tup h1 h3 => exact ⟨_, rfl, h1, fun j c u a b => .gr (h3 j c u a b)⟩
  | tup h1 h3 => exact ⟨_, rfl, h1, h3⟩
theorem rg_fn_rep {w : World} {fz : Nat → Prop} {mem : List AObj} {ρ : List Value} {f : Nat} {cs : List AV} {v : Value} (h : Rep w fz mem ρ (.fn f cs) v) :
    ∃ vs : Array Value, v = .func (.func f) #[] vs ∧ vs.size = cs.length ∧ (∀ (j : Nat) (c : AV) (u : Value), cs[j]? = some c → vs[j]? = some u → Rep w fz mem ρ c u) := by
  cases h with
  | gr h => cases h with | fn h1 h3 => exact ⟨_, rfl, h1, fun j c u a b => .gr (h3 j c u a b)⟩
  | fn h1 h3 => exact ⟨_, rfl, h1, h3⟩

theorem rep_arr {w : World} {fz : Nat → Prop} {mem : List AObj} {ρ : List Value} {n g : Nat} {o : AObj} {v : Value} (h : Rep w fz mem ρ (.arr n g) v) (ho : geto mem n g = some o) : ρ[n]? = some v ∧ v.oneCell' = true := by
  obtain ⟨h1, h2⟩ := geto_some ho
  cases h with
  | gr h => cases h
  | arr h3 h4 h5 h6 => rw [h1] at h3; obtain rfl := Option.some.inj h3; exact ⟨h6 h2.symm, h5⟩
theorem rep_loc {w : World} {fz : Nat → Prop} {mem : List AObj} {ρ : List Value} {n g i : Nat} {o : AObj} {v : Value} (h : Rep w fz mem ρ (.loc n g i) v) (ho : geto mem n g = some o) :
    ∃ (b k cap : Nat), ρ[n]? = some (.slice (some ⟨b, 0, none⟩) k cap) ∧ v = .pointer (some ⟨b, i, none⟩) := by
  obtain ⟨h1, h2⟩ := geto_some ho
  cases h with
  | gr h => cases h
  | loc h3 h4 h5 h6 => rw [h1] at h3; obtain rfl := Option.some.inj h3; exact h6 h2.symm
theorem rep_msl {w : World} {fz : Nat → Prop} {mem : List AObj} {ρ : List Value} {n g off len : Nat} {o : AObj} {v : Value} (h : Rep w fz mem ρ (.msl n g off len) v) (ho : geto mem n g = some o) :
    off + len ≤ o.n ∧ ∃ (A : Option Addr) (c' : Nat), v = .slice A len c' ∧ len ≤ c' ∧ (len ≠ 0 → ∃ (b k cap : Nat), ρ[n]? = some (.slice (some ⟨b, 0, none⟩) k cap) ∧ A = some ⟨b, off * o.sz, none⟩) := by
  obtain ⟨h1, h2⟩ := geto_some ho
  cases h with
  | gr h => cases h
  | msl h3 h4 h5 h6 => rw [h1] at h3; obtain rfl := Option.some.inj h3; exact h6 h2.symm

theorem addr_add (b o j : Nat) : (⟨b, o, none⟩ : Addr).add j = ⟨b, o + j, none⟩ := by unfold Addr.add; split <;> simp_all

/-- What an object's row is. -/
theorem Mem.rowAt {w : World} {fz : Nat → Prop} {mem : List AObj} {ρ : List Value} (hm : Mem w fz mem ρ) {n : Nat} {o : AObj} {v : Value} (ho : mem[n]? = some o) (hv : ρ[n]? = some v) :
    ∃ vs : List Value, w.ownsRow 0 o.ty o.sz v o.n vs ∧ vs.length = o.cs.length ∧ o.cs.length = o.n * o.sz ∧ (∀ u ∈ vs, u.oneCell' = true) ∧
    (∀ (j : Nat) (c : AV) (u : Value), o.cs[j]? = some c → vs[j]? = some u → if o.box then Rep w fz mem ρ c u else RG w fz c u) ∧
    (o.n = 0 → ∃ (A : Option Addr) (cap : Nat), v = .slice A 0 cap) ∧
    (0 < o.n → ∃ (b cap : Nat), v = .slice (some ⟨b, 0, none⟩) o.n cap ∧ o.n ≤ cap ∧ ∀ (j : Nat) (u : Value), vs[j]? = some u → w.cell? ⟨b, j, none⟩ = some u) := by
  obtain ⟨hp, ⟨vs, h2, h3, h4, h5⟩, _, _⟩ := hm.obj n o v ho hv
  refine ⟨vs, h2, h3, h3 ▸ h2.1, h4, h5, fun h0 => ?_, fun h0 => ?_⟩
  · rcases h2.2 with ⟨h, _⟩ | ⟨g, cap, cur, h, _⟩
    · exact ⟨none, 0, h⟩
    · exact ⟨_, cap, by rw [h, h0]⟩
  · rcases h2.2 with ⟨h, h'⟩ | ⟨g, cap, cur, h, _, _, h6, _⟩
    · omega
    · refine ⟨g, cap, h, h6, fun j u hu => ?_⟩
      have := h2.cells (g := g) (by rw [h]; rfl) j u hu
      rw [addr_add] at this
      simpa using this

theorem snap_rg {w : World} {fz fz2 : Nat → Prop} {mem : List AObj} {ρ : List Value} (hm : Mem w fz mem ρ) (hf : ∀ b, fz b → fz2 b) : ∀ (k : Nat),
    (∀ (a a' : AV) (v : Value), snap mem k a = some a' → Rep w fz mem ρ a v → (∀ n ∈ refs mem k a, ∀ (u : Value) (b : Nat), ρ[n]? = some u → u.ownBlock = some b → fz2 b) → RG w fz2 a' v) ∧
    (∀ (box : Bool) (cs cs' : List AV), snapL mem k box cs = some cs' → (∀ n ∈ refsL mem k box cs, ∀ (u : Value) (b : Nat), ρ[n]? = some u → u.ownBlock = some b → fz2 b) →
      cs'.length = cs.length ∧ ∀ (j : Nat) (c' : AV) (u : Value), cs'[j]? = some c' → (∀ c, cs[j]? = some c → if box then Rep w fz mem ρ c u else RG w fz c u) → RG w fz2 c' u) := by
  have mono : ∀ {a : AV} {v : Value}, RG w fz a v → RG w fz2 a v := fun h => h.mono (fun _ _ => rfl) hf
  intro k
  induction k with
  | zero => exact ⟨fun a a' v h => by simp [snap] at h, fun box cs cs' h => by simp [snapL] at h⟩
  | succ k ih =>
    obtain ⟨ih1, ih2⟩ := ih
    refine ⟨fun a a' v h hr hn => ?_, fun box cs cs' h hn => ?_⟩
    · cases a with
      | any => simp only [snap, Option.some.injEq] at h; subst h; exact .any
      | int => simp only [snap, Option.some.injEq] at h; subst h; cases hr with | gr h => exact mono h
      | bool => simp only [snap, Option.some.injEq] at h; subst h; cases hr with | gr h => exact mono h
      | str => simp only [snap, Option.some.injEq] at h; subst h; cases hr with | gr h => exact mono h
      | sl => simp only [snap, Option.some.injEq] at h; subst h; cases hr with | gr h => exact mono h
      | ptr => simp only [snap, Option.some.injEq] at h; subst h; cases hr with | gr h => exact mono h
      | nilptr => simp only [snap, Option.some.injEq] at h; subst h; cases hr with | gr h => exact mono h
      | nilsl ty sz => simp only [snap, Option.some.injEq] at h; subst h; cases hr with | gr h => cases h; exact .sl0
      | loc n g i =>
        simp only [snap] at h
        split at h
        · rename_i o ho
          obtain ⟨cs', hs, rfl⟩ := Option.map_eq_some_iff.1 h
          obtain ⟨b, q, cap, h1, rfl⟩ := rep_loc hr ho
          have hrefs : refs mem (k + 1) (.loc n g i) = n :: refsL mem k o.box o.cs := by simp only [refs, ho]
          rw [hrefs] at hn
          obtain ⟨vs, h2, h3, h4, h5, h6, h7, h8⟩ := hm.rowAt (geto_some ho).1 h1
          obtain ⟨h9, h10⟩ := ih2 o.box o.cs cs' hs (fun m hm' => hn m (List.mem_cons_of_mem _ hm'))
          have hb := hn n (List.mem_cons_self ..) _ b h1 rfl
          have hcell : ∀ (j : Nat) (u : Value), vs[j]? = some u → w.cell? ⟨b, 0 + j, none⟩ = some u := fun j u hu => by
            have := h2.cells (g := b) rfl j u hu
            rwa [addr_add] at this
          have := RG.ptr (w := w) (fz := fz2) (i := i) (b := b) (o := 0) (cs := cs') (vs := vs) (by rw [h9, h3]) hb h5 hcell (fun j c' u hc hu => h10 j c' u hc (fun c hc2 => h6 j c u hc2 hu))
          simpa using this
        · cases h
      | arr n g =>
        simp only [snap] at h
        split at h
        · rename_i o ho
          obtain ⟨cs', hs, rfl⟩ := Option.map_eq_some_iff.1 h
          obtain ⟨h1, _⟩ := rep_arr hr ho
          have hrefs : refs mem (k + 1) (.arr n g) = n :: refsL mem k o.box o.cs := by simp only [refs, ho]
          rw [hrefs] at hn
          obtain ⟨vs, h2, h3, h4, h5, h6, h7, h8⟩ := hm.rowAt (geto_some ho).1 h1
          obtain ⟨h9, h10⟩ := ih2 o.box o.cs cs' hs (fun m hm' => hn m (List.mem_cons_of_mem _ hm'))
          rcases Nat.eq_zero_or_pos o.n with h0 | h0
          · obtain ⟨A, cap, rfl⟩ := h7 h0
            have : cs' = [] := List.eq_nil_of_length_eq_zero (by rw [h9, h4, h0]; simp)
            subst this
            rw [h0]
            exact .sl0
          · obtain ⟨b, cap, rfl, h11, h12⟩ := h8 h0
            exact .sl h0 h11 (by rw [h9, h4]) (by rw [h9, h3]) (hn n (List.mem_cons_self ..) _ b h1 rfl) h5 (fun j u hu => by rw [Nat.zero_add]; exact h12 j u hu) (fun j c' u hc hu => h10 j c' u hc (fun c hc2 => h6 j c u hc2 hu))
        · cases h
      | msl n g off len =>
        simp only [snap] at h
        split at h
        · rename_i o ho
          split at h
          · cases h
          · rename_i hbox
            obtain rfl := Option.some.inj h
            obtain ⟨hle, A, c', rfl, hlc, hA⟩ := rep_msl hr ho
            have hmn := (geto_some ho).1
            have hlt := (List.getElem?_eq_some_iff.1 hmn).1
            have hltr : n < ρ.length := by rw [hm.len]; exact hlt
            have hr' : ρ[n]? = some ρ[n] := by simp [hltr]
            obtain ⟨vs, h2, h3, h4, h5, h6, h7, h8⟩ := hm.rowAt hmn hr'
            rcases Nat.eq_zero_or_pos len with h0 | h0
            · subst h0
              simp only [Nat.zero_mul, List.take_zero]
              exact .sl0
            · obtain ⟨b, q, cap, h9, rfl⟩ := hA (by omega)
              rw [hr'] at h9
              have h9' := Option.some.inj h9
              have hrefs : n ∈ refs mem (k + 1) (.msl n g off len) := by simp [refs]
              have hcell : ∀ (j : Nat) (u : Value), vs[j]? = some u → w.cell? ⟨b, j, none⟩ = some u := fun j u hu => by
                have := h2.cells (g := b) (by rw [h9']; rfl) j u hu
                rw [addr_add] at this
                simpa using this
              have hlen : off * o.sz + len * o.sz ≤ o.cs.length := by rw [h4, ← Nat.add_mul]; exact Nat.mul_le_mul_right _ hle
              refine .sl (vs := (vs.drop (off * o.sz)).take (len * o.sz)) h0 hlc ?_ ?_ (hn n hrefs _ b hr' (by rw [h9']; rfl)) (fun u hu => h5 u (List.mem_of_mem_drop (List.mem_of_mem_take hu))) (fun j u hu => ?_) (fun j c u hc hu => ?_)
              · simp; omega
              · simp; omega
              · rw [List.getElem?_take] at hu
                split at hu
                · rw [List.getElem?_drop] at hu; exact hcell _ _ hu
                · cases hu
              · rw [List.getElem?_take] at hu hc
                split at hu
                · rename_i hj
                  rw [if_pos hj, List.getElem?_drop] at hc
                  rw [List.getElem?_drop] at hu
                  have := h6 _ c u hc hu
                  rw [if_neg hbox] at this
                  exact mono this
                · cases hu
        · cases h
      | agg cs =>
        simp only [snap] at h
        obtain ⟨cs', hs, rfl⟩ := Option.map_eq_some_iff.1 h
        obtain ⟨vs, rfl, h1, h2, h3⟩ := rg_agg_rep hr
        obtain ⟨h9, h10⟩ := ih2 true cs cs' hs (by simpa only [refs] using hn)
        exact .agg (by rw [h9, h1]) h2 (fun j c' u hc hu => h10 j c' u hc (fun c hc2 => by simpa using h3 j c u hc2 hu))
      | tup cs =>
        simp only [snap] at h
        obtain ⟨cs', hs, rfl⟩ := Option.map_eq_some_iff.1 h
        obtain ⟨vs, rfl, h1, h3⟩ := rg_tup_rep hr
        obtain ⟨h9, h10⟩ := ih2 true cs cs' hs (by simpa only [refs] using hn)
        exact .tup (by rw [h9, h1]) (fun j c' u hc hu => h10 j c' u hc (fun c hc2 => by simpa using h3 j c u hc2 hu))
      | fn f cs =>
        simp only [snap] at h
        obtain ⟨cs', hs, rfl⟩ := Option.map_eq_some_iff.1 h
        obtain ⟨vs, rfl, h1, h3⟩ := rg_fn_rep hr
        obtain ⟨h9, h10⟩ := ih2 true cs cs' hs (by simpa only [refs] using hn)
        exact .fn (by rw [h9, h1]) (fun j c' u hc hu => h10 j c' u hc (fun c hc2 => by simpa using h3 j c u hc2 hu))
    · cases box with
      | false =>
        simp only [snapL, Option.some.injEq] at h
        subst h
        exact ⟨rfl, fun j c' u hc hh => mono (by simpa using hh c' hc)⟩
      | true =>
        simp only [snapL] at h
        obtain ⟨h1, h2⟩ := mapM_spec h
        refine ⟨h1, fun j c' u hc hh => ?_⟩
        obtain ⟨c, h3, h4⟩ := h2 j c' hc
        refine ih1 c c' u h4 (by simpa using hh c h3) (fun n hn' => hn n ?_)
        simp only [refsL, List.mem_flatMap]
        exact ⟨c, List.mem_of_getElem? h3, hn'⟩

theorem freeze_get (ns : List Nat) (mem : List AObj) (n : Nat) : (freeze ns mem)[n]? = (mem[n]?).map fun o => if ns.contains n then { o with fr := true } else o := by
  simp [freeze]
theorem freeze_length (ns : List Nat) (mem : List AObj) : (freeze ns mem).length = mem.length := by simp [freeze]

def frzOf (fz : Nat → Prop) (ρ : List Value) (ns : List Nat) : Nat → Prop := fun b => fz b ∨ ∃ n ∈ ns, ∃ v, ρ[n]? = some v ∧ v.ownBlock = some b

theorem Mem.freeze {w : World} {fz : Nat → Prop} {mem : List AObj} {ρ : List Value} (hm : Mem w fz mem ρ) (ns : List Nat) :
    Ext w fz mem ρ w (frzOf fz ρ ns) (freeze ns mem) ρ ∧ Mem w (frzOf fz ρ ns) (freeze ns mem) ρ := by
  have he : Ext w fz mem ρ w (frzOf fz ρ ns) (Go.V.freeze ns mem) ρ := by
    refine ⟨rfl, rfl, rfl, Nat.le_refl _, fun _ _ _ => rfl, fun _ _ => rfl, fun _ h => .inl h, fun b h => ?_, fun n o h => ?_, fun n v b h h' => .inl ⟨n, v, h, h'⟩⟩
    · rcases h with h | ⟨n, _, v, h1, h2⟩
      · exact .inl h
      · exact .inr (.inr ⟨n, v, h1, h2⟩)
    · refine ⟨if ns.contains n then { o with fr := true } else o, by rw [freeze_get, h]; rfl, ?_⟩
      split <;> exact ⟨Nat.le_refl _, fun _ => ⟨rfl, rfl⟩, rfl, rfl⟩
  refine ⟨he, by rw [freeze_length]; exact hm.len, fun n o' v ho hv => ?_, hm.apart, fun b h => ?_⟩
  · rw [freeze_get] at ho
    obtain ⟨o, ho2, rfl⟩ := Option.map_eq_some_iff.1 ho
    obtain ⟨h1, ⟨vs, h2, h3, h4, h5⟩, h6, h7⟩ := hm.obj n o v ho2 hv
    have hcells : ∀ (j : Nat) (c : AV) (u : Value), o.cs[j]? = some c → vs[j]? = some u → if o.box then Rep w (frzOf fz ρ ns) (Go.V.freeze ns mem) ρ c u else RG w (frzOf fz ρ ns) c u := fun j c u hc hu => by
      have := h5 j c u hc hu
      split at this
      · rename_i hb; rw [if_pos hb]; exact this.ext he
      · rename_i hb; rw [if_neg hb]; exact this.mono he.fzblk he.sub
    split
    · rename_i hn
      exact ⟨h1, ⟨vs, h2, h3, h4, hcells⟩, fun _ b hb => .inr ⟨n, by simpa using hn, v, hv, hb⟩, fun h => by cases h⟩
    · rename_i hn
      refine ⟨h1, ⟨vs, h2, h3, h4, hcells⟩, fun h b hb => .inl (h6 h b hb), fun h b hb => ?_⟩
      rintro (h8 | ⟨m, hm1, u, hm2, hm3⟩)
      · exact h7 h b hb h8
      · by_cases hnm : n = m
        · subst hnm; exact hn (by simpa using hm1)
        · exact hm.apart n m v u b hnm hv hm2 hb hm3
  · rcases h with h | ⟨n, _, v, h1, h2⟩
    · exact hm.lt b h
    · exact hm.blk_lt h1 h2

end Go.V
