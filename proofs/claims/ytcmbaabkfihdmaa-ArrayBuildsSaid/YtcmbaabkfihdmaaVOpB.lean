/- Loads, cuts, lengths and the like. -/
import Derived.Test.YtcmbaabkfihdmaaVOpA
set_option linter.unusedVariables false
set_option linter.unusedSimpArgs false
namespace Go.V
open Go
section
variable {P : Program} {w : World} {fz : Nat → Prop} {mem : List AObj} {ρ : List Value} {env : Env} {a : Act} {o : Oper}

/-- Does a type fit the mark and the size? -/
def okTy (P : Program) (t : TypeId) (agg : Bool) (n : Nat) : Bool :=
  match P.underlying t, P.info? t with
  | some d, some i => d.isRow == agg && i.size == n && (agg || n == 1)
  | _, _ => false

theorem okTy_spec {t : TypeId} {agg : Bool} {n : Nat} (h : okTy P t agg n = true) : ∃ d i, P.underlying t = some d ∧ P.info? t = some i ∧ d.isRow = agg ∧ i.size = n ∧ (agg = false → n = 1) := by
  unfold okTy at h
  split at h
  · rename_i d i h1 h2
    simp only [Bool.and_eq_true, beq_iff_eq, Bool.or_eq_true] at h
    exact ⟨d, i, h1, h2, h.1.1, h.1.2, fun h' => by rcases h.2 with h2 | h2 <;> simp_all⟩
  · cases h

theorem isAgg_run {t : TypeId} {d : TypeDesc} (h : P.underlying t = some d) : (isAgg t).run P w = .ok d.isRow w := by
  unfold isAgg
  rw [Sem.run_bind, run_underlying h]
  cases d <;> rfl

theorem load_run {t : TypeId} {agg : Bool} {n : Nat} (ht : okTy P t agg n = true) {b q i : Nat} {cs : List AV} {vs : List Value} (hl : vs.length = cs.length) (h1 : ∀ u ∈ vs, u.oneCell' = true)
    (hc : ∀ (j : Nat) (u : Value), vs[j]? = some u → w.cell? ⟨b, q + j, none⟩ = some u) (hr : ∀ (j : Nat) (c : AV) (u : Value), cs[j]? = some c → vs[j]? = some u → Rep w fz mem ρ c u) {v : AV} (h : sub agg n cs i = some v) :
    ∃ u, (Instr.loadAt t (.pointer (some ⟨b, q + i, none⟩))).run P w = .ok u w ∧ Rep w fz mem ρ v u := by
  obtain ⟨d, ti, h2, h3, h4, h5, h6⟩ := okTy_spec ht
  unfold sub at h
  split at h
  · rename_i hle
    split at h
    · rename_i hagg
      simp only [Option.some.injEq] at h
      subst h
      have hlen : ((vs.drop i).take n).length = n := by simp; omega
      refine ⟨.agg ((vs.drop i).take n).toArray, run_loadAt_mid w b (q + i) t ((vs.drop i).take n) d (fun j u hu => ?_) h2 (by rw [h4, hagg]) (by rw [h3, hlen, ← h5]; rfl), ?_⟩
      · rw [List.getElem?_take] at hu
        split at hu
        · rw [List.getElem?_drop] at hu; rw [Nat.add_assoc]; exact hc _ _ hu
        · cases hu
      · refine .agg (by simp; omega) (fun j u hu => ?_) (fun j c u hc' hu => ?_)
        · have : u ∈ vs := by
            have hu' : ((vs.drop i).take n)[j]? = some u := by simpa using hu
            exact List.mem_of_mem_drop (List.mem_of_mem_take (List.mem_of_getElem? hu'))
          exact h1 u this
        · have hu' : ((vs.drop i).take n)[j]? = some u := by simpa using hu
          rw [List.getElem?_take] at hu' hc'
          split at hu'
          · rename_i hj
            rw [if_pos hj, List.getElem?_drop] at hc'
            rw [List.getElem?_drop] at hu'
            exact hr _ c u hc' hu'
          · cases hu'
    · rename_i hagg
      split at h
      · rename_i hn
        have hi : i < vs.length := by omega
        have hg : vs[i]? = some vs[i] := by simp [hi]
        refine ⟨vs[i], ?_, hr i v _ h hg⟩
        have hcell := hc i _ hg
        have hf : d.isRow = false := by rw [h4]; simpa using hagg
        simp only [Instr.loadAt, Instr.sureAddr, loadVar, Sem.run_bind, Sem.run_pure, Result.andThen_ok, isAgg_run h2, hf, Bool.false_eq_true, if_false]
        simp [run_load, hcell]
      · cases h
  · cases h

theorem op_ld (hm : Mem w fz mem ρ) (he : EnvR w fz mem ρ env a) {t : TypeId} {x : Operand} {x' : Opd} {agg : Bool} {n : Nat} (ho : o.op = .load t x) (hx : okOpd a.tmps.size x x' = true) (ht : okTy P t agg n = true)
    {v : AV} {m : List AObj} (h : evalOp mem (ev env) (.ld agg n x') = some (v, m)) : m = mem ∧ PureOut P o a w fz mem ρ v := by
  have e1 := opd_rep he hx
  simp only [evalOp] at h
  split at h
  · rename_i cs j hj
    rw [hj] at e1
    obtain ⟨r, hs, hr⟩ := Option.map_eq_some_iff.1 h
    simp only [Prod.mk.injEq] at hr
    obtain ⟨rfl, rfl⟩ := hr
    obtain ⟨b, q, vs, hq, h1, h2, h3, h4, h5⟩ := rg_ptr_inv (rep_ptr e1)
    · obtain ⟨u, g1, g2⟩ := load_run (w := w) (fz := fz) (mem := mem) (ρ := ρ) ht h1 h3 h4 (fun j c u a b => .gr (h5 j c u a b)) hs
      exact ⟨rfl, u, by simp only [execOp, ho, hq, Sem.run_bind, g1, Result.andThen_ok, Sem.run_pure], g2⟩
  · rename_i k g j hj
    rw [hj] at e1
    split at h
    · rename_i ob hob
      obtain ⟨r, hs, hr⟩ := Option.map_eq_some_iff.1 h
      simp only [Prod.mk.injEq] at hr
      obtain ⟨rfl, rfl⟩ := hr
      obtain ⟨b, q, cap, g1, g2⟩ := rep_loc e1 hob
      obtain ⟨vs, h2, h3, h4, h5, h6, _, _⟩ := hm.rowAt (geto_some hob).1 g1
      have hcell : ∀ (j : Nat) (u : Value), vs[j]? = some u → w.cell? ⟨b, 0 + j, none⟩ = some u := fun j u hu => by
        have := h2.cells (g := b) rfl j u hu
        rwa [addr_add] at this
      obtain ⟨u, g3, g4⟩ := load_run (w := w) (fz := fz) (mem := mem) (ρ := ρ) ht h3 h5 hcell (fun j c u hc hu => by
        have := h6 j c u hc hu
        split at this
        · exact this
        · exact .gr this) hs
      rw [Nat.zero_add] at g3
      exact ⟨rfl, u, by simp only [execOp, ho, g2, Sem.run_bind, g3, Result.andThen_ok, Sem.run_pure], g4⟩
    · cases h
  · cases h

theorem op_ldf (hm : Mem w fz mem ρ) (he : EnvR w fz mem ρ env a) {t : TypeId} {x : Operand} {x' : Opd} {agg : Bool} {n : Nat} (ho : o.op = .load t x) (hx : okOpd a.tmps.size x x' = true) (ht : okTy P t agg n = true)
    {v : AV} {m : List AObj} (h : evalOp mem (ev env) (.ldf agg n x') = some (v, m)) : m = mem ∧ PureOut P o a w fz mem ρ v := by
  refine op_ld hm he ho hx ht ?_
  simp only [evalOp] at h ⊢
  split at h
  · rename_i hj; rw [hj]; exact h
  · cases h

theorem op_iaddrf (hm : Mem w fz mem ρ) (he : EnvR w fz mem ρ env a) {t elem : TypeId} {x y : Operand} {x' y' : Opd} {sz : Nat} {i : TypeInfo} (ho : o.op = .indexAddr t x y) (hx : okOpd a.tmps.size x x' = true) (hy : okOpd a.tmps.size y y' = true)
    (ht : P.underlying t = some (.slice elem)) (hi : P.info? elem = some i) (hsz : i.size = sz) {v : AV} {m : List AObj} (h : evalOp mem (ev env) (.iaddrf sz x' y') = some (v, m)) : m = mem ∧ PureOut P o a w fz mem ρ v := by
  refine op_iaddr hm he ho hx hy ht hi hsz ?_
  simp only [evalOp] at h ⊢
  split at h
  · split at h
    · rename_i hk; simp only [hk]; exact h
    · cases h
  · cases h

theorem op_nilchk (he : EnvR w fz mem ρ env a) {x : Operand} {x' : Opd} (ho : o.op = .nilCheck x) (hx : okOpd a.tmps.size x x' = true) {v : AV} {m : List AObj} (h : evalOp mem (ev env) (.nilchk x') = some (v, m)) : m = mem ∧ PureOut P o a w fz mem ρ v := by
  have e1 := opd_rep he hx
  simp only [evalOp] at h
  split at h
  · rename_i cs j hj
    rw [hj] at e1
    simp only [Option.some.injEq, Prod.mk.injEq] at h
    obtain ⟨rfl, rfl⟩ := h
    obtain ⟨b, q, h1, _⟩ := rep_addr e1 j cs j rfl
    exact ⟨rfl, a.eval x, by simp [execOp, ho, h1], e1⟩
  · rename_i n g j hj
    rw [hj] at e1
    obtain ⟨ob, hob, h⟩ := Option.map_eq_some_iff.1 h
    simp only [Prod.mk.injEq] at h
    obtain ⟨rfl, rfl⟩ := h
    obtain ⟨b, q, cap, h1, h2⟩ := rep_loc e1 hob
    exact ⟨rfl, a.eval x, by simp [execOp, ho, h2], e1⟩
  · cases h

theorem part_run {t : TypeId} {agg : Bool} {n : Nat} (ht : okTy P t agg n = true) {off : Nat} {cs : List AV} {vs : Array Value} (hl : vs.size = cs.length) (h1 : ∀ (j : Nat) (u : Value), vs[j]? = some u → u.oneCell' = true)
    (hr : ∀ (j : Nat) (c : AV) (u : Value), cs[j]? = some c → vs[j]? = some u → Rep w fz mem ρ c u) {v : AV} (h : sub agg n cs off = some v) :
    ∃ u, (part t vs off).run P w = .ok u w ∧ Rep w fz mem ρ v u := by
  obtain ⟨d, ti, h2, h3, h4, h5, h6⟩ := okTy_spec ht
  unfold sub at h
  split at h
  · rename_i hle
    split at h
    · rename_i hagg
      simp only [Option.some.injEq] at h
      subst h
      refine ⟨.agg (vs.extract off (off + n)), ?_, .agg (by simp; omega) (fun j u hu => ?_) (fun j c u hc hu => ?_)⟩
      · simp [part, isAgg_run h2, h4, hagg, sizeOf, typeInfo, h3, h5]
      · rw [Array.getElem?_extract] at hu
        split at hu
        · exact h1 _ _ hu
        · cases hu
      · rw [Array.getElem?_extract] at hu
        split at hu
        · rename_i hj
          rw [List.getElem?_take, if_pos (by omega), List.getElem?_drop] at hc
          exact hr _ c u hc hu
        · cases hu
    · rename_i hagg
      split at h
      · have hi : off < vs.size := by omega
        have hg : vs[off]? = some vs[off] := by simp [hi]
        refine ⟨vs[off], ?_, hr off v _ h hg⟩
        have hf : d.isRow = false := by rw [h4]; simpa using hagg
        simp [part, isAgg_run h2, hf, hi]
      · cases h
  · cases h

theorem op_fld (he : EnvR w fz mem ρ env a) {s : TypeId} {x : Operand} {x' : Opd} {k off n : Nat} {agg : Bool} {fs : Array Field} {f : Field} (ho : o.op = .field s x k) (hx : okOpd a.tmps.size x x' = true)
    (hs : P.underlying s = some (.struct fs)) (hf : fs[k]? = some f) (hoff : f.offset = off) (ht : okTy P f.type agg n = true) {v : AV} {m : List AObj} (h : evalOp mem (ev env) (.fld agg off n x') = some (v, m)) : m = mem ∧ PureOut P o a w fz mem ρ v := by
  subst hoff
  have e1 := opd_rep he hx
  simp only [evalOp] at h
  split at h
  · rename_i cs hj
    rw [hj] at e1
    obtain ⟨r, hs', hr⟩ := Option.map_eq_some_iff.1 h
    simp only [Prod.mk.injEq] at hr
    obtain ⟨rfl, rfl⟩ := hr
    obtain ⟨vs, h1, h2, h3, h4⟩ := rg_agg_rep e1
    obtain ⟨u, g1, g2⟩ := part_run (P := P) ht h2 h3 h4 hs'
    exact ⟨rfl, u, by simp [execOp, ho, h1, Instr.field, run_underlying hs, hf, asAgg, g1], g2⟩
  · cases h

theorem op_sidx (he : EnvR w fz mem ρ env a) {t : TypeId} {x y : Operand} {x' y' : Opd} (ho : o.op = .index t x y) (hx : okOpd a.tmps.size x x' = true) (hy : okOpd a.tmps.size y y' = true)
    (ht : P.underlying t = some .string) {v : AV} {m : List AObj} (h : evalOp mem (ev env) (.sidx x' y') = some (v, m)) : m = mem ∧ PureOut P o a w fz mem ρ v := by
  have e1 := opd_rep he hx
  have e2 := opd_rep he hy
  simp only [evalOp] at h
  split at h
  · rename_i k j hj
    rw [hj] at e2
    have e2 := rep_int e2
    split at h
    · rename_i s hs
      rw [hs] at e1
      have e1 := rep_str e1
      split at h
      · rename_i h0
        obtain ⟨b, hb, hr⟩ := Option.map_eq_some_iff.1 h
        simp only [Prod.mk.injEq] at hr
        obtain ⟨rfl, rfl⟩ := hr
        refine ⟨rfl, .int .u8 b.toNat, ?_, .gr .int⟩
        simp [execOp, ho, e1, e2, Instr.index, asIntOf, run_underlying ht, h0, hb]
      · cases h
    · cases h
  · cases h

/-- What a row that is read whole is, in the model's memory. -/
theorem row_rep (hm : Mem w fz mem ρ) {c : AV} {v : Value} (hc : Rep w fz mem ρ c v) {n sz : Nat} {cs : List AV} (h : rowOf mem c = some (n, sz, cs)) :
    ∃ (A : Option Addr) (cap : Nat), v = .slice A n cap ∧ n ≤ cap ∧ cs.length = n * sz ∧ (n = 0 ∨ ∃ (b q : Nat) (vs : List Value), A = some ⟨b, q, none⟩ ∧ vs.length = cs.length ∧ (∀ u ∈ vs, u.oneCell' = true) ∧
      (∀ (j : Nat) (u : Value), vs[j]? = some u → w.cell? ⟨b, q + j, none⟩ = some u) ∧ (∀ (j : Nat) (d : AV) (u : Value), cs[j]? = some d → vs[j]? = some u → RG w fz d u)) := by
  unfold rowOf at h
  split at h
  · simp only [Option.some.injEq, Prod.mk.injEq] at h
    obtain ⟨rfl, rfl, rfl⟩ := h
    rcases rg_sl_inv (rep_sl hc).1 with ⟨rfl, rfl, A, cap, rfl⟩ | ⟨b, q, cap, vs, rfl, g1, g2, g3, g4, g5, g6, g7, g8⟩
    · exact ⟨A, cap, rfl, Nat.zero_le _, by simp, .inl rfl⟩
    · exact ⟨_, cap, rfl, g2, g3, .inr ⟨b, q, vs, rfl, g4, g6, g7, g8⟩⟩
  · simp only [Option.some.injEq, Prod.mk.injEq] at h
    obtain ⟨rfl, rfl, rfl⟩ := h
    cases hc with | gr hc => cases hc; exact ⟨none, 0, rfl, Nat.le_refl _, by simp, .inl rfl⟩
  · split at h
    · rename_i ob hob
      split at h
      · cases h
      · rename_i hbox
        simp only [Option.some.injEq, Prod.mk.injEq] at h
        obtain ⟨rfl, rfl, rfl⟩ := h
        obtain ⟨g1, g2⟩ := rep_arr hc hob
        obtain ⟨vs, h2, h3, h4, h5, h6, h7, h8⟩ := hm.rowAt (geto_some hob).1 g1
        rcases Nat.eq_zero_or_pos ob.n with h0 | h0
        · obtain ⟨A, cap, rfl⟩ := h7 h0
          exact ⟨A, cap, by rw [h0], by omega, h4, .inl h0⟩
        · obtain ⟨b, cap, rfl, h11, h12⟩ := h8 h0
          exact ⟨_, cap, rfl, h11, h4, .inr ⟨b, 0, vs, rfl, h3, h5, fun j u hu => by rw [Nat.zero_add]; exact h12 j u hu, fun j d u hd hu => by have := h6 j d u hd hu; rwa [if_neg hbox] at this⟩⟩
    · cases h
  · split at h
    · rename_i n g off len _ ob hob
      split at h
      · cases h
      · rename_i hbox
        simp only [Option.some.injEq, Prod.mk.injEq] at h
        obtain ⟨rfl, rfl, rfl⟩ := h
        obtain ⟨g1, A, c', rfl, g3, g4⟩ := rep_msl hc hob
        have hmn := (geto_some hob).1
        have hltr : n < ρ.length := by rw [hm.len]; exact (List.getElem?_eq_some_iff.1 hmn).1
        have hr' : ρ[n]? = some ρ[n] := by simp [hltr]
        obtain ⟨vs, h2, h3, h4, h5, h6, h7, h8⟩ := hm.rowAt hmn hr'
        have hlen : off * ob.sz + len * ob.sz ≤ ob.cs.length := by rw [h4, ← Nat.add_mul]; exact Nat.mul_le_mul_right _ g1
        refine ⟨A, c', rfl, g3, by simp; omega, ?_⟩
        rcases Nat.eq_zero_or_pos len with h0 | h0
        · exact .inl h0
        · obtain ⟨b, q, cap, g5, rfl⟩ := g4 (by omega)
          rw [hr'] at g5
          have g5' := Option.some.inj g5
          refine .inr ⟨b, off * ob.sz, (vs.drop (off * ob.sz)).take (len * ob.sz), rfl, by simp; omega, fun u hu => h5 u (List.mem_of_mem_drop (List.mem_of_mem_take hu)), fun j u hu => ?_, fun j c u hc hu => ?_⟩
          · rw [List.getElem?_take] at hu
            split at hu
            · rw [List.getElem?_drop] at hu
              have := h2.cells (g := b) (by rw [g5']; rfl) _ u hu
              rw [addr_add] at this
              simpa using this
            · cases hu
          · rw [List.getElem?_take] at hu hc
            split at hu
            · rename_i hj
              rw [if_pos hj, List.getElem?_drop] at hc
              rw [List.getElem?_drop] at hu
              have := h6 _ c u hc hu
              rwa [if_neg hbox] at this
            · cases hu
    · cases h
  · cases h

theorem op_len (hm : Mem w fz mem ρ) (he : EnvR w fz mem ρ env a) {t e : TypeId} {x : Operand} {x' : Opd} (ho : o.op = .call ⟨.builtin .len, #[x], #[t]⟩) (hx : okOpd a.tmps.size x x' = true)
    (ht : P.underlying t = some (.slice e)) {v : AV} {m : List AObj} (h : evalOp mem (ev env) (.len x') = some (v, m)) : m = mem ∧ PureOut P o a w fz mem ρ v := by
  have e1 := opd_rep he hx
  simp only [evalOp] at h
  obtain ⟨⟨n, sz, cs⟩, hr, h⟩ := Option.map_eq_some_iff.1 h
  simp only [Prod.mk.injEq] at h
  obtain ⟨rfl, rfl⟩ := h
  obtain ⟨A, cap, h1, _⟩ := row_rep hm e1 hr
  refine ⟨rfl, .int .i64 n, ?_, .gr .int⟩
  simp [execOp, ho, resolve, invoke, builtin, h1, Builtin.len_, run_underlying ht, goInt]
theorem op_lenf (hm : Mem w fz mem ρ) (he : EnvR w fz mem ρ env a) {t e : TypeId} {x : Operand} {x' : Opd} (ho : o.op = .call ⟨.builtin .len, #[x], #[t]⟩) (hx : okOpd a.tmps.size x x' = true)
    (ht : P.underlying t = some (.slice e)) {v : AV} {m : List AObj} (h : evalOp mem (ev env) (.lenf x') = some (v, m)) : m = mem ∧ PureOut P o a w fz mem ρ v := by
  refine op_len hm he ho hx ht ?_
  simp only [evalOp] at h ⊢
  split at h
  · rename_i hj; rw [hj]; simpa only [rowOf, Option.map_some] using h
  · cases h
theorem op_slen (he : EnvR w fz mem ρ env a) {t : TypeId} {x : Operand} {x' : Opd} (ho : o.op = .call ⟨.builtin .len, #[x], #[t]⟩) (hx : okOpd a.tmps.size x x' = true)
    (ht : P.underlying t = some .string) {v : AV} {m : List AObj} (h : evalOp mem (ev env) (.slen x') = some (v, m)) : m = mem ∧ PureOut P o a w fz mem ρ v := by
  have e1 := opd_rep he hx
  simp only [evalOp] at h
  split at h
  · rename_i s hs
    rw [hs] at e1
    simp only [Option.some.injEq, Prod.mk.injEq] at h
    obtain ⟨rfl, rfl⟩ := h
    refine ⟨rfl, .int .i64 s.size, ?_, .gr .int⟩
    simp [execOp, ho, resolve, invoke, builtin, rep_str e1, Builtin.len_, run_underlying ht, goInt]
  · cases h

theorem op_ext (he : EnvR w fz mem ρ env a) {x : Operand} {x' : Opd} {i : Nat} (ho : o.op = .extract x i) (hx : okOpd a.tmps.size x x' = true) {v : AV} {m : List AObj} (h : evalOp mem (ev env) (.ext x' i) = some (v, m)) : m = mem ∧ PureOut P o a w fz mem ρ v := by
  have e1 := opd_rep he hx
  simp only [evalOp] at h
  split at h
  · rename_i vs hj
    rw [hj] at e1
    obtain ⟨r, hs', hr⟩ := Option.map_eq_some_iff.1 h
    simp only [Prod.mk.injEq] at hr
    obtain ⟨rfl, rfl⟩ := hr
    obtain ⟨us, h1, h2, h3⟩ := rg_tup_rep e1
    have hi : i < us.size := by rw [h2]; exact (List.getElem?_eq_some_iff.1 hs').1
    have hg : us[i]? = some us[i] := by simp [hi]
    exact ⟨rfl, us[i], by simp [execOp, ho, h1, Instr.extract, hi], h3 i _ _ hs' hg⟩
  · cases h

theorem op_mx (he : EnvR w fz mem ρ env a) {x y : Operand} {x' y' : Opd} {ts : Array TypeId} (ho : o.op = .call ⟨.builtin .max, #[x, y], ts⟩) (hx : okOpd a.tmps.size x x' = true) (hy : okOpd a.tmps.size y y' = true) {v : AV} {m : List AObj} (h : evalOp mem (ev env) (.mx x' y') = some (v, m)) : m = mem ∧ PureOut P o a w fz mem ρ v := by
  have e1 := opd_rep he hx
  have e2 := opd_rep he hy
  simp only [evalOp] at h
  split at h
  · rename_i k p k' q h1 h2
    rw [h1] at e1; rw [h2] at e2
    split at h
    · rename_i hk
      subst hk
      simp only [Option.some.injEq, Prod.mk.injEq] at h
      obtain ⟨rfl, rfl⟩ := h
      exact ⟨rfl, _, by simp [execOp, ho, resolve, invoke, builtin, rep_int e1, rep_int e2, Builtin.max_, Builtin.max2], .gr .int⟩
    · cases h
  · cases h
theorem op_mn (he : EnvR w fz mem ρ env a) {x y : Operand} {x' y' : Opd} {ts : Array TypeId} (ho : o.op = .call ⟨.builtin .min, #[x, y], ts⟩) (hx : okOpd a.tmps.size x x' = true) (hy : okOpd a.tmps.size y y' = true) {v : AV} {m : List AObj} (h : evalOp mem (ev env) (.mn x' y') = some (v, m)) : m = mem ∧ PureOut P o a w fz mem ρ v := by
  have e1 := opd_rep he hx
  have e2 := opd_rep he hy
  simp only [evalOp] at h
  split at h
  · rename_i k p k' q h1 h2
    rw [h1] at e1; rw [h2] at e2
    split at h
    · rename_i hk
      subst hk
      simp only [Option.some.injEq, Prod.mk.injEq] at h
      obtain ⟨rfl, rfl⟩ := h
      exact ⟨rfl, _, by simp [execOp, ho, resolve, invoke, builtin, rep_int e1, rep_int e2, Builtin.min_, Builtin.min2], .gr .int⟩
    · cases h
  · cases h

/-- Operands side by side. -/
def okOpds (N : Nat) : List Operand → List Opd → Bool
  | [], [] => true
  | x :: xs, y :: ys => okOpd N x y && okOpds N xs ys
  | _, _ => false

theorem opds_rep (he : EnvR w fz mem ρ env a) : ∀ {xs : List Operand} {ys : List Opd}, okOpds a.tmps.size xs ys = true → xs.length = ys.length ∧ ∀ (j : Nat) (y : Opd), ys[j]? = some y → ∃ x, xs[j]? = some x ∧ Rep w fz mem ρ (ev env y) (a.eval x)
  | [], [], _ => ⟨rfl, fun j y h => by simp at h⟩
  | x :: xs, y :: ys, h => by
    simp only [okOpds, Bool.and_eq_true] at h
    obtain ⟨h1, h2⟩ := opds_rep he h.2
    refine ⟨by simp [h1], fun j z hz => ?_⟩
    cases j with
    | zero => simp at hz; subst hz; exact ⟨x, rfl, opd_rep he h.1⟩
    | succ j => simp at hz; obtain ⟨u, h3, h4⟩ := h2 j z hz; exact ⟨u, by simpa using h3, h4⟩
  | [], _ :: _, h => by simp [okOpds] at h
  | _ :: _, [], h => by simp [okOpds] at h

theorem op_mkfn (he : EnvR w fz mem ρ env a) {f : Nat} {xs : Array Operand} {ys : List Opd} (ho : o.op = .makeFunc (.func f) #[] xs) (hx : okOpds a.tmps.size xs.toList ys = true) : PureOut P o a w fz mem ρ (.fn f (ys.map (ev env))) := by
  obtain ⟨h1, h2⟩ := opds_rep he hx
  refine ⟨.func (.func f) #[] (xs.map a.eval), by simp [execOp, ho, Instr.makeFunc], .fn (by simpa using h1) (fun j c u hc hu => ?_)⟩
  rw [List.getElem?_map] at hc
  obtain ⟨y, hy, rfl⟩ := Option.map_eq_some_iff.1 hc
  obtain ⟨x, hx', h3⟩ := h2 j y hy
  have hu' : (xs.map a.eval)[j]? = some (a.eval x) := by
    rw [Array.getElem?_map]
    have : xs[j]? = some x := by simpa using hx'
    rw [this]; rfl
  rw [hu'] at hu
  obtain rfl := Option.some.inj hu
  exact h3

/-! ### Cuts -/
theorem bound_run (he : EnvR w fz mem ρ env a) {x : Option Operand} {x' : Option Opd} (hx : match x, x' with | none, none => True | some y, some y' => okOpd a.tmps.size y y' = true | _, _ => False)
    {d most top r : Nat} (hle : most ≤ top) (h : bound x' (ev env) d most = some r) (code : BoundsCode) :
    (match x.map a.eval with | some v => Instr.sliceBound v top code | none => pure d).run P w = .ok r w := by
  cases x with
  | none =>
    cases x' with
    | none => simp only [bound, Option.some.injEq] at h; subst h; rfl
    | some _ => exact hx.elim
  | some y =>
    cases x' with
    | none => exact hx.elim
    | some y' =>
      have e := opd_rep he hx
      simp only [bound] at h
      split at h
      · rename_i k i hi
        rw [hi] at e
        split at h
        · rename_i hc
          simp only [Option.some.injEq] at h
          subst h
          have hc2 : 0 ≤ i ∧ i ≤ (top : Int) := ⟨hc.1, by omega⟩
          simp [rep_int e, Instr.sliceBound, asIntOf, hc2]
        · cases h
      · cases h

theorem bound_le {x' : Option Opd} {d most r : Nat} (hd : d ≤ most) (h : bound x' (ev env) d most = some r) : r ≤ most := by
  unfold bound at h
  split at h
  · simp only [Option.some.injEq] at h; omega
  · split at h
    · split at h
      · rename_i hc; simp only [Option.some.injEq] at h; omega
      · cases h
    · cases h

def okOpt (N : Nat) : Option Operand → Option Opd → Prop
  | none, none => True
  | some y, some y' => okOpd N y y' = true
  | _, _ => False

theorem bounds_run (he : EnvR w fz mem ρ env a) {lo hi : Option Operand} {lo' hi' : Option Opd} (hlo : okOpt a.tmps.size lo lo') (hhi : okOpt a.tmps.size hi hi') (isSlice : Bool) {n cap h l : Nat} (hn : n ≤ cap)
    (h1 : bound hi' (ev env) n n = some h) (h2 : bound lo' (ev env) 0 h = some l) : (Instr.sliceBounds isSlice n cap (lo.map a.eval) (hi.map a.eval) none).run P w = .ok (l, h, cap) w := by
  unfold Instr.sliceBounds
  have e1 := bound_run (P := P) (w := w) he (x := hi) (x' := hi') (by cases hi <;> cases hi' <;> exact hhi) hn h1 (if isSlice then .sliceAcap else .sliceAlen)
  have e2 := bound_run (P := P) (w := w) he (x := lo) (x' := lo') (by cases lo <;> cases lo' <;> exact hlo) (Nat.le_refl h) h2 .sliceB
  cases hi <;> cases lo <;> simp only [Option.map_none, Option.map_some] at e1 e2 ⊢ <;> simp_all

theorem sliceAt_run {t elem : TypeId} {i : TypeInfo} (ht : P.underlying t = some (.slice elem)) (hi : P.info? elem = some i) {A : Option Addr} {n cap h l : Nat} {lo hi' : Option Value}
    (hb : (Instr.sliceBounds true n cap lo hi' none).run P w = .ok (l, h, cap) w) :
    (Instr.sliceAt t (.slice A n cap) lo hi' none).run P w = .ok (.slice (if cap = l then A else A.map (·.add (l * i.size))) (h - l) (cap - l)) w := by
  simp [Instr.sliceAt, Instr.slice, run_underlying ht, hb, sizeOf, typeInfo, hi]

theorem op_scut (he : EnvR w fz mem ρ env a) {t : TypeId} {x : Operand} {x' : Opd} {lo hi : Option Operand} {lo' hi' : Option Opd} (ho : o.op = .slice t x lo hi none) (hx : okOpd a.tmps.size x x' = true)
    (hlo : okOpt a.tmps.size lo lo') (hhi : okOpt a.tmps.size hi hi') (hu : P.underlying t = some .string) {v : AV} {m : List AObj} (h : evalOp mem (ev env) (.scut x' lo' hi') = some (v, m)) : m = mem ∧ PureOut P o a w fz mem ρ v := by
  have e1 := opd_rep he hx
  simp only [evalOp] at h
  split at h
  · rename_i s hs
    rw [hs] at e1
    obtain ⟨hh, g1, h⟩ := Option.bind_eq_some_iff.1 h
    obtain ⟨l, g2, h⟩ := Option.bind_eq_some_iff.1 h
    simp only [Option.some.injEq, Prod.mk.injEq] at h
    obtain ⟨rfl, rfl⟩ := h
    have hb := bounds_run (P := P) (w := w) he hlo hhi false (Nat.le_refl _) g1 g2
    exact ⟨rfl, _, by simp [execOp, ho, rep_str e1, Instr.sliceAt, Instr.slice, run_underlying hu, hb], .gr .str⟩
  · cases h

theorem op_cut (hm : Mem w fz mem ρ) (he : EnvR w fz mem ρ env a) {t e : TypeId} {i : TypeInfo} {x : Operand} {x' : Opd} {lo hi : Option Operand} {lo' hi' : Option Opd} {sz : Nat} (ho : o.op = .slice t x lo hi none) (hx : okOpd a.tmps.size x x' = true)
    (hlo : okOpt a.tmps.size lo lo') (hhi : okOpt a.tmps.size hi hi') (hu : P.underlying t = some (.slice e)) (hi1 : P.info? e = some i) (hi2 : i.size = sz)
    {v : AV} {m : List AObj} (h : evalOp mem (ev env) (.cut sz x' lo' hi') = some (v, m)) : m = mem ∧ PureOut P o a w fz mem ρ v := by
  subst hi2
  have e1 := opd_rep he hx
  simp only [evalOp] at h
  obtain ⟨r, hcut, hr⟩ := Option.map_eq_some_iff.1 h
  clear h
  simp only [Prod.mk.injEq] at hr
  obtain ⟨rfl, rfl⟩ := hr
  refine ⟨rfl, ?_⟩
  have h := hcut
  clear hcut
  unfold cutOp at h
  split at h
  · rename_i n sz' cs hs
    rw [hs] at e1
    split at h
    · rename_i hsz
      subst hsz
      obtain ⟨hh, g1, h⟩ := Option.bind_eq_some_iff.1 h
      obtain ⟨l, g2, h⟩ := Option.bind_eq_some_iff.1 h
      simp only [Option.some.injEq] at h
      subst h
      have hhn := bound_le (Nat.le_refl _) g1
      have hlh := bound_le (Nat.zero_le _) g2
      obtain ⟨e2, A, cap, e3, hc⟩ := rep_sl e1
      have hb := bounds_run (P := P) (w := w) he hlo hhi true hc g1 g2
      have hrun := (show (execOp a.eval o).run P w = .ok (.value (.slice (if cap = l then A else A.map (fun z => z.add (l * i.size))) (hh - l) (cap - l))) w by
          simp only [execOp, ho, e3, Option.map_none, Sem.run_bind, sliceAt_run hu hi1 hb, Result.andThen_ok, Sem.run_pure])
      refine ⟨_, hrun, .gr ?_⟩
      rcases Nat.eq_zero_or_pos (hh - l) with h0 | h0
      · rw [h0, Nat.zero_mul, List.take_zero]; exact .sl0
      · rw [e3] at e2
        rcases rg_sl_inv e2 with ⟨rfl, _⟩ | ⟨b, q, cap', vs, hcase, k1, k2, k3, k4, k5, k6, k7, k8⟩
        · omega
        · simp only [Value.slice.injEq] at hcase
          obtain ⟨rfl, _, rfl⟩ := hcase
          rw [if_neg (by omega)]
          simp only [Option.map_some, addr_add]
          have hlen : l * i.size + (hh - l) * i.size ≤ cs.length := by rw [k3, ← Nat.add_mul]; exact Nat.mul_le_mul_right _ (by omega)
          refine .sl (vs := (vs.drop (l * i.size)).take ((hh - l) * i.size)) h0 (by omega) (by simp; omega) (by simp; omega) k5 (fun u hu => k6 u (List.mem_of_mem_drop (List.mem_of_mem_take hu))) (fun j u hu => ?_) (fun j c u hc' hu => ?_)
          · rw [List.getElem?_take] at hu
            split at hu
            · rw [List.getElem?_drop] at hu; rw [Nat.add_assoc]; exact k7 _ _ hu
            · cases hu
          · rw [List.getElem?_take] at hu hc'
            split at hu
            · rename_i hj
              rw [if_pos hj, List.getElem?_drop] at hc'
              rw [List.getElem?_drop] at hu
              exact k8 _ c u hc' hu
            · cases hu
    · cases h
  · rename_i n g hs
    rw [hs] at e1
    split at h
    · rename_i ob hob
      split at h
      · rename_i hc
        obtain ⟨hsz, hbox⟩ := hc
        obtain ⟨hh, g1, h⟩ := Option.bind_eq_some_iff.1 h
        obtain ⟨l, g2, h⟩ := Option.bind_eq_some_iff.1 h
        simp only [Option.some.injEq] at h
        subst h
        have hhn := bound_le (Nat.le_refl _) g1
        have hlh := bound_le (Nat.zero_le _) g2
        obtain ⟨A, cap, e3, hc, hjunk⟩ := row_rep hm e1 (show rowOf mem (.arr n g) = some (ob.n, ob.sz, ob.cs) by simp only [rowOf, hob, hbox, Bool.false_eq_true, if_false])
        clear hjunk
        have hb := bounds_run (P := P) (w := w) he hlo hhi true hc g1 g2
        obtain ⟨k1, k2⟩ := geto_some hob
        obtain ⟨r1, r2⟩ := rep_arr e1 hob
        have hrun := (show (execOp a.eval o).run P w = .ok (.value (.slice (if cap = l then A else A.map (fun z => z.add (l * i.size))) (hh - l) (cap - l))) w by
            simp only [execOp, ho, e3, Option.map_none, Sem.run_bind, sliceAt_run hu hi1 hb, Result.andThen_ok, Sem.run_pure])
        refine ⟨_, hrun, .msl k1 (Nat.le_of_eq k2.symm) rfl (fun _ => ⟨by omega, _, _, rfl, by omega, fun hne => ?_⟩)⟩
        obtain ⟨vs, _, _, _, _, _, _, h8⟩ := hm.rowAt k1 r1
        obtain ⟨b, cap', e4, _, _⟩ := h8 (by omega)
        rw [e3] at e4
        simp only [Value.slice.injEq] at e4
        obtain ⟨rfl, _, rfl⟩ := e4
        refine ⟨b, ob.n, cap, by rw [r1, e3], ?_⟩
        rw [if_neg (by omega)]
        simp [addr_add, hsz]
      · cases h
    · cases h
  · rename_i n g off len hs
    rw [hs] at e1
    split at h
    · rename_i ob hob
      split at h
      · rename_i hc
        obtain ⟨hsz, hbox⟩ := hc
        obtain ⟨hh, g1, h⟩ := Option.bind_eq_some_iff.1 h
        obtain ⟨l, g2, h⟩ := Option.bind_eq_some_iff.1 h
        simp only [Option.some.injEq] at h
        subst h
        have hhn := bound_le (Nat.le_refl _) g1
        have hlh := bound_le (Nat.zero_le _) g2
        obtain ⟨r1, A, c', e3, hc, r4⟩ := rep_msl e1 hob
        have hb := bounds_run (P := P) (w := w) he hlo hhi true hc g1 g2
        obtain ⟨k1, k2⟩ := geto_some hob
        have hrun := (show (execOp a.eval o).run P w = .ok (.value (.slice (if c' = l then A else A.map (fun z => z.add (l * i.size))) (hh - l) (c' - l))) w by
            simp only [execOp, ho, e3, Option.map_none, Sem.run_bind, sliceAt_run hu hi1 hb, Result.andThen_ok, Sem.run_pure])
        refine ⟨_, hrun, .msl k1 (Nat.le_of_eq k2.symm) rfl (fun _ => ⟨by omega, _, _, rfl, by omega, fun hne => ?_⟩)⟩
        obtain ⟨b, q, cap, r5, rfl⟩ := r4 (by omega)
        refine ⟨b, q, cap, r5, ?_⟩
        rw [if_neg (by omega)]
        simp [addr_add, hsz, Nat.add_mul]
      · cases h
    · cases h
  · cases h

end
end Go.V
