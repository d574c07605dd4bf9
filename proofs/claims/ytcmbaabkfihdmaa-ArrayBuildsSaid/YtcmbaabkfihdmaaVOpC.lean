/- Operations that make or write memory. -/
import Derived.Test.YtcmbaabkfihdmaaVOpB
import Derived.Lib.ConvBytes
import Derived.Laws.OwnMore
set_option linter.unusedVariables false
set_option linter.unusedSimpArgs false
namespace Go.V
open Go

def MemOut (P : Program) (o : Oper) (a : Act) (w : World) (fz : Nat → Prop) (mem : List AObj) (ρ : List Value) (v : AV) (m : List AObj) : Prop :=
  ∃ u w' fz' ρ', ((execOp a.eval o).run P w = .ok (.value u) w' ∨ ((execOp a.eval o).run P w = .ok .skip w' ∧ u = undef)) ∧
    Ext w fz mem ρ w' fz' m ρ' ∧ Mem w' fz' m ρ' ∧ Rep w' fz' m ρ' v u

section
variable {P : Program} {w : World} {fz : Nat → Prop} {mem : List AObj} {ρ : List Value} {env : Env} {a : Act} {o : Oper}

theorem memOut_of (hm : Mem w fz mem ρ) {v : AV} (h : PureOut P o a w fz mem ρ v) : MemOut P o a w fz mem ρ v mem := by
  obtain ⟨u, h1, h2⟩ := h
  exact ⟨u, w, fz, ρ, .inl h1, Ext.refl, hm, h2⟩

theorem rep_nilsl {ty sz : Nat} {v : Value} (h : Rep w fz mem ρ (.nilsl ty sz) v) : v = .slice none 0 0 ∧ 0 < sz := by
  cases h with | gr h => cases h with | nilsl h => exact ⟨rfl, h⟩

theorem pushNil (hm : Mem w fz mem ρ) (ty sz : Nat) (hsz : 0 < sz) :
    Ext w fz mem ρ w fz (mem ++ [⟨false, ty, sz, 0, 0, [], false⟩]) (ρ ++ [.slice none 0 0]) ∧ Mem w fz (mem ++ [⟨false, ty, sz, 0, 0, [], false⟩]) (ρ ++ [.slice none 0 0]) ∧
    Rep w fz (mem ++ [⟨false, ty, sz, 0, 0, [], false⟩]) (ρ ++ [.slice none 0 0]) (.arr mem.length 0) (.slice none 0 0) := by
  obtain ⟨h1, h2⟩ := hm.push (Old.refl w) ⟨false, ty, sz, 0, 0, [], false⟩ (.slice none 0 0) rfl hsz (fun b hb => by simp [Value.ownBlock] at hb)
    ⟨[], World.ownsRow_nil w 0 ty sz, rfl, fun u hu => (by simp at hu), fun j c u hc => (by simp at hc)⟩
  refine ⟨h1, h2, .arr (o := ⟨false, ty, sz, 0, 0, [], false⟩) (by simp) (Nat.le_refl _) rfl (fun _ => ?_)⟩
  rw [← hm.len]
  simp

theorem op_newnil (hm : Mem w fz mem ρ) (he : EnvR w fz mem ρ env a) {x : Operand} {ty sz : Nat} (ho : o.op = .move x ∨ o.op = .assign x) (h : okOpd a.tmps.size x (.k (.nilsl ty sz)) = true) :
    MemOut P o a w fz mem ρ (.arr mem.length 0) (mem ++ [⟨false, ty, sz, 0, 0, [], false⟩]) := by
  have e := opd_rep he h
  simp only [ev] at e
  obtain ⟨h1, h2⟩ := rep_nilsl e
  obtain ⟨h3, h4, h5⟩ := pushNil hm ty sz h2
  exact ⟨_, w, fz, _, .inl (by rcases ho with ho | ho <;> simp [execOp, ho, h1]), h3, h4, h5⟩

/-- Nil slices on their way into a box. -/
theorem adopt_spec : ∀ (cs : List AV) {mem : List AObj} {ρ : List Value}, Mem w fz mem ρ → ∀ (vs : List Value), vs.length = cs.length → (∀ (j : Nat) (c : AV) (u : Value), cs[j]? = some c → vs[j]? = some u → Rep w fz mem ρ c u) →
    ∃ ρ', Ext w fz mem ρ w fz (adopt cs mem).2 ρ' ∧ Mem w fz (adopt cs mem).2 ρ' ∧ (adopt cs mem).1.length = cs.length ∧
      (∀ (j : Nat) (c : AV) (u : Value), (adopt cs mem).1[j]? = some c → vs[j]? = some u → Rep w fz (adopt cs mem).2 ρ' c u)
  | [], mem, ρ, hm, vs, hl, hr => ⟨ρ, Ext.refl, hm, rfl, fun j c u hc => by simp [adopt] at hc⟩
  | c :: cs, mem, ρ, hm, vs, hl, hr => by
    match vs, hl with
    | v :: vs, hl =>
      have hl' : vs.length = cs.length := by simpa using hl
      by_cases hn : ∃ ty sz, c = .nilsl ty sz
      · obtain ⟨ty, sz, rfl⟩ := hn
        obtain ⟨h1, h2⟩ := rep_nilsl (hr 0 _ v rfl rfl)
        obtain ⟨h3, h4, h5⟩ := pushNil hm ty sz h2
        obtain ⟨ρ', g1, g2, g3, g4⟩ := adopt_spec cs h4 vs hl' (fun j c u hc hu => (hr (j + 1) c u (by simpa using hc) (by simpa using hu)).ext h3)
        refine ⟨ρ', h3.trans g1, g2, by simp only [adopt, List.length_cons, g3], fun j c u hc hu => ?_⟩
        cases j with
        | zero =>
          simp only [adopt, List.getElem?_cons_zero, Option.some.injEq] at hc hu
          subst hc; subst hu
          rw [h1]
          exact h5.ext g1
        | succ j => simp only [adopt, List.getElem?_cons_succ] at hc hu; exact g4 j c u hc hu
      · obtain ⟨ρ', g1, g2, g3, g4⟩ := adopt_spec cs hm vs hl' (fun j c u hc hu => hr (j + 1) c u (by simpa using hc) (by simpa using hu))
        have ha : adopt (c :: cs) mem = (c :: (adopt cs mem).1, (adopt cs mem).2) := by
          cases c <;> first | rfl | exact absurd ⟨_, _, rfl⟩ hn
        rw [ha]
        refine ⟨ρ', g1, g2, by simp [g3], fun j d u hc hu => ?_⟩
        cases j with
        | zero =>
          simp only [List.getElem?_cons_zero, Option.some.injEq] at hc hu
          subst hc; subst hu
          exact (hr 0 _ _ rfl rfl).ext g1
        | succ j => simp only [List.getElem?_cons_succ] at hc hu; exact g4 j d u hc hu

/-- A new box. -/
theorem newBox (hm : Mem w fz mem ρ) (ty : Nat) {cs : List AV} {vs : Array Value} (hpos : 0 < cs.length) (hl : vs.size = cs.length) (h1 : ∀ u ∈ vs.toList, u.oneCell' = true) (hr : ∀ (j : Nat) (c : AV) (u : Value), cs[j]? = some c → vs[j]? = some u → Rep w fz mem ρ c u) :
    ∃ ρ', Ext w fz mem ρ (w.alloc (.cells vs ty)) fz ((adopt cs mem).2 ++ [⟨true, ty, cs.length, 0, 1, (adopt cs mem).1, false⟩]) ρ' ∧ Mem (w.alloc (.cells vs ty)) fz ((adopt cs mem).2 ++ [⟨true, ty, cs.length, 0, 1, (adopt cs mem).1, false⟩]) ρ' ∧
      Rep (w.alloc (.cells vs ty)) fz ((adopt cs mem).2 ++ [⟨true, ty, cs.length, 0, 1, (adopt cs mem).1, false⟩]) ρ' (.loc (adopt cs mem).2.length 0 0) (.pointer (some ⟨w.heap.size, 0, none⟩)) := by
  obtain ⟨ρ1, g1, g2, g3, g4⟩ := adopt_spec cs hm vs.toList (by simpa using hl) (fun j c u hc hu => hr j c u hc (by simpa using hu))
  obtain ⟨k1, k2⟩ := g2.push (Old.alloc w (.cells vs ty)) ⟨true, ty, cs.length, 0, 1, (adopt cs mem).1, false⟩ (.slice (some ⟨w.heap.size, 0, none⟩) 1 1) rfl hpos (fun b hb => by simp [Value.ownBlock] at hb; omega)
    ⟨vs.toList, World.ownsRow_lit w vs 1 (Nat.zero_le _) (by simp [maxLen]) (by simpa using hl), by simp [g3, hl], h1, fun j c u hc hu => by simpa using g4 j c u hc hu⟩
  refine ⟨_, g1.trans k1, k2, .loc (o := ⟨true, ty, cs.length, 0, 1, (adopt cs mem).1, false⟩) (by simp) (Nat.le_refl _) rfl (fun _ => ⟨w.heap.size, 1, 1, ?_, rfl⟩)⟩
  rw [← g2.len]
  simp

def okCells : List Value → List AV → Bool
  | [], [] => true
  | v :: vs, c :: cs => okCell v c && okCells vs cs
  | _, _ => false
theorem okCells_spec : ∀ {vs : List Value} {cs : List AV}, okCells vs cs = true → vs.length = cs.length ∧ (∀ u ∈ vs, u.oneCell' = true) ∧ ∀ (j : Nat) (c : AV) (u : Value), cs[j]? = some c → vs[j]? = some u → RG w fz c u
  | [], [], _ => ⟨rfl, fun u hu => (by simp at hu), fun j c u hc => by simp at hc⟩
  | v :: vs, c :: cs, h => by
    simp only [okCells, Bool.and_eq_true] at h
    obtain ⟨h1, h2, h3⟩ := okCells_spec h.2
    obtain ⟨h4, h5⟩ := okCell_rg (w := w) (fz := fz) h.1
    refine ⟨by simp [h1], fun u hu => ?_, fun j d u hd hu => ?_⟩
    · rcases List.mem_cons.1 hu with rfl | hu
      · exact h5
      · exact h2 u hu
    · cases j with
      | zero => simp at hd hu; subst hd; subst hu; exact h4
      | succ j => simp at hd hu; exact h3 j d u hd hu
  | [], _ :: _, h => by simp [okCells] at h
  | _ :: _, [], h => by simp [okCells] at h

theorem op_alloc (hm : Mem w fz mem ρ) {ty : TypeId} {cs : List AV} {i : TypeInfo} {z : Value} (ho : o.op = .alloc ty) (hi : P.info? ty = some i) (hz : i.zero = some z) (hc : okCells z.cells.toList cs = true) (hpos : 0 < cs.length)
    {v : AV} {m : List AObj} (h : evalOp mem (ev env) (.alloc ty cs) = some (v, m)) : MemOut P o a w fz mem ρ v m := by
  simp only [evalOp, Option.some.injEq, Prod.mk.injEq] at h
  obtain ⟨rfl, rfl⟩ := h
  obtain ⟨h1, h2, h3⟩ := okCells_spec (w := w) (fz := fz) hc
  obtain ⟨ρ', g1, g2, g3⟩ := newBox hm ty (vs := z.cells) hpos (by simpa using h1) h2 (fun j c u hc hu => .gr (h3 j c u hc (by simpa using hu)))
  refine ⟨_, _, fz, ρ', .inl ?_, g1, g2, g3⟩
  simp [execOp, ho, Instr.alloc, zeroValue, typeInfo, hi, hz, newVar, newRow]

theorem op_box (hm : Mem w fz mem ρ) (he : EnvR w fz mem ρ env a) {ty : TypeId} {n : Nat} {x : Operand} {x' : Opd} (ho : o.op = .box ty x) (hx : okOpd a.tmps.size x x' = true) (hn : 0 < n)
    {v : AV} {m : List AObj} (h : evalOp mem (ev env) (.box ty n x') = some (v, m)) : MemOut P o a w fz mem ρ v m := by
  have e1 := opd_rep he hx
  simp only [evalOp] at h
  split at h
  · rename_i cs hcs
    split at h
    · rename_i hl
      subst hl
      simp only [Option.some.injEq, Prod.mk.injEq] at h
      obtain ⟨rfl, rfl⟩ := h
      obtain ⟨h1, h2, h3⟩ := rep_cells e1 hcs
      obtain ⟨ρ', g1, g2, g3⟩ := newBox hm ty hn h1 h2 h3
      exact ⟨_, _, fz, ρ', .inl (by simp [execOp, ho, Instr.box, newVar, newRow]), g1, g2, g3⟩
    · cases h
  · cases h

/-! ### Parts put into a struct's cells -/
theorem fill_fold : ∀ (ds : List Value) (off i : Nat) (cells : Array Value), off + i + ds.length ≤ cells.size →
    ((ds.zipIdx i).foldl (fun cs (p : Value × Nat) => cs.setIfInBounds (off + p.2) p.1) cells).toList = cells.toList.take (off + i) ++ ds ++ cells.toList.drop (off + i + ds.length)
  | [], off, i, cells, h => by simp
  | d :: ds, off, i, cells, h => by
    simp only [List.zipIdx_cons, List.foldl_cons]
    rw [fill_fold ds off (i + 1) _ (by simp at h ⊢; omega)]
    have hlt : off + i < cells.toList.length := by simp at h ⊢; omega
    simp only [Array.toList_setIfInBounds, List.length_cons]
    rw [show off + (i + 1) = off + i + 1 from by omega]
    rw [List.take_set, List.drop_set]
    rw [if_pos (by omega)]
    rw [List.take_succ_eq_append_getElem hlt, List.set_append]
    simp only [List.length_take]
    rw [if_neg (by omega)]
    rw [show off + i - min (off + i) cells.toList.length = 0 from by omega]
    simp only [List.set_cons_zero, List.append_assoc, List.cons_append, List.nil_append]
    rw [show off + i + 1 + ds.length = off + i + (ds.length + 1) from by omega]

theorem fill_step (v : Value) (off : Nat) (cells : Array Value) (h : off + v.cells.size ≤ cells.size) :
    (v.cells.zipIdx.foldl (fun cs (x : Value × Nat) => cs.setIfInBounds (off + x.2) x.1) cells).toList = cells.toList.take off ++ v.cells.toList ++ cells.toList.drop (off + v.cells.size) := by
  have := fill_fold v.cells.toList off 0 cells (by simpa using h)
  simp only [Nat.add_zero, Array.length_toList] at this
  rw [← this, ← Array.foldl_toList, Array.toList_zipIdx]

theorem fillIn_get {α : Type} {xs ds : List α} {i j : Nat} (h : i + ds.length ≤ xs.length) : (xs.take i ++ ds ++ xs.drop (i + ds.length))[j]? = if j < i then xs[j]? else if j < i + ds.length then ds[j - i]? else xs[j]? := by
  rw [List.append_assoc, List.getElem?_append]
  simp only [List.length_take, show min i xs.length = i from by omega]
  split
  · rw [List.getElem?_take]; simp [*]
  · rw [List.getElem?_append]
    split
    · rw [if_pos (by omega)]
    · rw [if_neg (by omega), List.getElem?_drop]
      congr 1
      omega

/-! ### Structs and slices out of parts -/
def okPart (P : Program) (N : Nat) (fs : Array Field) (p : Nat × Operand) (q : Nat × Nat × Opd) : Bool :=
  okOpd N p.2 q.2.2 && (match fs[p.1]? with
    | some f => f.offset == q.1 && (match P.info? f.type with | some i => i.size == q.2.1 | none => false)
    | none => false)
def okParts (P : Program) (N : Nat) (fs : Array Field) : List (Nat × Operand) → List (Nat × Nat × Opd) → Bool
  | [], [] => true
  | p :: ps, q :: qs => okPart P N fs p q && okParts P N fs ps qs
  | _, _ => false

def placesOf (P : Program) (fs : Array Field) : Array (Nat × Nat) := fs.map fun f => (f.offset, P.cellsOf f.type)

def placeOf (f : Field) : Sem (Nat × Nat) := do pure (f.offset, ← sizeOf f.type)
theorem placeOf_run {f : Field} (hf : (P.info? f.type).isSome = true) : (placeOf f).run P w = .ok (f.offset, P.cellsOf f.type) w := by
  obtain ⟨i, hi⟩ := Option.isSome_iff_exists.1 hf
  simp [placeOf, sizeOf, typeInfo, hi, Program.cellsOf]
theorem placesL_run : ∀ (l : List Field), (l.all (fun (f : Field) => (P.info? f.type).isSome) = true) → (l.mapM placeOf).run P w = .ok (l.map fun (f : Field) => (f.offset, P.cellsOf f.type)) w
  | [], _ => rfl
  | f :: l, h => by
    simp only [List.all_cons, Bool.and_eq_true] at h
    simp only [List.mapM_cons, Sem.run_bind, placeOf_run h.1, placesL_run l h.2, Result.andThen_ok, Sem.run_pure, List.map_cons]
theorem places_run (fs : Array Field) (hf : fs.all (fun (f : Field) => (P.info? f.type).isSome) = true) : (fs.mapM placeOf).run P w = .ok (placesOf P fs) w := by
  have := placesL_run (P := P) (w := w) fs.toList (by rw [Array.all_toList]; exact hf)
  rw [Array.mapM_eq_mapM_toList]
  simp only [Sem.run_map, this, Result.andThen_ok, placesOf]
  congr 1
  apply Array.toList_inj.1
  simp

theorem fill_spec (he : EnvR w fz mem ρ env a) {fs : Array Field} (hf : fs.all (fun f => (P.info? f.type).isSome) = true) : ∀ {ps : List (Nat × Operand)} {qs : List (Nat × Nat × Opd)} {cells : Array Value} {cs cs' : List AV},
    okParts P a.tmps.size fs ps qs = true → cells.size = cs.length → (∀ u ∈ cells.toList, u.oneCell' = true) → (∀ (j : Nat) (c : AV) (u : Value), cs[j]? = some c → cells[j]? = some u → Rep w fz mem ρ c u) → fillAll qs (ev env) cs = some cs' →
    ∃ cells' : Array Value, Instr.fill ((placesOf P fs)[·]?) cells (ps.map fun p => (p.1, a.eval p.2)) = some cells' ∧ cells'.size = cs'.length ∧ (∀ u ∈ cells'.toList, u.oneCell' = true) ∧ (∀ (j : Nat) (c : AV) (u : Value), cs'[j]? = some c → cells'[j]? = some u → Rep w fz mem ρ c u)
  | [], [], cells, cs, cs', _, hl, h1, hr, h => by
    simp only [fillAll, Option.some.injEq] at h
    subst h
    exact ⟨cells, rfl, hl, h1, hr⟩
  | (k, x) :: ps, (off, n, y) :: qs, cells, cs, cs', hp, hl, h1, hr, h => by
    simp only [okParts, okPart, Bool.and_eq_true] at hp
    obtain ⟨⟨hx, hk⟩, hps⟩ := hp
    split at hk
    · rename_i f hfk
      simp only [Bool.and_eq_true, beq_iff_eq] at hk
      obtain ⟨rfl, hk⟩ := hk
      split at hk
      · rename_i i hi
        simp only [beq_iff_eq] at hk
        subst hk
        simp only [fillAll] at h
        split at h
        · rename_i ds hds
          split at h
          · rename_i hc
            obtain ⟨hdl, hle⟩ := hc
            obtain ⟨g1, g2, g3⟩ := rep_cells (opd_rep he hx) hds
            have hplace : (placesOf P fs)[k]? = some (f.offset, i.size) := by simp [placesOf, hfk, Program.cellsOf, hi]
            have hstep := fill_step (a.eval x) f.offset cells (by rw [g1, hdl, hl]; exact hle)
            have hsz : (a.eval x).cells.size = i.size := by rw [g1, hdl]
            generalize hnew : (a.eval x).cells.zipIdx.foldl (fun cs (p : Value × Nat) => cs.setIfInBounds (f.offset + p.2) p.1) cells = cells2 at hstep
            have hlen2 : cells2.size = (fillIn cs f.offset ds).length := by
              have := congrArg List.length hstep
              simp only [Array.length_toList, List.length_append, List.length_take, List.length_drop] at this
              simp only [fillIn, List.length_append, List.length_take, List.length_drop]
              omega
            obtain ⟨cells', k1, k2, k3, k4⟩ := fill_spec (cells := cells2) he hf hps hlen2 (fun u hu => by
                rw [hstep] at hu
                rcases List.mem_append.1 hu with hu | hu
                · rcases List.mem_append.1 hu with hu | hu
                  · exact h1 u (List.mem_of_mem_take hu)
                  · exact g2 u hu
                · exact h1 u (List.mem_of_mem_drop hu))
              (fun j c u hc hu => by
                have hu' : cells2.toList[j]? = some u := by simpa using hu
                rw [hstep, ← Array.length_toList, fillIn_get (by simp; omega)] at hu'
                unfold fillIn at hc
                rw [fillIn_get (by omega)] at hc
                simp only [Array.length_toList] at hu'
                split at hu'
                · rename_i hj; rw [if_pos hj] at hc; exact hr j c u hc (by simpa using hu')
                · rename_i hj
                  rw [if_neg hj] at hc
                  split at hu'
                  · rename_i hj2; rw [if_pos (by omega)] at hc; exact g3 _ c u hc (by simpa using hu')
                  · rename_i hj2; rw [if_neg (by omega)] at hc; exact hr j c u hc (by simpa using hu')) h
            refine ⟨cells', ?_, k2, k3, k4⟩
            simp only [List.map_cons, Instr.fill, hplace]
            rw [if_neg (by simp [hsz]; omega)]
            rw [hnew]
            exact k1
          · cases h
        · cases h
      · cases hk
    · cases hk
  | [], _ :: _, _, _, _, hp, _, _, _, _ => by simp [okParts] at hp
  | _ :: _, [], _, _, _, hp, _, _, _, _ => by simp [okParts] at hp

theorem op_build (he : EnvR w fz mem ρ env a) {t : TypeId} {ps : Array (Nat × Operand)} {zero : List AV} {qs : List (Nat × Nat × Opd)} {fs : Array Field} {i : TypeInfo} {z : Value} (ho : o.op = .build t ps) (hu : P.underlying t = some (.struct fs))
    (hi : P.info? t = some i) (hz : i.zero = some z) (hc : okCells z.cells.toList zero = true) (hf : fs.all (fun f => (P.info? f.type).isSome) = true) (hp : okParts P a.tmps.size fs ps.toList qs = true)
    {v : AV} {m : List AObj} (h : evalOp mem (ev env) (.build zero qs) = some (v, m)) : m = mem ∧ PureOut P o a w fz mem ρ v := by
  simp only [evalOp] at h
  obtain ⟨cs', hfa, hr⟩ := Option.map_eq_some_iff.1 h
  simp only [Prod.mk.injEq] at hr
  obtain ⟨rfl, rfl⟩ := hr
  obtain ⟨h1, h2, h3⟩ := okCells_spec (w := w) (fz := fz) hc
  obtain ⟨cells', k1, k2, k3, k4⟩ := fill_spec (P := P) (cells := z.cells) he hf hp (by simpa using h1) h2 (fun j c u hc hu => .gr (h3 j c u hc (by simpa using hu))) hfa
  have hpl : (fs.mapM fun (f : Field) => (do pure (f.offset, ← sizeOf f.type) : Sem (Nat × Nat))).run P w = .ok (placesOf P fs) w := places_run fs hf
  refine ⟨rfl, .agg cells', ?_, .agg k2 (fun j u hu => k3 u (by simpa using Array.mem_of_getElem? hu)) k4⟩
  have hmap : (ps.map fun p => (p.1, a.eval p.2)).toList = ps.toList.map fun p => (p.1, a.eval p.2) := by simp
  simp only [execOp, ho, Instr.build, Sem.run_bind, zeroValue, typeInfo, run_program, hi, hz, Result.andThen_ok, Sem.run_pure, run_underlying hu, hpl, hmap, k1]

end
end Go.V
