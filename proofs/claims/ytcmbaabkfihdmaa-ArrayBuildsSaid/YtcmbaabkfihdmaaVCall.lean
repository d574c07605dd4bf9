/- Calls. -/
import Derived.Test.YtcmbaabkfihdmaaVOpD
set_option linter.unusedVariables false
set_option linter.unusedSimpArgs false
namespace Go.V
open Go

/-- What a call is shown to do in the model. -/
def CallS (P : Program) (f : Nat) (as : List AV) (mem : List AObj) (r : AV) (mem' : List AObj) : Prop :=
  ∀ (w : World) (fz : Nat → Prop) (ρ : List Value) (vals : Array Value), Mem w fz mem ρ → vals.size = as.length → (∀ (j : Nat) (c : AV) (u : Value), as[j]? = some c → vals[j]? = some u → Rep w fz mem ρ c u) →
    Calls P f vals w fun e w' => ∃ v fz' ρ', e = .returned v ∧ Ext w fz mem ρ w' fz' mem' ρ' ∧ Mem w' fz' mem' ρ' ∧ Rep w' fz' mem' ρ' r v

/-- What an operation is shown to do. -/
def OpS (P : Program) (o : Oper) (a : Act) (w : World) (fz : Nat → Prop) (mem : List AObj) (ρ : List Value) (v : AV) (m : List AObj) : Prop :=
  ∀ (next : Act → World → Prop) (Q : Exit → Act → World → Prop), (∀ u w' fz' ρ', Ext w fz mem ρ w' fz' m ρ' → Mem w' fz' m ρ' → Rep w' fz' m ρ' v u → next (a.put o.dst u) w') → o.wp P a w next Q

section
variable {P : Program} {w : World} {fz : Nat → Prop} {mem : List AObj} {ρ : List Value} {env : Env} {a : Act} {o : Oper}

theorem opS_of {v : AV} {m : List AObj} (h : MemOut P o a w fz mem ρ v m) : OpS P o a w fz mem ρ v m := by
  intro next Q hn
  obtain ⟨u, w', fz', ρ', h1, h2, h3, h4⟩ := h
  unfold Oper.wp
  rcases h1 with h1 | ⟨h1, rfl⟩
  · rw [h1]; exact hn u w' fz' ρ' h2 h3 h4
  · rw [h1]; exact hn _ w' fz' ρ' h2 h3 h4

theorem snap_nil {w : World} {fz : Nat → Prop} {mem : List AObj} {ρ : List Value} : ∀ (k : Nat),
    (∀ (a a' : AV) (v : Value), snap [] k a = some a' → Rep w fz mem ρ a v → RG w fz a' v) ∧
    (∀ (box : Bool) (cs cs' : List AV), snapL [] k box cs = some cs' →
      cs'.length = cs.length ∧ ∀ (j : Nat) (c' : AV) (u : Value), cs'[j]? = some c' → (∀ c, cs[j]? = some c → if box then Rep w fz mem ρ c u else RG w fz c u) → RG w fz c' u) := by
  intro k
  induction k with
  | zero => exact ⟨fun a a' v h => by simp [snap] at h, fun box cs cs' h => by simp [snapL] at h⟩
  | succ k ih =>
    obtain ⟨ih1, ih2⟩ := ih
    refine ⟨fun a a' v h hr => ?_, fun box cs cs' h => ?_⟩
    · cases a with
      | any => simp only [snap, Option.some.injEq] at h; subst h; exact .any
      | int => simp only [snap, Option.some.injEq] at h; subst h; cases hr with | gr h => exact h
      | bool => simp only [snap, Option.some.injEq] at h; subst h; cases hr with | gr h => exact h
      | str => simp only [snap, Option.some.injEq] at h; subst h; cases hr with | gr h => exact h
      | sl => simp only [snap, Option.some.injEq] at h; subst h; cases hr with | gr h => exact h
      | ptr => simp only [snap, Option.some.injEq] at h; subst h; cases hr with | gr h => exact h
      | nilptr => simp only [snap, Option.some.injEq] at h; subst h; cases hr with | gr h => exact h
      | nilsl ty sz => simp only [snap, Option.some.injEq] at h; subst h; cases hr with | gr h => cases h; exact .sl0
      | loc n g i => simp [snap, geto] at h
      | arr n g => simp [snap, geto] at h
      | msl n g off len => simp [snap, geto] at h
      | agg cs =>
        simp only [snap] at h
        obtain ⟨cs', hs, rfl⟩ := Option.map_eq_some_iff.1 h
        obtain ⟨vs, rfl, h1, h2, h3⟩ := rg_agg_rep hr
        obtain ⟨h9, h10⟩ := ih2 true cs cs' hs
        exact .agg (by rw [h9, h1]) h2 (fun j c' u hc hu => h10 j c' u hc (fun c hc2 => by simpa using h3 j c u hc2 hu))
      | tup cs =>
        simp only [snap] at h
        obtain ⟨cs', hs, rfl⟩ := Option.map_eq_some_iff.1 h
        obtain ⟨vs, rfl, h1, h3⟩ := rg_tup_rep hr
        obtain ⟨h9, h10⟩ := ih2 true cs cs' hs
        exact .tup (by rw [h9, h1]) (fun j c' u hc hu => h10 j c' u hc (fun c hc2 => by simpa using h3 j c u hc2 hu))
      | fn f cs =>
        simp only [snap] at h
        obtain ⟨cs', hs, rfl⟩ := Option.map_eq_some_iff.1 h
        obtain ⟨vs, rfl, h1, h3⟩ := rg_fn_rep hr
        obtain ⟨h9, h10⟩ := ih2 true cs cs' hs
        exact .fn (by rw [h9, h1]) (fun j c' u hc hu => h10 j c' u hc (fun c hc2 => by simpa using h3 j c u hc2 hu))
    · cases box with
      | false =>
        simp only [snapL, Option.some.injEq] at h
        subst h
        exact ⟨rfl, fun j c' u hc hh => by simpa using hh c' hc⟩
      | true =>
        simp only [snapL] at h
        obtain ⟨h1, h2⟩ := mapM_spec h
        refine ⟨h1, fun j c' u hc hh => ?_⟩
        obtain ⟨c, h3, h4⟩ := h2 j c' hc
        exact ih1 c c' u h4 (by simpa using hh c h3)

/-- Scalars are the same in every world. -/
theorem scalar_rg {c : AV} (hs : scalar c = true) {w w' : World} {fz fz' : Nat → Prop} {v : Value} (h : RG w fz c v) : RG w' fz' c v := by
  cases c <;> simp [scalar] at hs <;> cases h
  · exact .int
  · exact .bool
  · exact .str
theorem scalars_rg {c : AV} (hs : scalars c = true) {w w' : World} {fz fz' : Nat → Prop} {v : Value} (h : RG w fz c v) : RG w' fz' c v := by
  cases c with
  | agg cs =>
    simp only [scalars, List.all_eq_true] at hs
    cases h with | agg h1 h2 h3 => exact .agg h1 h2 (fun j c u hc hu => scalar_rg (hs c (List.mem_of_getElem? hc)) (h3 j c u hc hu))
  | tup cs =>
    simp only [scalars, List.all_eq_true] at hs
    cases h with
    | tup h1 h3 =>
      refine .tup h1 (fun j c u hc hu => ?_)
      have h4 := hs c (List.mem_of_getElem? hc)
      have h5 := h3 j c u hc hu
      cases c with
      | agg ds =>
        simp only [List.all_eq_true] at h4
        cases h5 with | agg g1 g2 g3 => exact .agg g1 g2 (fun j c u hc hu => scalar_rg (h4 c (List.mem_of_getElem? hc)) (g3 j c u hc hu))
      | _ => exact scalar_rg h4 h5
  | _ => exact scalar_rg (by simpa [scalars] using hs) h

/-- A callee that is handed nothing of the caller's objects. -/
theorem Mem.nil (hm : Mem w fz mem ρ) {fz2 : Nat → Prop} (hl : ∀ b, fz2 b → b < w.heap.size) : Mem w fz2 [] [] :=
  ⟨rfl, fun n o v h => by simp at h, fun n m u v b _ h => by simp at h, hl⟩

theorem Mem.called {w' : World} {fz' : Nat → Prop} {mem' : List AObj} {ρ' : List Value} (hm : Mem w fz mem ρ) (he : Ext w fz [] [] w' fz' mem' ρ') (hm' : Mem w' fz' mem' ρ') : Ext w fz mem ρ w' fz' mem ρ ∧ Mem w' fz' mem ρ := by
  have hnew : ∀ b, fz' b → fz b ∨ w.heap.size ≤ b := fun b hb => by
    rcases he.new b hb with h | h | ⟨n, v, h, _⟩
    · exact .inl h
    · exact .inr h
    · simp at h
  have hblk : ∀ b, b < w.heap.size → w'.heap[b]? = w.heap[b]? := fun b hb => he.blk b hb (fun n v h => by simp at h)
  have hext : Ext w fz mem ρ w' fz' mem ρ := ⟨he.os, he.tape, he.output, he.size, fun b hb _ => hblk b hb, he.fzblk, he.sub, fun b hb => by
      rcases hnew b hb with h | h
      · exact .inl h
      · exact .inr (.inl h), fun n o h => ⟨o, h, Nat.le_refl _, fun _ => ⟨rfl, rfl⟩, rfl, rfl⟩, fun n v b h h' => .inl ⟨n, v, h, h'⟩⟩
  refine ⟨hext, hm.len, fun n ob u hob hu => ?_, hm.apart, hm'.lt⟩
  obtain ⟨h1, ⟨vs, h2, h3, h4, h5⟩, h6, h7⟩ := hm.obj n ob u hob hu
  refine ⟨h1, ⟨vs, ownsRow_old hblk h2, h3, h4, fun j c x hc hx => ?_⟩, fun h b hb => he.sub b (h6 h b hb), fun h b hb hf => ?_⟩
  · have := h5 j c x hc hx
    split at this
    · rename_i hb; rw [if_pos hb]; exact this.ext hext
    · rename_i hb; rw [if_neg hb]; exact this.mono hext.fzblk hext.sub
  · rcases hnew b hf with h8 | h8
    · exact h7 h b hb h8
    · have := ownBlock_lt h2 hb; omega

/-- Is it a function with a body, and not a name that the model answers by itself? -/
def okFn (P : Program) (f : Nat) : Bool :=
  match P.funcs[f]? with
  | some fn => fn.body.isSome && !(fn.name == "runtime.NumGoroutine")
  | none => false
theorem callFunc_run {f : Nat} (hf : okFn P f = true) (args : Array Value) : (callFunc f args).run P w = .ok (.enter f args) w := by
  unfold okFn at hf
  split at hf
  · rename_i fn hfn
    simp only [Bool.and_eq_true, Bool.not_eq_true'] at hf
    obtain ⟨h1, h2⟩ := hf
    have h3 : fn.body.isNone = false := by cases hb : fn.body <;> simp_all
    simp only [callFunc, Sem.run_bind, run_program, Result.andThen_ok, hfn, h2, h3, Bool.false_eq_true, if_false, Sem.run_pure]
  · cases hf

theorem opS_call {f : Nat} {args : Array Value} (hrun : (execOp a.eval o).run P w = .ok (.enter f args) w) {v : AV} {m : List AObj}
    (hc : Calls P f args w fun e w' => ∃ u fz' ρ', e = .returned u ∧ Ext w fz mem ρ w' fz' m ρ' ∧ Mem w' fz' m ρ' ∧ Rep w' fz' m ρ' v u) : OpS P o a w fz mem ρ v m := by
  intro next Q hn
  unfold Oper.wp
  rw [hrun]
  refine Calls.mono hc (fun e w' h => ?_)
  obtain ⟨u, fz', ρ', rfl, h1, h2, h3⟩ := h
  exact hn u w' fz' ρ' h1 h2 h3

theorem static_run {f : Nat} {xs : Array Operand} {ts : Array TypeId} (ho : o.op = .call ⟨.value (.func f), xs, ts⟩) (hf : okFn P f = true) : (execOp a.eval o).run P w = .ok (.enter f (xs.map a.eval)) w := by
  simp only [execOp, ho, resolve, Act.eval, Deferred.ofValue, Sem.run_bind, Sem.run_pure, Result.andThen_ok, invoke]
  rw [callFunc_run hf]
  simp

theorem args_size {xs : Array Operand} {ys : List Opd} (he : EnvR w fz mem ρ env a) (hx : okOpds a.tmps.size xs.toList ys = true) : (xs.map a.eval).size = ys.length := by
  have := (opds_rep he hx).1
  simpa using this

theorem args_get {xs : Array Operand} {ys : List Opd} (he : EnvR w fz mem ρ env a) (hx : okOpds a.tmps.size xs.toList ys = true) {j : Nat} {y : Opd} {u : Value} (hy : ys[j]? = some y) (hu : (xs.map a.eval)[j]? = some u) : Rep w fz mem ρ (ev env y) u := by
  obtain ⟨x, h1, h2⟩ := (opds_rep he hx).2 j y hy
  have : (xs.map a.eval)[j]? = some (a.eval x) := by
    rw [Array.getElem?_map]
    have : xs[j]? = some x := by simpa using h1
    rw [this]; rfl
  rw [this] at hu
  obtain rfl := Option.some.inj hu
  exact h2

/-- All objects' blocks as frozen ones: for the time of a call. -/
def frzAll (fz : Nat → Prop) (ρ : List Value) : Nat → Prop := fun b => fz b ∨ ∃ (n : Nat) (v : Value), ρ[n]? = some v ∧ v.ownBlock = some b

theorem rep_nil {w : World} {fz : Nat → Prop} {ρ : List Value} {c : AV} {v : Value} (h : Rep w fz [] ρ c v) : RG w fz c v := by
  induction h with
  | gr h => exact h
  | arr h => simp at h
  | loc h => simp at h
  | msl h => simp at h
  | agg h1 h2 _ ih => exact .agg h1 h2 ih
  | tup h1 _ ih => exact .tup h1 ih
  | fn h1 _ ih => exact .fn h1 ih

theorem op_callP (hm : Mem w fz mem ρ) (he : EnvR w fz mem ρ env a) {f : Nat} {xs : Array Operand} {ts : Array TypeId} {ys : List Opd} {as : List AV} {r : AV} (ho : o.op = .call ⟨.value (.func f), xs, ts⟩) (hf : okFn P f = true) (hx : okOpds a.tmps.size xs.toList ys = true)
    (hs : ys.mapM (fun y => snap [] 10 (ev env y)) = some as) (hc : CallS P f as [] r []) : OpS P o a w fz mem ρ r mem := by
  obtain ⟨h1, h2⟩ := mapM_spec hs
  refine opS_call (static_run ho hf) ((hc w fz [] (xs.map a.eval) (hm.nil hm.lt) (by rw [args_size he hx, h1]) (fun j c u hcj hu => ?_)).mono fun e w' h => ?_)
  · obtain ⟨y, hy, hsy⟩ := h2 j c hcj
    exact .gr ((snap_nil 10).1 _ c u hsy (args_get he hx hy hu))
  · obtain ⟨u, fz', ρ', rfl, e1, e2, e3⟩ := h
    obtain ⟨g1, g2⟩ := hm.called e1 e2
    exact ⟨u, fz', ρ, rfl, g1, g2, .gr (rep_nil e3)⟩

theorem frzAll_lt (hm : Mem w fz mem ρ) : ∀ b, frzAll fz ρ b → b < w.heap.size := by
  rintro b (h | ⟨n, v, h1, h2⟩)
  · exact hm.lt b h
  · exact hm.blk_lt h1 h2

/-- Behind a call whose answer is scalars: the caller's picture is as it was. -/
theorem back_scalar (hm : Mem w fz mem ρ) {w' : World} {fz2 fz' : Nat → Prop} {ρ' : List Value} (e1 : Ext w fz2 [] [] w' fz' [] ρ') : Ext w fz mem ρ w' fz mem ρ ∧ Mem w' fz mem ρ :=
  hm.old ⟨e1.os, e1.tape, e1.output, e1.size, fun b hb => e1.blk b hb (fun n v h => by simp at h)⟩

theorem op_callR (hm : Mem w fz mem ρ) (he : EnvR w fz mem ρ env a) {f : Nat} {xs : Array Operand} {ts : Array TypeId} {ys : List Opd} {as : List AV} {r : AV} (ho : o.op = .call ⟨.value (.func f), xs, ts⟩) (hf : okFn P f = true) (hx : okOpds a.tmps.size xs.toList ys = true)
    (hs : ys.mapM (fun y => snap mem 10 (ev env y)) = some as) (hc : CallS P f as [] r []) (hr : scalars r = true) : OpS P o a w fz mem ρ r mem := by
  obtain ⟨h1, h2⟩ := mapM_spec hs
  refine opS_call (static_run ho hf) ((hc w (frzAll fz ρ) [] (xs.map a.eval) (hm.nil (frzAll_lt hm)) (by rw [args_size he hx, h1]) (fun j c u hcj hu => ?_)).mono fun e w' h => ?_)
  · obtain ⟨y, hy, hsy⟩ := h2 j c hcj
    exact .gr ((snap_rg hm (fun b hb => .inl hb) 10).1 _ c u hsy (args_get he hx hy hu) (fun n _ u b hu hb => .inr ⟨n, u, hu, hb⟩))
  · obtain ⟨u, fz', ρ', rfl, e1, e2, e3⟩ := h
    obtain ⟨g1, g2⟩ := back_scalar hm e1
    exact ⟨u, fz, ρ, rfl, g1, g2, .gr (scalars_rg hr (rep_nil e3))⟩

theorem op_callF (hm : Mem w fz mem ρ) (he : EnvR w fz mem ρ env a) {f : Nat} {xs : Array Operand} {ts : Array TypeId} {ys : List Opd} {as : List AV} {r : AV} (ho : o.op = .call ⟨.value (.func f), xs, ts⟩) (hf : okFn P f = true) (hx : okOpds a.tmps.size xs.toList ys = true)
    (hs : ys.mapM (fun y => snap mem 10 (ev env y)) = some as) (hc : CallS P f as [] r []) : OpS P o a w fz mem ρ r (freeze (ys.flatMap fun y => refs mem 10 (ev env y)) mem) := by
  obtain ⟨h1, h2⟩ := mapM_spec hs
  obtain ⟨f1, f2⟩ := hm.freeze (ys.flatMap fun y => refs mem 10 (ev env y))
  refine opS_call (static_run ho hf) ((hc w (frzOf fz ρ (ys.flatMap fun y => refs mem 10 (ev env y))) [] (xs.map a.eval) (f2.nil f2.lt) (by rw [args_size he hx, h1]) (fun j c u hcj hu => ?_)).mono fun e w' h => ?_)
  · obtain ⟨y, hy, hsy⟩ := h2 j c hcj
    exact .gr ((snap_rg hm (fun b hb => .inl hb) 10).1 _ c u hsy (args_get he hx hy hu) (fun n hn u b hu hb => .inr ⟨n, List.mem_flatMap.2 ⟨y, List.mem_of_getElem? hy, hn⟩, u, hu, hb⟩))
  · obtain ⟨u, fz', ρ', rfl, e1, e2, e3⟩ := h
    obtain ⟨g1, g2⟩ := f2.called e1 e2
    exact ⟨u, fz', ρ, rfl, f1.trans g1, g2, .gr (rep_nil e3)⟩

theorem op_callM (hm : Mem w fz mem ρ) (he : EnvR w fz mem ρ env a) {f : Nat} {xs : Array Operand} {ts : Array TypeId} {ys : List Opd} {r : AV} {m : List AObj} (ho : o.op = .call ⟨.value (.func f), xs, ts⟩) (hf : okFn P f = true) (hx : okOpds a.tmps.size xs.toList ys = true)
    (hc : CallS P f (ys.map (ev env)) mem r m) : OpS P o a w fz mem ρ r m := by
  refine opS_call (static_run ho hf) (hc w fz ρ (xs.map a.eval) hm (by rw [args_size he hx, List.length_map]) (fun j c u hcj hu => ?_))
  rw [List.getElem?_map] at hcj
  obtain ⟨y, hy, rfl⟩ := Option.map_eq_some_iff.1 hcj
  exact args_get he hx hy hu

theorem op_callV (hm : Mem w fz mem ρ) (he : EnvR w fz mem ρ env a) {x : Operand} {x' : Opd} {f : Nat} {xs : Array Operand} {ts : Array TypeId} {ys : List Opd} {caps as bs : List AV} {r : AV} (ho : o.op = .call ⟨.value x, xs, ts⟩) (hxx : okOpd a.tmps.size x x' = true) (hx : okOpds a.tmps.size xs.toList ys = true)
    (hfn : ev env x' = .fn f caps) (hf : okFn P f = true) (hs : ys.mapM (fun y => snap mem 10 (ev env y)) = some as) (hb : caps.mapM (fun c => snap mem 10 c) = some bs) (hc : CallS P f (as ++ bs) [] r []) (hr : scalars r = true) : OpS P o a w fz mem ρ r mem := by
  obtain ⟨h1, h2⟩ := mapM_spec hs
  obtain ⟨h3, h4⟩ := mapM_spec hb
  have e1 := opd_rep he hxx
  rw [hfn] at e1
  obtain ⟨vs, hv, k1, k2⟩ := rg_fn_rep e1
  have hrun : (execOp a.eval o).run P w = .ok (.enter f (xs.map a.eval ++ vs)) w := by
    simp only [execOp, ho, resolve, hv, Deferred.ofValue, Sem.run_bind, Sem.run_pure, Result.andThen_ok, invoke]
    rw [callFunc_run hf]
    simp
  have hsz := args_size he hx
  refine opS_call hrun ((hc w (frzAll fz ρ) [] (xs.map a.eval ++ vs) (hm.nil (frzAll_lt hm)) (by rw [Array.size_append, hsz, List.length_append, h1, h3, k1]) (fun j c u hcj hu => ?_)).mono fun e w' h => ?_)
  · rw [List.getElem?_append] at hcj
    rw [Array.getElem?_append] at hu
    split at hu
    · rename_i hj
      rw [if_pos (by omega)] at hcj
      obtain ⟨y, hy, hsy⟩ := h2 j c hcj
      exact .gr ((snap_rg hm (fun b hb => .inl hb) 10).1 _ c u hsy (args_get he hx hy hu) (fun n _ u b hu hb => .inr ⟨n, u, hu, hb⟩))
    · rename_i hj
      rw [if_neg (by omega), h1, ← hsz] at hcj
      obtain ⟨d, hd, hsd⟩ := h4 _ c hcj
      exact .gr ((snap_rg hm (fun b hb => .inl hb) 10).1 _ c u hsd (k2 _ d u hd hu) (fun n _ u b hu hb => .inr ⟨n, u, hu, hb⟩))
  · obtain ⟨u, fz', ρ', rfl, e1, e2, e3⟩ := h
    obtain ⟨g1, g2⟩ := back_scalar hm e1
    exact ⟨u, fz, ρ, rfl, g1, g2, .gr (scalars_rg hr (rep_nil e3))⟩

/-! ### A result of the callee's own making -/
theorem shiftV_rep {w : World} {fz : Nat → Prop} {mem mem' : List AObj} {ρ ρ' : List Value} (hl : ρ.length = mem.length) {c : AV} {v : Value} (h : Rep w fz mem' ρ' c v) (hc : scalar c = true ∨ (∃ n g, c = .arr n g) ∨ ∃ n g i, c = .loc n g i) : Rep w fz (mem ++ mem'.map (shiftO mem.length)) (ρ ++ ρ') (shiftV mem.length c) v := by
  have key : ∀ {n : Nat} {o : AObj}, mem'[n]? = some o → (mem ++ mem'.map (shiftO mem.length))[n + mem.length]? = some (shiftO mem.length o) ∧ (shiftO mem.length o).g = o.g ∧ (ρ ++ ρ')[n + mem.length]? = ρ'[n]? := fun {n o} h => by
    refine ⟨by rw [List.getElem?_append_right (by omega), Nat.add_sub_cancel, List.getElem?_map, h]; rfl, by unfold shiftO; split <;> rfl, ?_⟩
    rw [List.getElem?_append_right (by omega), hl, Nat.add_sub_cancel]
  rcases hc with hc | ⟨n, g, rfl⟩ | ⟨n, g, i, rfl⟩
  · cases c <;> simp [scalar] at hc <;> cases h with | gr h => exact .gr (scalar_rg (by rfl) h)
  · cases h with
    | gr h => cases h
    | arr h1 h2 h3 h4 =>
      obtain ⟨k1, k2, k3⟩ := key h1
      exact .arr k1 (by rw [k2]; exact h2) h3 (fun hg => by rw [k3]; exact h4 (by rw [← k2]; exact hg))
  · cases h with
    | gr h => cases h
    | loc h1 h2 h3 h4 =>
      obtain ⟨k1, k2, k3⟩ := key h1
      exact .loc k1 (by rw [k2]; exact h2) h3 (fun hg => by rw [k3]; exact h4 (by rw [← k2]; exact hg))

theorem ownish_cases {c : AV} (h : ownish c = true) : scalar c = true ∨ ∃ n g, c = .arr n g := by
  cases c <;> simp [ownish, scalar] at h ⊢
theorem ownish_cases3 {c : AV} (h : ownish c = true) : scalar c = true ∨ (∃ n g, c = .arr n g) ∨ ∃ n g i, c = .loc n g i := by
  rcases ownish_cases h with h | h
  · exact .inl h
  · exact .inr (.inl h)

theorem shiftR_rep {w : World} {fz : Nat → Prop} {mem mem' : List AObj} {ρ ρ' : List Value} (hl : ρ.length = mem.length) {c : AV} {v : Value} (h : Rep w fz mem' ρ' c v) (hc : ownishR c = true) : Rep w fz (mem ++ mem'.map (shiftO mem.length)) (ρ ++ ρ') (shiftR mem.length c) v := by
  cases c with
  | tup vs =>
    simp only [ownishR, List.all_eq_true] at hc
    obtain ⟨us, rfl, h1, h2⟩ := rg_tup_rep h
    refine .tup (by simpa using h1) (fun j d u hd hu => ?_)
    rw [List.getElem?_map] at hd
    obtain ⟨d', hd', rfl⟩ := Option.map_eq_some_iff.1 hd
    have h3 := h2 j d' u hd' hu
    have h4 := ownish_cases (hc d' (List.mem_of_getElem? hd'))
    have := shiftV_rep hl h3 (ownish_cases3 (hc d' (List.mem_of_getElem? hd')))
    cases d' <;> first | exact this | (rcases h4 with h4 | ⟨n, g, h4⟩ <;> simp [scalar] at h4)
  | agg cs => simp [ownishR, ownish, scalar] at hc
  | loc n g i => exact shiftV_rep hl h (.inr (.inr ⟨n, g, i, rfl⟩))
  | _ => exact shiftV_rep hl h (ownish_cases3 hc)

theorem Rep.append {w : World} {fz : Nat → Prop} {mem mem' : List AObj} {ρ ρ' : List Value} {c : AV} {v : Value} (h : Rep w fz mem ρ c v) (hl : ρ.length = mem.length) : Rep w fz (mem ++ mem') (ρ ++ ρ') c v := by
  have key : ∀ {n : Nat} {ob : AObj}, mem[n]? = some ob → (mem ++ mem')[n]? = some ob ∧ (ρ ++ ρ')[n]? = ρ[n]? := fun {n ob} h => by
    have hn := (List.getElem?_eq_some_iff.1 h).1
    exact ⟨by rw [List.getElem?_append_left hn]; exact h, by rw [List.getElem?_append_left (by omega)]⟩
  induction h with
  | gr h => exact .gr h
  | arr h1 h2 h3 h4 => exact .arr (key h1).1 h2 h3 (by rw [(key h1).2]; exact h4)
  | loc h1 h2 h3 h4 => exact .loc (key h1).1 h2 h3 (by rw [(key h1).2]; exact h4)
  | msl h1 h2 h3 h4 => exact .msl (key h1).1 h2 h3 (by rw [(key h1).2]; exact h4)
  | agg h1 h2 _ ih => exact .agg h1 h2 ih
  | tup h1 _ ih => exact .tup h1 ih
  | fn h1 _ ih => exact .fn h1 ih

theorem mem_append {w : World} {fz : Nat → Prop} {mem mem' : List AObj} {ρ ρ' : List Value} {B : Nat} (hm : Mem w fz mem ρ) (hm' : Mem w fz mem' ρ') (hbox : (mem'.all made) = true) (h1 : ∀ (n : Nat) (v : Value) (b : Nat), ρ[n]? = some v → v.ownBlock = some b → b < B) (h2 : ∀ (n : Nat) (v : Value) (b : Nat), ρ'[n]? = some v → v.ownBlock = some b → B ≤ b) :
    Mem w fz (mem ++ mem'.map (shiftO mem.length)) (ρ ++ ρ') := by
  refine ⟨by simp [hm.len, hm'.len], fun n o v ho hv => ?_, fun n m u v b hnm hu hv hub => ?_, hm.lt⟩
  · rw [List.getElem?_append] at ho hv
    by_cases hn : n < mem.length
    · rw [if_pos hn] at ho
      rw [if_pos (by rw [hm.len]; exact hn)] at hv
      obtain ⟨g1, ⟨vs, g2, g3, g4, g5⟩, g6, g7⟩ := hm.obj n o v ho hv
      refine ⟨g1, ⟨vs, g2, g3, g4, fun j c u hc hu => ?_⟩, g6, g7⟩
      have := g5 j c u hc hu
      split at this
      · rename_i hb; rw [if_pos hb]; exact this.append hm.len
      · rename_i hb; rw [if_neg hb]; exact this
    · rw [if_neg hn] at ho
      rw [if_neg (by rw [hm.len]; exact hn), hm.len] at hv
      rw [List.getElem?_map] at ho
      obtain ⟨o', ho', rfl⟩ := Option.map_eq_some_iff.1 ho
      obtain ⟨g1, ⟨vs, g2, g3, g4, g5⟩, g6, g7⟩ := hm'.obj _ o' v ho' hv
      have hob : made o' = true := by
        rw [List.all_eq_true] at hbox
        exact hbox o' (List.mem_of_getElem? ho')
      cases hbx : o'.box with
      | false =>
        have hsh : shiftO mem.length o' = o' := by simp [shiftO, hbx]
        rw [hsh]
        refine ⟨g1, ⟨vs, g2, g3, g4, fun j c u hc hu => ?_⟩, g6, g7⟩
        have := g5 j c u hc hu
        rw [hbx] at this ⊢
        exact this
      | true =>
        have hsh : shiftO mem.length o' = { o' with cs := o'.cs.map (shiftV mem.length) } := by simp [shiftO, hbx]
        rw [hsh]
        refine ⟨g1, ⟨vs, g2, by simpa using g3, g4, fun j c u hc hu => ?_⟩, g6, g7⟩
        simp only at hc ⊢
        rw [List.getElem?_map] at hc
        obtain ⟨c', hc', rfl⟩ := Option.map_eq_some_iff.1 hc
        have := g5 j c' u hc' hu
        rw [hbx] at this ⊢
        simp only [if_true] at this ⊢
        simp only [made, hbx, Bool.not_true, Bool.false_or, List.all_eq_true] at hob
        exact shiftV_rep hm.len this (ownish_cases3 (hob c' (List.mem_of_getElem? hc')))
  · rw [List.getElem?_append] at hu hv
    by_cases hn : n < ρ.length
    · rw [if_pos hn] at hu
      by_cases hk : m < ρ.length
      · rw [if_pos hk] at hv; exact hm.apart n m u v b hnm hu hv hub
      · rw [if_neg hk] at hv
        intro h
        have := h1 n u b hu hub
        have := h2 _ v b hv h
        omega
    · rw [if_neg hn] at hu
      by_cases hk : m < ρ.length
      · rw [if_pos hk] at hv
        intro h
        have := h1 m v b hv h
        have := h2 _ u b hu hub
        omega
      · rw [if_neg hk] at hv
        exact hm'.apart _ _ u v b (by omega) hu hv hub

theorem op_callO (hm : Mem w fz mem ρ) (he : EnvR w fz mem ρ env a) {f : Nat} {xs : Array Operand} {ts : Array TypeId} {ys : List Opd} {as : List AV} {r : AV} {m : List AObj} (ho : o.op = .call ⟨.value (.func f), xs, ts⟩) (hf : okFn P f = true) (hx : okOpds a.tmps.size xs.toList ys = true)
    (hs : ys.mapM (fun y => snap mem 10 (ev env y)) = some as) (hc : CallS P f as [] r m) (hbox : (m.all made) = true) (hr : ownishR r = true) :
    OpS P o a w fz mem ρ (shiftR mem.length r) (freeze (ys.flatMap fun y => refs mem 10 (ev env y)) mem ++ m.map (shiftO mem.length)) := by
  obtain ⟨h1, h2⟩ := mapM_spec hs
  obtain ⟨f1, f2⟩ := hm.freeze (ys.flatMap fun y => refs mem 10 (ev env y))
  refine opS_call (static_run ho hf) ((hc w (frzOf fz ρ (ys.flatMap fun y => refs mem 10 (ev env y))) [] (xs.map a.eval) (f2.nil f2.lt) (by rw [args_size he hx, h1]) (fun j c u hcj hu => ?_)).mono fun e w' h => ?_)
  · obtain ⟨y, hy, hsy⟩ := h2 j c hcj
    exact .gr ((snap_rg hm (fun b hb => .inl hb) 10).1 _ c u hsy (args_get he hx hy hu) (fun n hn u b hu hb => .inr ⟨n, List.mem_flatMap.2 ⟨y, List.mem_of_getElem? hy, hn⟩, u, hu, hb⟩))
  · obtain ⟨u, fz', ρ', rfl, e1, e2, e3⟩ := h
    obtain ⟨g1, g2⟩ := f2.called e1 e2
    have hin : ∀ (n : Nat) (v : Value) (b : Nat), ρ'[n]? = some v → v.ownBlock = some b → w.heap.size ≤ b := fun n v b hv hb => by
      rcases e1.own n v b hv hb with ⟨k, u, h, _⟩ | h
      · simp at h
      · exact h
    have hown : Ext w (frzOf fz ρ (ys.flatMap fun y => refs mem 10 (ev env y))) (freeze (ys.flatMap fun y => refs mem 10 (ev env y)) mem) ρ w' fz' (freeze (ys.flatMap fun y => refs mem 10 (ev env y)) mem ++ m.map (shiftO mem.length)) (ρ ++ ρ') := by
      refine ⟨g1.os, g1.tape, g1.output, g1.size, g1.blk, g1.fzblk, g1.sub, g1.new, fun n ob hob => ?_, fun n v b hv hb => ?_⟩
      · have hn := (List.getElem?_eq_some_iff.1 hob).1
        refine ⟨ob, by rw [List.getElem?_append_left hn]; exact hob, Nat.le_refl _, fun _ => ⟨?_, rfl⟩, rfl, rfl⟩
        rw [List.getElem?_append_left (by rw [f2.len]; exact hn)]
      · rw [List.getElem?_append] at hv
        split at hv
        · exact .inl ⟨n, v, hv, hb⟩
        · exact .inr (hin _ v b hv hb)
    have hlen : (freeze (ys.flatMap fun y => refs mem 10 (ev env y)) mem).length = mem.length := by simp [freeze]
    have hM := mem_append (B := w.heap.size) g2 e2 hbox (fun n v b hv hb => f2.blk_lt hv hb) hin
    rw [hlen] at hM
    refine ⟨u, fz', _, rfl, f1.trans hown, hM, ?_⟩
    have := shiftR_rep g2.len e3 hr
    rw [hlen] at this
    exact this

/-- The same, where nothing of the caller's objects is handed over. -/
theorem op_callG (hm : Mem w fz mem ρ) (he : EnvR w fz mem ρ env a) {f : Nat} {xs : Array Operand} {ts : Array TypeId} {ys : List Opd} {r : AV} {m : List AObj} (ho : o.op = .call ⟨.value (.func f), xs, ts⟩) (hf : okFn P f = true) (hx : okOpds a.tmps.size xs.toList ys = true)
    (hs : (ys.all fun y => plainArg (ev env y)) = true) (hc : CallS P f (ys.map (ev env)) [] r m) (hbox : (m.all made) = true) (hr : ownishR r = true) :
    OpS P o a w fz mem ρ (shiftR mem.length r) (mem ++ m.map (shiftO mem.length)) := by
  refine opS_call (static_run ho hf) ((hc w fz [] (xs.map a.eval) (hm.nil hm.lt) (by rw [args_size he hx, List.length_map]) (fun j c u hcj hu => ?_)).mono fun e w' h => ?_)
  · rw [List.getElem?_map] at hcj
    obtain ⟨y, hy, rfl⟩ := Option.map_eq_some_iff.1 hcj
    have h1 := args_get he hx hy hu
    rw [List.all_eq_true] at hs
    have h2 := hs y (List.mem_of_getElem? hy)
    cases hv : ev env y <;> rw [hv] at h1 h2 <;> simp [plainArg, scalar] at h2 <;> cases h1 with | gr h1 => exact .gr h1
  · obtain ⟨u, fz', ρ', rfl, e1, e2, e3⟩ := h
    obtain ⟨g1, g2⟩ := hm.called e1 e2
    have hin : ∀ (n : Nat) (v : Value) (b : Nat), ρ'[n]? = some v → v.ownBlock = some b → w.heap.size ≤ b := fun n v b hv hb => by
      rcases e1.own n v b hv hb with ⟨k, u, h, _⟩ | h
      · simp at h
      · exact h
    have hown : Ext w fz mem ρ w' fz' (mem ++ m.map (shiftO mem.length)) (ρ ++ ρ') := by
      refine ⟨g1.os, g1.tape, g1.output, g1.size, g1.blk, g1.fzblk, g1.sub, g1.new, fun n ob hob => ?_, fun n v b hv hb => ?_⟩
      · have hn := (List.getElem?_eq_some_iff.1 hob).1
        refine ⟨ob, by rw [List.getElem?_append_left hn]; exact hob, Nat.le_refl _, fun _ => ⟨?_, rfl⟩, rfl, rfl⟩
        rw [List.getElem?_append_left (by rw [hm.len]; exact hn)]
      · rw [List.getElem?_append] at hv
        split at hv
        · exact .inl ⟨n, v, hv, hb⟩
        · exact .inr (hin _ v b hv hb)
    have hM := mem_append (B := w.heap.size) g2 e2 hbox (fun n v b hv hb => hm.blk_lt hv hb) hin
    exact ⟨u, fz', _, rfl, hown, hM, shiftR_rep g2.len e3 hr⟩

/-- A function whose result is of its own making: here it is written no more. -/
theorem op_callZ (hm : Mem w fz mem ρ) (he : EnvR w fz mem ρ env a) {f : Nat} {xs : Array Operand} {ts : Array TypeId} {ys : List Opd} {as : List AV} {r r' : AV} {m : List AObj} (ho : o.op = .call ⟨.value (.func f), xs, ts⟩) (hf : okFn P f = true) (hx : okOpds a.tmps.size xs.toList ys = true)
    (hs : ys.mapM (fun y => snap mem 10 (ev env y)) = some as) (hc : CallS P f as [] r m) (hr : snap m 10 r = some r') :
    OpS P o a w fz mem ρ r' (freeze (ys.flatMap fun y => refs mem 10 (ev env y)) mem) := by
  obtain ⟨h1, h2⟩ := mapM_spec hs
  obtain ⟨f1, f2⟩ := hm.freeze (ys.flatMap fun y => refs mem 10 (ev env y))
  refine opS_call (static_run ho hf) ((hc w (frzOf fz ρ (ys.flatMap fun y => refs mem 10 (ev env y))) [] (xs.map a.eval) (f2.nil f2.lt) (by rw [args_size he hx, h1]) (fun j c u hcj hu => ?_)).mono fun e w' h => ?_)
  · obtain ⟨y, hy, hsy⟩ := h2 j c hcj
    exact .gr ((snap_rg hm (fun b hb => .inl hb) 10).1 _ c u hsy (args_get he hx hy hu) (fun n hn u b hu hb => .inr ⟨n, List.mem_flatMap.2 ⟨y, List.mem_of_getElem? hy, hn⟩, u, hu, hb⟩))
  · obtain ⟨u, fz', ρ', rfl, e1, e2, e3⟩ := h
    have hin : ∀ (n : Nat) (v : Value) (b : Nat), ρ'[n]? = some v → v.ownBlock = some b → w.heap.size ≤ b := fun n v b hv hb => by
      rcases e1.own n v b hv hb with ⟨k, u, h, _⟩ | h
      · simp at h
      · exact h
    have e1' : Ext w (frzOf fz ρ (ys.flatMap fun y => refs mem 10 (ev env y))) [] [] w' (frzAll fz' ρ') [] [] := by
      refine ⟨e1.os, e1.tape, e1.output, e1.size, e1.blk, e1.fzblk, fun b hb => .inl (e1.sub b hb), fun b hb => ?_, fun n o h => by simp at h, fun n v b h => by simp at h⟩
      rcases hb with hb | ⟨n, v, hv, hb⟩
      · exact e1.new b hb
      · exact .inr (.inl (hin n v b hv hb))
    obtain ⟨g1, g2⟩ := f2.called e1' (e2.nil (frzAll_lt e2))
    refine ⟨u, _, ρ, rfl, f1.trans g1, g2, .gr ((snap_rg e2 (fun b hb => .inl hb) 10).1 _ r' u hr e3 (fun n _ u b hu hb => .inr ⟨n, u, hu, hb⟩))⟩

end
end Go.V
