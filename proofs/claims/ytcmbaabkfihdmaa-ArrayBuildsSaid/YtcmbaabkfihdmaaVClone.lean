/- slices.Clone: a row of its own with the same cells, whether what came was nil or not. Conditions: the row is no longer than Go lets one be. -/
import Derived.Test.YtcmbaabkfihdmaaVCalls
set_option linter.unusedVariables false
set_option linter.unusedSimpArgs false
namespace Go.V
open Go

section
variable {P : Program}

theorem fin_own {w : World} {fz : Nat → Prop} {N : Nat} {s : St} {a : Act} {w' : World} {fn : Func} {rs : List Res} {rv r : AV} {m : List AObj} (hs : SR w fz [] [] N s a w') (hk : okRess P N fn.results.toList rs = true) (h6 : resAll s rs = some rv) (h7 : ownOut s.mem rv = some (r, m)) :
    a.defers = [] ∧ ∃ v, (results fn a.tmps).run P w' = .ok v w' ∧ ∃ v' fz' ρ', Ending.returned v = .returned v' ∧ Ext w fz [] [] w' fz' m ρ' ∧ Mem w' fz' m ρ' ∧ Rep w' fz' m ρ' r v' := by
  obtain ⟨fz1, ρ1, e1, e2, e3, e4, e5⟩ := hs
  obtain ⟨u, g1, g2⟩ := results_ok (fn := fn) (env := s.env) e2 e3 (by rw [e4]; exact hk) h6
  obtain ⟨ρ2, q1, q2, q3⟩ := own_out e2 h7 g2
  refine ⟨e5, u, g1, u, fz1, ρ2, rfl, ⟨e1.os, e1.tape, e1.output, e1.size, e1.blk, e1.fzblk, e1.sub, e1.new, fun n o h => by simp at h, fun n v b hv hb => ?_⟩, q1, q2⟩
  obtain ⟨k, rfl⟩ := q3 n v hv
  cases hρ : ρ1[k]? with
  | none => rw [hρ] at hb; simp [undef, Value.ownBlock] at hb
  | some v =>
    rw [hρ] at hb
    exact e1.own k v b hρ hb

theorem equalIn_slice (d : Nat) {t e : TypeId} {w : World} (ht : P.underlying t = some (.slice e)) (A : Option Addr) (n c : Nat) : (Op.equalIn (d + 1) t (.slice A n c) (.slice none 0 0)).run P w = .ok A.isNone w := by
  cases A <;> simp only [Op.equalIn, Sem.run_bind, run_underlying ht, Result.andThen_ok, Sem.run_pure, Option.isNone]

def nilIR (e sz : Nat) : IR := .seq (.reg none [⟨some 2, .newnil e sz, none⟩]) .ret
def cloneIR (e sz bytes : Nat) : IR := .seq (.reg none [⟨some 5, .bsl e sz [], none⟩, ⟨some 6, .mov (.t 0), none⟩, ⟨some 7, .app e sz bytes (.t 5) (.t 6), none⟩, ⟨some 2, .mov (.t 7), none⟩]) .ret

theorem rep_slA {w : World} {fz : Nat → Prop} {mem : List AObj} {ρ : List Value} {n sz : Nat} {cs : List AV} {v : Value} (h : Rep w fz mem ρ (.sl n sz cs) v) : ∃ A c, v = .slice A n c ∧ (A = none → n = 0 ∧ cs = []) := by
  cases h with
  | gr h =>
    cases h with
    | sl0 => exact ⟨_, _, rfl, fun _ => ⟨rfl, rfl⟩⟩
    | sl => exact ⟨_, _, rfl, fun h => by cases h⟩

theorem clone_ok {f T T' e sz bytes i0 i1 : Nat} {ops0 : Array Oper} {o3 o4 : Oper} {c2 c3 : Code} (hm : P.follows .mixedOrders = true) (fn : Func) (hfn : P.funcs[f]? = some fn)
    (hbody : fn.body = some (.seq (.region i0 ops0 false) (.seq (.seq (.region i1 #[o3, o4] false) (.cond (.tmp 4) c2 .skip)) c3))) (hname : (fn.name == "runtime.NumGoroutine") = false) (hN : fn.ntmps = 8)
    (hres : okRess P 8 fn.results.toList [.t 2] = true) (h0 : okRegion P 8 ops0 false none [⟨some 2, .newnil e sz, none⟩] = true) (h3 : okAt P 8 #[o3, o4] 0 ⟨some 3, .mov (.t 0), none⟩ = true)
    (h4 : o4.op = .binOp .eql T (.tmp 3) (.const (.slice none 0 0)) T') (h4d : o4.dst = some 4) (h4g : o4.guard = none) (hT : P.underlying T = some (.slice e)) (hc2 : okCode P 8 c2 (nilIR e sz) = true) (hc3 : okCode P 8 c3 (cloneIR e sz bytes) = true)
    {n : Nat} {cs : List AV} (hb1 : n * bytes ≤ 140737488355328) (hb2 : n ≤ 140737488355328) :
    okFn P f = true ∧ CallS P f [.sl n sz cs] [] (.arr 0 0) [⟨false, e, sz, 0, n, cs, false⟩] := by
  refine ⟨by simp [okFn, hfn, hbody, hname], ?_⟩
  intro w fz ρ vals hM hsz hrep
  have hρ : ρ = [] := List.length_eq_zero_iff.1 hM.len
  subst hρ
  have hno : CallsOk P (fun _ _ _ _ _ => False) := fun h => h.elim
  obtain ⟨v, rfl⟩ : ∃ v, vals = #[v] := by
    have : vals.size = 1 := by simpa using hsz
    exact ⟨vals[0], by
      apply Array.ext
      · simpa using this
      · intro i h1 h2
        have : i = 0 := by simp at h2; exact h2
        subst this
        rfl⟩
  have hv := hrep 0 _ v rfl rfl
  refine calls_of_wp hfn hbody ?_
  have hs0 : SR w fz [] [] 8 ⟨[(0, .sl n sz cs)], []⟩ { tmps := #[v] ++ Array.replicate (fn.ntmps - 1) undef, defers := [] } w := by
    refine ⟨fz, [], Ext.refl, hM, fun k hk => ?_, by simp [hN], rfl⟩
    cases k with
    | zero =>
      have : (#[v] ++ Array.replicate (fn.ntmps - 1) undef).getD 0 undef = v := by simp [Array.getD, show 0 < 1 + (fn.ntmps - 1) by omega]
      simp only [getE, if_true]
      rw [this]
      exact hv
    | succ k => simp only [getE]; exact .gr .any
  refine wp_seq ?_
  refine region_ok hno hm h0 hs0 (s' := ⟨[(2, .arr 0 0), (0, .sl n sz cs)], [⟨false, e, sz, 0, 0, [], false⟩]⟩) (.cons (.go (.inl rfl) (.op rfl)) .nil) (fun a1 w1 hs1 => ?_)
  refine wp_seq (wp_seq (wp_region ?_))
  show wpOps P #[o3, o4] _ [0, 1] a1 w1
  rw [wpOps_cons]
  refine step_ok hno h3 hs1 (s' := ⟨[(3, .sl n sz cs), (2, .arr 0 0), (0, .sl n sz cs)], [⟨false, e, sz, 0, 0, [], false⟩]⟩) (.go (.inl rfl) (.op rfl)) (fun a2 w2 hs2 => ?_)
  rw [wpOps_cons]
  obtain ⟨fz2, ρ2, x1, x2, x3, x4, x5⟩ := id hs2
  obtain ⟨A, c, hA, hA0⟩ := rep_slA (x3 3 (by omega))
  have hrun : (execOp a2.eval o4).run P w2 = .ok (.value (.bool A.isNone)) w2 := by
    have e1 : a2.eval (.tmp 3) = .slice A n c := hA
    have e2 : a2.eval (.const (.slice none 0 0)) = .slice none 0 0 := rfl
    have e3 : (Op.equal T (.slice A n c) (.slice none 0 0)).run P w2 = .ok A.isNone w2 := equalIn_slice 9999 hT A n c
    simp only [execOp, h4, e1, e2, Sem.run_bind, eqGuard, Result.andThen_ok, binOp, e3, Sem.run_pure]
    simp [e3]
  have hs3 : SR w fz [] [] 8 ⟨[(4, .bool A.isNone), (3, .sl n sz cs), (2, .arr 0 0), (0, .sl n sz cs)], [⟨false, e, sz, 0, 0, [], false⟩]⟩ (a2.put o4.dst (.bool A.isNone)) w2 := by
    refine ⟨fz2, ρ2, x1, x2, ?_, by rw [put_size]; exact x4, by rw [put_defers]; exact x5⟩
    rw [h4d]
    exact x3.put (d := some 4) Ext.refl (.gr .bool)
  show wpOp P #[o3, o4] _ 1 _ a2 w2
  unfold wpOp
  simp only [show (#[o3, o4] : Array Oper)[1]? = some o4 from rfl, Region.wanted, h4g, if_true]
  refine .inl ?_
  unfold Oper.wp
  rw [hrun]
  rw [Oper.upon_value]
  simp only [wpOps, Exit.then]
  cases A with
  | none =>
    obtain ⟨rfl, rfl⟩ := hA0 rfl
    obtain ⟨k, hk⟩ := exec_ok (P := P) (w0 := w) (fz0 := fz) (mem0 := []) (ρ0 := []) (N := 8) (C := fun _ _ _ _ _ => False) hno hm (ir := .cond (.t 4) (nilIR e sz) .skip) (c := .cond (.tmp 4) c2 .skip)
      (s := ⟨[(4, .bool true), (3, .sl 0 sz []), (2, .arr 0 0), (0, .sl 0 sz [])], [⟨false, e, sz, 0, 0, [], false⟩]⟩)
      (.condT rfl (.seqN (.reg (.cons (.go (.inl rfl) (.op rfl)) .nil)) .ret)) (Q := Exit.then (c3.wp P (bodyPost P fn fun e_1 w' => ∃ v fz' ρ', e_1 = .returned v ∧ Ext w fz [] [] w' fz' [⟨false, e, sz, 0, 0, [], false⟩] ρ' ∧ Mem w' fz' [⟨false, e, sz, 0, 0, [], false⟩] ρ' ∧ Rep w' fz' [⟨false, e, sz, 0, 0, [], false⟩] ρ' (.arr 0 0) v)) (bodyPost P fn fun e_1 w' => ∃ v fz' ρ', e_1 = .returned v ∧ Ext w fz [] [] w' fz' [⟨false, e, sz, 0, 0, [], false⟩] ρ' ∧ Mem w' fz' [⟨false, e, sz, 0, 0, [], false⟩] ρ' ∧ Rep w' fz' [⟨false, e, sz, 0, 0, [], false⟩] ρ' (.arr 0 0) v))
      (by simp [okCode, hc2, okOpd]) (.inl rfl) (fun a' w' hs' => fin_own hs' hres rfl rfl)
    exact (hk _ _ hs3).wp
  | some A =>
    have happ : evalOp [⟨false, e, sz, 0, 0, [], false⟩, ⟨false, e, sz, 0, 0, [], false⟩] (ev [(6, .sl n sz cs), (5, .arr 1 0), (4, .bool false), (3, .sl n sz cs), (2, .arr 0 0), (0, .sl n sz cs)]) (.app e sz bytes (.t 5) (.t 6)) =
        some (.arr 1 1, [⟨false, e, sz, 0, 0, [], false⟩, ⟨false, e, sz, 1, n, cs, false⟩]) := by
      simp [evalOp, rowOf, ev, getE, geto, hb1, hb2]
    have hexec : Exec (fun _ _ _ _ _ => False) (cloneIR e sz bytes) ⟨[(4, .bool false), (3, .sl n sz cs), (2, .arr 0 0), (0, .sl n sz cs)], [⟨false, e, sz, 0, 0, [], false⟩]⟩ .ret
        ⟨[(2, .arr 1 1), (7, .arr 1 1), (6, .sl n sz cs), (5, .arr 1 0), (4, .bool false), (3, .sl n sz cs), (2, .arr 0 0), (0, .sl n sz cs)], [⟨false, e, sz, 0, 0, [], false⟩, ⟨false, e, sz, 1, n, cs, false⟩]⟩ :=
      .seqN (.reg (.cons (.go (.inl rfl) (.op rfl)) (.cons (.go (.inl rfl) (.op rfl)) (.cons (.go (.inl rfl) (.op happ)) (.cons (.go (.inl rfl) (.op rfl)) .nil))))) .ret
    obtain ⟨k2, hk2⟩ := exec_ok (P := P) (w0 := w) (fz0 := fz) (mem0 := []) (ρ0 := []) (N := 8) (C := fun _ _ _ _ _ => False) hno hm hexec (c := c3)
      (Q := bodyPost P fn fun e_1 w' => ∃ v fz' ρ', e_1 = .returned v ∧ Ext w fz [] [] w' fz' [⟨false, e, sz, 0, n, cs, false⟩] ρ' ∧ Mem w' fz' [⟨false, e, sz, 0, n, cs, false⟩] ρ' ∧ Rep w' fz' [⟨false, e, sz, 0, n, cs, false⟩] ρ' (.arr 0 0) v)
      hc3 (.inl rfl) (fun a' w' hs' => fin_own hs' hres rfl rfl)
    obtain ⟨k, hk⟩ := exec_ok (P := P) (w0 := w) (fz0 := fz) (mem0 := []) (ρ0 := []) (N := 8) (C := fun _ _ _ _ _ => False) hno hm (ir := .cond (.t 4) (nilIR e sz) .skip) (c := .cond (.tmp 4) c2 .skip)
      (s := ⟨[(4, .bool false), (3, .sl n sz cs), (2, .arr 0 0), (0, .sl n sz cs)], [⟨false, e, sz, 0, 0, [], false⟩]⟩)
      (.condF rfl .skip) (Q := Exit.then (c3.wp P (bodyPost P fn fun e_1 w' => ∃ v fz' ρ', e_1 = .returned v ∧ Ext w fz [] [] w' fz' [⟨false, e, sz, 0, n, cs, false⟩] ρ' ∧ Mem w' fz' [⟨false, e, sz, 0, n, cs, false⟩] ρ' ∧ Rep w' fz' [⟨false, e, sz, 0, n, cs, false⟩] ρ' (.arr 0 0) v)) (bodyPost P fn fun e_1 w' => ∃ v fz' ρ', e_1 = .returned v ∧ Ext w fz [] [] w' fz' [⟨false, e, sz, 0, n, cs, false⟩] ρ' ∧ Mem w' fz' [⟨false, e, sz, 0, n, cs, false⟩] ρ' ∧ Rep w' fz' [⟨false, e, sz, 0, n, cs, false⟩] ρ' (.arr 0 0) v))
      (by simp [okCode, hc2, okOpd]) (.inl rfl) (fun a' w' hs' => (hk2 _ _ hs').wp)
    exact (hk _ _ hs3).wp
end
end Go.V
