/- A function of the table does what its small form says. -/
import Derived.Test.YtcmbaabkfihdmaaVCode
set_option linter.unusedVariables false
set_option linter.unusedSimpArgs false
namespace Go.V
open Go

/-! ### Results of the callee's own making -/
def sel (ρ : List Value) (ns : List Nat) : List Value := ns.reverse.map fun n => (ρ[n]?).getD undef

structure OwnInv (mem : List AObj) (acc : List AObj) (ns : List Nat) : Prop where
  len : acc.length = ns.length
  nodup : ns.Nodup
  obj : ∀ (k : Nat) (o' : AObj), acc[k]? = some o' → ∃ (n : Nat) (o : AObj), ns.reverse[k]? = some n ∧ mem[n]? = some o ∧ o' = { o with g := 0 } ∧ o.box = false

theorem sel_cons {ρ : List Value} {n : Nat} {ns : List Nat} : sel ρ (n :: ns) = sel ρ ns ++ [(ρ[n]?).getD undef] := by simp [sel]
theorem sel_len {ρ : List Value} {ns : List Nat} : (sel ρ ns).length = ns.length := by simp [sel]

section
variable {P : Program} {w : World} {fz : Nat → Prop} {mem : List AObj} {ρ : List Value}

theorem ownV_ok (hm : Mem w fz mem ρ) {a a' : AV} {acc acc' : List AObj} {ns ns' : List Nat} (hi : OwnInv mem acc ns) (h : ownV mem a acc ns = some (a', acc', ns')) {v : Value} (hr : Rep w fz mem ρ a v) :
    OwnInv mem acc' ns' ∧ (∃ e1 e2, acc' = acc ++ e1 ∧ sel ρ ns' = sel ρ ns ++ e2) ∧ Rep w fz acc' (sel ρ ns') a' v := by
  unfold ownV at h
  split at h
  · rename_i n g
    split at h
    · rename_i o ho
      split at h
      · rename_i hc
        obtain ⟨hb, hf, hn⟩ := hc
        simp only [Option.some.injEq, Prod.mk.injEq] at h
        obtain ⟨rfl, rfl, rfl⟩ := h
        obtain ⟨h1, h2⟩ := geto_some ho
        have hn' : n ∉ ns := by simpa using hn
        refine ⟨⟨by simp [hi.len], List.nodup_cons.2 ⟨hn', hi.nodup⟩, fun k o' hk => ?_⟩, ⟨_, _, rfl, sel_cons⟩, ?_⟩
        · rcases getElem?_snoc hk with hk | ⟨rfl, rfl⟩
          · obtain ⟨m, p, k1, k2, k3, k4⟩ := hi.obj k o' hk
            refine ⟨m, p, ?_, k2, k3, k4⟩
            rw [List.reverse_cons, List.getElem?_append_left (List.getElem?_eq_some_iff.1 k1).1]
            exact k1
          · refine ⟨n, o, ?_, h1, rfl, hb⟩
            rw [List.reverse_cons, hi.len, ← List.length_reverse, List.getElem?_append_right (Nat.le_refl _)]
            simp
        · cases hr with
          | gr hr => cases hr
          | arr g1 g2 g3 g4 =>
            rw [h1] at g1
            obtain rfl := Option.some.inj g1
            have g5 := g4 h2.symm
            refine .arr (o := { o with g := 0 }) (by simp) (Nat.le_refl _) g3 (fun _ => ?_)
            rw [sel_cons, hi.len, ← sel_len (ρ := ρ), List.getElem?_append_right (Nat.le_refl _)]
            simp [g5]
      · cases h
    · cases h
  · split at h
    · rename_i hs
      simp only [Option.some.injEq, Prod.mk.injEq] at h
      obtain ⟨rfl, rfl, rfl⟩ := h
      refine ⟨hi, ⟨[], [], by simp, by simp⟩, ?_⟩
      cases a <;> simp [scalar] at hs <;> cases hr with | gr hr => exact .gr hr
    · cases h

theorem ownL_ok (hm : Mem w fz mem ρ) : ∀ {as as' : List AV} {acc acc' : List AObj} {ns ns' : List Nat}, OwnInv mem acc ns → ownL mem as acc ns = some (as', acc', ns') →
    OwnInv mem acc' ns' ∧ (∃ e1 e2, acc' = acc ++ e1 ∧ sel ρ ns' = sel ρ ns ++ e2) ∧ as'.length = as.length ∧
      ∀ (j : Nat) (c : AV) (u : Value), as'[j]? = some c → (∀ d, as[j]? = some d → Rep w fz mem ρ d u) → Rep w fz acc' (sel ρ ns') c u
  | [], as', acc, acc', ns, ns', hi, h => by
    simp only [ownL, Option.some.injEq, Prod.mk.injEq] at h
    obtain ⟨rfl, rfl, rfl⟩ := h
    exact ⟨hi, ⟨[], [], by simp, by simp⟩, rfl, fun j c u h => by simp at h⟩
  | a :: as, as', acc, acc', ns, ns', hi, h => by
    simp only [ownL] at h
    obtain ⟨⟨a1, acc1, ns1⟩, h1, h2⟩ := Option.bind_eq_some_iff.1 h
    obtain ⟨⟨as2, acc2, ns2⟩, h3, h4⟩ := Option.map_eq_some_iff.1 h2
    simp only [Prod.mk.injEq] at h4
    obtain ⟨rfl, rfl, rfl⟩ := h4
    have step := fun {v : Value} (hr : Rep w fz mem ρ a v) => ownV_ok hm hi h1 hr
    by_cases hex : ∃ v, Rep w fz mem ρ a v
    · obtain ⟨v, hv⟩ := hex
      obtain ⟨i1, ⟨e1, e2, q1, q2⟩, _⟩ := step hv
      obtain ⟨i2, ⟨f1, f2, q3, q4⟩, q5, q6⟩ := ownL_ok hm i1 h3
      have hlen : (sel ρ ns1).length = acc1.length := by rw [sel_len, i1.len]
      refine ⟨i2, ⟨e1 ++ f1, e2 ++ f2, by rw [q3, q1, List.append_assoc], by rw [q4, q2, List.append_assoc]⟩, by simp [q5], fun j c u hc hh => ?_⟩
      cases j with
      | zero =>
        simp at hc
        subst hc
        have := (step (hh a (by simp))).2.2
        rw [q3, q4]
        exact this.append hlen
      | succ j => exact q6 j c u (by simpa using hc) (fun d hd => hh d (by simpa using hd))
    · exfalso
      -- what it is does not hang on the value: any value will do
      exact hex (by
        simp only [ownV] at h1
        split at h1
        · rename_i n g
          split at h1
          · rename_i o ho
            obtain ⟨g1, g2⟩ := geto_some ho
            have hn : n < ρ.length := by rw [hm.len]; exact (List.getElem?_eq_some_iff.1 g1).1
            have hv : ρ[n]? = some ρ[n] := by simp [hn]
            obtain ⟨vs, k1, _⟩ := (hm.obj n o _ g1 hv).row
            refine ⟨ρ[n], .arr g1 (Nat.le_of_eq g2.symm) ?_ (fun _ => hv)⟩
            rcases k1.2 with k2 | ⟨q, cap, cur, k2, _⟩
            · rw [k2.1]; rfl
            · rw [k2]; rfl
          · cases h1
        · split at h1
          · rename_i hs
            cases a <;> simp [scalar] at hs
            · exact ⟨_, .gr .int⟩
            · exact ⟨_, .gr .bool⟩
            · exact ⟨_, .gr .str⟩
          · cases h1)

theorem own_mem (hm : Mem w fz mem ρ) {acc : List AObj} {ns : List Nat} (hi : OwnInv mem acc ns) : Mem w fz acc (sel ρ ns) := by
  have hsel : ∀ (k : Nat) (n : Nat) (v : Value), ns.reverse[k]? = some n → (sel ρ ns)[k]? = some v → v = (ρ[n]?).getD undef := fun k n v hn hv => by
    unfold sel at hv
    rw [List.getElem?_map, hn] at hv
    simpa using hv.symm
  refine ⟨by rw [sel_len, hi.len], fun k o' v ho hv => ?_, fun n m u v b hne hu hv hub hvb => ?_, hm.lt⟩
  · obtain ⟨n, o, h1, h2, rfl, h4⟩ := hi.obj k o' ho
    have hv' := hsel k n v h1 hv
    have hn : n < ρ.length := by rw [hm.len]; exact (List.getElem?_eq_some_iff.1 h2).1
    have hρ : ρ[n]? = some v := by rw [hv']; simp [hn]
    obtain ⟨g1, ⟨vs, g2, g3, g4, g5⟩, g6, g7⟩ := hm.obj n o v h2 hρ
    refine ⟨g1, ⟨vs, g2, g3, g4, fun j c u hc hu => ?_⟩, g6, g7⟩
    have := g5 j c u hc hu
    rw [h4] at this
    simp only [h4]
    exact this
  · have hk : ∀ (k : Nat) (x : Value), (sel ρ ns)[k]? = some x → ∃ i o, ns.reverse[k]? = some i ∧ mem[i]? = some o ∧ ρ[i]? = some x := fun k x hx => by
      have hlt : k < acc.length := by rw [hi.len, ← sel_len (ρ := ρ)]; exact (List.getElem?_eq_some_iff.1 hx).1
      obtain ⟨i, o, h1, h2, _, _⟩ := hi.obj k acc[k] (by simp [hlt])
      have hi' : i < ρ.length := by rw [hm.len]; exact (List.getElem?_eq_some_iff.1 h2).1
      exact ⟨i, o, h1, h2, by rw [hsel k i x h1 hx]; simp [hi']⟩
    obtain ⟨i, o1, a1, a2, a3⟩ := hk n u hu
    obtain ⟨j, o2, b1, b2, b3⟩ := hk m v hv
    have hij : i ≠ j := fun h => by
      subst h
      have hnd : ns.reverse.Nodup := List.pairwise_reverse.2 (hi.nodup.imp fun h => Ne.symm h)
      exact hne ((List.getElem?_inj (List.getElem?_eq_some_iff.1 a1).1 hnd).1 (a1.trans b1.symm))
    exact hm.apart i j u v b hij a3 b3 hub hvb

/-- One object more, of the memory as it is. -/
theorem Mem.add {acc : List AObj} {ρ1 : List Value} {o : AObj} {v : Value} (hm : Mem w fz acc ρ1) (ho : ObjR w fz acc ρ1 o v) (hap : ∀ (n : Nat) (u : Value) (b : Nat), ρ1[n]? = some u → u.ownBlock = some b → v.ownBlock ≠ some b) : Mem w fz (acc ++ [o]) (ρ1 ++ [v]) := by
  have up : ∀ {o' : AObj} {v' : Value}, ObjR w fz acc ρ1 o' v' → ObjR w fz (acc ++ [o]) (ρ1 ++ [v]) o' v' := fun {o' v'} h => by
    obtain ⟨g1, ⟨vs, g2, g3, g4, g5⟩, g6, g7⟩ := h
    refine ⟨g1, ⟨vs, g2, g3, g4, fun j c u hc hu => ?_⟩, g6, g7⟩
    have := g5 j c u hc hu
    split at this
    · rename_i hb; rw [if_pos hb]; exact this.append hm.len
    · rename_i hb; rw [if_neg hb]; exact this
  have last : ∀ {x : Value}, (ρ1 ++ [v])[acc.length]? = some x → x = v := fun {x} hx => by
    rw [List.getElem?_append_right (by rw [hm.len]; exact Nat.le_refl _), hm.len] at hx
    simpa using hx.symm
  have old : ∀ {n : Nat} {x : Value}, (ρ1 ++ [v])[n]? = some x → n < acc.length → ρ1[n]? = some x := fun {n x} hx hn => by
    rw [List.getElem?_append_left (by rw [hm.len]; exact hn)] at hx
    exact hx
  have lt : ∀ {n : Nat} {x : Value}, (ρ1 ++ [v])[n]? = some x → n < acc.length ∨ n = acc.length := fun {n x} hx => by
    have := (List.getElem?_eq_some_iff.1 hx).1
    simp [hm.len] at this
    omega
  refine ⟨by simp [hm.len], fun n o' u ho' hu => ?_, fun n m u x b hne hu hx hub => ?_, hm.lt⟩
  · rcases getElem?_snoc ho' with ho' | ⟨rfl, rfl⟩
    · exact up (hm.obj n o' u ho' (old hu (List.getElem?_eq_some_iff.1 ho').1))
    · rw [last hu]; exact up ho
  · rcases lt hu with hn | rfl
    · have hu' := old hu hn
      rcases lt hx with hk | rfl
      · exact hm.apart n m u x b hne hu' (old hx hk) hub
      · rw [last hx]; exact hap n u b hu' hub
    · obtain rfl := last hu
      rcases lt hx with hk | rfl
      · intro h; exact hap m x b (old hx hk) h hub
      · exact absurd rfl hne

theorem sel_get {acc : List AObj} {ns : List Nat} (hm : Mem w fz mem ρ) (hi : OwnInv mem acc ns) {k : Nat} {x : Value} (hx : (sel ρ ns)[k]? = some x) : ∃ i o, ns.reverse[k]? = some i ∧ mem[i]? = some o ∧ ρ[i]? = some x ∧ o.box = false := by
  have hlt : k < acc.length := by rw [hi.len, ← sel_len (ρ := ρ)]; exact (List.getElem?_eq_some_iff.1 hx).1
  obtain ⟨i, o, h1, h2, _, h4⟩ := hi.obj k acc[k] (by simp [hlt])
  have hi' : i < ρ.length := by rw [hm.len]; exact (List.getElem?_eq_some_iff.1 h2).1
  refine ⟨i, o, h1, h2, ?_, h4⟩
  unfold sel at hx
  rw [List.getElem?_map, h1] at hx
  simp [hi'] at hx
  simp [hi', hx]

theorem own_out (hm : Mem w fz mem ρ) {a r : AV} {m : List AObj} (h : ownOut mem a = some (r, m)) {v : Value} (hr : Rep w fz mem ρ a v) : ∃ ρ', Mem w fz m ρ' ∧ Rep w fz m ρ' r v ∧ ∀ (n : Nat) (u : Value), ρ'[n]? = some u → ∃ k : Nat, u = (ρ[k]?).getD undef := by
  have hi : OwnInv mem [] [] := ⟨rfl, .nil, fun k o h => by simp at h⟩
  have hsel : ∀ (ns : List Nat) (n : Nat) (u : Value), (sel ρ ns)[n]? = some u → ∃ k : Nat, u = (ρ[k]?).getD undef := fun ns n u hu => by
    unfold sel at hu
    rw [List.getElem?_map] at hu
    obtain ⟨k, _, rfl⟩ := Option.map_eq_some_iff.1 hu
    exact ⟨k, rfl⟩
  unfold ownOut at h
  split at h
  · rename_i vs
    obtain ⟨⟨as', acc, ns⟩, h1, h2⟩ := Option.map_eq_some_iff.1 h
    simp only [Prod.mk.injEq] at h2
    obtain ⟨rfl, rfl⟩ := h2
    obtain ⟨i1, _, q1, q2⟩ := ownL_ok hm hi h1
    obtain ⟨us, rfl, k1, k2⟩ := rg_tup_rep hr
    refine ⟨sel ρ ns, own_mem hm i1, .tup (by rw [q1]; exact k1) (fun j c u hc hu => q2 j c u hc (fun d hd => k2 j d u hd hu)), hsel ns⟩
  · rename_i n g i
    split at h
    · rename_i o ho
      split at h
      · rename_i hc
        obtain ⟨hb, hf⟩ := hc
        obtain ⟨⟨cs', acc, ns⟩, h1, h2⟩ := Option.map_eq_some_iff.1 h
        simp only [Prod.mk.injEq] at h2
        obtain ⟨rfl, rfl⟩ := h2
        obtain ⟨i1, _, q1, q2⟩ := ownL_ok hm hi h1
        obtain ⟨b, k, cap, g1, rfl⟩ := rep_loc hr ho
        have hM := own_mem hm i1
        have hlen : (sel ρ ns).length = acc.length := by rw [sel_len, i1.len]
        obtain ⟨k1, ⟨vs, k2, k3, k4, k5⟩, k6, k7⟩ := hm.obj n o _ (geto_some ho).1 g1
        have hobj : ObjR w fz acc (sel ρ ns) { o with g := 0, cs := cs' } (.slice (some ⟨b, 0, none⟩) k cap) := by
          refine ⟨k1, ⟨vs, k2, by rw [k3]; exact q1.symm, k4, fun j c u hc hu => ?_⟩, k6, k7⟩
          simp only [hb, if_true]
          refine q2 j c u hc (fun d hd => ?_)
          have := k5 j d u hd hu
          rwa [hb, if_pos rfl] at this
        have hap : ∀ (m : Nat) (u : Value) (b' : Nat), (sel ρ ns)[m]? = some u → u.ownBlock = some b' → (Value.slice (some ⟨b, 0, none⟩) k cap).ownBlock ≠ some b' := fun m u b' hu hub h => by
          obtain ⟨j, o2, _, e2, e3, e4⟩ := sel_get hm i1 hu
          have hjn : j ≠ n := fun he => by
            rw [he, (geto_some ho).1] at e2
            obtain rfl := Option.some.inj e2
            rw [hb] at e4; cases e4
          exact hm.apart j n u _ b' hjn e3 g1 hub h
        refine ⟨sel ρ ns ++ [.slice (some ⟨b, 0, none⟩) k cap], hM.add hobj hap, ?_, fun m u hu => ?_⟩
        · refine .loc (o := { o with g := 0, cs := cs' }) (by simp) (Nat.le_refl _) rfl (fun _ => ⟨b, k, cap, ?_, rfl⟩)
          rw [← hlen, List.getElem?_append_right (Nat.le_refl _)]
          simp
        · rcases getElem?_snoc hu with hu | ⟨_, rfl⟩
          · exact hsel ns m u hu
          · exact ⟨n, by rw [g1]; rfl⟩
      · cases h
    · cases h
  · obtain ⟨⟨a', acc, ns⟩, h1, h2⟩ := Option.map_eq_some_iff.1 h
    simp only [Prod.mk.injEq] at h2
    obtain ⟨rfl, rfl⟩ := h2
    obtain ⟨i1, _, q⟩ := ownV_ok hm hi h1 hr
    exact ⟨sel ρ ns, own_mem hm i1, q, hsel ns⟩

def okFun (P : Program) (f : Nat) (i : IFn) : Bool :=
  match P.funcs[f]? with
  | some fn => (match fn.body with | some c => okCode P fn.ntmps c i.body | none => false) && okRess P fn.ntmps fn.results.toList i.res && i.ntmps == fn.ntmps && !(fn.name == "runtime.NumGoroutine") && (i.md != .ref || noKeep i.body)
  | none => false

theorem getE_args : ∀ {as : List AV} {i n : Nat}, getE (argsE i as) (i + n) = (as[n]?).getD .any
  | [], i, n => by simp [argsE, getE]
  | a :: as, i, n => by
    simp only [argsE, getE]
    cases n with
    | zero => simp
    | succ n =>
      rw [if_neg (by omega)]
      have := getE_args (as := as) (i := i + 1) (n := n)
      rw [show i + 1 + n = i + (n + 1) by omega] at this
      rw [this]
      simp

theorem callOf_ok {tab : Nat → Option IFn} {C : CallRel} (hC : CallsOk P C) (hm : P.follows .mixedOrders = true) (ht : ∀ f i, tab f = some i → okFun P f i = true) : CallsOk P (CallOf tab C) := by
  intro f as mem r mem' h
  obtain ⟨i, s, x, rv, h1, h2, h3, h4, h5, h6, h7⟩ := h
  have hk := ht f i h1
  unfold okFun at hk
  split at hk
  · rename_i fn hfn
    simp only [Bool.and_eq_true, beq_iff_eq, Bool.not_eq_true'] at hk
    obtain ⟨⟨⟨⟨k1, k2⟩, k3⟩, k4⟩, k5⟩ := hk
    split at k1
    · rename_i c hc
      refine ⟨by simp [okFn, hfn, hc, k4], ?_⟩
      intro w fz ρ vals hM hsz hrep
      refine calls_of_wp hfn hc ?_
      have hsize : (vals ++ Array.replicate (fn.ntmps - vals.size) undef).size = fn.ntmps := by simp; omega
      have hs0 : SR w fz mem ρ fn.ntmps ⟨argsE 0 as, mem⟩ { tmps := vals ++ Array.replicate (fn.ntmps - vals.size) undef, defers := [] } w := by
        refine ⟨fz, ρ, Ext.refl, hM, fun n hn => ?_, hsize, rfl⟩
        simp only
        have hge := getE_args (as := as) (i := 0) (n := n)
        rw [Nat.zero_add] at hge
        rw [hge]
        by_cases hlt : n < as.length
        · have h8 : as[n]? = some as[n] := by simp [hlt]
          have h9 : vals[n]? = some (vals[n]'(by omega)) := by simp [hsz, hlt]
          rw [h8]
          have h10 : (vals ++ Array.replicate (fn.ntmps - vals.size) undef).getD n undef = vals[n]'(by omega) := by
            have : n < vals.size := by omega
            simp [Array.getD, hsz, hlt, Array.getElem_append, this]
            omega
          rw [h10]
          exact hrep n _ _ h8 h9
        · rw [List.getElem?_eq_none (by omega)]
          exact .gr .any
      have hkeep : mem = [] ∨ noKeep i.body = true := by
        cases hmd : i.md with
        | pure => rw [hmd] at h7; exact .inl h7.1
        | own => rw [hmd] at h7; exact .inl h7.1
        | ref => rw [hmd] at k5; exact .inr (by simpa using k5)
      obtain ⟨n, hn⟩ := exec_ok (P := P) (w0 := w) (fz0 := fz) (mem0 := mem) (ρ0 := ρ) (N := fn.ntmps) hC hm h4 (Q := bodyPost P fn fun e w' => ∃ v fz' ρ', e = .returned v ∧ Ext w fz mem ρ w' fz' mem' ρ' ∧ Mem w' fz' mem' ρ' ∧ Rep w' fz' mem' ρ' r v) k1 hkeep (fun a' w' hs' => by
        obtain ⟨fz1, ρ1, e1, e2, e3, e4, e5⟩ := hs'
        obtain ⟨u, g1, g2⟩ := results_ok (fn := fn) (env := s.env) e2 e3 (by rw [e4]; exact k2) h6
        have fin : a'.defers = [] ∧ ∃ v, (results fn a'.tmps).run P w' = .ok v w' ∧ ∃ v' fz' ρ', Ending.returned v = .returned v' ∧ Ext w fz mem ρ w' fz' mem' ρ' ∧ Mem w' fz' mem' ρ' ∧ Rep w' fz' mem' ρ' r v' := by
          refine ⟨e5, u, g1, ?_⟩
          cases hmd : i.md with
          | pure =>
            rw [hmd] at h7
            obtain ⟨rfl, rfl, h7⟩ := h7
            refine ⟨u, frzAll fz1 ρ1, [], rfl, ⟨e1.os, e1.tape, e1.output, e1.size, e1.blk, e1.fzblk, fun b hb => .inl (e1.sub b hb), fun b hb => ?_, fun n o h => by simp at h, fun n v b h => by simp at h⟩, e2.nil (frzAll_lt e2), .gr ((snap_rg e2 (fun b hb => .inl hb) 10).1 _ r u h7 g2 (fun n _ u b hu hb => .inr ⟨n, u, hu, hb⟩))⟩
            rcases hb with hb | ⟨n, v, hv, hb⟩
            · exact e1.new b hb
            · rcases e1.own n v b hv hb with ⟨m, q, hq, hqb⟩ | hq
              · exact .inr (.inr ⟨m, q, hq, hqb⟩)
              · exact .inr (.inl hq)
          | own =>
            rw [hmd] at h7
            obtain ⟨rfl, h7⟩ := h7
            obtain ⟨ρ2, q1, q2, q3⟩ := own_out e2 h7 g2
            refine ⟨u, fz1, ρ2, rfl, ⟨e1.os, e1.tape, e1.output, e1.size, e1.blk, e1.fzblk, e1.sub, e1.new, fun n o h => by simp at h, fun n v b hv hb => ?_⟩, q1, q2⟩
            obtain ⟨k, rfl⟩ := q3 n v hv
            cases hρ : ρ1[k]? with
            | none => rw [hρ] at hb; simp [undef, Value.ownBlock] at hb
            | some v =>
              rw [hρ] at hb
              exact e1.own k v b hρ hb
          | ref =>
            rw [hmd] at h7
            obtain ⟨rfl, rfl⟩ := h7
            exact ⟨u, fz1, ρ1, rfl, e1, e2, g2⟩
        rcases h5 with rfl | rfl <;> exact fin)
      exact (hn _ _ hs0).wp
    · cases k1
  · cases hk

theorem callN_ok {tab : Nat → Option IFn} {E : CallRel} (hE : CallsOk P E) (hm : P.follows .mixedOrders = true) (ht : ∀ f i, tab f = some i → okFun P f i = true) : ∀ n, CallsOk P (CallN tab E n)
  | 0 => hE
  | n + 1 => fun h => by
    rcases h with h | h
    · exact callN_ok hE hm ht n h
    · exact callOf_ok (callN_ok hE hm ht n) hm ht h

/-- THE CONTRACT: what the small form is shown to do, the model does. -/
theorem call_ok {tab : Nat → Option IFn} {E : CallRel} (hE : CallsOk P E) (hm : P.follows .mixedOrders = true) (ht : ∀ f i, tab f = some i → okFun P f i = true) {f : Nat} {as : List AV} {mem : List AObj} {r : AV} {mem' : List AObj} (h : Call tab E f as mem r mem') : CallS P f as mem r mem' := by
  obtain ⟨n, h⟩ := h
  exact (callN_ok hE hm ht n h).2

end
end Go.V
