/- The operations that leave memory alone: each fits the model's. -/
import Derived.Test.YtcmbaabkfihdmaaVSnap
import Derived.Deep.MidRow
import Derived.Laws.StructEq
set_option linter.unusedVariables false
set_option linter.unusedSimpArgs false
namespace Go.V
open Go

/-! ### Constants, operands -/
def okCell : Value → AV → Bool
  | .int k n, .int k' n' => k == k' && n == n'
  | .bool b, .bool c => b == c
  | .string s, .str t => s.data == t.data
  | .pointer none, .nilptr => true
  | .slice none 0 0, .nilsl _ sz => decide (0 < sz)
  | .slice none 0 0, .sl 0 _ [] => true
  | _, _ => false
def okConst : Value → AV → Bool
  | .agg vs, .agg cs => vs.size == cs.length && (vs.toList.zip cs).all fun p => okCell p.1 p.2
  | v, c => okCell v c
def okOpd (N : Nat) : Operand → Opd → Bool
  | .tmp t, .t n => t == n && decide (n < N)
  | .const v, .k c => okConst v c
  | .func f, .k (.fn g []) => f == g
  | _, _ => false

theorem okCell_rg {w : World} {fz : Nat → Prop} {v : Value} {c : AV} (h : okCell v c = true) : RG w fz c v ∧ v.oneCell' = true := by
  unfold okCell at h
  split at h
  · simp only [Bool.and_eq_true, beq_iff_eq] at h; obtain ⟨rfl, rfl⟩ := h; exact ⟨.int, rfl⟩
  · simp only [beq_iff_eq] at h; subst h; exact ⟨.bool, rfl⟩
  · rename_i s t
    have : s = t := by cases s; cases t; simp at h; simp [h]
    subst this; exact ⟨.str, rfl⟩
  · exact ⟨.nilptr, rfl⟩
  · exact ⟨.nilsl (by simpa using h), rfl⟩
  · exact ⟨.sl0, rfl⟩
  · cases h

theorem zip_get {α β : Type} {l : List α} {m : List β} {j : Nat} {a : α} {b : β} (h1 : l[j]? = some a) (h2 : m[j]? = some b) : (a, b) ∈ l.zip m := by
  refine List.mem_of_getElem? (i := j) ?_
  rw [List.getElem?_zip_eq_some]
  exact ⟨h1, h2⟩

theorem okConst_rg {w : World} {fz : Nat → Prop} {v : Value} {c : AV} (h : okConst v c = true) : RG w fz c v := by
  unfold okConst at h
  split at h
  · rename_i vs cs
    simp only [Bool.and_eq_true, beq_iff_eq, List.all_eq_true] at h
    obtain ⟨h1, h2⟩ := h
    refine .agg h1 (fun j u hu => ?_) (fun j c u hc hu => ?_)
    · have hj : j < cs.length := by rw [← h1]; exact (Array.getElem?_eq_some_iff.1 hu).1
      have := h2 _ (zip_get (j := j) (a := u) (b := cs[j]) (by simpa using hu) (by simp [hj]))
      exact (okCell_rg (w := w) (fz := fz) this).2
    · have := h2 _ (zip_get (j := j) (a := u) (b := c) (by simpa using hu) hc)
      exact (okCell_rg this).1
  · exact (okCell_rg h).1

/-- The temporaries are what the abstract ones say. -/
def EnvR (w : World) (fz : Nat → Prop) (mem : List AObj) (ρ : List Value) (env : Env) (a : Act) : Prop := ∀ n, n < a.tmps.size → Rep w fz mem ρ (getE env n) (a.tmps.getD n undef)

theorem opd_rep {w : World} {fz : Nat → Prop} {mem : List AObj} {ρ : List Value} {env : Env} {a : Act} (he : EnvR w fz mem ρ env a) {x : Operand} {y : Opd} (h : okOpd a.tmps.size x y = true) : Rep w fz mem ρ (ev env y) (a.eval x) := by
  unfold okOpd at h
  split at h
  · simp only [Bool.and_eq_true, beq_iff_eq, decide_eq_true_eq] at h
    obtain ⟨rfl, h⟩ := h
    exact he _ h
  · exact .gr (okConst_rg h)
  · simp only [beq_iff_eq] at h
    subst h
    exact .gr (.fn (by simp) (fun j c u hc => by simp at hc))
  · cases h

theorem rep_int {w : World} {fz : Nat → Prop} {mem : List AObj} {ρ : List Value} {k : IntKind} {n : Int} {v : Value} (h : Rep w fz mem ρ (.int k n) v) : v = .int k n := by cases h with | gr h => cases h; rfl
theorem rep_bool {w : World} {fz : Nat → Prop} {mem : List AObj} {ρ : List Value} {b : Bool} {v : Value} (h : Rep w fz mem ρ (.bool b) v) : v = .bool b := by cases h with | gr h => cases h; rfl
theorem rep_str {w : World} {fz : Nat → Prop} {mem : List AObj} {ρ : List Value} {s : ByteArray} {v : Value} (h : Rep w fz mem ρ (.str s) v) : v = .string s := by cases h with | gr h => cases h; rfl
theorem rep_nilptr {w : World} {fz : Nat → Prop} {mem : List AObj} {ρ : List Value} {v : Value} (h : Rep w fz mem ρ .nilptr v) : v = .pointer none := by cases h with | gr h => cases h; rfl
theorem rep_sl {w : World} {fz : Nat → Prop} {mem : List AObj} {ρ : List Value} {n sz : Nat} {cs : List AV} {v : Value} (h : Rep w fz mem ρ (.sl n sz cs) v) : RG w fz (.sl n sz cs) v ∧ ∃ (A : Option Addr) (c : Nat), v = .slice A n c ∧ n ≤ c := by
  cases h with
  | gr h =>
    refine ⟨h, ?_⟩
    cases h with
    | sl0 => exact ⟨_, _, rfl, Nat.zero_le _⟩
    | sl h1 h2 => exact ⟨_, _, rfl, h2⟩
theorem rg_sl_inv {w : World} {fz : Nat → Prop} {n sz : Nat} {cs : List AV} {v : Value} (h : RG w fz (.sl n sz cs) v) :
    (n = 0 ∧ cs = [] ∧ ∃ (A : Option Addr) (c : Nat), v = .slice A 0 c) ∨
    ∃ (b o cap : Nat) (vs : List Value), v = .slice (some ⟨b, o, none⟩) n cap ∧ 0 < n ∧ n ≤ cap ∧ cs.length = n * sz ∧ vs.length = cs.length ∧ fz b ∧ (∀ u ∈ vs, u.oneCell' = true) ∧
      (∀ (j : Nat) (u : Value), vs[j]? = some u → w.cell? ⟨b, o + j, none⟩ = some u) ∧ (∀ (j : Nat) (c : AV) (u : Value), cs[j]? = some c → vs[j]? = some u → RG w fz c u) := by
  cases h with
  | sl0 => exact .inl ⟨rfl, rfl, _, _, rfl⟩
  | sl h1 h2 h3 h4 h5 h6 h7 h8 => exact .inr ⟨_, _, _, _, rfl, h1, h2, h3, h4, h5, h6, h7, h8⟩
theorem rep_ptr {w : World} {fz : Nat → Prop} {mem : List AObj} {ρ : List Value} {i : Nat} {cs : List AV} {v : Value} (h : Rep w fz mem ρ (.ptr cs i) v) : RG w fz (.ptr cs i) v := by cases h with | gr h => exact h

theorem rep_one {w : World} {fz : Nat → Prop} {mem : List AObj} {ρ : List Value} {c : AV} {v : Value} (h : Rep w fz mem ρ c v) (h1 : c ≠ .any) (h2 : ∀ cs, c ≠ .agg cs) (h3 : ∀ cs, c ≠ .tup cs) : v.oneCell' = true := by
  cases h with
  | gr h => cases h <;> first | rfl | exact absurd rfl h1 | exact absurd rfl (h2 _) | exact absurd rfl (h3 _)
  | arr _ _ h => exact h
  | loc _ _ h => exact h
  | msl _ _ h => exact h
  | agg => exact absurd rfl (h2 _)
  | tup => exact absurd rfl (h3 _)
  | fn => rfl

/-- A value's cells. -/
theorem rep_cells {w : World} {fz : Nat → Prop} {mem : List AObj} {ρ : List Value} {c : AV} {cs : List AV} {v : Value} (h : Rep w fz mem ρ c v) (hc : cellsOf c = some cs) :
    v.cells.size = cs.length ∧ (∀ u ∈ v.cells.toList, u.oneCell' = true) ∧ ∀ (j : Nat) (d : AV) (u : Value), cs[j]? = some d → v.cells[j]? = some u → Rep w fz mem ρ d u := by
  have single : c ≠ .any → (∀ cs, c ≠ .agg cs) → (∀ cs, c ≠ .tup cs) → cs = [c] → v.cells.size = cs.length ∧ (∀ u ∈ v.cells.toList, u.oneCell' = true) ∧ ∀ (j : Nat) (d : AV) (u : Value), cs[j]? = some d → v.cells[j]? = some u → Rep w fz mem ρ d u := by
    intro h1 h2 h3 hcs
    subst hcs
    have ho := rep_one h h1 h2 h3
    have hv : v.cells = #[v] := by cases v <;> first | rfl | cases ho
    rw [hv]
    refine ⟨rfl, by simpa using ho, fun j d u hd hu => ?_⟩
    cases j with
    | zero => simp at hd hu; subst hd; subst hu; exact h
    | succ j => simp at hd
  cases c with
  | any => simp [cellsOf] at hc
  | tup => simp [cellsOf] at hc
  | agg ds =>
    simp only [cellsOf, Option.some.injEq] at hc
    subst hc
    obtain ⟨vs, rfl, h1, h2, h3⟩ := rg_agg_rep h
    refine ⟨h1, fun u hu => ?_, fun j d u hd hu => h3 j d u hd hu⟩
    obtain ⟨j, hj⟩ := List.mem_iff_getElem?.1 hu
    exact h2 j u (by simpa [Value.cells] using hj)
  | _ => simp only [cellsOf, Option.some.injEq] at hc; exact single (by simp) (by simp) (by simp) hc.symm

theorem rg_ptr_inv {w : World} {fz : Nat → Prop} {i : Nat} {cs : List AV} {v : Value} (h : RG w fz (.ptr cs i) v) :
    ∃ (b o : Nat) (vs : List Value), v = .pointer (some ⟨b, o + i, none⟩) ∧ vs.length = cs.length ∧ fz b ∧ (∀ u ∈ vs, u.oneCell' = true) ∧
      (∀ (j : Nat) (u : Value), vs[j]? = some u → w.cell? ⟨b, o + j, none⟩ = some u) ∧ (∀ (j : Nat) (c : AV) (u : Value), cs[j]? = some c → vs[j]? = some u → RG w fz c u) := by
  cases h with
  | ptr h4 h5 h6 h7 h8 => exact ⟨_, _, _, rfl, h4, h5, h6, h7, h8⟩

/-! ### What an operation that leaves memory alone owes -/
def PureOut (P : Program) (o : Oper) (a : Act) (w : World) (fz : Nat → Prop) (mem : List AObj) (ρ : List Value) (v : AV) : Prop :=
  ∃ u, (execOp a.eval o).run P w = .ok (.value u) w ∧ Rep w fz mem ρ v u

section
variable {P : Program} {w : World} {fz : Nat → Prop} {mem : List AObj} {ρ : List Value} {env : Env} {a : Act} {o : Oper}

theorem op_mov (he : EnvR w fz mem ρ env a) {x : Operand} {y : Opd} (ho : o.op = .move x ∨ o.op = .assign x) (h : okOpd a.tmps.size x y = true) : PureOut P o a w fz mem ρ (ev env y) := by
  refine ⟨a.eval x, ?_, opd_rep he h⟩
  rcases ho with ho | ho <;> simp [execOp, ho]

theorem op_pick (he : EnvR w fz mem ρ env a) {c x y : Operand} {c' x' y' : Opd} (ho : o.op = .pick c x y) (hc : okOpd a.tmps.size c c' = true) (hx : okOpd a.tmps.size x x' = true) (hy : okOpd a.tmps.size y y' = true)
    {v : AV} {m : List AObj} (h : evalOp mem (ev env) (.pick c' x' y') = some (v, m)) : m = mem ∧ PureOut P o a w fz mem ρ v := by
  simp only [evalOp] at h
  split at h
  · rename_i t ht
    have hcv := opd_rep he hc
    rw [ht] at hcv
    have := rep_bool hcv
    simp only [Option.some.injEq, Prod.mk.injEq] at h
    obtain ⟨rfl, rfl⟩ := h
    refine ⟨rfl, if t then a.eval x else a.eval y, by simp [execOp, ho, this, asBool], ?_⟩
    cases t
    · exact opd_rep he hy
    · exact opd_rep he hx
  · cases h

theorem intKind_beq (j k : IntKind) : (j == k) = decide (j = k) := by cases j <;> cases k <;> rfl

/-- Integers' operators. -/
def okBin : BinOp → Bin → Bool
  | .add, .add | .sub, .sub | .mul, .mul | .quo, .quo | .rem, .rem | .and, .and | .or, .or | .xor, .xor | .shl, .shl | .shr, .shr
  | .eql, .eq | .neq, .ne | .lss, .lt | .leq, .le | .gtr, .gt | .geq, .ge => true
  | _, _ => false

theorem eqGuard_int (op : BinOp) (t : TypeId) (x y : Operand) (k j : IntKind) (m n : Int) : (eqGuard op t x y (.int k m) (.int j n)).run P w = .ok () w := by
  unfold eqGuard
  cases op <;> simp
theorem eqGuard_bool (op : BinOp) (t : TypeId) (x y : Operand) (m n : Bool) : (eqGuard op t x y (.bool m) (.bool n)).run P w = .ok () w := by
  unfold eqGuard
  cases op <;> simp
theorem eqGuard_str (op : BinOp) (t : TypeId) (x y : Operand) (m n : ByteArray) : (eqGuard op t x y (.string m) (.string n)).run P w = .ok () w := by
  unfold eqGuard
  cases op <;> simp
theorem eqGuard_ptr (op : BinOp) (t : TypeId) (x y : Operand) (m n : Option Addr) : (eqGuard op t x y (.pointer m) (.pointer n)).run P w = .ok () w := by
  unfold eqGuard
  cases op <;> simp

theorem bin_int {op : BinOp} {b : Bin} (hb : okBin op b = true) (t : TypeId) {k j : IntKind} {m n : Int} {v : AV} (h : binV b (.int k m) (.int j n) = some v) :
    ∃ u, (binOp op t (.int k m) (.int j n)).run P w = .ok u w ∧ RG w fz v u := by
  simp only [binV] at h
  by_cases hs : b = .shl ∨ b = .shr
  · rw [if_pos hs] at h
    unfold shiftOp at h
    split at h
    · cases h
    · rename_i hn
      rcases hs with rfl | rfl
      · cases op <;> simp [okBin] at hb
        simp only [Option.some.injEq] at h
        subst h
        exact ⟨_, by simp [binOp, Op.shift, hn], .int⟩
      · cases op <;> simp [okBin] at hb
        simp only [Option.some.injEq] at h
        subst h
        exact ⟨_, by simp [binOp, Op.shift, hn], .int⟩
  · rw [if_neg hs] at h
    split at h
    · rename_i hk
      subst hk
      cases op <;> cases b <;> simp [okBin] at hb <;> simp at hs <;> simp only [arith] at h
      case quo.quo =>
        split at h
        · cases h
        · rename_i hn; simp only [Option.some.injEq] at h; subst h; exact ⟨_, by simp [binOp, Op.intDiv, hn], .int⟩
      case rem.rem =>
        split at h
        · cases h
        · rename_i hn; simp only [Option.some.injEq] at h; subst h; exact ⟨_, by simp [binOp, Op.intDiv, hn], .int⟩
      all_goals
        simp only [Option.some.injEq] at h
        subst h
        refine ⟨_, ?_, by first | exact .int | exact .bool⟩
        simp only [binOp, Op.intArith, Op.intBits, Op.intCmp, ne_eq, not_true_eq_false, if_false]
        rfl
    · cases h

theorem bin_str {op : BinOp} {b : Bin} (hb : okBin op b = true) (t : TypeId) {m n : ByteArray} {v : AV} (h : strOp b m n = some v) :
    ∃ u, (binOp op t (.string m) (.string n)).run P w = .ok u w ∧ RG w fz v u := by
  cases op <;> cases b <;> simp [okBin] at hb <;> simp only [strOp] at h <;> try (cases h; done)
  case add.add =>
    split at h
    · cases h
    · rename_i hn
      simp only [Option.some.injEq] at h; subst h
      exact ⟨_, by simp only [binOp, Op.stringOp]; rw [if_neg hn]; rfl, .str⟩
  all_goals
    simp only [Option.some.injEq] at h
    subst h
    exact ⟨_, by simp only [binOp, Op.stringOp]; rfl, .bool⟩

theorem op_bin_int (he : EnvR w fz mem ρ env a) {op : BinOp} {b : Bin} {t t' : TypeId} {x y : Operand} {x' y' : Opd} (ho : o.op = .binOp op t x y t') (hb : okBin op b = true) (hx : okOpd a.tmps.size x x' = true) (hy : okOpd a.tmps.size y y' = true)
    {k j : IntKind} {m n : Int} (h1 : ev env x' = .int k m) (h2 : ev env y' = .int j n) {v : AV} (h : binV b (.int k m) (.int j n) = some v) : PureOut P o a w fz mem ρ v := by
  have e1 := opd_rep he hx
  have e2 := opd_rep he hy
  rw [h1] at e1; rw [h2] at e2
  have e1 := rep_int e1
  have e2 := rep_int e2
  obtain ⟨u, h3, h4⟩ := bin_int (P := P) (w := w) (fz := fz) hb t h
  exact ⟨u, by simp [execOp, ho, e1, e2, eqGuard_int, h3], .gr h4⟩

theorem op_bin_str (he : EnvR w fz mem ρ env a) {op : BinOp} {b : Bin} {t t' : TypeId} {x y : Operand} {x' y' : Opd} (ho : o.op = .binOp op t x y t') (hb : okBin op b = true) (hx : okOpd a.tmps.size x x' = true) (hy : okOpd a.tmps.size y y' = true)
    {m n : ByteArray} (h1 : ev env x' = .str m) (h2 : ev env y' = .str n) {v : AV} (h : strOp b m n = some v) : PureOut P o a w fz mem ρ v := by
  have e1 := opd_rep he hx
  have e2 := opd_rep he hy
  rw [h1] at e1; rw [h2] at e2
  have e1 := rep_str e1
  have e2 := rep_str e2
  obtain ⟨u, h3, h4⟩ := bin_str (P := P) (w := w) (fz := fz) hb t h
  exact ⟨u, by simp [execOp, ho, e1, e2, eqGuard_str, h3], .gr h4⟩

theorem equalIn_bool (d : Nat) {t : TypeId} (ht : P.underlying t = some .bool) (m n : Bool) : (Op.equalIn (d + 1) t (.bool m) (.bool n)).run P w = .ok (m == n) w := by
  simp only [Op.equalIn, Sem.run_bind, run_underlying ht, Result.andThen_ok, Sem.run_pure]
theorem equalIn_nil (d : Nat) {t e : TypeId} (ht : P.underlying t = some (.pointer e)) (p : Option Addr) : (Op.equalIn (d + 1) t (.pointer p) (.pointer none)).run P w = .ok p.isNone w := by
  cases p <;> simp only [Op.equalIn, Sem.run_bind, run_underlying ht, Result.andThen_ok, Sem.run_pure, Option.isNone]
theorem op_bin_bool (he : EnvR w fz mem ρ env a) {op : BinOp} {b : Bin} {t t' : TypeId} {x y : Operand} {x' y' : Opd} (ho : o.op = .binOp op t x y t') (hb : okBin op b = true) (hx : okOpd a.tmps.size x x' = true) (hy : okOpd a.tmps.size y y' = true)
    (ht : P.underlying t = some .bool) {m n : Bool} (h1 : ev env x' = .bool m) (h2 : ev env y' = .bool n) {v : AV} (h : boolV b (.bool m) (.bool n) = some v) : PureOut P o a w fz mem ρ v := by
  have e1 := opd_rep he hx
  have e2 := opd_rep he hy
  rw [h1] at e1; rw [h2] at e2
  have e1 := rep_bool e1
  have e2 := rep_bool e2
  simp only [boolV] at h
  have heq : (Op.equal t (.bool m) (.bool n)).run P w = .ok (m == n) w := by
    exact equalIn_bool 9999 ht m n
  split at h
  · rename_i hh; subst hh
    simp only [Option.some.injEq] at h; subst h
    cases op <;> simp [okBin] at hb
    exact ⟨_, by simp only [execOp, ho, e1, e2, Sem.run_bind, eqGuard_bool, Result.andThen_ok, binOp, heq, Sem.run_pure], .gr .bool⟩
  · split at h
    · rename_i hh; subst hh
      simp only [Option.some.injEq] at h; subst h
      cases op <;> simp [okBin] at hb
      exact ⟨_, by simp only [execOp, ho, e1, e2, Sem.run_bind, eqGuard_bool, Result.andThen_ok, binOp, heq, Sem.run_pure], .gr .bool⟩
    · cases h

theorem op_bin_nil (he : EnvR w fz mem ρ env a) {op : BinOp} {b : Bin} {t t' e : TypeId} {x y : Operand} {x' y' : Opd} (ho : o.op = .binOp op t x y t') (hb : okBin op b = true) (hx : okOpd a.tmps.size x x' = true) (hy : okOpd a.tmps.size y y' = true)
    (ht : P.underlying t = some (.pointer e)) (h2 : ev env y' = .nilptr) (r : Bool) (hr : ∃ p : Option Addr, a.eval x = .pointer p ∧ p.isNone = r) {v : AV} (h : (if b = .eq then some (AV.bool r) else if b = .ne then some (.bool !r) else none) = some v) : PureOut P o a w fz mem ρ v := by
  have e2 := opd_rep he hy
  rw [h2] at e2
  have e2 := rep_nilptr e2
  obtain ⟨p, e1, hp⟩ := hr
  have heq : (Op.equal t (.pointer p) (.pointer none)).run P w = .ok r w := by
    rw [← hp]
    exact equalIn_nil 9999 ht p
  split at h
  · rename_i hh; subst hh
    simp only [Option.some.injEq] at h; subst h
    cases op <;> simp [okBin] at hb
    exact ⟨_, by cases p <;> simp only [execOp, ho, e1, e2, Sem.run_bind, eqGuard_ptr, Result.andThen_ok, binOp, heq, Sem.run_pure], .gr .bool⟩
  · split at h
    · rename_i hh; subst hh
      simp only [Option.some.injEq] at h; subst h
      cases op <;> simp [okBin] at hb
      exact ⟨_, by cases p <;> simp only [execOp, ho, e1, e2, Sem.run_bind, eqGuard_ptr, Result.andThen_ok, binOp, heq, Sem.run_pure], .gr .bool⟩
    · cases h

theorem op_neg (he : EnvR w fz mem ρ env a) {t : TypeId} {x : Operand} {x' : Opd} (ho : o.op = .unOp .neg t x) (hx : okOpd a.tmps.size x x' = true) {k : IntKind} {n : Int} (h1 : ev env x' = .int k n) : PureOut P o a w fz mem ρ (.int k (k.wrap (0 - n))) := by
  have e1 := opd_rep he hx
  rw [h1] at e1
  exact ⟨_, by simp [execOp, ho, rep_int e1, Op.unary, Op.intArith], .gr .int⟩
theorem op_not (he : EnvR w fz mem ρ env a) {t : TypeId} {x : Operand} {x' : Opd} (ho : o.op = .unOp .not t x) (hx : okOpd a.tmps.size x x' = true) {b : Bool} (h1 : ev env x' = .bool b) : PureOut P o a w fz mem ρ (.bool !b) := by
  have e1 := opd_rep he hx
  rw [h1] at e1
  exact ⟨_, by simp [execOp, ho, rep_bool e1, Op.unary], .gr .bool⟩
theorem op_conv (he : EnvR w fz mem ρ env a) {s t : TypeId} {x : Operand} {x' : Opd} {k k' : IntKind} {d : TypeDesc} (ho : o.op = .convert s t x) (hx : okOpd a.tmps.size x x' = true) (hs : P.underlying s = some d) (ht : P.underlying t = some (.int k)) {n : Int} (h1 : ev env x' = .int k' n) :
    PureOut P o a w fz mem ρ (.int k (k.wrap n)) := by
  have e1 := opd_rep he hx
  rw [h1] at e1
  exact ⟨_, by simp [execOp, ho, rep_int e1, convert, run_underlying hs, run_underlying ht, Conv.intToInt], .gr .int⟩

/-! ### Addresses -/
theorem rep_addr {c : AV} {v : Value} (h : Rep w fz mem ρ c v) (n : Nat) : (∀ cs i, c = .ptr cs i → ∃ b o, v = .pointer (some ⟨b, o + i, none⟩) ∧ RG w fz (.ptr cs n) (.pointer (some ⟨b, o + n, none⟩))) := by
  intro cs i hc
  subst hc
  cases rep_ptr h with
  | ptr h1 h2 h3 h4 h5 => exact ⟨_, _, rfl, .ptr h1 h2 h3 h4 h5⟩

theorem fieldPlace_run {f : Field} {i : TypeInfo} (hi : P.info? f.type = some i) (hz : i.size ≠ 0) (A : Addr) : (fieldPlace A f).run P w = .ok (A.add f.offset) w := by
  simp [fieldPlace, sizeOf, typeInfo, hi, hz]

theorem op_faddr (he : EnvR w fz mem ρ env a) {s : TypeId} {x : Operand} {x' : Opd} {k off : Nat} {fs : Array Field} {f : Field} {i : TypeInfo} (ho : o.op = .fieldAddr s x k) (hx : okOpd a.tmps.size x x' = true)
    (hs : P.underlying s = some (.struct fs)) (hf : fs[k]? = some f) (hoff : f.offset = off) (hi : P.info? f.type = some i) (hz : i.size ≠ 0) {v : AV} {m : List AObj} (h : evalOp mem (ev env) (.faddr off x') = some (v, m)) : m = mem ∧ PureOut P o a w fz mem ρ v := by
  subst hoff
  have e1 := opd_rep he hx
  simp only [evalOp] at h
  split at h
  · rename_i cs j hj
    rw [hj] at e1
    simp only [Option.some.injEq, Prod.mk.injEq] at h
    obtain ⟨rfl, rfl⟩ := h
    obtain ⟨b, q, h1, h2⟩ := rep_addr e1 (j + f.offset) cs j rfl
    refine ⟨rfl, _, ?_, .gr h2⟩
    simp [execOp, ho, h1, Instr.fieldAt, run_underlying hs, hf, Instr.sureAddr, fieldPlace_run hi hz, addr_add, Nat.add_assoc]
  · rename_i n g j hj
    rw [hj] at e1
    obtain ⟨ob, hob, h⟩ := Option.map_eq_some_iff.1 h
    simp only [Prod.mk.injEq] at h
    obtain ⟨rfl, rfl⟩ := h
    obtain ⟨b, q, cap, h1, h2⟩ := rep_loc e1 hob
    obtain ⟨h3, h4⟩ := geto_some hob
    refine ⟨rfl, .pointer (some ⟨b, j + f.offset, none⟩), ?_, .loc h3 (Nat.le_of_eq h4.symm) rfl (fun _ => ⟨b, q, cap, h1, rfl⟩)⟩
    simp [execOp, ho, h2, Instr.fieldAt, run_underlying hs, hf, Instr.sureAddr, fieldPlace_run hi hz, addr_add]
  · cases h

theorem iaddr_run {t elem : TypeId} {i : TypeInfo} (ht : P.underlying t = some (.slice elem)) (hi : P.info? elem = some i) (b q n c : Nat) (k : IntKind) (j : Int) (h0 : 0 ≤ j) (h1 : j < n) :
    (Instr.indexAt t (.slice (some ⟨b, q, none⟩) n c) (.int k j)).run P w = .ok (.pointer (some ⟨b, q + j.toNat * i.size, none⟩)) w := by
  simp [Instr.indexAt, asIntOf, run_underlying ht, h0, h1, sizeOf, typeInfo, hi, addr_add]

theorem op_iaddr (hm : Mem w fz mem ρ) (he : EnvR w fz mem ρ env a) {t elem : TypeId} {x y : Operand} {x' y' : Opd} {sz : Nat} {i : TypeInfo} (ho : o.op = .indexAddr t x y) (hx : okOpd a.tmps.size x x' = true) (hy : okOpd a.tmps.size y y' = true)
    (ht : P.underlying t = some (.slice elem)) (hi : P.info? elem = some i) (hsz : i.size = sz) {v : AV} {m : List AObj} (h : evalOp mem (ev env) (.iaddr sz x' y') = some (v, m)) : m = mem ∧ PureOut P o a w fz mem ρ v := by
  subst hsz
  have e1 := opd_rep he hx
  have e2 := opd_rep he hy
  simp only [evalOp] at h
  split at h
  · rename_i k j hj
    rw [hj] at e2
    have e2 := rep_int e2
    split at h
    · rename_i n sz' cs hs
      rw [hs] at e1
      split at h
      · rename_i hc
        obtain ⟨rfl, h0, h1⟩ := hc
        simp only [Option.some.injEq, Prod.mk.injEq] at h
        obtain ⟨rfl, rfl⟩ := h
        rcases rg_sl_inv (rep_sl e1).1 with ⟨rfl, _⟩ | ⟨b, q, cap, vs, hcase, g1, g2, g3, g4, g5, g6, g7, g8⟩
        · omega
        · refine ⟨rfl, .pointer (some ⟨b, q + j.toNat * i.size, none⟩), ?_, .gr (.ptr g4 g5 g6 g7 g8)⟩
          simp only [execOp, ho, e2, hcase, Sem.run_bind, iaddr_run ht hi b q n cap k j h0 h1, Result.andThen_ok, Sem.run_pure]
      · cases h
    · rename_i n g hs
      rw [hs] at e1
      split at h
      · rename_i ob hob
        split at h
        · rename_i hc
          obtain ⟨h4, h0, h1⟩ := hc
          simp only [Option.some.injEq, Prod.mk.injEq] at h
          obtain ⟨rfl, rfl⟩ := h
          obtain ⟨g1, g2⟩ := rep_arr e1 hob
          obtain ⟨k1, k2⟩ := geto_some hob
          obtain ⟨vs, _, _, _, _, _, _, h8⟩ := hm.rowAt k1 g1
          obtain ⟨b, cap, e3, _, _⟩ := h8 (by omega)
          refine ⟨rfl, .pointer (some ⟨b, 0 + j.toNat * i.size, none⟩), ?_, .loc k1 (Nat.le_of_eq k2.symm) rfl (fun _ => ⟨b, ob.n, cap, by rw [g1, e3], by rw [Nat.zero_add]⟩)⟩
          simp only [execOp, ho, e2, e3, Sem.run_bind, iaddr_run ht hi b 0 ob.n cap k j h0 h1, Result.andThen_ok, Sem.run_pure]
        · cases h
      · cases h
    · rename_i n g off len hs
      rw [hs] at e1
      split at h
      · rename_i ob hob
        split at h
        · rename_i hc
          obtain ⟨h4, h0, h1⟩ := hc
          simp only [Option.some.injEq, Prod.mk.injEq] at h
          obtain ⟨rfl, rfl⟩ := h
          obtain ⟨g1, A, c', e3, g3, g4⟩ := rep_msl e1 hob
          obtain ⟨k1, k2⟩ := geto_some hob
          obtain ⟨b, q, cap, g5, rfl⟩ := g4 (by omega)
          refine ⟨rfl, .pointer (some ⟨b, off * ob.sz + j.toNat * i.size, none⟩), ?_, .loc k1 (Nat.le_of_eq k2.symm) rfl (fun _ => ⟨b, q, cap, g5, by rw [h4]⟩)⟩
          simp only [execOp, ho, e2, e3, Sem.run_bind, iaddr_run ht hi b (off * ob.sz) len c' k j h0 h1, Result.andThen_ok, Sem.run_pure]
        · cases h
      · cases h
    · cases h
  · cases h

/-! ### Structs of scalars -/
def okFlat (P : Program) : List Field → List Nat → Nat → Bool
  | [], [], _ => true
  | f :: fs, s :: sig, i => f.name != "_" && f.offset == i && (match P.underlying f.type with | some .bool => s == 0 | some (.int _) => s == 1 | some .string => s == 2 | _ => false) && okFlat P fs sig (i + 1)
  | _, _, _ => false
def okStruct (P : Program) (t : TypeId) (sig : List Nat) : Bool :=
  match P.underlying t with
  | some (.struct fs) => !(P.stoodInHeld t) && !(P.eqGuardType P.depth t) && okFlat P fs.toList sig 0
  | _ => false

theorem eqFields_run (d : Nat) (xs ys : Array Value) : ∀ {fs : List Field} {sig : List Nat} {off : Nat} {cs ds : List AV} {r : Bool}, okFlat P fs sig off = true → cs.map kindOf = sig → ds.map kindOf = sig → scalarsEq cs ds = some r →
    (∀ (j : Nat) (c : AV), cs[j]? = some c → ∃ u, xs[off + j]? = some u ∧ Rep w fz mem ρ c u) → (∀ (j : Nat) (c : AV), ds[j]? = some c → ∃ u, ys[off + j]? = some u ∧ Rep w fz mem ρ c u) →
    (Op.eqFields (d + 1) xs ys fs).run P w = .ok r w
  | [], [], off, cs, ds, r, hk, h1, h2, h, hx, hy => by
    have e1 : cs = [] := by simpa using h1
    have e2 : ds = [] := by simpa using h2
    subst e1; subst e2
    simp only [scalarsEq, Option.some.injEq] at h
    subst h
    simp [Op.eqFields]
  | f :: fs, s :: sig, off, [], ds, r, hk, h1, h2, h, hx, hy => by simp at h1
  | f :: fs, s :: sig, off, c :: cs, [], r, hk, h1, h2, h, hx, hy => by simp at h2
  | [], s :: sig, off, cs, ds, r, hk, h1, h2, h, hx, hy => by simp [okFlat] at hk
  | f :: fs, [], off, cs, ds, r, hk, h1, h2, h, hx, hy => by simp [okFlat] at hk
  | f :: fs, s :: sig, off, c :: cs, e :: ds, r, hk, h1, h2, h, hx, hy => by
    simp only [okFlat, Bool.and_eq_true, bne_iff_ne, ne_eq, beq_iff_eq] at hk
    obtain ⟨⟨⟨k1, k2⟩, k3⟩, k4⟩ := hk
    simp only [List.map_cons, List.cons.injEq] at h1 h2
    obtain ⟨u, hu, ru⟩ := hx 0 c rfl
    obtain ⟨v, hv, rv⟩ := hy 0 e rfl
    rw [Nat.add_zero] at hu hv
    have hpart : ∀ (zs : Array Value) (z : Value), zs[off]? = some z → (part f.type zs f.offset).run P w = .ok z w := fun zs z hz => by
      rw [k2]
      split at k3
      all_goals first
        | (rename_i ht; simp [part, isAgg, run_underlying ht, hz])
        | cases k3
    have rec' : ∀ b, scalarsEq cs ds = some b → (Op.eqFields (d + 1) xs ys fs).run P w = .ok b w := fun b hb =>
      eqFields_run d xs ys k4 h1.2 h2.2 hb (fun j c hc => by have := hx (j + 1) c hc; rwa [show off + (j + 1) = off + 1 + j by omega] at this) (fun j c hc => by have := hy (j + 1) c hc; rwa [show off + (j + 1) = off + 1 + j by omega] at this)
    have heq : ∃ b, scalEq c e = some b ∧ (Op.equalIn (d + 1) f.type u v).run P w = .ok b w := by
      simp only [scalarsEq] at h
      cases hse : scalEq c e with
      | none => rw [hse] at h; cases h
      | some b =>
        refine ⟨b, rfl, ?_⟩
        split at k3
        · rename_i ht
          simp only [beq_iff_eq] at k3
          subst k3
          cases c <;> simp [kindOf] at h1
          cases e <;> simp [kindOf] at h2
          simp only [scalEq, Option.some.injEq] at hse
          subst hse
          obtain rfl := rep_bool ru
          obtain rfl := rep_bool rv
          exact equalIn_bool d ht _ _
        · rename_i q ht
          simp only [beq_iff_eq] at k3
          subst k3
          cases c <;> simp [kindOf] at h1
          cases e <;> simp [kindOf] at h2
          simp only [scalEq] at hse
          split at hse
          · rename_i hkk
            subst hkk
            obtain rfl := rep_int ru
            obtain rfl := rep_int rv
            obtain rfl := Option.some.inj hse
            exact run_equalIn_int w d f.type _ _ _ _ ht
          · cases hse
        · rename_i ht
          simp only [beq_iff_eq] at k3
          subst k3
          cases c <;> simp [kindOf] at h1
          cases e <;> simp [kindOf] at h2
          simp only [scalEq, Option.some.injEq] at hse
          subst hse
          obtain rfl := rep_str ru
          obtain rfl := rep_str rv
          simp [Op.equalIn, run_underlying ht]
        · cases k3
    obtain ⟨b, hb1, hb2⟩ := heq
    simp only [scalarsEq, hb1] at h
    simp only [Op.eqFields, k1, ne_eq, not_false_eq_true, if_true, Sem.run_bind, hpart xs u hu, hpart ys v hv, hb2, Result.andThen_ok]
    cases b
    · simp only [Option.some.injEq] at h
      subst h
      simp
    · simpa using rec' r h

theorem op_bins (he : EnvR w fz mem ρ env a) {op : BinOp} {b : Bin} {t t' : TypeId} {x y : Operand} {x' y' : Opd} {sig : List Nat} (ho : o.op = .binOp op t x y t') (hb : okBin op b = true) (hx : okOpd a.tmps.size x x' = true) (hy : okOpd a.tmps.size y y' = true)
    (ht : okStruct P t sig = true) {v : AV} (h : structV b sig (ev env x') (ev env y') = some v) : PureOut P o a w fz mem ρ v := by
  have e1 := opd_rep he hx
  have e2 := opd_rep he hy
  generalize ev env x' = p at *
  generalize ev env y' = q at *
  unfold structV at h
  split at h
  · rename_i cs ds
    split at h
    · rename_i hsig
      obtain ⟨r, h1, h2⟩ := Option.bind_eq_some_iff.1 h
      obtain ⟨xs, g1, g2, _, g3⟩ := rg_agg_rep e1
      obtain ⟨ys, g4, g5, _, g6⟩ := rg_agg_rep e2
      unfold okStruct at ht
      split at ht
      · rename_i fs hfs
        simp only [Bool.and_eq_true, Bool.not_eq_true'] at ht
        obtain ⟨⟨t1, t2⟩, t3⟩ := ht
        have hfo : P.fieldsOf t = fs := by simp only [Program.fieldsOf, hfs]
        have hget : ∀ {cs : List AV} {xs : Array Value}, xs.size = cs.length → (∀ (j : Nat) (c : AV) (u : Value), cs[j]? = some c → xs[j]? = some u → Rep w fz mem ρ c u) → ∀ (j : Nat) (c : AV), cs[j]? = some c → ∃ u, xs[0 + j]? = some u ∧ Rep w fz mem ρ c u := fun {cs xs} hl hr j c hc => by
          have hj : j < xs.size := by rw [hl]; exact (List.getElem?_eq_some_iff.1 hc).1
          exact ⟨xs[j], by simp [hj], hr j c _ hc (by simp [hj])⟩
        have hrun : (Op.equalIn 10000 t (.agg xs) (.agg ys)).run P w = .ok r w := by
          rw [run_equalIn_struct w 9999 t xs ys (by rw [hfo]; exact hfs) t1, hfo]
          exact eqFields_run 9998 xs ys t3 hsig.1 hsig.2 h1 (hget g2 g3) (hget g5 g6)
        have hg := run_eqGuard_agg (P := P) w op t x y xs ys t2
        split at h2
        · rename_i hh; subst hh
          simp only [Option.some.injEq] at h2; subst h2
          cases op <;> simp [okBin] at hb
          exact ⟨_, by simp only [execOp, ho, g1, g4, Sem.run_bind, hg, Result.andThen_ok, run_eql_struct, hrun, Sem.run_pure], .gr .bool⟩
        · split at h2
          · rename_i hh; subst hh
            simp only [Option.some.injEq] at h2; subst h2
            cases op <;> simp [okBin] at hb
            exact ⟨_, by simp only [execOp, ho, g1, g4, Sem.run_bind, hg, Result.andThen_ok, run_neq_struct, hrun, Sem.run_pure], .gr .bool⟩
          · cases h2
      · cases ht
    · cases h
  · cases h

end
end Go.V
