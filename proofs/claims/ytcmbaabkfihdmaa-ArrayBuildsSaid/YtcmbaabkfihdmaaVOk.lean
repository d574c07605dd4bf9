/- Does an operation of the small form stand for one of the model's? The test, and what it is worth. -/
import Derived.Test.YtcmbaabkfihdmaaVCall
set_option linter.unusedVariables false
set_option linter.unusedSimpArgs false
namespace Go.V
open Go

def okOptB (N : Nat) : Option Operand → Option Opd → Bool
  | none, none => true
  | some y, some y' => okOpd N y y'
  | _, _ => false
theorem okOptB_spec {N : Nat} {x : Option Operand} {y : Option Opd} (h : okOptB N x y = true) : okOpt N x y := by
  cases x <;> cases y <;> simp [okOptB, okOpt] at h ⊢
  exact h

/-- A slice type: its element's number, cells, bytes. -/
def okSl (P : Program) (t : TypeId) (e sz : Nat) : Bool :=
  match P.underlying t with
  | some (.slice e') => e' == e && (match P.info? e with | some i => i.size == sz | none => false)
  | _ => false
theorem okSl_spec {P : Program} {t : TypeId} {e sz : Nat} (h : okSl P t e sz = true) : P.underlying t = some (.slice e) ∧ ∃ i, P.info? e = some i ∧ i.size = sz := by
  unfold okSl at h
  split at h
  · rename_i e' he
    simp only [Bool.and_eq_true, beq_iff_eq] at h
    obtain ⟨rfl, h⟩ := h
    split at h
    · rename_i i hi; exact ⟨he, i, hi, by simpa using h⟩
    · cases h
  · cases h
def slElem (P : Program) (t : TypeId) : Nat := match P.underlying t with | some (.slice e) => e | _ => 0
def okBytes (P : Program) (e bytes : Nat) : Bool := match P.info? e with | some i => i.bytes == bytes | none => false
def okZero (P : Program) (e : Nat) (cs : List AV) : Bool :=
  match P.info? e with
  | some i => (match i.zero with | some z => okCells z.cells.toList cs | none => false)
  | none => false
def hasZero (P : Program) (e : Nat) : Bool :=
  match P.info? e with
  | some i => (match i.zero with | some z => z.cells.size == i.size | none => false)
  | none => false
theorem okBytes_spec {P : Program} {e bytes : Nat} (h : okBytes P e bytes = true) {i : TypeInfo} (hi : P.info? e = some i) : i.bytes = bytes := by
  simp only [okBytes, hi] at h; simpa using h
theorem okZero_spec {P : Program} {e : Nat} {cs : List AV} (h : okZero P e cs = true) : ∃ i z, P.info? e = some i ∧ i.zero = some z ∧ okCells z.cells.toList cs = true := by
  unfold okZero at h
  split at h
  · rename_i i hi
    split at h
    · rename_i z hz; exact ⟨i, z, hi, hz, h⟩
    · cases h
  · cases h
theorem hasZero_spec {P : Program} {e : Nat} (h : hasZero P e = true) : ∃ i z, P.info? e = some i ∧ i.zero = some z ∧ z.cells.size = i.size := by
  unfold hasZero at h
  split at h
  · rename_i i hi
    split at h
    · rename_i z hz; exact ⟨i, z, hi, hz, by simpa using h⟩
    · cases h
  · cases h

def okIO (P : Program) (N : Nat) (op : Op) : MOp → Bool
  | .bad => true
  | .mov x => match op with | .move y => okOpd N y x | .assign y => okOpd N y x | _ => false
  | .newnil ty sz => match op with | .move y => okOpd N y (.k (.nilsl ty sz)) | .assign y => okOpd N y (.k (.nilsl ty sz)) | _ => false
  | .pick c a b => match op with | .pick c' a' b' => okOpd N c' c && okOpd N a' a && okOpd N b' b | _ => false
  | .alloc ty cs => match op with | .alloc t => t == ty && okZero P ty cs && decide (0 < cs.length) | _ => false
  | .box ty n x => match op with | .box t y => t == ty && okOpd N y x && decide (0 < n) | _ => false
  | .build zero parts => match op with
    | .build t ps => okZero P t zero && (match P.underlying t with
      | some (.struct fs) => fs.all (fun f => (P.info? f.type).isSome) && okParts P N fs ps.toList parts
      | _ => false)
    | _ => false
  | .bsl ty sz xs => match op with
    | .buildSlice t len ps => okSl P t ty sz && hasZero P ty && okSeq N 0 ps.toList xs && xs.length == len && decide (0 < sz) && decide (len * sz ≤ 16777216)
    | _ => false
  | .ldf agg n x => match op with | .load t y => okOpd N y x && okTy P t agg n | _ => false
  | .ld agg n x => match op with | .load t y => okOpd N y x && okTy P t agg n | _ => false
  | .st n a x => match op with | .store t a' x' => okOpd N a' a && okOpd N x' x && (match P.info? t with | some i => i.size == n | none => false) | _ => false
  | .sta _ n a x => match op with | .store t a' x' => okOpd N a' a && okOpd N x' x && (match P.info? t with | some i => i.size == n | none => false) | _ => false
  | .nilchk x => match op with | .nilCheck y => okOpd N y x | _ => false
  | .bin b x y => match op with | .binOp b' _ x' y' _ => okBin b' b && okOpd N x' x && okOpd N y' y | _ => false
  | .binb b x y => match op with | .binOp b' t x' y' _ => okBin b' b && okOpd N x' x && okOpd N y' y && (match P.underlying t with | some .bool => true | _ => false) | _ => false
  | .bins b sig x y => match op with | .binOp b' t x' y' _ => okBin b' b && okOpd N x' x && okOpd N y' y && okStruct P t sig | _ => false
  | .binp b x y => match op with | .binOp b' t x' y' _ => okBin b' b && okOpd N x' x && okOpd N y' y && (match P.underlying t with | some (.pointer _) => true | _ => false) | _ => false
  | .neg x => match op with | .unOp .neg _ y => okOpd N y x | _ => false
  | .not x => match op with | .unOp .not _ y => okOpd N y x | _ => false
  | .conv k x => match op with | .convert s t y => okOpd N y x && (P.underlying s).isSome && (match P.underlying t with | some (.int k') => k' == k | _ => false) | _ => false
  | .mk ty bytes zero x => match op with
    | .makeSlice t y z => okOpd N y x && okOpd N z x && okSl P t ty zero.length && okBytes P ty bytes && okZero P ty zero && decide (0 < zero.length)
    | _ => false
  | .mk0 ty sz bytes x => match op with
    | .makeSlice t y z => okOpd N y (.k (.int .i64 0)) && okOpd N z x && okSl P t ty sz && okBytes P ty bytes && hasZero P ty && decide (0 < sz)
    | _ => false
  | .s2b x => match op with
    | .convert s t y => okOpd N y x && (P.underlying s).isSome && (match P.underlying t with | some (.slice e) => (match P.underlying e with | some (.int .u8) => true | _ => false) | _ => false)
    | _ => false
  | .b2s x => match op with
    | .convert s t y => okOpd N y x && (match P.underlying t with | some .string => true | _ => false) && (match P.underlying s with | some (.slice e) => (match P.underlying e with | some (.int .u8) => true | _ => false) | _ => false)
    | _ => false
  | .cpy sz d x => match op with
    | .call ⟨.builtin .copy, ⟨[d', x']⟩, ts⟩ => okOpd N d' d && okOpd N x' x && (match ts[0]? with | some t => okSl P t (slElem P t) sz | none => false)
    | _ => false
  | .cut sz x lo hi => match op with
    | .slice t y lo' hi' none => okOpd N y x && okOptB N lo' lo && okOptB N hi' hi && okSl P t (slElem P t) sz
    | _ => false
  | .faddr off x => match op with
    | .fieldAddr s y k => okOpd N y x && (match P.underlying s with
      | some (.struct fs) => (match fs[k]? with | some f => f.offset == off && (match P.info? f.type with | some i => i.size != 0 | none => false) | none => false)
      | _ => false)
    | _ => false
  | .fld agg off n x => match op with
    | .field s y k => okOpd N y x && (match P.underlying s with
      | some (.struct fs) => (match fs[k]? with | some f => f.offset == off && okTy P f.type agg n | none => false)
      | _ => false)
    | _ => false
  | .iaddr sz x i => match op with | .indexAddr t y j => okOpd N y x && okOpd N j i && okSl P t (slElem P t) sz | _ => false
  | .iaddrf sz x i => match op with | .indexAddr t y j => okOpd N y x && okOpd N j i && okSl P t (slElem P t) sz | _ => false
  | .sidx x i => match op with | .index t y j => okOpd N y x && okOpd N j i && (match P.underlying t with | some .string => true | _ => false) | _ => false
  | .len x => match op with | .call ⟨.builtin .len, ⟨[y]⟩, ⟨[t]⟩⟩ => okOpd N y x && (match P.underlying t with | some (.slice _) => true | _ => false) | _ => false
  | .lenf x => match op with | .call ⟨.builtin .len, ⟨[y]⟩, ⟨[t]⟩⟩ => okOpd N y x && (match P.underlying t with | some (.slice _) => true | _ => false) | _ => false
  | .slen x => match op with | .call ⟨.builtin .len, ⟨[y]⟩, ⟨[t]⟩⟩ => okOpd N y x && (match P.underlying t with | some .string => true | _ => false) | _ => false
  | .scut x lo hi => match op with
    | .slice t y lo' hi' none => okOpd N y x && okOptB N lo' lo && okOptB N hi' hi && (match P.underlying t with | some .string => true | _ => false)
    | _ => false
  | .app ty sz bytes s x => match op with
    | .call ⟨.builtin .append, ⟨[s', x']⟩, ⟨[t, t']⟩⟩ => t == t' && okOpd N s' s && okOpd N x' x && okSl P t ty sz && okBytes P ty bytes && hasZero P ty
    | _ => false
  | .ext x i => match op with | .extract y j => i == j && okOpd N y x | _ => false
  | .mx x y => match op with | .call ⟨.builtin .max, ⟨[x', y']⟩, _⟩ => okOpd N x' x && okOpd N y' y | _ => false
  | .mn x y => match op with | .call ⟨.builtin .min, ⟨[x', y']⟩, _⟩ => okOpd N x' x && okOpd N y' y | _ => false
  | .mkfn f xs => match op with | .makeFunc (.func g) ⟨[]⟩ ys => g == f && okOpds N ys.toList xs | _ => false
  | .callP f xs => match op with | .call ⟨.value (.func g), ys, _⟩ => g == f && okOpds N ys.toList xs | _ => false
  | .callR f xs => match op with | .call ⟨.value (.func g), ys, _⟩ => g == f && okOpds N ys.toList xs | _ => false
  | .callF f xs => match op with | .call ⟨.value (.func g), ys, _⟩ => g == f && okOpds N ys.toList xs | _ => false
  | .callO f xs => match op with | .call ⟨.value (.func g), ys, _⟩ => g == f && okOpds N ys.toList xs | _ => false
  | .callZ f xs => match op with | .call ⟨.value (.func g), ys, _⟩ => g == f && okOpds N ys.toList xs | _ => false
  | .callG f xs => match op with | .call ⟨.value (.func g), ys, _⟩ => g == f && okOpds N ys.toList xs | _ => false
  | .callM f xs => match op with | .call ⟨.value (.func g), ys, _⟩ => g == f && okOpds N ys.toList xs | _ => false
  | .callV x xs => match op with | .call ⟨.value y, ys, _⟩ => okOpd N y x && okOpds N ys.toList xs | _ => false

section
variable {P : Program} {w : World} {fz : Nat → Prop} {mem : List AObj} {ρ : List Value} {env : Env} {a : Act} {o : Oper}

theorem nilV_nil {op : Bin} {p q v : AV} (h : nilV op p q = some v) : q = .nilptr := by
  cases p <;> cases q <;> simp [nilV] at h ⊢

theorem memOut_pure (hm : Mem w fz mem ρ) {v : AV} {m : List AObj} (h : m = mem ∧ PureOut P o a w fz mem ρ v) : MemOut P o a w fz mem ρ v m := by
  obtain ⟨rfl, u, h1, h2⟩ := h
  exact ⟨u, w, fz, ρ, .inl h1, Ext.refl, hm, h2⟩

theorem evalOp_ok (hm : Mem w fz mem ρ) (he : EnvR w fz mem ρ env a) {io : MOp} (hk : okIO P a.tmps.size o.op io = true) {v : AV} {m : List AObj} (h : evalOp mem (ev env) io = some (v, m)) : MemOut P o a w fz mem ρ v m := by
  generalize hop : o.op = op at hk
  cases io <;> simp only [okIO] at hk
  case bad => simp [evalOp] at h
  case mov x =>
    simp only [evalOp, Option.some.injEq, Prod.mk.injEq] at h
    obtain ⟨rfl, rfl⟩ := h
    split at hk
    · exact memOut_pure hm ⟨rfl, op_mov he (.inl hop) hk⟩
    · exact memOut_pure hm ⟨rfl, op_mov he (.inr hop) hk⟩
    · cases hk
  case newnil ty sz =>
    simp only [evalOp, Option.some.injEq, Prod.mk.injEq] at h
    obtain ⟨rfl, rfl⟩ := h
    split at hk
    · exact op_newnil hm he (.inl hop) hk
    · exact op_newnil hm he (.inr hop) hk
    · cases hk
  case pick c x y =>
    split at hk
    · simp only [Bool.and_eq_true] at hk
      exact memOut_pure hm (op_pick he hop hk.1.1 hk.1.2 hk.2 h)
    · cases hk
  case alloc ty cs =>
    split at hk
    · simp only [Bool.and_eq_true, beq_iff_eq, decide_eq_true_eq] at hk
      obtain ⟨⟨rfl, h1⟩, h2⟩ := hk
      obtain ⟨i, z, g1, g2, g3⟩ := okZero_spec h1
      exact op_alloc hm hop g1 g2 g3 h2 h
    · cases hk
  case box ty n x =>
    split at hk
    · simp only [Bool.and_eq_true, beq_iff_eq, decide_eq_true_eq] at hk
      obtain ⟨⟨rfl, h1⟩, h2⟩ := hk
      exact op_box hm he hop h1 h2 h
    · cases hk
  case build zero parts =>
    split at hk
    · simp only [Bool.and_eq_true] at hk
      obtain ⟨h1, h2⟩ := hk
      obtain ⟨i, z, g1, g2, g3⟩ := okZero_spec h1
      split at h2
      · rename_i fs hfs
        simp only [Bool.and_eq_true] at h2
        exact memOut_pure hm (op_build he hop hfs g1 g2 g3 h2.1 h2.2 h)
      · cases h2
    · cases hk
  case bsl ty sz xs =>
    split at hk
    · simp only [Bool.and_eq_true, beq_iff_eq, decide_eq_true_eq] at hk
      obtain ⟨⟨⟨⟨⟨h1, h2⟩, h3⟩, h4⟩, h5⟩, h6⟩ := hk
      obtain ⟨g1, i, g2, g3⟩ := okSl_spec h1
      obtain ⟨i', z, g4, g5, g6⟩ := hasZero_spec h2
      rw [g2] at g4; obtain rfl := Option.some.inj g4
      exact op_bsl hm he hop h3 h4 g1 g2 g5 g3 h5 h6 h
    · cases hk
  case ldf agg n x =>
    split at hk
    · simp only [Bool.and_eq_true] at hk
      exact memOut_pure hm (op_ldf hm he hop hk.1 hk.2 h)
    · cases hk
  case ld agg n x =>
    split at hk
    · simp only [Bool.and_eq_true] at hk
      exact memOut_pure hm (op_ld hm he hop hk.1 hk.2 h)
    · cases hk
  case st n x y =>
    split at hk
    · simp only [Bool.and_eq_true] at hk
      obtain ⟨⟨h1, h2⟩, h3⟩ := hk
      split at h3
      · rename_i i hi; exact op_st hm he hop h1 h2 hi (by simpa using h3) h
      · cases h3
    · cases hk
  case sta av n x y =>
    split at hk
    · simp only [Bool.and_eq_true] at hk
      obtain ⟨⟨h1, h2⟩, h3⟩ := hk
      split at h3
      · rename_i i hi; exact op_sta hm he hop h1 h2 hi (by simpa using h3) h
      · cases h3
    · cases hk
  case nilchk x =>
    split at hk
    · exact memOut_pure hm (op_nilchk he hop hk h)
    · cases hk
  case bin b x y =>
    split at hk
    · simp only [Bool.and_eq_true] at hk
      obtain ⟨⟨h1, h2⟩, h3⟩ := hk
      simp only [evalOp] at h
      obtain ⟨u, hu, hq⟩ := Option.map_eq_some_iff.1 h
      simp only [Prod.mk.injEq] at hq
      obtain ⟨rfl, rfl⟩ := hq
      generalize hp : ev env x = p at hu
      generalize hq : ev env y = q at hu
      cases p <;> cases q <;> simp only [binV] at hu <;> first
        | exact memOut_pure hm ⟨rfl, op_bin_int he hop h1 h2 h3 hp hq (by simpa only [binV] using hu)⟩
        | exact memOut_pure hm ⟨rfl, op_bin_str he hop h1 h2 h3 hp hq hu⟩
        | cases hu
    · cases hk
  case binb b x y =>
    split at hk
    · simp only [Bool.and_eq_true] at hk
      obtain ⟨⟨⟨h1, h2⟩, h3⟩, h4⟩ := hk
      split at h4
      · rename_i ht
        simp only [evalOp] at h
        obtain ⟨u, hu, hq⟩ := Option.map_eq_some_iff.1 h
        simp only [Prod.mk.injEq] at hq
        obtain ⟨rfl, rfl⟩ := hq
        generalize hp : ev env x = p at hu
        generalize hq : ev env y = q at hu
        cases p <;> cases q <;> simp only [boolV] at hu <;> first
          | exact memOut_pure hm ⟨rfl, op_bin_bool he hop h1 h2 h3 ht hp hq (by simpa only [boolV] using hu)⟩
          | cases hu
      · cases h4
    · cases hk
  case bins b sig x y =>
    split at hk
    · simp only [Bool.and_eq_true] at hk
      obtain ⟨⟨⟨h1, h2⟩, h3⟩, h4⟩ := hk
      simp only [evalOp] at h
      obtain ⟨u, hu, hq⟩ := Option.map_eq_some_iff.1 h
      simp only [Prod.mk.injEq] at hq
      obtain ⟨rfl, rfl⟩ := hq
      exact memOut_pure hm ⟨rfl, op_bins he hop h1 h2 h3 h4 hu⟩
    · cases hk
  case binp b x y =>
    split at hk
    · simp only [Bool.and_eq_true] at hk
      obtain ⟨⟨⟨h1, h2⟩, h3⟩, h4⟩ := hk
      split at h4
      · rename_i ht
        simp only [evalOp] at h
        obtain ⟨u, hu, hq⟩ := Option.map_eq_some_iff.1 h
        simp only [Prod.mk.injEq] at hq
        obtain ⟨rfl, rfl⟩ := hq
        generalize hp : ev env x = p at hu
        generalize hq : ev env y = q at hu
        have e1 := opd_rep he h2
        rw [hp] at e1
        have hq' : q = .nilptr := nilV_nil hu
        subst hq'
        cases p with
        | ptr cs i =>
          simp only [nilArg, nilV] at hu
          cases e1 with
          | gr e1 =>
            obtain ⟨bb, oo, vs, e2, _⟩ := rg_ptr_inv e1
            exact memOut_pure hm ⟨rfl, op_bin_nil he hop h1 h2 h3 ht hq false ⟨_, e2, rfl⟩ hu⟩
        | nilptr =>
          simp only [nilArg, nilV] at hu
          exact memOut_pure hm ⟨rfl, op_bin_nil he hop h1 h2 h3 ht hq true ⟨none, rep_nilptr e1, rfl⟩ hu⟩
        | loc n g i =>
          simp only [nilArg] at hu
          split at hu
          · rename_i ob hob
            simp only [nilV] at hu
            obtain ⟨bb, k, cap, _, e2⟩ := rep_loc e1 hob
            exact memOut_pure hm ⟨rfl, op_bin_nil he hop h1 h2 h3 ht hq false ⟨_, e2, rfl⟩ hu⟩
          · simp [nilV] at hu
        | _ => simp [nilArg, nilV] at hu
      · cases h4
    · cases hk
  case neg x =>
    split at hk
    · simp only [evalOp] at h
      split at h
      · rename_i k n hn
        simp only [Option.some.injEq, Prod.mk.injEq] at h
        obtain ⟨rfl, rfl⟩ := h
        exact memOut_pure hm ⟨rfl, op_neg he hop hk hn⟩
      · cases h
    · cases hk
  case not x =>
    split at hk
    · simp only [evalOp] at h
      split at h
      · rename_i b hb
        simp only [Option.some.injEq, Prod.mk.injEq] at h
        obtain ⟨rfl, rfl⟩ := h
        exact memOut_pure hm ⟨rfl, op_not he hop hk hb⟩
      · cases h
    · cases hk
  case conv k x =>
    split at hk
    · simp only [Bool.and_eq_true] at hk
      obtain ⟨⟨h1, h2⟩, h3⟩ := hk
      split at h3
      · rename_i k' hk'
        obtain rfl : k' = k := by simpa using h3
        obtain ⟨d, hd⟩ := Option.isSome_iff_exists.1 h2
        simp only [evalOp] at h
        split at h
        · rename_i k2 n hn
          simp only [Option.some.injEq, Prod.mk.injEq] at h
          obtain ⟨rfl, rfl⟩ := h
          exact memOut_pure hm ⟨rfl, op_conv he hop h1 hd hk' hn⟩
        · cases h
      · cases h3
    · cases hk
  case mk ty bytes zero x =>
    split at hk
    · simp only [Bool.and_eq_true, decide_eq_true_eq] at hk
      obtain ⟨⟨⟨⟨⟨h1, h2⟩, h3⟩, h4⟩, h5⟩, h6⟩ := hk
      obtain ⟨g1, i, g2, g3⟩ := okSl_spec h3
      obtain ⟨i', z, g4, g5, g6⟩ := okZero_spec h5
      rw [g2] at g4; obtain rfl := Option.some.inj g4
      exact op_mk hm he hop h1 h2 g1 g2 g5 (okBytes_spec h4 g2) g3 g6 h6 h
    · cases hk
  case mk0 ty sz bytes x =>
    split at hk
    · simp only [Bool.and_eq_true, decide_eq_true_eq] at hk
      obtain ⟨⟨⟨⟨⟨h1, h2⟩, h3⟩, h4⟩, h5⟩, h6⟩ := hk
      obtain ⟨g1, i, g2, g3⟩ := okSl_spec h3
      obtain ⟨i', z, g4, g5, g6⟩ := hasZero_spec h5
      rw [g2] at g4; obtain rfl := Option.some.inj g4
      exact op_mk0 hm he hop h1 h2 g1 g2 g5 (okBytes_spec h4 g2) g3 h6 h
    · cases hk
  case s2b x =>
    split at hk
    · simp only [Bool.and_eq_true] at hk
      obtain ⟨⟨h1, h2⟩, h3⟩ := hk
      obtain ⟨d, hd⟩ := Option.isSome_iff_exists.1 h2
      split at h3
      · rename_i e he1
        split at h3
        · rename_i he2; exact op_s2b hm he hop h1 hd he1 he2 h
        · cases h3
      · cases h3
    · cases hk
  case b2s x =>
    split at hk
    · simp only [Bool.and_eq_true] at hk
      obtain ⟨⟨h1, h2⟩, h3⟩ := hk
      split at h2
      · rename_i ht
        split at h3
        · rename_i e he1
          split at h3
          · rename_i he2; exact memOut_pure hm (op_b2s hm he hop h1 he1 ht he2 h)
          · cases h3
        · cases h3
      · cases h2
    · cases hk
  case cpy sz d x =>
    split at hk
    · simp only [Bool.and_eq_true] at hk
      obtain ⟨⟨h1, h2⟩, h3⟩ := hk
      split at h3
      · rename_i t ht
        obtain ⟨g1, i, g2, g3⟩ := okSl_spec h3
        exact op_cpy hm he hop ht h1 h2 g1 g2 g3 h
      · cases h3
    · cases hk
  case cut sz x lo hi =>
    split at hk
    · simp only [Bool.and_eq_true] at hk
      obtain ⟨⟨⟨h1, h2⟩, h3⟩, h4⟩ := hk
      obtain ⟨g1, i, g2, g3⟩ := okSl_spec h4
      exact memOut_pure hm (op_cut hm he hop h1 (okOptB_spec h2) (okOptB_spec h3) g1 g2 g3 h)
    · cases hk
  case faddr off x =>
    split at hk
    · simp only [Bool.and_eq_true] at hk
      obtain ⟨h1, h2⟩ := hk
      split at h2
      · rename_i fs hfs
        split at h2
        · rename_i f hf
          simp only [Bool.and_eq_true, beq_iff_eq] at h2
          obtain ⟨h3, h4⟩ := h2
          split at h4
          · rename_i i hi; exact memOut_pure hm (op_faddr he hop h1 hfs hf h3 hi (by simpa using h4) h)
          · cases h4
        · cases h2
      · cases h2
    · cases hk
  case fld agg off n x =>
    split at hk
    · simp only [Bool.and_eq_true] at hk
      obtain ⟨h1, h2⟩ := hk
      split at h2
      · rename_i fs hfs
        split at h2
        · rename_i f hf
          simp only [Bool.and_eq_true, beq_iff_eq] at h2
          exact memOut_pure hm (op_fld he hop h1 hfs hf h2.1 h2.2 h)
        · cases h2
      · cases h2
    · cases hk
  case iaddr sz x i =>
    split at hk
    · simp only [Bool.and_eq_true] at hk
      obtain ⟨⟨h1, h2⟩, h3⟩ := hk
      obtain ⟨g1, i, g2, g3⟩ := okSl_spec h3
      exact memOut_pure hm (op_iaddr hm he hop h1 h2 g1 g2 g3 h)
    · cases hk
  case iaddrf sz x i =>
    split at hk
    · simp only [Bool.and_eq_true] at hk
      obtain ⟨⟨h1, h2⟩, h3⟩ := hk
      obtain ⟨g1, i, g2, g3⟩ := okSl_spec h3
      exact memOut_pure hm (op_iaddrf hm he hop h1 h2 g1 g2 g3 h)
    · cases hk
  case sidx x i =>
    split at hk
    · simp only [Bool.and_eq_true] at hk
      obtain ⟨⟨h1, h2⟩, h3⟩ := hk
      split at h3
      · rename_i ht; exact memOut_pure hm (op_sidx he hop h1 h2 ht h)
      · cases h3
    · cases hk
  case len x =>
    split at hk
    · simp only [Bool.and_eq_true] at hk
      obtain ⟨h1, h2⟩ := hk
      split at h2
      · rename_i ht; exact memOut_pure hm (op_len hm he hop h1 ht h)
      · cases h2
    · cases hk
  case lenf x =>
    split at hk
    · simp only [Bool.and_eq_true] at hk
      obtain ⟨h1, h2⟩ := hk
      split at h2
      · rename_i ht; exact memOut_pure hm (op_lenf hm he hop h1 ht h)
      · cases h2
    · cases hk
  case slen x =>
    split at hk
    · simp only [Bool.and_eq_true] at hk
      obtain ⟨h1, h2⟩ := hk
      split at h2
      · rename_i ht; exact memOut_pure hm (op_slen he hop h1 ht h)
      · cases h2
    · cases hk
  case scut x lo hi =>
    split at hk
    · simp only [Bool.and_eq_true] at hk
      obtain ⟨⟨⟨h1, h2⟩, h3⟩, h4⟩ := hk
      split at h4
      · rename_i ht; exact memOut_pure hm (op_scut he hop h1 (okOptB_spec h2) (okOptB_spec h3) ht h)
      · cases h4
    · cases hk
  case app ty sz bytes s x =>
    split at hk
    · simp only [Bool.and_eq_true, beq_iff_eq] at hk
      obtain ⟨⟨⟨⟨⟨rfl, h1⟩, h2⟩, h3⟩, h4⟩, h5⟩ := hk
      obtain ⟨g1, i, g2, g3⟩ := okSl_spec h3
      obtain ⟨i', z, g4, g5, g6⟩ := hasZero_spec h5
      rw [g2] at g4; obtain rfl := Option.some.inj g4
      exact op_app hm he hop h1 h2 g1 g2 g5 g6 g3 (okBytes_spec h4 g2) h
    · cases hk
  case ext x i =>
    split at hk
    · simp only [Bool.and_eq_true, beq_iff_eq] at hk
      obtain ⟨rfl, h1⟩ := hk
      exact memOut_pure hm (op_ext he hop h1 h)
    · cases hk
  case mx x y =>
    split at hk
    · simp only [Bool.and_eq_true] at hk
      exact memOut_pure hm (op_mx he hop hk.1 hk.2 h)
    · cases hk
  case mn x y =>
    split at hk
    · simp only [Bool.and_eq_true] at hk
      exact memOut_pure hm (op_mn he hop hk.1 hk.2 h)
    · cases hk
  case mkfn f xs =>
    split at hk
    · simp only [Bool.and_eq_true, beq_iff_eq] at hk
      obtain ⟨rfl, h1⟩ := hk
      simp only [evalOp, Option.some.injEq, Prod.mk.injEq] at h
      obtain ⟨rfl, rfl⟩ := h
      exact memOut_pure hm ⟨rfl, op_mkfn he hop h1⟩
    · cases hk
  all_goals simp [evalOp] at h

/-- What a relation for calls must be worth. -/
def CallsOk (P : Program) (C : CallRel) : Prop := ∀ {f as mem r mem'}, C f as mem r mem' → okFn P f = true ∧ CallS P f as mem r mem'

theorem opR_ok {C : CallRel} (hC : CallsOk P C) (hm : Mem w fz mem ρ) (he : EnvR w fz mem ρ env a) {io : MOp} (hk : okIO P a.tmps.size o.op io = true) {v : AV} {m : List AObj} (h : OpR C mem (ev env) io v m) : OpS P o a w fz mem ρ v m := by
  have key : ∀ {f : Nat} {xs : List Opd}, (match o.op with | .call ⟨.value (.func g), ys, _⟩ => g == f && okOpds a.tmps.size ys.toList xs | _ => false) = true →
      ∃ ys ts, o.op = .call ⟨.value (.func f), ys, ts⟩ ∧ okOpds a.tmps.size ys.toList xs = true := by
    intro f xs hk
    generalize hop : o.op = op at hk
    split at hk
    · simp only [Bool.and_eq_true, beq_iff_eq] at hk
      obtain ⟨rfl, h1⟩ := hk
      exact ⟨_, _, rfl, h1⟩
    · cases hk
  cases h with
  | op h => exact opS_of (evalOp_ok hm he hk h)
  | callP h1 h2 =>
    obtain ⟨ys, ts, g1, g2⟩ := key (by simpa only [okIO] using hk)
    exact op_callP hm he g1 (hC h2).1 g2 h1 (hC h2).2
  | callR h1 h2 h3 =>
    obtain ⟨ys, ts, g1, g2⟩ := key (by simpa only [okIO] using hk)
    exact op_callR hm he g1 (hC h2).1 g2 h1 (hC h2).2 h3
  | callF h1 h2 =>
    obtain ⟨ys, ts, g1, g2⟩ := key (by simpa only [okIO] using hk)
    exact op_callF hm he g1 (hC h2).1 g2 h1 (hC h2).2
  | callO h1 h2 h3 h4 =>
    obtain ⟨ys, ts, g1, g2⟩ := key (by simpa only [okIO] using hk)
    exact op_callO hm he g1 (hC h2).1 g2 h1 (hC h2).2 h3 h4
  | callZ h1 h2 h3 =>
    obtain ⟨ys, ts, g1, g2⟩ := key (by simpa only [okIO] using hk)
    exact op_callZ hm he g1 (hC h2).1 g2 h1 (hC h2).2 h3
  | callG h0 h1 h2 h3 =>
    obtain ⟨ys, ts, g1, g2⟩ := key (by simpa only [okIO] using hk)
    exact op_callG hm he g1 (hC h1).1 g2 h0 (hC h1).2 h2 h3
  | callM h1 =>
    obtain ⟨ys, ts, g1, g2⟩ := key (by simpa only [okIO] using hk)
    exact op_callM hm he g1 (hC h1).1 g2 (hC h1).2
  | callV h1 h2 h3 h4 h5 =>
    simp only [okIO] at hk
    generalize hop : o.op = op at hk
    split at hk
    · simp only [Bool.and_eq_true] at hk
      exact op_callV hm he hop hk.1 hk.2 h1 (hC h4).1 h2 h3 (hC h4).2 h5
    · cases hk

end
end Go.V
