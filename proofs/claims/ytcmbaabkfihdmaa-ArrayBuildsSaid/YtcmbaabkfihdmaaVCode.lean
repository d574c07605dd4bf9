/- Whole bodies: what the small form does, the model's code does; and calls. -/
import Derived.Test.YtcmbaabkfihdmaaVRegion
set_option linter.unusedVariables false
set_option linter.unusedSimpArgs false
namespace Go.V
open Go

def okCode (P : Program) (N : Nat) : Code → IR → Bool
  | c, .lv _ x => okCode P N c x
  | .skip, .skip => true
  | .ret, .ret => true
  | .exit i, .exit j => i == j
  | .region _ ops draw, .reg perm is => okRegion P N ops draw perm is
  | .seq a b, .seq x y => okCode P N a x && okCode P N b y
  | .cond c a b, .cond c' x y => okOpd N c c' && (okCode P N a x && okCode P N b y)
  | .block i a, .block j x => i == j && okCode P N a x
  | .loop a, .loop _ _ x => okCode P N a x
  | _, _ => false
termination_by structural _ x => x

def noKeep : IR → Bool
  | .seq x y => noKeep x && noKeep y
  | .cond _ x y => noKeep x && noKeep y
  | .block _ x => noKeep x
  | .lv _ x => noKeep x
  | .loop _ k x => k.isNone && noKeep x
  | _ => true

def X.exit? : X → Exit
  | .nrm => .normal
  | .exit id => .exit id
  | .ret => .ret

section
variable {P : Program} {C : CallRel} {w0 : World} {fz0 : Nat → Prop} {mem0 : List AObj} {ρ0 : List Value} {N : Nat}

theorem under_agg {m : Nat} : ∀ {cs : List AV}, underL m cs = true → ∀ c ∈ cs, under m c = true
  | [], _, c, hc => by cases hc
  | d :: cs, h, c, hc => by
    simp only [underL, Bool.and_eq_true] at h
    rcases List.mem_cons.1 hc with rfl | hc
    · exact h.1
    · exact under_agg h.2 c hc

theorem Rep.take {w : World} {fz : Nat → Prop} {mem : List AObj} {ρ : List Value} {c : AV} {v : Value} {m : Nat} (h : Rep w fz mem ρ c v) (hu : under m c = true) : Rep w fz (mem.take m) (ρ.take m) c v := by
  have key : ∀ {n : Nat} {ob : AObj}, n < m → mem[n]? = some ob → (mem.take m)[n]? = some ob ∧ (ρ.take m)[n]? = ρ[n]? := fun {n ob} hn h => by
    rw [List.getElem?_take, List.getElem?_take, if_pos hn, if_pos hn]
    exact ⟨h, rfl⟩
  induction h with
  | gr h => exact .gr h
  | arr h1 h2 h3 h4 =>
    simp only [under, decide_eq_true_eq] at hu
    exact .arr (key hu h1).1 h2 h3 (by rw [(key hu h1).2]; exact h4)
  | loc h1 h2 h3 h4 =>
    simp only [under, decide_eq_true_eq] at hu
    exact .loc (key hu h1).1 h2 h3 (by rw [(key hu h1).2]; exact h4)
  | msl h1 h2 h3 h4 =>
    simp only [under, decide_eq_true_eq] at hu
    exact .msl (key hu h1).1 h2 h3 (by rw [(key hu h1).2]; exact h4)
  | agg h1 h2 _ ih =>
    rw [under] at hu
    exact .agg h1 h2 (fun j c u hc hv => ih j c u hc hv (under_agg hu c (List.mem_of_getElem? hc)))
  | tup h1 _ ih =>
    rw [under] at hu
    exact .tup h1 (fun j c u hc hv => ih j c u hc hv (under_agg hu c (List.mem_of_getElem? hc)))
  | fn h1 _ ih =>
    rw [under] at hu
    exact .fn h1 (fun j c u hc hv => ih j c u hc hv (under_agg hu c (List.mem_of_getElem? hc)))

theorem Mem.take {w : World} {fz : Nat → Prop} {mem : List AObj} {ρ : List Value} (hm : Mem w fz mem ρ) {m : Nat} (h : (mem.take m).all (fun o => !o.box || underL m o.cs) = true) : Mem w fz (mem.take m) (ρ.take m) := by
  refine ⟨by simp [hm.len], fun n o v ho hv => ?_, fun n k u v b hne hu hv => ?_, hm.lt⟩
  · have hmem := List.mem_of_getElem? ho
    rw [List.getElem?_take] at ho hv
    split at ho
    · rename_i hn
      rw [if_pos hn] at hv
      obtain ⟨h1, ⟨vs, h2, h3, h4, h5⟩, h6, h7⟩ := hm.obj n o v ho hv
      refine ⟨h1, ⟨vs, h2, h3, h4, fun j c u hc hu => ?_⟩, h6, h7⟩
      have h8 := h5 j c u hc hu
      rw [List.all_eq_true] at h
      have h9 := h o hmem
      split at h8
      · rename_i hb
        rw [if_pos hb]
        rw [hb] at h9
        simp only [Bool.not_true, Bool.false_or] at h9
        exact h8.take (under_agg h9 c (List.mem_of_getElem? hc))
      · rename_i hb; rw [if_neg hb]; exact h8
    · cases ho
  · rw [List.getElem?_take] at hu hv
    split at hu
    · split at hv
      · exact hm.apart n k u v b hne hu hv
      · cases hv
    · cases hu

theorem getE_live {env : Env} : ∀ {live : List Nat} {n : Nat}, n ∈ live → getE (live.map fun n => (n, getE env n)) n = getE env n
  | k :: live, n, h => by
    simp only [List.map_cons, getE]
    by_cases hk : k = n
    · rw [if_pos hk, hk]
    · rw [if_neg hk]
      rcases List.mem_cons.1 h with h | h
      · exact absurd h.symm hk
      · exact getE_live h
theorem getE_dead {env : Env} : ∀ {live : List Nat} {n : Nat}, n ∉ live → getE (live.map fun n => (n, getE env n)) n = .any
  | [], n, h => rfl
  | k :: live, n, h => by
    simp only [List.map_cons, getE]
    rw [if_neg (fun hk => h (by simp [hk]))]
    exact getE_dead (fun hm => h (by simp [hm]))

theorem EnvR.live {w : World} {fz : Nat → Prop} {mem : List AObj} {ρ : List Value} {env : Env} {a : Act} (he : EnvR w fz mem ρ env a) (live : List Nat) : EnvR w fz mem ρ (live.map fun n => (n, getE env n)) a := by
  intro n hn
  by_cases h : n ∈ live
  · rw [getE_live h]; exact he n hn
  · rw [getE_dead h]; exact .gr .any

theorem take_ok {w : World} {fz : Nat → Prop} {mem : List AObj} {ρ : List Value} {env : Env} {m : Nat} {a : Act} (h1 : Ext w0 fz0 [] ρ0 w fz mem ρ) (h2 : Mem w fz mem ρ) (h3 : EnvR w fz mem ρ env a) (h4 : a.tmps.size = N) (h5 : a.defers = [])
    (hc : (env.all (fun p => under m p.2) && (mem.take m).all (fun o => !o.box || underL m o.cs)) = true) : SR w0 fz0 [] ρ0 N ⟨env, mem.take m⟩ a w := by
  simp only [Bool.and_eq_true] at hc
  obtain ⟨hc1, hc2⟩ := hc
  refine ⟨fz, ρ.take m, ⟨h1.os, h1.tape, h1.output, h1.size, h1.blk, h1.fzblk, h1.sub, h1.new, fun n o h => by simp at h, fun n v b hv hb => ?_⟩, h2.take hc2, fun n hn => ?_, h4, h5⟩
  · rw [List.getElem?_take] at hv
    split at hv
    · exact h1.own n v b hv hb
    · cases hv
  · refine (h3 n hn).take ?_
    rw [List.all_eq_true] at hc1
    clear h1 h2 h3 hc2
    induction env with
    | nil => simp [getE, under]
    | cons p r ih =>
      obtain ⟨k, v⟩ := p
      simp only [getE]
      split
      · exact hc1 (k, v) (List.mem_cons_self ..)
      · exact ih (fun x hx => hc1 x (List.mem_cons_of_mem _ hx))

theorem getE_keep {mem : List AObj} {env : Env} {ts : List Nat} : ∀ {live : List Nat} {env' : Env}, live.mapM (keepOne mem env ts) = some env' → ∀ n, getE env' n = .any ∨ (n ∈ ts ∧ snap mem 10 (getE env n) = some (getE env' n)) ∨ getE env' n = getE env n
  | [], env', h, n => by
    simp at h
    subst h
    exact .inl rfl
  | k :: live, env', h, n => by
    rw [List.mapM_cons] at h
    simp only [Option.bind_eq_bind, Option.pure_def, Option.bind_eq_some_iff, Option.some.injEq] at h
    obtain ⟨p, h1, env2, h2, rfl⟩ := h
    have ih := getE_keep h2 n
    unfold keepOne at h1
    split at h1
    · rename_i hk
      obtain ⟨v, h3, rfl⟩ := Option.map_eq_some_iff.1 h1
      simp only [getE]
      split
      · rename_i hkn
        subst hkn
        exact .inr (.inl ⟨by simpa using hk, h3⟩)
      · exact ih
    · obtain rfl := Option.some.inj h1
      simp only [getE]
      split
      · rename_i hkn
        subst hkn
        exact .inr (.inr rfl)
      · exact ih

theorem head_ok {live : List Nat} {keep : Option (Nat × List Nat)} {s s0 : St} {a : Act} {w : World} (hk : mem0 = [] ∨ keep = none) (h : headOf live keep s = some s0) (hs : SR w0 fz0 mem0 ρ0 N s a w) : SR w0 fz0 mem0 ρ0 N s0 a w := by
  obtain ⟨fz, ρ, h1, h2, h3, h4, h5⟩ := hs
  unfold headOf at h
  split at h
  · simp only [Option.some.injEq] at h
    subst h
    exact ⟨fz, ρ, h1, h2, h3.live live, h4, h5⟩
  · rename_i m
    obtain rfl : mem0 = [] := by simpa using hk
    simp only at h
    split at h
    · rename_i hc
      simp only [Option.some.injEq] at h
      subst h
      exact take_ok h1 h2 (h3.live live) h4 h5 hc
    · cases h
  · rename_i m t ts
    obtain rfl : mem0 = [] := by simpa using hk
    split at h
    · rename_i env henv
      simp only at h
      split at h
      · rename_i hc
        simp only [Option.some.injEq] at h
        subst h
        obtain ⟨f1, f2⟩ := h2.freeze ((t :: ts).flatMap fun n => refs s.mem 10 (getE s.env n))
        refine take_ok (h1.trans f1) f2 (fun n hn => ?_) h4 h5 hc
        rcases getE_keep henv n with hg | ⟨hg, hg2⟩ | hg
        · rw [hg]; exact .gr .any
        · exact .gr ((snap_rg h2 (fun b hb => .inl hb) 10).1 _ _ _ hg2 (h3 n hn) (fun k hk u b hu hb => .inr ⟨k, List.mem_flatMap.2 ⟨n, hg, hk⟩, u, hu, hb⟩))
        · rw [hg]; exact (h3 n hn).ext f1
      · cases h
    · cases h

/-- For a loop: so many rounds. -/
def WpN (P : Program) (n : Nat) (c : Code) (Q : Exit → Act → World → Prop) (a : Act) (w : World) : Prop :=
  match c with
  | .loop b => Code.rounds P b Q n a w
  | c => c.wp P Q a w
theorem WpN.wp {n : Nat} {c : Code} {Q : Exit → Act → World → Prop} {a : Act} {w : World} (h : WpN P n c Q a w) : c.wp P Q a w := by
  unfold WpN at h
  split at h
  · exact wp_loop_rounds n h
  · exact h

theorem exec_ok (hC : CallsOk P C) (hm : P.follows .mixedOrders = true) {ir : IR} {s s' : St} {x : X} (h : Exec C ir s x s') : ∀ {c : Code} {Q : Exit → Act → World → Prop}, okCode P N c ir = true → (mem0 = [] ∨ noKeep ir = true) →
    (∀ a' w', SR w0 fz0 mem0 ρ0 N s' a' w' → Q x.exit? a' w') → ∃ n, ∀ a w, SR w0 fz0 mem0 ρ0 N s a w → WpN P n c Q a w := by
  induction h with
  | skip =>
    intro c Q hk _ hQ
    cases c <;> simp only [okCode, Bool.false_eq_true] at hk
    exact ⟨0, fun a w hs => wp_skip (hQ a w hs)⟩
  | ret =>
    intro c Q hk _ hQ
    cases c <;> simp only [okCode, Bool.false_eq_true] at hk
    exact ⟨0, fun a w hs => wp_ret (hQ a w hs)⟩
  | exit =>
    intro c Q hk _ hQ
    cases c <;> simp only [okCode, Bool.false_eq_true, beq_iff_eq] at hk
    subst hk
    exact ⟨0, fun a w hs => wp_exit (hQ a w hs)⟩
  | reg h =>
    intro c Q hk _ hQ
    cases c <;> simp only [okCode, Bool.false_eq_true] at hk
    exact ⟨0, fun a w hs => region_ok hC hm hk hs h hQ⟩
  | seqN _ _ ih1 ih2 =>
    intro c Q hk hn hQ
    cases c <;> simp only [okCode, Bool.false_eq_true, Bool.and_eq_true] at hk
    simp only [noKeep, Bool.and_eq_true] at hn
    obtain ⟨n2, h2⟩ := ih2 hk.2 (hn.imp id And.right) hQ
    obtain ⟨n1, h1⟩ := ih1 (Q := Exit.then _ _) hk.1 (hn.imp id And.left) (fun a' w' hs' => (h2 a' w' hs').wp)
    exact ⟨0, fun a w hs => wp_seq (h1 a w hs).wp⟩
  | @seqX _ _ _ x _ _ hx ih1 =>
    intro c Q hk hn hQ
    cases c <;> simp only [okCode, Bool.false_eq_true, Bool.and_eq_true] at hk
    rename_i ca cb
    simp only [noKeep, Bool.and_eq_true] at hn
    obtain ⟨n1, h1⟩ := ih1 (Q := Exit.then (cb.wp P Q) Q) hk.1 (hn.imp id And.left) (fun a' w' hs' => by
      have := hQ a' w' hs'
      cases x with
      | nrm => exact absurd rfl hx
      | exit id => exact this
      | ret => exact this)
    exact ⟨0, fun a w hs => wp_seq (h1 a w hs).wp⟩
  | condT hc _ ih =>
    intro c Q hk hn hQ
    cases c <;> simp only [okCode, Bool.false_eq_true, Bool.and_eq_true] at hk
    simp only [noKeep, Bool.and_eq_true] at hn
    obtain ⟨n, h⟩ := ih hk.2.1 (hn.imp id And.left) hQ
    refine ⟨0, fun a w hs => ?_⟩
    obtain ⟨fz, ρ, e1, e2, e3, e4, e5⟩ := id hs
    have hv := opd_rep e3 (by rw [e4]; exact hk.1)
    rw [hc] at hv
    exact wp_cond_true (rep_bool hv) (h a w hs).wp
  | condF hc _ ih =>
    intro c Q hk hn hQ
    cases c <;> simp only [okCode, Bool.false_eq_true, Bool.and_eq_true] at hk
    simp only [noKeep, Bool.and_eq_true] at hn
    obtain ⟨n, h⟩ := ih hk.2.2 (hn.imp id And.right) hQ
    refine ⟨0, fun a w hs => ?_⟩
    obtain ⟨fz, ρ, e1, e2, e3, e4, e5⟩ := id hs
    have hv := opd_rep e3 (by rw [e4]; exact hk.1)
    rw [hc] at hv
    exact wp_cond_false (rep_bool hv) (h a w hs).wp
  | blockE _ ih =>
    intro c Q hk hn hQ
    cases c <;> simp only [okCode, Bool.false_eq_true, Bool.and_eq_true, beq_iff_eq] at hk
    simp only [noKeep] at hn
    rename_i i b
    obtain ⟨hid, hk⟩ := hk
    subst hid
    obtain ⟨n, h⟩ := ih (Q := Exit.inBlock i Q) hk hn (fun a' w' hs' => by
      show (if i = i then Q .normal a' w' else Q (.exit i) a' w')
      rw [if_pos rfl]
      exact hQ a' w' hs')
    exact ⟨0, fun a w hs => wp_block (h a w hs).wp⟩
  | @blockX id _ _ x _ _ hx ih =>
    intro c Q hk hn hQ
    cases c <;> simp only [okCode, Bool.false_eq_true, Bool.and_eq_true, beq_iff_eq] at hk
    simp only [noKeep] at hn
    obtain ⟨rfl, hk⟩ := hk
    obtain ⟨n, h⟩ := ih (Q := Exit.inBlock _ Q) hk hn (fun a' w' hs' => by
      have := hQ a' w' hs'
      cases x with
      | nrm => exact this
      | ret => exact this
      | exit id =>
        simp only [X.exit?, Exit.inBlock]
        rw [if_neg (fun h => hx (by rw [h]))]
        exact this)
    exact ⟨0, fun a w hs => wp_block (h a w hs).wp⟩
  | lv _ ih =>
    intro c Q hk hn hQ
    rw [okCode] at hk
    simp only [noKeep] at hn
    obtain ⟨n, h⟩ := ih hk hn hQ
    refine ⟨n, fun a w hs => h a w ?_⟩
    obtain ⟨fz, ρ, e1, e2, e3, e4, e5⟩ := hs
    exact ⟨fz, ρ, e1, e2, e3.live _, e4, e5⟩
  | loopN hh _ _ ih1 ih2 =>
    intro c Q hk hn hQ
    cases c <;> simp only [okCode, Bool.false_eq_true] at hk
    rename_i b
    obtain ⟨n2, h2⟩ := ih2 (c := .loop b) (by simpa only [okCode] using hk) hn hQ
    simp only [noKeep, Bool.and_eq_true, Option.isNone_iff_eq_none] at hn
    obtain ⟨n1, h1⟩ := ih1 (Q := Exit.then (Code.rounds P b Q n2) Q) hk (hn.imp id And.right) (fun a' w' hs' => h2 a' w' hs')
    exact ⟨n2 + 1, fun a w hs => (h1 a w (head_ok (hn.imp id And.left) hh hs)).wp⟩
  | @loopX _ _ _ _ _ x _ hh _ hx ih =>
    intro c Q hk hn hQ
    cases c <;> simp only [okCode, Bool.false_eq_true] at hk
    rename_i b
    simp only [noKeep, Bool.and_eq_true, Option.isNone_iff_eq_none] at hn
    obtain ⟨n1, h1⟩ := ih (Q := Exit.then (Code.rounds P b Q 0) Q) hk (hn.imp id And.right) (fun a' w' hs' => by
      have := hQ a' w' hs'
      cases x with
      | nrm => exact absurd rfl hx
      | exit id => exact this
      | ret => exact this)
    exact ⟨1, fun a w hs => (h1 a w (head_ok (hn.imp id And.left) hh hs)).wp⟩

/-! ### Results -/
def okRes (P : Program) (N : Nat) : ResultVar → Res → Bool
  | .tmp t, .t n => t == n && decide (n < N)
  | .cell a t, .c n agg k => a == n && decide (n < N) && okTy P t agg k
  | _, _ => false

def resRun (tmps : Array Value) : ResultVar → Sem Value
  | .tmp t => pure (tmps.getD t undef)
  | .cell a t => do loadVar t (← asAddr (tmps.getD a undef))

theorem res_one {w : World} {fz : Nat → Prop} {mem : List AObj} {ρ : List Value} {env : Env} {a : Act} (hm : Mem w fz mem ρ) (he : EnvR w fz mem ρ env a) {rv : ResultVar} {r : Res} (hk : okRes P a.tmps.size rv r = true) {v : AV} (h : resOf ⟨env, mem⟩ r = some v) :
    ∃ u, (resRun a.tmps rv).run P w = .ok u w ∧ Rep w fz mem ρ v u := by
  cases rv with
  | tmp t =>
    cases r with
    | c => cases hk
    | t n =>
      simp only [okRes, Bool.and_eq_true, beq_iff_eq, decide_eq_true_eq] at hk
      obtain ⟨rfl, hn⟩ := hk
      simp only [resOf, Option.some.injEq] at h
      subst h
      exact ⟨_, by simp only [resRun, Sem.run_pure], he t hn⟩
  | cell p t =>
    cases r with
    | t => cases hk
    | c n agg k =>
      simp only [okRes, Bool.and_eq_true, beq_iff_eq, decide_eq_true_eq] at hk
      obtain ⟨⟨rfl, hn⟩, ht⟩ := hk
      simp only [resOf] at h
      split at h
      · rename_i q g i hq
        obtain ⟨ob, h1, h2⟩ := Option.bind_eq_some_iff.1 h
        have e1 := he p hn
        simp only [ev] at hq
        rw [hq] at e1
        obtain ⟨b, j, cap, g1, g2⟩ := rep_loc e1 h1
        obtain ⟨vs, h3, h4, h5, h6, h7, _, _⟩ := hm.rowAt (geto_some h1).1 g1
        have hcell : ∀ (j : Nat) (u : Value), vs[j]? = some u → w.cell? ⟨b, 0 + j, none⟩ = some u := fun j u hu => by
          have := h3.cells (g := b) rfl j u hu
          rwa [addr_add] at this
        obtain ⟨u, g3, g4⟩ := load_run (P := P) (w := w) (fz := fz) (mem := mem) (ρ := ρ) ht h4 h6 hcell (fun j c u hc hu => by
          have := h7 j c u hc hu
          split at this
          · exact this
          · exact .gr this) h2
        rw [Nat.zero_add] at g3
        refine ⟨u, ?_, g4⟩
        simp only [resRun, g2, asAddr, Sem.run_bind, Sem.run_pure, Result.andThen_ok]
        simpa [Instr.loadAt, Instr.sureAddr] using g3
      · cases h

def okRess (P : Program) (N : Nat) : List ResultVar → List Res → Bool
  | [], [] => true
  | x :: xs, r :: rs => okRes P N x r && okRess P N xs rs
  | _, _ => false

theorem res_list {w : World} {fz : Nat → Prop} {mem : List AObj} {ρ : List Value} {env : Env} {a : Act} (hm : Mem w fz mem ρ) (he : EnvR w fz mem ρ env a) : ∀ {xs : List ResultVar} {rs : List Res}, okRess P a.tmps.size xs rs = true → ∀ {vs : List AV}, rs.mapM (resOf ⟨env, mem⟩) = some vs →
    ∃ us : List Value, (xs.mapM (resRun a.tmps)).run P w = .ok us w ∧ us.length = vs.length ∧ ∀ (j : Nat) (c : AV) (u : Value), vs[j]? = some c → us[j]? = some u → Rep w fz mem ρ c u
  | [], [], _, vs, h => by
    simp at h
    subst h
    exact ⟨[], by simp, rfl, fun j c u h => by simp at h⟩
  | x :: xs, r :: rs, hk, vs, h => by
    simp only [okRess, Bool.and_eq_true] at hk
    rw [List.mapM_cons] at h
    simp only [Option.bind_eq_bind, Option.pure_def, Option.bind_eq_some_iff, Option.some.injEq] at h
    obtain ⟨v, h1, vs', h2, rfl⟩ := h
    obtain ⟨u, g1, g2⟩ := res_one hm he hk.1 h1
    obtain ⟨us, g3, g4, g5⟩ := res_list hm he hk.2 h2
    refine ⟨u :: us, ?_, by simp [g4], fun j c u' hc hu => ?_⟩
    · rw [List.mapM_cons]
      simp only [Sem.run_bind, g1, Result.andThen_ok, g3, Sem.run_pure]
    · cases j with
      | zero => simp at hc hu; subst hc; subst hu; exact g2
      | succ j => exact g5 j c u' (by simpa using hc) (by simpa using hu)
  | [], _ :: _, hk, _, _ => by cases hk
  | _ :: _, [], hk, _, _ => by cases hk

theorem results_ok {w : World} {fz : Nat → Prop} {mem : List AObj} {ρ : List Value} {env : Env} {a : Act} (hm : Mem w fz mem ρ) (he : EnvR w fz mem ρ env a) {fn : Func} {rs : List Res} (hk : okRess P a.tmps.size fn.results.toList rs = true) {v : AV} (h : resAll ⟨env, mem⟩ rs = some v) :
    ∃ u, (results fn a.tmps).run P w = .ok u w ∧ Rep w fz mem ρ v u := by
  have hres : results fn a.tmps = (do
      let vs ← fn.results.mapM (resRun a.tmps)
      pure (if h : vs.size = 1 then vs[0] else .tuple vs)) := by
    unfold results
    congr 1
  have key : ∀ {us : List Value}, (fn.results.toList.mapM (resRun a.tmps)).run P w = .ok us w → (fn.results.mapM (resRun a.tmps)).run P w = .ok us.toArray w := by
    intro us hus
    have : fn.results.mapM (resRun a.tmps) = List.toArray <$> fn.results.toList.mapM (resRun a.tmps) := by
      rw [Array.mapM_eq_mapM_toList]
    rw [this, map_eq_pure_bind, Sem.run_bind, hus]
    simp
  generalize hrl : fn.results.toList = xs at hk key
  unfold resAll at h
  split at h
  · rename_i r
    cases xs with
    | nil => cases hk
    | cons x xs =>
      cases xs with
      | cons => simp [okRess] at hk
      | nil =>
        simp only [okRess, Bool.and_true] at hk
        obtain ⟨u, g1, g2⟩ := res_one hm he hk h
        refine ⟨u, ?_, g2⟩
        have := key (us := [u]) (by simp [g1])
        rw [hres, Sem.run_bind, this]
        simp
  · rename_i hne
    obtain ⟨vs, h1, rfl⟩ := Option.map_eq_some_iff.1 h
    obtain ⟨us, g3, g4, g5⟩ := res_list hm he hk h1
    have hl : vs.length = rs.length := (mapM_spec h1).1
    refine ⟨.tuple us.toArray, ?_, .tup (by simpa using g4) (fun j c u hc hu => g5 j c u hc (by simpa using hu))⟩
    have h2 : us.length ≠ 1 := fun h3 => by
      have : rs.length = 1 := by omega
      obtain ⟨r, rfl⟩ := List.length_eq_one_iff.1 this
      exact hne r rfl
    rw [hres, Sem.run_bind, key g3]
    simp [h2]

end
end Go.V
