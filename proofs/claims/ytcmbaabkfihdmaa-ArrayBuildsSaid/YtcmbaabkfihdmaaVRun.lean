/- The small form, run: for closed calls, by the kernel's own reckoning. -/
import Derived.Test.YtcmbaabkfihdmaaVWp
set_option linter.unusedVariables false
namespace Go.V
open Go

abbrev CallF := Nat → List AV → List AObj → Option (AV × List AObj)

def runO (call : CallF) (mem : List AObj) (e : Opd → AV) : MOp → Option (AV × List AObj)
  | .callP f xs => match xs.mapM (fun x => snap [] 10 (e x)) with
    | some as => match call f as [] with
      | some (r, []) => some (r, mem)
      | _ => none
    | none => none
  | .callR f xs => match xs.mapM (fun x => snap mem 10 (e x)) with
    | some as => match call f as [] with
      | some (r, []) => if scalars r then some (r, mem) else none
      | _ => none
    | none => none
  | .callF f xs => match xs.mapM (fun x => snap mem 10 (e x)) with
    | some as => match call f as [] with
      | some (r, []) => some (r, freeze (xs.flatMap fun x => refs mem 10 (e x)) mem)
      | _ => none
    | none => none
  | .callO f xs => match xs.mapM (fun x => snap mem 10 (e x)) with
    | some as => match call f as [] with
      | some (r, m) => if (m.all made) && ownishR r then some (shiftR mem.length r, freeze (xs.flatMap fun x => refs mem 10 (e x)) mem ++ m.map (shiftO mem.length)) else none
      | _ => none
    | none => none
  | .callZ f xs => match xs.mapM (fun x => snap mem 10 (e x)) with
    | some as => match call f as [] with
      | some (r, m) => (snap m 10 r).map fun r' => (r', freeze (xs.flatMap fun x => refs mem 10 (e x)) mem)
      | _ => none
    | none => none
  | .callG f xs => if xs.all fun x => plainArg (e x) then match call f (xs.map e) [] with
      | some (r, m) => if (m.all made) && ownishR r then some (shiftR mem.length r, mem ++ m.map (shiftO mem.length)) else none
      | _ => none
    else none
  | .callM f xs => call f (xs.map e) mem
  | .callV x xs => match e x with
    | .fn f caps => match xs.mapM (fun x => snap mem 10 (e x)), caps.mapM (fun c => snap mem 10 c) with
      | some as, some bs => match call f (as ++ bs) [] with
        | some (r, []) => if scalars r then some (r, mem) else none
        | _ => none
      | _, _ => none
    | _ => none
  | io => evalOp mem e io

def runR (call : CallF) : List IOp → St → Option St
  | [], s => some s
  | o :: os, s => match o.g with
    | none => match runO call s.mem (ev s.env) o.op with
      | some (v, m) => runR call os ⟨putE s.env o.dst v, m⟩
      | none => none
    | some (t, b) => match getE s.env t with
      | .bool c => if c = b then
          match runO call s.mem (ev s.env) o.op with
          | some (v, m) => runR call os ⟨putE s.env o.dst v, m⟩
          | none => none
        else runR call os ⟨putE s.env o.dst (.tup []), s.mem⟩
      | .tup [] => runR call os ⟨putE s.env o.dst (.tup []), s.mem⟩
      | _ => none

/-- The second number: rounds that loops may take. -/
def runI (call : CallF) : Nat → IR → St → Option (X × St)
  | 0, _, _ => none
  | n + 1, c, s => match c with
    | .skip => some (.nrm, s)
    | .ret => some (.ret, s)
    | .exit id => some (.exit id, s)
    | .reg _ ops => (runR call ops s).map fun s1 => (.nrm, s1)
    | .seq a b => match runI call n a s with
      | some (.nrm, s1) => runI call n b s1
      | r => r
    | .cond c a b => match ev s.env c with
      | .bool true => runI call n a s
      | .bool false => runI call n b s
      | _ => none
    | .block id a => match runI call n a s with
      | some (.exit j, s1) => if j = id then some (.nrm, s1) else some (.exit j, s1)
      | r => r
    | .lv live a => runI call n a ⟨live.map fun n => (n, getE s.env n), s.mem⟩
    | .loop live keep a => match headOf live keep s with
      | some s0 => match runI call n a s0 with
        | some (.nrm, s1) => runI call n (.loop live keep a) s1
        | r => r
      | none => none

def runF (tab : Nat → Option IFn) (ext : CallF) (fuel : Nat) : Nat → CallF
  | 0, _, _, _ => none
  | n + 1, f, as, mem => match tab f with
    | some fn => if as.length = fn.nparams ∧ as.length ≤ fn.ntmps then
        match runI (runF tab ext fuel n) fuel fn.body ⟨argsE 0 as, mem⟩ with
        | some (.exit _, _) => none
        | some (_, s) => match resAll s fn.res with
          | some rv => match fn.md with
            | .pure => if mem.isEmpty then (snap s.mem 10 rv).map fun r => (r, []) else none
            | .own => if mem.isEmpty then ownOut s.mem rv else none
            | .ref => some (rv, s.mem)
          | none => none
        | none => none
      else none
    | none => ext f as mem

section
variable {tab : Nat → Option IFn} {C : CallRel} {call : CallF}

theorem runO_ok (hc : ∀ {f as mem r m}, call f as mem = some (r, m) → C f as mem r m) {mem : List AObj} {e : Opd → AV} {io : MOp} {v : AV} {m : List AObj} (h : runO call mem e io = some (v, m)) : OpR C mem e io v m := by
  cases io
  case callP f xs =>
    simp only [runO] at h
    split at h
    · rename_i as has
      split at h
      · rename_i r hr
        simp only [Option.some.injEq, Prod.mk.injEq] at h
        obtain ⟨rfl, rfl⟩ := h
        exact .callP has (hc hr)
      · cases h
    · cases h
  case callR f xs =>
    simp only [runO] at h
    split at h
    · rename_i as has
      split at h
      · rename_i r hr
        split at h
        · rename_i hs
          simp only [Option.some.injEq, Prod.mk.injEq] at h
          obtain ⟨rfl, rfl⟩ := h
          exact .callR has (hc hr) hs
        · cases h
      · cases h
    · cases h
  case callF f xs =>
    simp only [runO] at h
    split at h
    · rename_i as has
      split at h
      · rename_i r hr
        simp only [Option.some.injEq, Prod.mk.injEq] at h
        obtain ⟨rfl, rfl⟩ := h
        exact .callF has (hc hr)
      · cases h
    · cases h
  case callO f xs =>
    simp only [runO] at h
    split at h
    · rename_i as has
      split at h
      · rename_i r m' hr
        split at h
        · rename_i hs
          simp only [Bool.and_eq_true] at hs
          simp only [Option.some.injEq, Prod.mk.injEq] at h
          obtain ⟨rfl, rfl⟩ := h
          exact .callO has (hc hr) hs.1 hs.2
        · cases h
      · cases h
    · cases h
  case callZ f xs =>
    simp only [runO] at h
    split at h
    · rename_i as has
      split at h
      · rename_i r m' hr
        obtain ⟨r', h1, h2⟩ := Option.map_eq_some_iff.1 h
        simp only [Prod.mk.injEq] at h2
        obtain ⟨rfl, rfl⟩ := h2
        exact .callZ has (hc hr) h1
      · cases h
    · cases h
  case callG f xs =>
    simp only [runO] at h
    split at h
    · rename_i h0
      split at h
      · rename_i r m' hr
        split at h
        · rename_i hs
          simp only [Bool.and_eq_true] at hs
          simp only [Option.some.injEq, Prod.mk.injEq] at h
          obtain ⟨rfl, rfl⟩ := h
          exact .callG h0 (hc hr) hs.1 hs.2
        · cases h
      · cases h
    · cases h
  case callM f xs => exact .callM (hc h)
  case callV x xs =>
    simp only [runO] at h
    split at h
    · rename_i f caps hf
      split at h
      · rename_i as bs h1 h2
        split at h
        · rename_i r hr
          split at h
          · rename_i hs
            simp only [Option.some.injEq, Prod.mk.injEq] at h
            obtain ⟨rfl, rfl⟩ := h
            exact .callV hf h1 h2 (hc hr) hs
          · cases h
        · cases h
      · cases h
    · cases h
  all_goals exact .op h

theorem runR_ok (hc : ∀ {f as mem r m}, call f as mem = some (r, m) → C f as mem r m) : ∀ {ops : List IOp} {s s' : St}, runR call ops s = some s' → RegR C ops s s'
  | [], s, s', h => by
    simp only [runR, Option.some.injEq] at h
    subst h
    exact .nil
  | o :: os, s, s', h => by
    simp only [runR] at h
    split at h
    · rename_i hg
      split at h
      · rename_i v m hv
        exact .cons (.go (.inl hg) (runO_ok hc hv)) (runR_ok hc h)
      · cases h
    · rename_i t b hg
      split at h
      · rename_i c hb
        split at h
        · rename_i hcb
          subst hcb
          split at h
          · rename_i v m hv
            exact .cons (.go (.inr ⟨t, c, hg, hb⟩) (runO_ok hc hv)) (runR_ok hc h)
          · cases h
        · rename_i hcb
          refine .cons (.no hg (.inl ?_)) (runR_ok hc h)
          simp only [ev, hb]
          cases c <;> cases b <;> simp_all
      · rename_i hb
        exact .cons (.no hg (.inr hb)) (runR_ok hc h)
      · cases h

theorem runI_ok (hc : ∀ {f as mem r m}, call f as mem = some (r, m) → C f as mem r m) : ∀ {n : Nat} {c : IR} {s : St} {x : X} {s' : St}, runI call n c s = some (x, s') → Exec C c s x s'
  | 0, c, s, x, s', h => by cases h
  | n + 1, c, s, x, s', h => by
    cases c
    case skip => simp only [runI, Option.some.injEq, Prod.mk.injEq] at h; obtain ⟨rfl, rfl⟩ := h; exact .skip
    case ret => simp only [runI, Option.some.injEq, Prod.mk.injEq] at h; obtain ⟨rfl, rfl⟩ := h; exact .ret
    case exit => simp only [runI, Option.some.injEq, Prod.mk.injEq] at h; obtain ⟨rfl, rfl⟩ := h; exact .exit
    case reg p ops =>
      simp only [runI] at h
      obtain ⟨s1, h1, h2⟩ := Option.map_eq_some_iff.1 h
      simp only [Prod.mk.injEq] at h2
      obtain ⟨rfl, rfl⟩ := h2
      exact .reg (runR_ok hc h1)
    case seq a b =>
      simp only [runI] at h
      split at h
      · rename_i s1 h1; exact .seqN (runI_ok hc h1) (runI_ok hc h)
      · rename_i h1
        refine .seqX (runI_ok hc h) (fun hx => ?_)
        subst hx
        exact h1 s' h
    case cond c a b =>
      simp only [runI] at h
      split at h
      · rename_i h1; exact .condT h1 (runI_ok hc h)
      · rename_i h1; exact .condF h1 (runI_ok hc h)
      · cases h
    case block id a =>
      simp only [runI] at h
      split at h
      · rename_i j s1 h1
        split at h
        · rename_i hj
          subst hj
          simp only [Option.some.injEq, Prod.mk.injEq] at h
          obtain ⟨rfl, rfl⟩ := h
          exact .blockE (runI_ok hc h1)
        · rename_i hj
          simp only [Option.some.injEq, Prod.mk.injEq] at h
          obtain ⟨rfl, rfl⟩ := h
          exact .blockX (runI_ok hc h1) (by simpa using hj)
      · rename_i h1
        refine .blockX (runI_ok hc h) (fun hx => ?_)
        subst hx
        exact h1 id s' h
    case lv live a =>
      simp only [runI] at h
      exact .lv (runI_ok hc h)
    case loop live keep a =>
      simp only [runI] at h
      split at h
      · rename_i s0 hs0
        split at h
        · rename_i s1 h1; exact .loopN hs0 (runI_ok hc h1) (runI_ok hc h)
        · rename_i h1
          refine .loopX hs0 (runI_ok hc h) (fun hx => ?_)
          subst hx
          exact h1 s' h
      · cases h

theorem runF_ok {E : CallRel} {ext : CallF} (hE : ∀ {f as mem r m}, ext f as mem = some (r, m) → E f as mem r m) {fuel : Nat} : ∀ {n f : Nat} {as : List AV} {mem : List AObj} {r : AV} {m : List AObj}, runF tab ext fuel n f as mem = some (r, m) → CallN tab E n f as mem r m
  | 0, f, as, mem, r, m, h => by cases h
  | n + 1, f, as, mem, r, m, h => by
    simp only [runF] at h
    split at h
    · rename_i fn hfn
      split at h
      · rename_i hl
        split at h
        · cases h
        · rename_i x s hx hr
          have hex := runI_ok (C := CallN tab E n) (fun h => runF_ok hE h) hr
          have hx' : x = .nrm ∨ x = .ret := by
            cases x with
            | nrm => exact .inl rfl
            | ret => exact .inr rfl
            | exit id => exact absurd rfl (hx id)
          split at h
          · rename_i rv hrv
            refine .inr ⟨fn, s, x, rv, hfn, hl.1, hl.2, hex, hx', hrv, ?_⟩
            cases hmd : fn.md with
            | pure =>
              rw [hmd] at h
              simp only at h
              split at h
              · rename_i hm
                obtain ⟨r', h1, h2⟩ := Option.map_eq_some_iff.1 h
                simp only [Prod.mk.injEq] at h2
                obtain ⟨rfl, rfl⟩ := h2
                exact ⟨by simpa using hm, rfl, h1⟩
              · cases h
            | own =>
              rw [hmd] at h
              simp only at h
              split at h
              · rename_i hm; exact ⟨by simpa using hm, h⟩
              · cases h
            | ref =>
              rw [hmd] at h
              simp only [Option.some.injEq, Prod.mk.injEq] at h
              exact ⟨h.1.symm, h.2.symm⟩
          · cases h
        · cases h
      · cases h
    · exact CallN_mono (Nat.zero_le _) (hE h)

theorem Call.run {E : CallRel} {ext : CallF} (hE : ∀ {f as mem r m}, ext f as mem = some (r, m) → E f as mem r m) {fuel n f : Nat} {as : List AV} {mem : List AObj} {r : AV} {m : List AObj} (h : runF tab ext fuel n f as mem = some (r, m)) : Call tab E f as mem r m := ⟨n, runF_ok hE h⟩

end
end Go.V
