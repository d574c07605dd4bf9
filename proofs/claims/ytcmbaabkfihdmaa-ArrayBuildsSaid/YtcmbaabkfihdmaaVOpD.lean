/- Slices made, written, grown. -/
import Derived.Test.YtcmbaabkfihdmaaVOpC
import Derived.Laws.BytesArg
set_option linter.unusedVariables false
set_option linter.unusedSimpArgs false
namespace Go.V
open Go
section
variable {P : Program} {w : World} {fz : Nat → Prop} {mem : List AObj} {ρ : List Value} {env : Env} {a : Act} {o : Oper}

theorem rg_splice {F : AV → Value → Prop} {cs ds : List AV} {xs us : List Value} {i : Nat} (hl : xs.length = cs.length) (hd : us.length = ds.length) (hle : i + ds.length ≤ cs.length)
    (h1 : ∀ (j : Nat) (c : AV) (u : Value), cs[j]? = some c → xs[j]? = some u → F c u) (h2 : ∀ (j : Nat) (c : AV) (u : Value), ds[j]? = some c → us[j]? = some u → F c u) :
    ∀ (j : Nat) (c : AV) (u : Value), (fillIn cs i ds)[j]? = some c → (xs.take i ++ us ++ xs.drop (i + us.length))[j]? = some u → F c u := by
  intro j c u hc hu
  unfold fillIn at hc
  rw [fillIn_get (by omega)] at hc hu
  split at hu
  · rename_i hj; rw [if_pos hj] at hc; exact h1 j c u hc hu
  · rename_i hj
    rw [if_neg hj] at hc
    split at hu
    · rename_i hj2; rw [if_pos (by omega)] at hc; exact h2 _ c u hc hu
    · rename_i hj2; rw [if_neg (by omega)] at hc; exact h1 j c u hc hu

theorem one_splice {xs us : List Value} {i : Nat} (h1 : ∀ u ∈ xs, u.oneCell' = true) (h2 : ∀ u ∈ us, u.oneCell' = true) : ∀ u ∈ xs.take i ++ us ++ xs.drop (i + us.length), u.oneCell' = true := by
  intro u hu
  rcases List.mem_append.1 hu with hu | hu
  · rcases List.mem_append.1 hu with hu | hu
    · exact h1 u (List.mem_of_mem_take hu)
    · exact h2 u hu
  · exact h1 u (List.mem_of_mem_drop hu)

/-- Cells stored into a row. -/
theorem storeRow {ty sz n b cap i : Nat} {xs us : List Value} (h : w.ownsRow 0 ty sz (.slice (some ⟨b, 0, none⟩) n cap) n xs) (hle : i + us.length ≤ xs.length) (h1 : ∀ u ∈ us, u.oneCell' = true) :
    ∃ w', (storeCells ⟨b, i, none⟩ us).run P w = .ok () w' ∧ w'.ownsRow 0 ty sz (.slice (some ⟨b, 0, none⟩) n cap) n (xs.take i ++ us ++ xs.drop (i + us.length)) ∧ w.grownBy w' (some b) := by
  rcases h.2 with ⟨h', _⟩ | ⟨g, cap', cur, h', hb, hg, hnc, hcm, hcs, htake⟩
  · cases h'
  · simp only [Value.slice.injEq, Option.some.injEq, Addr.mk.injEq, and_true, true_and] at h'
    obtain ⟨rfl, rfl⟩ := h'
    have hxl : xs.length = n * sz := h.1
    have hcl : n * sz ≤ cur.size := by rw [hcs]; exact Nat.mul_le_mul_right _ hnc
    have hrun := run_storeCells_at P b i ty us 0 cur w hg (by simp; omega) h1
    simp only [Nat.add_zero] at hrun
    refine ⟨_, hrun, ⟨by simp; omega, .inr ⟨b, cap, _, rfl, hb, setRow_heap w b cur _ ty (0, 0) hg, hnc, hcm, by simp; omega, ?_⟩⟩, ?_⟩
    · subst htake
      rw [List.take_append, List.take_append]
      simp only [List.length_take, List.length_append, Array.length_toList, List.take_take, List.drop_take]
      simp only [List.length_take, Array.length_toList] at hle
      rw [show min (n * sz) i = i from by omega, show n * sz - min i cur.size = n * sz - i from by omega, List.take_of_length_le (show us.length ≤ n * sz - i from by omega),
        show n * sz - (min i cur.size + us.length) = n * sz - (i + us.length) from by omega, show min i (n * sz) = i from by omega]
    · refine ⟨rfl, rfl, rfl, ?_, fun k hk hne => setRow_other w b k _ (fun e => hne (by rw [e]))⟩
      simp [World.setRow]

theorem storeVar_run {t : TypeId} {i : TypeInfo} (hi : P.info? t = some i) {v : Value} (hs : v.cells.size = i.size) {A : Addr} {w' : World} (h : (storeCells A v.cells.toList).run P w = .ok () w') : (storeVar t A v).run P w = .ok () w' := by
  simp only [storeVar, sizeOf, typeInfo, Sem.run_bind, run_program, Result.andThen_ok, hi, Sem.run_pure]
  rw [if_neg (by simp [hs])]
  simpa using h

theorem slice_of_own {ty sz n b q cap : Nat} {vs : List Value} (h : w.ownsRow 0 ty sz (.slice (some ⟨b, 0, none⟩) q cap) n vs) : q = n := by
  rcases h.2 with ⟨h', _⟩ | ⟨g, cap', cur, h', _⟩
  · cases h'
  · simp only [Value.slice.injEq] at h'; exact h'.2.1

theorem op_st (hm : Mem w fz mem ρ) (he : EnvR w fz mem ρ env a) {t : TypeId} {i : TypeInfo} {x y : Operand} {x' y' : Opd} {n : Nat} (ho : o.op = .store t x y) (hx : okOpd a.tmps.size x x' = true) (hy : okOpd a.tmps.size y y' = true)
    (hi : P.info? t = some i) (hn : i.size = n) {v : AV} {m : List AObj} (h : evalOp mem (ev env) (.st n x' y') = some (v, m)) : MemOut P o a w fz mem ρ v m := by
  subst hn
  have e1 := opd_rep he hx
  have e2 := opd_rep he hy
  simp only [evalOp, storeOp] at h
  split at h
  · rename_i k g j hj
    rw [hj] at e1
    split at h
    · rename_i ob hob
      obtain ⟨b, q, cap, r1, r2⟩ := rep_loc e1 hob
      obtain ⟨k1, k2⟩ := geto_some hob
      split at h
      · rename_i ds hds
        split at h
        · rename_i hc
          obtain ⟨hdl, hle, hfr⟩ := hc
          obtain ⟨g1, g2, g3⟩ := rep_cells e2 hds
          obtain ⟨vs, h2, h3, h4, h5, h6, _, _⟩ := hm.rowAt k1 r1
          obtain rfl := slice_of_own h2
          have hus : (a.eval y).cells.toList.length = ds.length := by simpa using g1
          obtain ⟨w', s1, s2, s3⟩ := storeRow (P := P) (i := j) (us := (a.eval y).cells.toList) h2 (by rw [hus, h3]; omega) g2
          have hst := storeVar_run (P := P) hi (by rw [g1, hdl]) s1
          have hrun : (execOp a.eval o).run P w = .ok .skip w' := by simp [execOp, ho, r2, Instr.storeAt, Instr.sureAddr, hst]
          split at h
          · rename_i hbox
            simp only [Option.some.injEq, Prod.mk.injEq] at h
            obtain ⟨rfl, rfl⟩ := h
            -- nil slices first
            obtain ⟨ρ1, a1, a2, a3, a4⟩ := adopt_spec ds hm (a.eval y).cells.toList hus (fun j c u hc hu => g3 j c u hc (by simpa using hu))
            obtain ⟨ob1, b1, b2, b3, b4, b5⟩ := a1.mem k ob k1
            -- the old object stands where it stood
            have hold : (adopt ds mem).2[k]? = some ob := by
              have : ∀ (cs : List AV) (mem : List AObj), mem[k]? = some ob → (adopt cs mem).2[k]? = some ob := by
                intro cs
                induction cs with
                | nil => exact fun _ h => h
                | cons c cs ih =>
                  intro mem hk
                  have hlt := (List.getElem?_eq_some_iff.1 hk).1
                  cases c <;> simp only [adopt] <;> first | exact ih _ hk | exact ih _ (by rw [List.getElem?_append_left hlt]; exact hk)
              exact this ds mem k1
            have hρ : ρ1[k]? = some (.slice (some ⟨b, 0, none⟩) ob.n cap) := by
              rw [hold] at b1
              obtain rfl := Option.some.inj b1
              rw [(b3 rfl).1]; exact r1
            obtain ⟨vs1, d2, d3, d4, d5, d6, _, _⟩ := a2.rowAt hold hρ
            obtain ⟨w1, t1, t2, t3⟩ := storeRow (P := P) (i := j) (us := (a.eval y).cells.toList) d2 (by rw [hus, d3]; omega) g2
            rw [s1] at t1
            obtain rfl : w' = w1 := by injection t1
            obtain ⟨c1, c2⟩ := a2.write (o2 := { ob with cs := fillIn ob.cs j (adopt ds mem).1 }) hold hρ t3 hfr hfr rfl rfl (Nat.le_refl _) (fun _ => ⟨rfl, rfl⟩) (fun b hb => .inl hb)
              ⟨_, t2, by simp [fillIn, a3]; omega, one_splice d5 g2, fun j' c u hc hu => by
                simp only [hbox, if_true]
                exact rg_splice (F := fun c u => Rep w fz (adopt ds mem).2 ρ1 c u) d3 (by rw [a3]; exact hus) (by rw [a3]; omega) (fun j c u hc hu => by have := d6 j c u hc hu; rwa [if_pos hbox] at this)
                  a4 j' c u hc hu⟩
            exact ⟨undef, w', fz, _, .inr ⟨hrun, rfl⟩, a1.trans c1, c2, .gr .any⟩
          · rename_i hbox
            split at h
            · rename_i ds' hds'
              split at h
              · cases h
              · rename_i hnot
                simp only [Option.some.injEq, Prod.mk.injEq] at h
                obtain ⟨rfl, rfl⟩ := h
                obtain ⟨f1, f2⟩ := hm.freeze (refsL mem 9 true ds)
                have hmem2 : (freeze (refsL mem 9 true ds) mem)[k]? = some ob := by
                  rw [freeze_get, k1]
                  simp only [Option.map_some]
                  rw [if_neg hnot]
                obtain ⟨p1, p2⟩ := (snap_rg (fz2 := frzOf fz ρ (refsL mem 9 true ds)) hm (fun b hb => .inl hb) 9).2 true ds ds' hds' (fun n hn u b hu hb => .inr ⟨n, hn, u, hu, hb⟩)
                obtain ⟨c1, c2⟩ := f2.write (o2 := { ob with cs := fillIn ob.cs j ds' }) hmem2 r1 s3 hfr hfr rfl rfl (Nat.le_refl _) (fun _ => ⟨rfl, rfl⟩) (fun b hb => .inl hb)
                  ⟨_, s2, by simp [fillIn, p1]; omega, one_splice h5 g2, fun j' c u hc hu => by
                    simp only [hbox]
                    exact rg_splice (F := fun c u => RG w (frzOf fz ρ (refsL mem 9 true ds)) c u) h3 (by rw [p1]; exact hus) (by rw [p1]; omega)
                      (fun j c u hc hu => by have := h6 j c u hc hu; rw [if_neg hbox] at this; exact this.mono f1.fzblk f1.sub)
                      (fun j c' u hc hu => p2 j c' u hc (fun c hc2 => by simpa using g3 j c u hc2 (by simpa using hu))) j' c u hc hu⟩
                exact ⟨undef, w', _, _, .inr ⟨hrun, rfl⟩, f1.trans c1, c2, .gr .any⟩
            · cases h
        · cases h
      · cases h
    · cases h
  · cases h

/-! ### make -/
theorem flatten_rep_get {α : Type} (l : List α) (hl : 0 < l.length) : ∀ (n j : Nat), j < n * l.length → (List.replicate n l).flatten[j]? = l[j % l.length]?
  | 0, j, h => by omega
  | n + 1, j, h => by
    rw [List.replicate_succ, List.flatten_cons, List.getElem?_append]
    split
    · rename_i hj; rw [Nat.mod_eq_of_lt hj]
    · rename_i hj
      rw [flatten_rep_get l hl n (j - l.length) (by rw [Nat.add_mul, Nat.one_mul] at h; omega)]
      congr 1
      exact (Nat.mod_eq_sub_mod (by omega)).symm
theorem flatten_rep_length {α : Type} (l : List α) (n : Nat) : (List.replicate n l).flatten.length = n * l.length := by
  induction n with
  | zero => simp
  | succ n ih => rw [List.replicate_succ, List.flatten_cons, List.length_append, ih, Nat.add_mul]; omega

theorem made_get {z : Array Value} (hz : 0 < z.size) {n j : Nat} (hj : j < n) : (madeCells z n).toList[j]? = z.toList[j % z.size]? := by
  have hm : j % z.size < z.size := Nat.mod_lt _ hz
  simp [madeCells, hj, hm]

/-- A new row of ground cells. -/
theorem newRowG (hm : Mem w fz mem ρ) {w' : World} (hw : Old w w') (ty sz n : Nat) {cs : List AV} {v : Value} {vs : List Value} (hpos : 0 < sz) (hb : ∀ b, v.ownBlock = some b → w.heap.size ≤ b) (hrow : w'.ownsRow 0 ty sz v n vs)
    (hl : vs.length = cs.length) (h1 : ∀ u ∈ vs, u.oneCell' = true) (hr : ∀ (j : Nat) (c : AV) (u : Value), cs[j]? = some c → vs[j]? = some u → RG w fz c u) (hv : v.oneCell' = true) :
    ∃ ρ', Ext w fz mem ρ w' fz (mem ++ [⟨false, ty, sz, 0, n, cs, false⟩]) ρ' ∧ Mem w' fz (mem ++ [⟨false, ty, sz, 0, n, cs, false⟩]) ρ' ∧ Rep w' fz (mem ++ [⟨false, ty, sz, 0, n, cs, false⟩]) ρ' (.arr mem.length 0) v := by
  obtain ⟨k1, k2⟩ := hm.push hw ⟨false, ty, sz, 0, n, cs, false⟩ v rfl hpos hb ⟨vs, hrow, hl, h1, fun j c u hc hu => by simpa using hr j c u hc hu⟩
  refine ⟨_, k1, k2, .arr (o := ⟨false, ty, sz, 0, n, cs, false⟩) (by simp) (Nat.le_refl _) hv (fun _ => ?_)⟩
  rw [← hm.len]
  simp

theorem op_sta (hm : Mem w fz mem ρ) (he : EnvR w fz mem ρ env a) {t : TypeId} {i : TypeInfo} {x y : Operand} {x' y' : Opd} {n : Nat} {av : List Nat} (ho : o.op = .store t x y) (hx : okOpd a.tmps.size x x' = true) (hy : okOpd a.tmps.size y y' = true)
    (hi : P.info? t = some i) (hn : i.size = n) {v : AV} {m : List AObj} (h : evalOp mem (ev env) (.sta av n x' y') = some (v, m)) : MemOut P o a w fz mem ρ v m := by
  simp only [evalOp] at h
  split at h
  · exact op_st hm he ho hx hy hi hn (by simpa only [evalOp] using h)
  · cases h

theorem op_mk (hm : Mem w fz mem ρ) (he : EnvR w fz mem ρ env a) {t ty : TypeId} {i : TypeInfo} {z : Value} {x y : Operand} {x' : Opd} {bytes : Nat} {zero : List AV} (ho : o.op = .makeSlice t x y) (hx : okOpd a.tmps.size x x' = true) (hy : okOpd a.tmps.size y x' = true)
    (ht : P.underlying t = some (.slice ty)) (hi : P.info? ty = some i) (hz : i.zero = some z) (hb : i.bytes = bytes) (hs : i.size = zero.length) (hc : okCells z.cells.toList zero = true) (hpos : 0 < zero.length)
    {v : AV} {m : List AObj} (h : evalOp mem (ev env) (.mk ty bytes zero x') = some (v, m)) : MemOut P o a w fz mem ρ v m := by
  subst hb
  have e1 := opd_rep he hx
  have e2 := opd_rep he hy
  simp only [evalOp] at h
  split at h
  · rename_i k n hn
    rw [hn] at e1 e2
    split at h
    · rename_i hcond
      obtain ⟨h0, hbn, h63⟩ := hcond
      simp only [Option.some.injEq, Prod.mk.injEq] at h
      obtain ⟨rfl, rfl⟩ := h
      obtain ⟨c1, c2, c3⟩ := okCells_spec (w := w) (fz := fz) hc
      obtain ⟨q, rfl⟩ := Int.eq_ofNat_of_zero_le h0
      simp only [Int.toNat_natCast] at hbn ⊢
      have hb' : (i.bytes : Int) * (q : Int) ≤ 281474976710656 := by
        have h : ((i.bytes * q : Nat) : Int) ≤ 281474976710656 := by omega
        rwa [Int.natCast_mul] at h
      have hrun := run_make (P := P) w t ty i z ht hi hz k k q q h0 (Int.le_refl _) hb' (by omega)
      simp only [Int.toNat_natCast] at hrun
      have hzl : z.cells.size = zero.length := by simpa using c1
      have hrow := World.ownsRow_lit (base := 0) (e := ty) (size := zero.length) w (madeCells z.cells (q * i.size)) q (Nat.zero_le _) (by simp only [maxLen]; omega) (by rw [size_madeCells, hs])
      obtain ⟨ρ', g1, g2, g3⟩ := newRowG hm (Old.alloc w _) ty zero.length q (cs := (List.replicate q zero).flatten) hpos (fun b hb => by simp [Value.ownBlock] at hb; omega) hrow
        (by rw [Array.length_toList, size_madeCells, flatten_rep_length, hs])
        (fun u hu => by
          obtain ⟨j, hj⟩ := List.mem_iff_getElem?.1 hu
          have hlt : j < q * i.size := by have := (List.getElem?_eq_some_iff.1 hj).1; simpa [size_madeCells] using this
          rw [made_get (by omega) hlt] at hj
          exact c2 u (List.mem_of_getElem? hj))
        (fun j c u hc' hu => by
          have hlt : j < q * i.size := by have := (List.getElem?_eq_some_iff.1 hu).1; simpa [size_madeCells] using this
          rw [made_get (by omega) hlt, hzl] at hu
          rw [flatten_rep_get zero hpos q j (by rw [← hs]; exact hlt)] at hc'
          exact c3 _ c u hc' hu) rfl
      exact ⟨_, _, fz, ρ', .inl (by simp only [execOp, ho, rep_int e1, rep_int e2, Sem.run_bind, hrun, Result.andThen_ok, Sem.run_pure]), g1, g2, g3⟩
    · cases h
  · cases h

theorem op_mk0 (hm : Mem w fz mem ρ) (he : EnvR w fz mem ρ env a) {t ty : TypeId} {i : TypeInfo} {z : Value} {x y : Operand} {y' : Opd} {bytes sz : Nat} (ho : o.op = .makeSlice t x y) (hx : okOpd a.tmps.size x (.k (.int .i64 0)) = true) (hy : okOpd a.tmps.size y y' = true)
    (ht : P.underlying t = some (.slice ty)) (hi : P.info? ty = some i) (hz : i.zero = some z) (hb : i.bytes = bytes) (hs : i.size = sz) (hpos : 0 < sz)
    {v : AV} {m : List AObj} (h : evalOp mem (ev env) (.mk0 ty sz bytes y') = some (v, m)) : MemOut P o a w fz mem ρ v m := by
  subst hb; subst hs
  have e1 := opd_rep he hx
  have e2 := opd_rep he hy
  simp only [ev] at e1
  simp only [evalOp] at h
  split at h
  · rename_i k n hn
    rw [hn] at e2
    split at h
    · rename_i hcond
      obtain ⟨h0, hbn, h63⟩ := hcond
      simp only [Option.some.injEq, Prod.mk.injEq] at h
      obtain ⟨rfl, rfl⟩ := h
      obtain ⟨q, rfl⟩ := Int.eq_ofNat_of_zero_le h0
      simp only [Int.toNat_natCast] at hbn ⊢
      have hb' : (i.bytes : Int) * (q : Int) ≤ 281474976710656 := by
        have h : ((i.bytes * q : Nat) : Int) ≤ 281474976710656 := by omega
        rwa [Int.natCast_mul] at h
      have hrun := run_make (P := P) w t ty i z ht hi hz .i64 k 0 q (Int.le_refl _) h0 hb' (by omega)
      simp only [Int.toNat_natCast] at hrun
      have hrow := World.ownsRow_made (base := 0) (e := ty) (size := i.size) w (madeCells z.cells (q * i.size)) q (Nat.zero_le _) (by simp only [maxLen]; omega) (by rw [size_madeCells])
      obtain ⟨ρ', g1, g2, g3⟩ := newRowG hm (Old.alloc w _) ty i.size 0 (cs := []) hpos (fun b hb => by simp [Value.ownBlock] at hb; omega) hrow rfl (fun u hu => by simp at hu) (fun j c u hc => by simp at hc) rfl
      exact ⟨_, _, fz, ρ', .inl (by simp only [execOp, ho, rep_int e1, rep_int e2, Sem.run_bind, hrun, Result.andThen_ok, Sem.run_pure]; rfl), g1, g2, g3⟩
    · cases h
  · cases h

/-! ### append -/
theorem append_run {t ty e : TypeId} {i : TypeInfo} {z : Value} (ht : P.underlying t = some (.slice e)) (hi : P.info? e = some i) (hz : i.zero = some z) (hzs : z.cells.size = i.size) (hsz : 0 < i.size) {v : Value} {n : Nat} {xs : List Value}
    (hown : w.ownsRow 0 e i.size v n xs) {A : Option Addr} {m c : Nat} {news : List Value} (hl : news.length = m * i.size) (hnews : m = 0 ∨ ∃ b q, A = some ⟨b, q, none⟩ ∧ ∀ (j : Nat) (u : Value), news[j]? = some u → w.cell? ⟨b, q + j, none⟩ = some u)
    (h1 : ∀ u ∈ news, u.oneCell' = true) (hb : (n + m) * i.bytes ≤ 140737488355328) (h63 : n + m ≤ 140737488355328) :
    ∃ v' w', (Builtin.append_ #[t, t] ty #[v, .slice A m c]).run P w = .ok v' w' ∧ w'.ownsRow 0 e i.size v' (n + m) (xs ++ news) ∧ w.grownBy w' v.ownBlock ∧ (v'.ownBlock = v.ownBlock ∨ v'.ownBlock = some w.heap.size) ∧ v'.oneCell' = true := by
  have hone : ∀ {w' : World} {v' : Value} {n' : Nat} {ys : List Value}, w'.ownsRow 0 e i.size v' n' ys → v'.oneCell' = true := fun h => by
    rcases h.2 with ⟨rfl, _⟩ | ⟨g, cap, cur, rfl, _⟩ <;> rfl
  by_cases hA : ∃ ad, A = some ad
  · obtain ⟨ad, rfl⟩ := hA
    obtain ⟨v', w', g1, g2, g3, _, g5⟩ := run_append_own_at (P := P) w 0 t ty e i z i.size i.bytes ht hi hz rfl rfl hzs hsz v n xs hown ad m c news hl (fun j u hu => by
        rcases hnews with h0 | ⟨b, q, h2, h3⟩
        · subst h0
          have : news = [] := List.eq_nil_of_length_eq_zero (by simpa using hl)
          subst this
          simp at hu
        · obtain rfl := Option.some.inj h2
          rw [addr_add]; exact h3 j u hu) h1 (by simp only [maxLen]; omega) hb (Nat.zero_le _)
    exact ⟨v', w', g1, g2, g3, g5, hone g2⟩
  · have hm : m = 0 := by
      rcases hnews with h0 | ⟨b, q, h2, _⟩
      · exact h0
      · exact absurd ⟨_, h2⟩ hA
    subst hm
    have hn : news = [] := List.eq_nil_of_length_eq_zero (by simpa using hl)
    subst hn
    have hAn : A = none := by cases A with | none => rfl | some ad => exact absurd ⟨ad, rfl⟩ hA
    subst hAn
    refine ⟨v, w, ?_, by simpa using hown, World.grownBy.refl w _, .inl rfl, hone hown⟩
    rcases hown.2 with ⟨rfl, hn⟩ | ⟨g, cap, cur, rfl, _, _, hnc, _⟩
    · simp [Builtin.append_, run_underlying ht, sizeOf, typeInfo, hi, Builtin.lenOf, Builtin.firstCells]
    · simp [Builtin.append_, run_underlying ht, sizeOf, typeInfo, hi, Builtin.lenOf, Builtin.firstCells, hnc, storeCells]

theorem op_app (hm : Mem w fz mem ρ) (he : EnvR w fz mem ρ env a) {t e : TypeId} {i : TypeInfo} {z : Value} {x y : Operand} {x' y' : Opd} {sz bytes : Nat} (ho : o.op = .call ⟨.builtin .append, #[x, y], #[t, t]⟩) (hx : okOpd a.tmps.size x x' = true) (hy : okOpd a.tmps.size y y' = true)
    (ht : P.underlying t = some (.slice e)) (hi : P.info? e = some i) (hz : i.zero = some z) (hzs : z.cells.size = i.size) (hs : i.size = sz) (hb : i.bytes = bytes) {v : AV} {m : List AObj} (h : evalOp mem (ev env) (.app e sz bytes x' y') = some (v, m)) : MemOut P o a w fz mem ρ v m := by
  subst hs; subst hb
  have e1 := opd_rep he hx
  have e2 := opd_rep he hy
  simp only [evalOp] at h
  split at h
  · rename_i mm sz' ds hrow
    split at h
    · rename_i hsz'
      subst hsz'
      split at h
      · rename_i k g hk
        rw [hk] at e1
        split at h
        · rename_i ob hob
          split at h
          · rename_i hc
            obtain ⟨hbox, hfr, hosz, hoty, hb1, hb2⟩ := hc
            simp only [Option.some.injEq, Prod.mk.injEq] at h
            obtain ⟨rfl, rfl⟩ := h
            obtain ⟨k1, k2⟩ := geto_some hob
            obtain ⟨r1, r2⟩ := rep_arr e1 hob
            obtain ⟨vs, h2, h3, h4, h5, h6, _, _⟩ := hm.rowAt k1 r1
            obtain ⟨A, cap, q1, q2, q3, q4⟩ := row_rep hm e2 hrow
            have hpos := (hm.obj k ob _ k1 r1).pos
            have hex : ∃ us : List Value, us.length = ds.length ∧ (∀ u ∈ us, u.oneCell' = true) ∧ (∀ (j : Nat) (d : AV) (u : Value), ds[j]? = some d → us[j]? = some u → RG w fz d u) ∧
                (mm = 0 ∨ ∃ b q, A = some ⟨b, q, none⟩ ∧ ∀ (j : Nat) (u : Value), us[j]? = some u → w.cell? ⟨b, q + j, none⟩ = some u) := by
              rcases q4 with h0 | ⟨b, q, us, z1, z2, z3, z4, z5⟩
              · subst h0
                have : ds = [] := List.eq_nil_of_length_eq_zero (by rw [q3]; simp)
                subst this
                exact ⟨[], rfl, fun u hu => (by simp at hu), fun j d u hd => (by simp at hd), .inl rfl⟩
              · exact ⟨us, z2, z3, z5, .inr ⟨b, q, z1, z4⟩⟩
            obtain ⟨us, u1, u2, u3, u4⟩ := hex
            rw [hoty, hosz] at h2
            obtain ⟨v', w', g1, g2, g3, g4, g5⟩ := append_run (P := P) (ty := o.type) (c := cap) ht hi hz hzs (by rw [← hosz]; exact hpos) h2 (news := us) (by rw [u1, q3]) u4 u2 hb1 hb2
            obtain ⟨c1, c2⟩ := hm.write (o2 := { ob with g := g + 1, n := ob.n + mm, cs := ob.cs ++ ds }) k1 r1 g3 hfr hfr rfl rfl (by simp only []; omega) (fun hh => absurd hh (by simp only []; omega))
              (fun b hb => by
                rcases g4 with g4 | g4
                · exact .inl (by rw [← g4]; exact hb)
                · rw [g4] at hb; exact .inr (by have := Option.some.inj hb; omega))
              ⟨vs ++ us, by simpa only [hoty, hosz] using g2, by simp [h3, u1], fun u hu => by
                rcases List.mem_append.1 hu with hu | hu
                · exact h5 u hu
                · exact u2 u hu, fun j c u hc hu => by
                simp only [hbox, Bool.false_eq_true, if_false]
                rw [List.getElem?_append] at hc hu
                split at hu
                · rename_i hj
                  rw [if_pos (by omega)] at hc
                  have := h6 j c u hc hu
                  simpa only [hbox, Bool.false_eq_true, if_false] using this
                · rename_i hj
                  rw [if_neg (by omega)] at hc
                  rw [h3] at hu
                  exact u3 _ c u hc hu⟩
            have hlt := (List.getElem?_eq_some_iff.1 k1).1
            refine ⟨v', w', fz, _, .inl ?_, c1, c2, .arr (o := { ob with g := g + 1, n := ob.n + mm, cs := ob.cs ++ ds }) (by simp [hlt]) (Nat.le_refl _) g5 (fun _ => by simp [show k < ρ.length by rw [hm.len]; exact hlt])⟩
            simp [execOp, ho, resolve, invoke, builtin, q1, g1]
          · cases h
        · cases h
      · cases h
    · cases h
  · cases h

/-! ### Slice literals -/
/-- Places 0, 1, .. in order, the operands side by side. -/
def okSeq (N : Nat) : Nat → List (Nat × Operand) → List Opd → Bool
  | _, [], [] => true
  | k, p :: ps, y :: ys => p.1 == k && okOpd N p.2 y && okSeq N (k + 1) ps ys
  | _, _, _ => false

theorem bsl_parts {fz2 : Nat → Prop} (hm : Mem w fz mem ρ) (he : EnvR w fz mem ρ env a) (hsub : ∀ b, fz b → fz2 b) {sz : Nat} : ∀ (ps : List (Nat × Operand)) (ys : List Opd) (k : Nat) (css : List (List AV)), okSeq a.tmps.size k ps ys = true →
    ys.mapM (fun x => (cellsOf (ev env x)).bind fun cs => if cs.length = sz then snapL mem 9 true cs else none) = some css →
    (∀ n ∈ ys.flatMap (fun x => refsL mem 9 true ((cellsOf (ev env x)).getD [])), ∀ (u : Value) (b : Nat), ρ[n]? = some u → u.ownBlock = some b → fz2 b) →
    ∃ vs : List Value, vs.length = ys.length * sz ∧ vs.length = css.flatten.length ∧ (∀ u ∈ vs, u.oneCell' = true) ∧ (∀ (j : Nat) (c : AV) (u : Value), css.flatten[j]? = some c → vs[j]? = some u → RG w fz2 c u) ∧
      ∀ (cells : Array Value), (k + ys.length) * sz ≤ cells.size → ∃ cells' : Array Value, Instr.fill (fun i => some (i * sz, sz)) cells (ps.map fun p => (p.1, a.eval p.2)) = some cells' ∧ cells'.size = cells.size ∧
        cells'.toList = cells.toList.take (k * sz) ++ vs ++ cells.toList.drop ((k + ys.length) * sz)
  | [], [], k, css, _, h, _ => by
    simp only [List.mapM_nil, Option.pure_def, Option.some.injEq] at h
    subst h
    exact ⟨[], by simp, rfl, fun u hu => (by simp at hu), fun j c u hc => (by simp at hc), fun cells hc => ⟨cells, rfl, rfl, by simp⟩⟩
  | (i, x) :: ps, y :: ys, k, css, hp, h, hn => by
    simp only [okSeq, Bool.and_eq_true, beq_iff_eq] at hp
    obtain ⟨⟨rfl, hx⟩, hps⟩ := hp
    rw [List.mapM_cons] at h
    cases hcy : cellsOf (ev env y) with
    | none => simp [hcy] at h
    | some cs =>
      simp only [hcy, Option.bind_some] at h
      by_cases hsz : cs.length = sz
      · rw [if_pos hsz] at h
        cases hs : snapL mem 9 true cs with
        | none => simp [hs] at h
        | some ds =>
          simp only [hs] at h
          cases hr : ys.mapM (fun x => (cellsOf (ev env x)).bind fun cs => if cs.length = sz then snapL mem 9 true cs else none) with
          | none => simp [hr] at h
          | some css' =>
            simp [hr] at h
            subst h
            have hn1 : ∀ n ∈ refsL mem 9 true cs, ∀ (u : Value) (b : Nat), ρ[n]? = some u → u.ownBlock = some b → fz2 b := fun n hn' => hn n (by
              rw [List.flatMap_cons, hcy]; exact List.mem_append.2 (.inl hn'))
            have hn2 : ∀ n ∈ ys.flatMap (fun x => refsL mem 9 true ((cellsOf (ev env x)).getD [])), ∀ (u : Value) (b : Nat), ρ[n]? = some u → u.ownBlock = some b → fz2 b := fun n hn' => hn n (by
              rw [List.flatMap_cons]; exact List.mem_append.2 (.inr hn'))
            obtain ⟨vs, h1, h2, h3, h4, h5⟩ := bsl_parts hm he hsub ps ys (i + 1) css' hps hr hn2
            obtain ⟨g1, g2, g3⟩ := rep_cells (opd_rep he hx) hcy
            obtain ⟨p1, p2⟩ := (snap_rg (fz2 := fz2) hm hsub 9).2 true cs ds hs hn1
            have hul : (a.eval x).cells.toList.length = sz := by simpa [hsz] using g1
            refine ⟨(a.eval x).cells.toList ++ vs, by rw [List.length_append, hul, h1, List.length_cons, Nat.add_mul]; omega, by rw [List.flatten_cons, List.length_append, List.length_append, hul, p1, hsz, h2], fun u hu => ?_, fun j c u hc hu => ?_, fun cells hcells => ?_⟩
            · rcases List.mem_append.1 hu with hu | hu
              · exact g2 u hu
              · exact h3 u hu
            · rw [List.flatten_cons, List.getElem?_append] at hc
              rw [List.getElem?_append] at hu
              split at hu
              · rename_i hj
                rw [if_pos (by omega)] at hc
                exact p2 j c u hc (fun c' hc' => by simpa using g3 j c' u hc' (by simpa using hu))
              · rename_i hj
                rw [if_neg (by omega)] at hc
                rw [hul] at hu
                rw [p1, hsz] at hc
                exact h4 _ c u hc hu
            · have hle : i * sz + sz ≤ cells.size := by
                have : (i + 1) * sz ≤ (i + (y :: ys).length) * sz := Nat.mul_le_mul_right _ (by simp)
                rw [Nat.add_mul, Nat.one_mul] at this
                omega
              have hstep := fill_step (a.eval x) (i * sz) cells (by rw [g1, hsz]; exact hle)
              generalize hnew : (a.eval x).cells.zipIdx.foldl (fun cs (p : Value × Nat) => cs.setIfInBounds (i * sz + p.2) p.1) cells = cells2 at hstep
              have hlen2 : cells2.size = cells.size := by
                have := congrArg List.length hstep
                simp only [Array.length_toList, List.length_append, List.length_take, List.length_drop] at this
                omega
              obtain ⟨cells', k1, k2, k3⟩ := h5 cells2 (by rw [hlen2]; simpa [Nat.add_assoc, Nat.add_comm 1] using hcells)
              refine ⟨cells', ?_, by rw [k2, hlen2], ?_⟩
              · simp only [List.map_cons, Instr.fill]
                rw [if_neg (by simp [g1, hsz]; omega), hnew]
                exact k1
              · rw [k3, hstep, g1, hsz]
                have e1 : (i + 1) * sz = i * sz + sz := by rw [Nat.add_mul, Nat.one_mul]
                have e2 : (i + 1 + ys.length) * sz = (i + (y :: ys).length) * sz := by rw [List.length_cons]; congr 1; omega
                have e3 : i * sz + sz ≤ (i + (y :: ys).length) * sz := by
                  rw [← e1]; exact Nat.mul_le_mul_right _ (by simp)
                rw [e2, e1]
                have hl1 : (cells.toList.take (i * sz)).length = i * sz := by simp; omega
                have htk : (cells.toList.take (i * sz) ++ (a.eval x).cells.toList ++ cells.toList.drop (i * sz + sz)).take (i * sz + sz) = cells.toList.take (i * sz) ++ (a.eval x).cells.toList := by
                  rw [List.take_left' (by rw [List.length_append, hl1, hul])]
                have hdr : (cells.toList.take (i * sz) ++ (a.eval x).cells.toList ++ cells.toList.drop (i * sz + sz)).drop ((i + (y :: ys).length) * sz) = cells.toList.drop ((i + (y :: ys).length) * sz) := by
                  rw [List.drop_append, List.drop_eq_nil_of_le (by rw [List.length_append, hl1, hul]; exact e3), List.nil_append, List.length_append, hl1, hul, List.drop_drop]
                  congr 1
                  omega
                rw [htk, hdr]
                simp only [List.append_assoc]
      · rw [if_neg hsz] at h
        simp at h
  | [], _ :: _, _, _, hp, _, _ => by simp [okSeq] at hp
  | _ :: _, [], _, _, hp, _, _ => by simp [okSeq] at hp

theorem op_bsl (hm : Mem w fz mem ρ) (he : EnvR w fz mem ρ env a) {t ty : TypeId} {i : TypeInfo} {z : Value} {len sz : Nat} {ps : Array (Nat × Operand)} {ys : List Opd} (ho : o.op = .buildSlice t len ps) (hp : okSeq a.tmps.size 0 ps.toList ys = true) (hlen : ys.length = len)
    (ht : P.underlying t = some (.slice ty)) (hi : P.info? ty = some i) (hz : i.zero = some z) (hs : i.size = sz) (hpos : 0 < sz) (hmax : len * sz ≤ 16777216)
    {v : AV} {m : List AObj} (h : evalOp mem (ev env) (.bsl ty sz ys) = some (v, m)) : MemOut P o a w fz mem ρ v m := by
  subst hs; subst hlen
  simp only [evalOp] at h
  split at h
  · rename_i css hcss
    simp only [Option.some.injEq, Prod.mk.injEq] at h
    obtain ⟨rfl, rfl⟩ := h
    obtain ⟨f1, f2⟩ := hm.freeze (ys.flatMap fun x => refsL mem 9 true ((cellsOf (ev env x)).getD []))
    obtain ⟨vs, h1, h2, h3, h4, h5⟩ := bsl_parts (fz2 := frzOf fz ρ (ys.flatMap fun x => refsL mem 9 true ((cellsOf (ev env x)).getD []))) hm he (fun b hb => .inl hb) ps.toList ys 0 css hp hcss (fun n hn u b hu hb => .inr ⟨n, hn, u, hu, hb⟩)
    have hbuild : ∃ cells' : Array Value, cells'.toList = vs ∧ (Instr.buildSlice t ys.length (ps.map fun p => (p.1, a.eval p.2))).run P w = .ok (.slice (some ⟨w.heap.size, 0, none⟩) ys.length ys.length) (w.alloc (.cells cells' ty)) := by
      have hmap : (ps.map fun p => (p.1, a.eval p.2)).toList = ps.toList.map fun p => (p.1, a.eval p.2) := by simp
      by_cases h0 : ys.length * i.size = 0
      · obtain ⟨cells', k1, k2, k3⟩ := h5 ((Array.range (ys.length * i.size)).map ((#[] : Array Value)[· % (#[] : Array Value).size]!)) (by simp)
        refine ⟨cells', ?_, ?_⟩
        · rw [k3]; simp
        · simp only [Instr.buildSlice, Sem.run_bind, run_underlying ht, Result.andThen_ok, sizeOf, typeInfo, run_program, hi, Sem.run_pure]
          rw [if_neg (by omega)]
          rw [if_pos h0]
          simp only [Sem.run_pure, Result.andThen_ok, hmap, k1, newRow, Sem.run_bind]
          simp
      · obtain ⟨cells', k1, k2, k3⟩ := h5 ((Array.range (ys.length * i.size)).map (z.cells[· % z.cells.size]!)) (by simp)
        refine ⟨cells', ?_, ?_⟩
        · rw [k3]; simp
        · simp only [Instr.buildSlice, Sem.run_bind, run_underlying ht, Result.andThen_ok, sizeOf, typeInfo, run_program, hi, Sem.run_pure]
          rw [if_neg (by omega)]
          rw [if_neg h0]
          simp only [zeroValue, typeInfo, Sem.run_bind, run_program, Result.andThen_ok, hi, hz, Sem.run_pure, hmap, k1, newRow]
          simp
    obtain ⟨cells', k1, k2⟩ := hbuild
    have hrow := World.ownsRow_lit (base := 0) (e := ty) (size := i.size) w cells' ys.length (Nat.zero_le _) (by
      have : ys.length ≤ ys.length * i.size := Nat.le_mul_of_pos_right _ hpos
      simp only [maxLen]; omega) (by rw [← Array.length_toList, k1, h1])
    rw [k1] at hrow
    obtain ⟨ρ', g1, g2, g3⟩ := newRowG f2 (Old.alloc w _) ty i.size ys.length (cs := css.flatten) hpos (fun b hb => by simp [Value.ownBlock] at hb; omega) hrow h2 h3 h4 rfl
    rw [freeze_length] at g3
    exact ⟨_, _, _, ρ', .inl (by simp only [execOp, ho, Sem.run_bind, k2, Result.andThen_ok, Sem.run_pure]), f1.trans g1, g2, g3⟩
  · cases h

/-! ### copy; strings and bytes -/
theorem op_cpy (hm : Mem w fz mem ρ) (he : EnvR w fz mem ρ env a) {t e : TypeId} {i : TypeInfo} {x y : Operand} {x' y' : Opd} {sz : Nat} {ts : Array TypeId} (ho : o.op = .call ⟨.builtin .copy, #[x, y], ts⟩) (h0 : ts[0]? = some t) (hx : okOpd a.tmps.size x x' = true) (hy : okOpd a.tmps.size y y' = true)
    (ht : P.underlying t = some (.slice e)) (hi : P.info? e = some i) (hs : i.size = sz) {v : AV} {m : List AObj} (h : evalOp mem (ev env) (.cpy sz x' y') = some (v, m)) : MemOut P o a w fz mem ρ v m := by
  subst hs
  have e1 := opd_rep he hx
  have e2 := opd_rep he hy
  simp only [evalOp] at h
  split at h
  · rename_i mm sz' ds hrow
    split at h
    · rename_i hsz'
      subst hsz'
      split at h
      · rename_i k g hk
        rw [hk] at e1
        split at h
        · rename_i ob hob
          split at h
          · rename_i hc
            obtain ⟨hbox, hfr, hosz, hle⟩ := hc
            simp only [Option.some.injEq, Prod.mk.injEq] at h
            obtain ⟨rfl, rfl⟩ := h
            obtain ⟨k1, k2⟩ := geto_some hob
            obtain ⟨r1, r2⟩ := rep_arr e1 hob
            obtain ⟨vs, h2, h3, h4, h5, h6, h7, h8⟩ := hm.rowAt k1 r1
            obtain ⟨A, cap, q1, q2, q3, q4⟩ := row_rep hm e2 hrow
            have hlt := (List.getElem?_eq_some_iff.1 k1).1
            have hltr : k < ρ.length := by rw [hm.len]; exact hlt
            rcases Nat.eq_zero_or_pos mm with hm0 | hmpos
            · -- nothing to copy
              subst hm0
              have hds : ds = [] := List.eq_nil_of_length_eq_zero (by rw [q3]; simp)
              subst hds
              have hfill : fillIn ob.cs 0 [] = ob.cs := by simp [fillIn]
              have hset : mem.set k { ob with cs := fillIn ob.cs 0 [] } = mem := by
                rw [hfill]
                apply List.ext_getElem?
                intro j
                by_cases hj : k = j
                · subst hj; simp [hlt]; have := (List.getElem?_eq_some_iff.1 k1).2; exact this.symm
                · rw [List.getElem?_set_ne hj]
              rw [hset]
              refine ⟨.int .i64 0, w, fz, ρ, .inl ?_, Ext.refl, hm, .gr .int⟩
              obtain ⟨B, c2, hB⟩ : ∃ B c2, a.eval x = .slice B ob.n c2 := by
                rcases Nat.eq_zero_or_pos ob.n with hn | hn
                · obtain ⟨A, cap, e⟩ := h7 hn; exact ⟨A, cap, by rw [e, hn]⟩
                · obtain ⟨b, cap, e, _⟩ := h8 hn; exact ⟨_, cap, e⟩
              cases A <;> cases B <;> simp [execOp, ho, resolve, invoke, builtin, hB, q1, Builtin.copy_, h0, run_underlying ht, Builtin.lenOf, sizeOf, typeInfo, hi, Builtin.firstCells, loadCells, loadCellsFrom, storeCells, goInt]
            · obtain ⟨b, q, us, z1, z2, z3, z4, z5⟩ := q4.resolve_left (by omega)
              obtain ⟨b2, c2, hB, hB2, _⟩ := h8 (by omega)
              rw [hB] at h2
              have hul : us.length = mm * i.size := by rw [z2, q3]
              have hfit : 0 + us.length ≤ vs.length := by
                rw [h3, h4, hosz, hul, Nat.zero_add]; exact Nat.mul_le_mul_right _ hle
              obtain ⟨w', s1, s2, s3⟩ := storeRow (P := P) (i := 0) (us := us) h2 hfit z3
              have hfirst : (Builtin.firstCells i.size mm (.slice (some ⟨b, q, none⟩) mm cap)).run P w = .ok us.toArray w := run_firstCells_some (P := P) w i.size mm _ mm cap us hul (fun j u hu => by rw [addr_add]; exact z4 j u hu)
              obtain ⟨c1, c2⟩ := hm.write (w' := w') (o2 := { ob with cs := fillIn ob.cs 0 ds }) k1 r1 (by rw [hB]; exact s3) hfr hfr rfl rfl (Nat.le_refl _) (fun _ => ⟨rfl, rfl⟩) (fun b hb => .inl hb)
                ⟨_, by rw [hB]; exact s2, by simp [fillIn]; omega, one_splice h5 z3, fun j' c u hc hu => by
                  simp only [hbox, Bool.false_eq_true, if_false]
                  exact rg_splice (F := fun c u => RG w fz c u) h3 z2 (by omega) (fun j c u hc hu => by have := h6 j c u hc hu; rwa [hbox] at this) z5 j' c u hc hu⟩
              refine ⟨.int .i64 mm, w', fz, _, .inl ?_, c1, c2, .gr .int⟩
              have hmin : Nat.min mm ob.n = mm := Nat.min_eq_left hle
              simp [execOp, ho, resolve, invoke, builtin, hB, q1, z1, Builtin.copy_, h0, run_underlying ht, Builtin.lenOf, sizeOf, typeInfo, hi, hmin, hfirst, s1, goInt]
          · cases h
        · cases h
      · cases h
    · cases h
  · cases h

theorem op_s2b (hm : Mem w fz mem ρ) (he : EnvR w fz mem ρ env a) {s t e : TypeId} {d : TypeDesc} {x : Operand} {x' : Opd} (ho : o.op = .convert s t x) (hx : okOpd a.tmps.size x x' = true) (hs : P.underlying s = some d) (ht : P.underlying t = some (.slice e)) (hb : P.underlying e = some (.int .u8))
    {v : AV} {m : List AObj} (h : evalOp mem (ev env) (.s2b x') = some (v, m)) : MemOut P o a w fz mem ρ v m := by
  have e1 := opd_rep he hx
  simp only [evalOp] at h
  split at h
  · rename_i str hstr
    rw [hstr] at e1
    simp only [Option.some.injEq, Prod.mk.injEq] at h
    obtain ⟨rfl, rfl⟩ := h
    have hrun := Lib.run_convert_string_bytes (P := P) w s t e str hs ht hb
    have hsz := Lib.bytesWorld_size w e str
    have hext : Ext w fz mem ρ (Lib.bytesWorld w e str) (fun b => fz b ∨ b = w.heap.size) mem ρ :=
      ⟨rfl, rfl, rfl, by omega, fun b hb _ => Lib.bytesWorld_at_old w e str b hb, fun b hb => Lib.bytesWorld_at_old w e str b (hm.lt b hb), fun b hb => .inl hb,
        fun b hb => by rcases hb with hb | hb; exact .inl hb; exact .inr (.inl (by omega)), fun n o h => ⟨o, h, Nat.le_refl _, fun _ => ⟨rfl, rfl⟩, rfl, rfl⟩, fun n v b h h' => .inl ⟨n, v, h, h'⟩⟩
    refine ⟨.slice (some ⟨w.heap.size, 0, none⟩) str.size (grownCap w str.size 0 e), _, fun b => fz b ∨ b = w.heap.size, ρ, .inl (by simp only [execOp, ho, rep_str e1, Sem.run_bind, hrun, Result.andThen_ok, Sem.run_pure]), hext, ⟨hm.len, fun n ob u hob hu => ?_, hm.apart, fun b hb => ?_⟩, .gr ?_⟩
    · obtain ⟨h1, ⟨vs, h2, h3, h4, h5⟩, h6, h7⟩ := hm.obj n ob u hob hu
      refine ⟨h1, ⟨vs, ownsRow_old (fun b hb => Lib.bytesWorld_at_old w e str b hb) h2, h3, h4, fun j c x hc hx => ?_⟩, fun h b hb => .inl (h6 h b hb), fun h b hb hf => ?_⟩
      · have := h5 j c x hc hx
        split at this
        · rename_i hb; rw [if_pos hb]; exact this.ext hext
        · rename_i hb; rw [if_neg hb]; exact this.mono hext.fzblk hext.sub
      · rcases hf with hf | hf
        · exact h7 h b hb hf
        · have := ownBlock_lt h2 hb; omega
    · rcases hb with hb | hb
      · have := hm.lt b hb; omega
      · omega
    · have hl : (bytesAV str).length = str.size := by simp only [bytesAV, List.length_map]; rw [Array.length_toList]; rfl
      rcases Nat.eq_zero_or_pos str.size with h0 | h0
      · have : bytesAV str = [] := List.eq_nil_of_length_eq_zero (by rw [hl, h0])
        rw [h0, this]
        exact .sl0
      · refine .sl (vs := str.data.toList.map fun b => .int .u8 b.toNat) h0 (grownCap_ge w str.size 0 e) (by omega) (by simp [bytesAV]) (.inr rfl) (fun u hu => ?_) (fun j u hu => ?_) (fun j c u hc hu => ?_)
        · obtain ⟨b, _, rfl⟩ := List.mem_map.1 hu; rfl
        · rw [List.getElem?_map] at hu
          obtain ⟨b, hb', rfl⟩ := Option.map_eq_some_iff.1 hu
          have hj : j < str.size := by have := (List.getElem?_eq_some_iff.1 hb').1; rw [Array.length_toList] at this; exact this
          rw [Nat.zero_add, Lib.bytesWorld_cell w e str j hj]
          simp [List.getD_eq_getElem?_getD, hb']
        · simp only [bytesAV] at hc
          rw [List.getElem?_map] at hc hu
          obtain ⟨b, hb', rfl⟩ := Option.map_eq_some_iff.1 hc
          rw [hb'] at hu
          simp only [Option.map_some, Option.some.injEq] at hu
          subst hu
          exact .int
  · cases h

theorem bytes_spec : ∀ {cs : List AV} {s : ByteArray}, bytesOfAV cs = some s → ∃ ns : List Int, cs = ns.map (fun n => AV.int .u8 n) ∧ s = strOfNums ns := by
  intro cs s h
  unfold bytesOfAV at h
  obtain ⟨l, h1, rfl⟩ := Option.map_eq_some_iff.1 h
  have key : ∀ (cs : List AV) (l : List UInt8), cs.mapM byteOfAV = some l → ∃ ns : List Int, cs = ns.map (fun n => AV.int .u8 n) ∧ l = ns.map fun n => UInt8.ofNat n.toNat := by
    intro cs
    induction cs with
    | nil => intro l h; simp at h; subst h; exact ⟨[], rfl, rfl⟩
    | cons c cs ih =>
      intro l h
      rw [List.mapM_cons] at h
      cases hc : byteOfAV c with
      | none => simp [hc] at h
      | some b =>
        cases hr : cs.mapM byteOfAV with
        | none => simp [hc, hr] at h
        | some l' =>
          simp [hc, hr] at h
          subst h
          obtain ⟨ns, h2, h3⟩ := ih l' hr
          unfold byteOfAV at hc
          split at hc
          · rename_i n
            obtain rfl := Option.some.inj hc
            exact ⟨n :: ns, by rw [h2]; rfl, by rw [h3]; rfl⟩
          · cases hc
  obtain ⟨ns, h2, h3⟩ := key cs l h1
  exact ⟨ns, h2, by rw [h3]; rfl⟩

theorem op_b2s (hm : Mem w fz mem ρ) (he : EnvR w fz mem ρ env a) {s t e : TypeId} {x : Operand} {x' : Opd} (ho : o.op = .convert s t x) (hx : okOpd a.tmps.size x x' = true) (hs : P.underlying s = some (.slice e)) (ht : P.underlying t = some .string) (hb : P.underlying e = some (.int .u8))
    {v : AV} {m : List AObj} (h : evalOp mem (ev env) (.b2s x') = some (v, m)) : m = mem ∧ PureOut P o a w fz mem ρ v := by
  have e1 := opd_rep he hx
  simp only [evalOp] at h
  obtain ⟨⟨n, sz, cs⟩, hr, h⟩ := Option.bind_eq_some_iff.1 h
  simp only [] at h
  split at h
  · rename_i hsz
    subst hsz
    obtain ⟨str, hst, h⟩ := Option.map_eq_some_iff.1 h
    simp only [Prod.mk.injEq] at h
    obtain ⟨rfl, rfl⟩ := h
    obtain ⟨A, cap, h1, h2, h3, h4⟩ := row_rep hm e1 hr
    obtain ⟨ns, h5, h6⟩ := bytes_spec hst
    refine ⟨rfl, .string str, ?_, .gr .str⟩
    have hrun : (convert s t (.slice A n cap)).run P w = .ok (.string str) w := by
      rcases h4 with h0 | ⟨b, q, vs, z1, z2, z3, z4, z5⟩
      · subst h0
        have hcs : cs = [] := List.eq_nil_of_length_eq_zero (by omega)
        rw [hcs] at h5
        have hns : ns = [] := by cases ns with | nil => rfl | cons _ _ => simp at h5
        subst hns
        cases A with
        | none => rw [run_convert_bytes_nil w s e hs hb 0 cap t ht, h6]; rfl
        | some ad =>
          rw [run_convert_bytes_string w s t e _ 0 cap hs hb ht, h6]
          simp [Conv.bytesToString, loadCells, loadCellsFrom]
          rfl
      · subst z1
        rw [h6]
        refine run_convert_bytes_arg w s e hs hb b q n cap ns (by have := congrArg List.length h5; simp at this; omega) (fun i hi => ?_) t ht
        have hi2 : i < vs.length := by omega
        have hv : vs[i]? = some vs[i] := by simp [hi2]
        have hc : cs[i]? = some (.int .u8 (ns.getD i 0)) := by
          rw [h5, List.getElem?_map]
          have : i < ns.length := by have := congrArg List.length h5; simp at this; omega
          simp [List.getD_eq_getElem?_getD, this]
        have hz := z4 i _ hv
        have hrg := z5 i _ _ hc hv
        rw [hz]
        generalize vs[i] = u at hrg
        cases hrg
        rfl
    simp only [execOp, ho, h1, Sem.run_bind, hrun, Result.andThen_ok, Sem.run_pure]
  · cases h

end
end Go.V
