/- The texts L01k L01l L01m L01d L01n L01o L01p L01q L03a L07b L07f L06e L03b L06f L06h, one behind the other. Conditions: each text's own. -/
import Derived.Test.YtlejgleocnemoaaGreatG05
import Derived.Lib.Strings
set_option linter.unusedSimpArgs false
set_option linter.unusedVariables false
namespace Go.Proofs.YtlejgleocnemoaaGreat.I
open Go Go.V
attribute [local go_sem] mNil nat0 beq_self_eq_true mSkip mRet mExit mReg mSeq mCond mTrue mFalse mBlock mLv mCodeE mCodeR mEndN mEndR mEndE mOps mSome mGuard mGtt mGff mGtf mGft mGu mCallP mCallR mCallF mCallO mCallZ mCallG mCallM mCallV loopQ_exit loopQ_ret mO_mov mO_newnil mO_pick mO_alloc mO_box mO_build mO_bsl mO_bslF mO_newnilB mO_bslB mO_lenB mO_appB mO_allocA mO_bslA mO_appA mO_ldb mO_faddrb mRsv mO_ldf mO_ld mO_st mO_sta mO_nilchk mO_bin mO_binb mO_binp mO_bins mO_neg mO_com mO_not mO_conv mO_mk mO_mk0 mO_mkB mO_s2b mO_b2s mO_cpy mO_cut mO_faddr mO_fld mO_iaddr mO_iaddrf mO_sidx mO_len mO_lenf mO_slen mO_scut mO_app mO_ext mO_mx mO_mn mO_mkfn evalOp cutOp argsE ev getE putE cellsOf adopt rowOf binV boolV nilV ar_add ar_sub ar_mul ar_quo ar_rem ar_eq ar_ne ar_lt ar_le ar_gt ar_ge ar_and ar_or ar_xor geto bound finRet finNrm ints List.length_cons List.length_nil List.length_append List.getElem?_cons_zero List.getElem?_cons_succ List.nil_append List.cons_append List.map_cons List.map_nil List.mapM_cons List.mapM_nil Option.map_some Option.map_none Option.bind_some Option.pure_def Option.bind_eq_bind List.drop_zero or_self or_false false_or or_true true_or true_and and_true and_self decide_true decide_false Bool.false_eq_true Bool.true_eq_false Bool.not_true Bool.not_false Nat.le_refl eq_self gt_iff_lt ge_iff_le ne_eq not_true_eq_false not_false_eq_true storeOp apartOf freeze_nil refsL refs List.flatMap_cons List.flatMap_nil List.append_nil List.contains_nil List.set_cons_zero List.set_cons_succ snap snapL fill_nums flat_nums nums_length Go.V.freeze List.mapIdx_cons List.mapIdx_nil List.contains_cons Bool.or_false Bool.false_or Bool.or_true Bool.true_or
structure Heads (Vn w top next head u2 K vl low : Nat) : Prop where
  hV : Vn = (top * 4294967296 + next) * K + vl
  hvl : vl < K
  hw : w = (head * 4294967296 + u2) * K + low
  hlow : low < K
  hwV : w < 4294967296 * Vn
  htop : 1 ≤ top
  hnext : next < 4294967296
  hu2 : u2 < 4294967296
variable {Vn w top next head u2 K vl low g rest : Nat}
theorem Heads.pos (h : Heads Vn w top next head u2 K vl low) : 0 < Vn := by
  rcases Nat.eq_zero_or_pos Vn with h0 | h0
  · have := h.hwV; rw [h0] at this; omega
  · exact h0
theorem Heads.wlt (h : Heads Vn w top next head u2 K vl low) : w < (head * 4294967296 + u2 + 1) * K := by
  rw [h.hw, Nat.add_mul (head * 4294967296 + u2) 1, Nat.one_mul]
  have := h.hlow
  omega
theorem Heads.vle (h : Heads Vn w top next head u2 K vl low) : (top * 4294967296 + next) * K ≤ Vn := by rw [h.hV]; omega
theorem Heads.vlt (h : Heads Vn w top next head u2 K vl low) : Vn < (top * 4294967296 + next + 1) * K := by
  rw [h.hV, Nat.add_mul (top * 4294967296 + next) 1, Nat.one_mul]
  have := h.hvl
  omega
theorem Heads.dec (h : Heads Vn w top next head u2 K vl low) (h1 : g * top + rest = head) (h2 : rest * 4294967296 + u2 < g * next) : w < g * Vn := by
  have e1 : head * 4294967296 + u2 + 1 ≤ g * (top * 4294967296 + next) := by
    rw [Nat.mul_add, ← Nat.mul_assoc]
    omega
  have e2 := Nat.mul_le_mul_right K e1
  have e3 := Nat.mul_le_mul_left g h.vle
  rw [← Nat.mul_assoc] at e3
  have := h.wlt
  omega
theorem Heads.big (h : Heads Vn w top next head u2 K vl low) (hg : 4294967296 ≤ g) : w < g * Vn :=
  Nat.lt_of_lt_of_le h.hwV (Nat.mul_le_mul_right _ hg)
theorem Heads.ok (h : Heads Vn w top next head u2 K vl low) (h1 : g * top + rest = head) (h2 : g * next ≤ rest * 4294967296 + u2) (hg : g < 4294967296) : g * Vn < w + Vn := by
  have e1 : g * (top * 4294967296 + next) ≤ head * 4294967296 + u2 := by
    rw [Nat.mul_add, ← Nat.mul_assoc]
    omega
  have e2 := Nat.mul_le_mul_right K e1
  have e4 : g * Vn = g * (top * 4294967296 + next) * K + g * vl := by rw [h.hV, Nat.mul_add, Nat.mul_assoc]
  have e5 : g * vl < Vn := by
    have f1 : g * vl ≤ 4294967295 * vl := Nat.mul_le_mul_right _ (by omega)
    have f2 : 4294967296 * K ≤ (top * 4294967296 + next) * K := Nat.mul_le_mul_right _ (by have := h.htop; omega)
    have := h.vle
    have := h.hvl
    omega
  have := h.hw
  omega
theorem Heads.headlt (h : Heads Vn w top next head u2 K vl low) : head < 4294967296 * (top + 1) := by
  have e1 : head * 4294967296 * K ≤ w := by
    rw [h.hw]
    have : head * 4294967296 * K ≤ (head * 4294967296 + u2) * K := Nat.mul_le_mul_right _ (by omega)
    omega
  have e2 : Vn ≤ (top + 1) * 4294967296 * K := by
    have f := h.vlt
    have : (top * 4294967296 + next + 1) * K ≤ (top + 1) * 4294967296 * K := Nat.mul_le_mul_right _ (by have := h.hnext; omega)
    omega
  have e3 : head * 4294967296 * K < 4294967296 * ((top + 1) * 4294967296 * K) := by
    have := h.hwV
    omega
  rcases Nat.lt_or_ge head (4294967296 * (top + 1)) with h1 | h1
  · exact h1
  · have f1 : 4294967296 * (top + 1) * 4294967296 * K ≤ head * 4294967296 * K := Nat.mul_le_mul_right _ (Nat.mul_le_mul_right _ h1)
    have f2 : 4294967296 * (top + 1) * 4294967296 * K = 4294967296 * ((top + 1) * 4294967296 * K) := by rw [Nat.mul_assoc, Nat.mul_assoc, Nat.mul_assoc]
    omega
theorem Heads.brk (h : Heads Vn w top next head u2 K vl low) (h1 : g * top + rest = head) (h3 : 4294967296 ≤ rest) : g < 4294967296 ∧ g * Vn < w + Vn := by
  have hg : g < 4294967296 := by
    rcases Nat.lt_or_ge g 4294967296 with h2 | h2
    · exact h2
    · have f := Nat.mul_le_mul_right top h2
      have := h.headlt
      have := h.htop
      omega
  refine ⟨hg, h.ok h1 ?_ hg⟩
  have f1 : g * next ≤ 4294967295 * 4294967295 := Nat.mul_le_mul (by omega) (by have := h.hnext; omega)
  omega
theorem Heads.first (h : Heads Vn w top next head u2 K vl low) : w / Vn ≤ head / top := by
  have hlt : w < (head / top + 1) * Vn := by
    have e0 : head + 1 ≤ (head / top + 1) * top := by
      have := Nat.div_add_mod head top
      have := Nat.mod_lt head h.htop
      rw [Nat.add_mul, Nat.one_mul, Nat.mul_comm]
      omega
    have e1 : head * 4294967296 + u2 + 1 ≤ (head / top + 1) * (top * 4294967296 + next) := by
      rw [Nat.mul_add, ← Nat.mul_assoc]
      have := Nat.mul_le_mul_right 4294967296 e0
      have := h.hu2
      have : 0 ≤ (head / top + 1) * next := Nat.zero_le _
      omega
    have e2 := Nat.mul_le_mul_right K e1
    have e3 := Nat.mul_le_mul_left (head / top + 1) h.vle
    rw [← Nat.mul_assoc] at e3
    have := h.wlt
    omega
  have := (Nat.div_lt_iff_lt_mul h.pos).2 hlt
  omega
theorem Heads.less (h : Heads Vn w top next head u2 K vl low) (h1 : w < g * Vn) : w / Vn ≤ g - 1 ∧ 1 ≤ g := by
  have := (Nat.div_lt_iff_lt_mul h.pos).2 h1
  exact ⟨Nat.le_sub_one_of_lt this, Nat.lt_of_le_of_lt (Nat.zero_le _) this⟩
theorem Heads.near (h : Heads Vn w top next head u2 K vl low) (h1 : w / Vn ≤ g) (h2 : g * Vn < w + Vn) : g = w / Vn ∨ g = w / Vn + 1 := by
  have e1 := Nat.div_add_mod w Vn
  have e2 := Nat.mod_lt w h.pos
  have e3 : g * Vn < (w / Vn + 2) * Vn := by
    rw [Nat.add_mul, Nat.mul_comm (w / Vn)]
    omega
  have := Nat.lt_of_mul_lt_mul_right e3
  omega
theorem take_off {W' P b : Nat} (hV : 0 < Vn) (hb : b ≤ 1) (hP : W' < P) (hVP : Vn ≤ P) (hg : g = w / Vn ∨ g = w / Vn + 1) (h : W' + g * Vn = w + P * b) : (b = 0 → g = w / Vn ∧ W' = w % Vn) ∧ (b = 1 → g = w / Vn + 1 ∧ W' + Vn = P + w % Vn) := by
  have e1 := Nat.div_add_mod w Vn
  have e2 := Nat.mod_lt w hV
  rw [Nat.mul_comm] at e1
  have e3 : (w / Vn + 1) * Vn = w / Vn * Vn + Vn := by rw [Nat.add_mul, Nat.one_mul]
  rcases hg with rfl | rfl
  · refine ⟨fun hb0 => ?_, fun hb1 => ?_⟩
    · subst hb0; exact ⟨rfl, by omega⟩
    · subst hb1; omega
  · rw [e3] at h
    refine ⟨fun hb0 => ?_, fun hb1 => ?_⟩
    · subst hb0; omega
    · subst hb1; exact ⟨rfl, by omega⟩
theorem put_back {W' W'' P k : Nat} (hV : 0 < Vn) (hk : k ≤ 1) (hP : W'' < P) (h1 : W' + Vn = P + w % Vn) (h : W'' + P * k = W' + Vn) : W'' = w % Vn := by
  rcases Nat.eq_zero_or_pos k with rfl | h0
  · omega
  · obtain rfl : k = 1 := by omega
    omega
theorem long_step {u0 qs r d B : Nat} (h : d = qs * Vn + r) : u0 + B * d = (((u0 + B * r) / Vn) + B * qs) * Vn + (u0 + B * r) % Vn := by
  have e1 := Nat.div_add_mod (u0 + B * r) Vn
  rw [h, Nat.add_mul, Nat.mul_add, Nat.mul_assoc B]
  rw [Nat.mul_comm] at e1
  omega
theorem nval_heads {l : List Int} (hR : R32 l) {n : Nat} (hn : 2 ≤ n) (hs : ∀ p, n < p → l.getD p 0 = 0) (hl : n < l.length) :
    ∃ low, low < 4294967296 ^ (n - 2) ∧ nval l = (((l.getD n 0).toNat * 4294967296 + (l.getD (n - 1) 0).toNat) * 4294967296 + (l.getD (n - 2) 0).toNat) * 4294967296 ^ (n - 2) + low := by
  obtain ⟨k, rfl⟩ : ∃ k, n = k + 1 + 1 := ⟨n - 2, by omega⟩
  refine ⟨nval (l.take k), ?_, ?_⟩
  · have := nval_lt (R32_take hR k)
    rw [List.length_take, Nat.min_eq_left (by omega)] at this
    exact this
  · have h1 := nval_split (l := l) k (by omega)
    have h2 : nval (l.drop k) = (l.getD k 0).toNat + 4294967296 * ((l.getD (k + 1) 0).toNat + 4294967296 * (l.getD (k + 1 + 1) 0).toNat) := by
      rw [getD_drop (by omega), nval, getD_drop (by omega), nval, getD_drop (by omega), nval, nval_allzero (l := l.drop (k + 1 + 1 + 1)) (fun p => by rw [getD_dropD]; exact hs _ (by omega))]
      omega
    rw [h1, h2, show k + 1 + 1 - 1 = k + 1 by omega, show k + 1 + 1 - 2 = k by omega, Nat.mul_comm (4294967296 ^ k)]
    have : (l.getD k 0).toNat + 4294967296 * ((l.getD (k + 1) 0).toNat + 4294967296 * (l.getD (k + 1 + 1) 0).toNat) = ((l.getD (k + 1 + 1) 0).toNat * 4294967296 + (l.getD (k + 1) 0).toNat) * 4294967296 + (l.getD k 0).toNat := by omega
    rw [this]
    omega
theorem nval_heads2 {l : List Int} (hR : R32 l) (hl : 2 ≤ l.length) :
    ∃ low, low < 4294967296 ^ (l.length - 2) ∧ nval l = ((l.getD (l.length - 1) 0).toNat * 4294967296 + (l.getD (l.length - 2) 0).toNat) * 4294967296 ^ (l.length - 2) + low := by
  obtain ⟨k, hk⟩ : ∃ k, l.length = k + 2 := ⟨l.length - 2, by omega⟩
  refine ⟨nval (l.take k), ?_, ?_⟩
  · have := nval_lt (R32_take hR k)
    rw [List.length_take, Nat.min_eq_left (by omega)] at this
    rw [hk]
    exact this
  · have h1 := nval_split (l := l) k (by omega)
    have h2 : nval (l.drop k) = (l.getD k 0).toNat + 4294967296 * (l.getD (k + 1) 0).toNat := by
      rw [getD_drop (by omega), nval, getD_drop (by omega), nval, nval_allzero (l := l.drop (k + 1 + 1)) (fun p => by rw [getD_dropD]; exact getD_big (by omega))]
      omega
    rw [hk, h1, h2, show k + 2 - 1 = k + 1 by omega, show k + 2 - 2 = k by omega, Nat.mul_comm (4294967296 ^ k)]
    have : (l.getD k 0).toNat + 4294967296 * (l.getD (k + 1) 0).toNat = (l.getD (k + 1) 0).toNat * 4294967296 + (l.getD k 0).toNat := by omega
    rw [this]
    omega
end Go.Proofs.YtlejgleocnemoaaGreat.I

namespace Go.Proofs.YtlejgleocnemoaaGreat.I
open Go Go.V
attribute [local go_sem_proc ↓] reduceIte
attribute [local go_sem_proc] Nat.reduceEqDiff Nat.reduceAdd Nat.reduceMul Nat.reduceLeDiff Nat.reduceLT Int.reduceToNat Int.reduceLT Int.reduceLE reduceCtorEq Nat.reduceBEq
attribute [local go_sem] mNil nat0 beq_self_eq_true mSkip mRet mExit mReg mSeq mCond mTrue mFalse mBlock mLv mCodeE mCodeR mEndN mEndR mEndE mOps mSome mGuard mGtt mGff mGtf mGft mGu mCallP mCallR mCallF mCallO mCallZ mCallG mCallM mCallV loopQ_exit loopQ_ret mO_mov mO_newnil mO_pick mO_alloc mO_box mO_build mO_bsl mO_bslF mO_newnilB mO_bslB mO_lenB mO_appB mO_allocA mO_bslA mO_appA mO_ldb mO_faddrb mRsv mO_ldf mO_ld mO_st mO_sta mO_nilchk mO_bin mO_binb mO_binp mO_bins mO_neg mO_com mO_not mO_conv mO_mk mO_mk0 mO_mkB mO_s2b mO_b2s mO_cpy mO_cut mO_faddr mO_fld mO_iaddr mO_iaddrf mO_sidx mO_len mO_lenf mO_slen mO_scut mO_app mO_ext mO_mx mO_mn mO_mkfn evalOp cutOp argsE ev getE putE cellsOf adopt rowOf binV boolV nilV ar_add ar_sub ar_mul ar_quo ar_rem ar_eq ar_ne ar_lt ar_le ar_gt ar_ge geto bound finRet finNrm ints List.length_cons List.length_nil List.length_append List.getElem?_cons_zero List.getElem?_cons_succ List.nil_append List.cons_append List.map_cons List.map_nil List.mapM_cons List.mapM_nil Option.map_some Option.map_none Option.bind_some Option.pure_def Option.bind_eq_bind List.drop_zero or_self or_false false_or or_true true_or true_and and_true and_self decide_true decide_false Bool.false_eq_true Bool.true_eq_false Bool.not_true Bool.not_false Nat.le_refl eq_self gt_iff_lt ge_iff_le ne_eq not_true_eq_false not_false_eq_true storeOp apartOf freeze_nil refsL refs List.flatMap_cons List.flatMap_nil List.append_nil List.contains_nil List.set_cons_zero List.set_cons_succ snap snapL fill_nums flat_nums nums_length Go.V.freeze List.mapIdx_cons List.mapIdx_nil List.contains_cons Bool.or_false Bool.false_or Bool.or_true Bool.true_or
theorem mCut1 {C : CallRel} {Q : X → St → Prop} {c : IR} {k : List V.Item} {s : St} {R : X → St → Prop} (h : Mach C R [.code c] .nrm s) (h2 : ∀ (x : X) (s' : St), R x s' → Mach C Q k x s') : Mach C Q (.code c :: k) .nrm s := by
  simp only [Mach] at h ⊢
  exact Go.V.wp_mono (fun x s' hx => h2 x s' hx) h
theorem fill0 {k : IntKind} {a b : List Int} (h : a.length ≤ b.length) : fillIn (nums k b) 0 (nums k a) = nums k (a ++ b.drop a.length) := by
  simp [fillIn, nums]
theorem or_shl' {a b : Nat} (ha : a < 4294967296) (hb : b < 4294967296) : arith .or .u64 ((b : Int) * 4294967296) (a : Int) = some (.int .u64 ((b * 4294967296 + a : Nat) : Int)) := by
  have h : IntKind.u64.wrap (((BitVec.ofInt IntKind.u64.bits ((b : Int) * 4294967296) ||| BitVec.ofInt IntKind.u64.bits (a : Int)).toNat : Nat) : Int) = (b : Int) * 4294967296 + a := shl_or ha hb
  rw [ar_or, h]
  congr 2
theorem put_drop0 {l : List Int} {k : Nat} {v : Int} (h : k < l.length) : (put l k v).drop k = v :: l.drop (k + 1) := by
  simp only [put]
  rw [List.drop_append_of_le_length (by rw [List.length_take]; omega), List.drop_eq_nil_of_le (by rw [List.length_take]; omega)]
  rfl
section
variable {E : CallRel}
set_option maxHeartbeats 3200000 in
set_option maxRecDepth 4000 in
theorem c180_ok {a b : Nat} (hb2 : 2 ≤ (limG b).length) (hab : b ≤ a) (ha : (limG a).length ≤ 1000000) : Go.V.Call tab E 180 [natC a, natC b] [] (.tup [natC (a / b), natC (a % b)]) [] := by
  refine Go.V.Call.mach i180 c180 rfl rfl rfl rfl ?_
  have hRa := R32_limG (n := a)
  have hRb := R32_limG (n := b)
  have ea := nval_limG (n := a)
  have eb := nval_limG (n := b)
  have hmono := limG_mono hab
  have hb0 : b ≠ 0 := by
    rintro rfl
    rw [limG_zero] at hb2
    simp at hb2
  obtain ⟨bl, d, hbd, hd1, hd2⟩ := limG_last hb0
  have hd0 : (limG b).getD ((limG b).length - 1) 0 = d := by
    rw [hbd]; simp
  obtain ⟨d', rfl⟩ := Int.eq_ofNat_of_zero_le (show 0 ≤ d by omega)
  obtain ⟨s, hs32, hs1, hs2, h148⟩ := c193_ok (E := E) (x := d') (by omega) (by omega)
  have hps : 0 < 2 ^ s := Nat.pow_pos (by omega)
  have hblen : bl.length + 1 = (limG b).length := by rw [hbd]; simp
  have hbv : b = nval bl + 4294967296 ^ bl.length * d' := by
    have := nval_append (a := bl) (b := [(d' : Int)])
    rw [← hbd, eb] at this
    simpa [nval] using this
  have hbl := nval_lt (l := bl) (fun x hx => hRb x (by rw [hbd]; simp [hx]))
  have hVlo : 4294967296 ^ bl.length * 2147483648 ≤ b * 2 ^ s := by
    have e1 : 4294967296 ^ bl.length * (d' * 2 ^ s) ≤ b * 2 ^ s := by
      rw [← Nat.mul_assoc]
      exact Nat.mul_le_mul_right _ (by omega)
    have e2 : 4294967296 ^ bl.length * 2147483648 ≤ 4294967296 ^ bl.length * (d' * 2 ^ s) := Nat.mul_le_mul_left _ hs1
    omega
  have hVhi : b * 2 ^ s < 4294967296 ^ (limG b).length := by
    have hpp : 2 ^ s * 2 ^ (32 - s) = 4294967296 := by rw [← Nat.pow_add, show s + (32 - s) = 32 by omega]
    have e1 : (d' + 1) * 2 ^ s ≤ 4294967296 := by
      have f : d' < 2 ^ (32 - s) := by
        rw [← hpp, Nat.mul_comm (2 ^ s)] at hs2
        exact Nat.lt_of_mul_lt_mul_right hs2
      have := Nat.mul_le_mul_right (2 ^ s) (show d' + 1 ≤ 2 ^ (32 - s) from f)
      rw [Nat.mul_comm (2 ^ (32 - s)), hpp] at this
      exact this
    have e2 : b < 4294967296 ^ bl.length * (d' + 1) := by rw [Nat.mul_add]; omega
    have e3 : b * 2 ^ s < 4294967296 ^ bl.length * (d' + 1) * 2 ^ s := (Nat.mul_lt_mul_right hps).2 e2
    have e4 : 4294967296 ^ bl.length * (d' + 1) * 2 ^ s ≤ 4294967296 ^ bl.length * 4294967296 := by
      rw [Nat.mul_assoc]
      exact Nat.mul_le_mul_left _ e1
    rw [← hblen, Nat.pow_succ]
    omega
  have h149b := c194_ok (E := E) (n := b) hs32 (by omega)
  have h149a := c194_ok (E := E) (n := a) hs32 ha
  have hVl : (limG (b * 2 ^ s)).length = (limG b).length := by
    have h1 := limG_len hVhi
    have h2 := limG_mono (show b ≤ b * 2 ^ s from Nat.le_mul_of_pos_right _ hps)
    omega
  have hSl : (limG (a * 2 ^ s)).length ≤ (limG a).length + 1 := by
    refine limG_len ?_
    rw [Nat.pow_succ]
    have h1 := limG_lt a
    have h2 : 2 ^ s ≤ 2 ^ 32 := Nat.pow_le_pow_right (by omega) (by omega)
    exact Nat.mul_lt_mul'' h1 (by
      have : 2 ^ s < 2 ^ 32 := Nat.pow_lt_pow_right (by omega) hs32
      omega)
  have hRV := R32_limG (n := b * 2 ^ s)
  have hRS := R32_limG (n := a * 2 ^ s)
  have eV := nval_limG (n := b * 2 ^ s)
  have eS := nval_limG (n := a * 2 ^ s)
  have hUtop : a * 2 ^ s < 4294967296 ^ (limG a).length * 2 ^ s := (Nat.mul_lt_mul_right hps).2 (limG_lt a)
  simp only [natC] at h149b h149a ⊢
  have hq := Nat.mul_div_mul_right a b hps
  have hr := Nat.mul_mod_mul_right (2 ^ s) a b
  have hVn0 : 0 < b * 2 ^ s := Nat.mul_pos (by omega) hps
  generalize limG a = A at *
  generalize limG b = C at *
  generalize limG (a * 2 ^ s) = S at *
  generalize limG (b * 2 ^ s) = V at *
  obtain ⟨m, hm⟩ : ∃ m, A.length = C.length + m := ⟨A.length - C.length, by omega⟩
  obtain ⟨U0, hU0⟩ : ∃ U0, U0 = S ++ (List.replicate (A.length + 1) (0 : Int)).drop S.length := ⟨_, rfl⟩
  have hU0l : U0.length = A.length + 1 := by rw [hU0]; simp; omega
  have hU0R : R32 U0 := by rw [hU0]; exact R32_app hRS (R32_drop R32_zeros _)
  have hU0v : nval U0 = a * 2 ^ s := by
    rw [hU0, nval_append, nval_allzero (l := List.drop _ _) (fun p => by rw [getD_dropD]; exact zeros_get), eS]
    omega
  have hfill := fill0 (k := .u32) (a := S) (b := List.replicate (A.length + 1) 0) (by simpa using hSl)
  rw [← hU0] at hfill
  have hbl2 : C.length - 1 = bl.length := by omega
  have w0 : IntKind.i64.wrap ((C.length : Int) - 1) = ((C.length - 1 : Nat) : Int) := by rw [wrap_i64 (by omega) (by omega)]; omega
  have g0 : (0 : Int) ≤ ((C.length - 1 : Nat) : Int) := by omega
  have g1 : ((C.length - 1 : Nat) : Int) < (C.length : Int) := by omega
  have hsd := sub_nums (k := .u32) (l := C) (i := C.length - 1) (by omega)
  rw [hd0] at hsd
  have w1 : IntKind.i64.wrap ((A.length : Int) + 1) = ((A.length + 1 : Nat) : Int) := by rw [wrap_i64 (by omega) (by omega)]; omega
  have b1 : (0 : Int) ≤ ((A.length + 1 : Nat) : Int) := by omega
  have b2 : 4 * (A.length + 1) ≤ 140737488355328 := by omega
  have b3 : ((A.length + 1 : Nat) : Int) ≤ 140737488355328 := by omega
  have w2 : IntKind.i64.wrap ((A.length : Int) - (C.length : Int)) = (m : Int) := by rw [wrap_i64 (by omega) (by omega)]; omega
  have w3 : IntKind.i64.wrap ((m : Int) + 1) = ((m + 1 : Nat) : Int) := by rw [wrap_i64 (by omega) (by omega)]; omega
  have b4 : (0 : Int) ≤ ((m + 1 : Nat) : Int) := by omega
  have b5 : 4 * (m + 1) ≤ 140737488355328 := by omega
  have b6 : ((m + 1 : Nat) : Int) ≤ 140737488355328 := by omega
  have hV2 : 2 ≤ V.length := by omega
  have w4 : IntKind.i64.wrap ((V.length : Int) - 1) = ((V.length - 1 : Nat) : Int) := by rw [wrap_i64 (by omega) (by omega)]; omega
  have w5 : IntKind.i64.wrap ((V.length : Int) - 2) = ((V.length - 2 : Nat) : Int) := by rw [wrap_i64 (by omega) (by omega)]; omega
  have g2 : (0 : Int) ≤ ((V.length - 1 : Nat) : Int) := by omega
  have g3 : ((V.length - 1 : Nat) : Int) < (V.length : Int) := by omega
  have g4 : (0 : Int) ≤ ((V.length - 2 : Nat) : Int) := by omega
  have g5 : ((V.length - 2 : Nat) : Int) < (V.length : Int) := by omega
  have hst := sub_nums (k := .u32) (l := V) (i := V.length - 1) (by omega)
  have hsn := sub_nums (k := .u32) (l := V) (i := V.length - 2) (by omega)
  have htr := R32_get hRV (V.length - 1)
  have hnr := R32_get hRV (V.length - 2)
  obtain ⟨vl, hvl, hVV⟩ := nval_heads2 hRV hV2
  obtain ⟨top, htop⟩ := Int.eq_ofNat_of_zero_le htr.1
  obtain ⟨next, hnext⟩ := Int.eq_ofNat_of_zero_le hnr.1
  rw [htop] at hst htr hVV
  rw [hnext] at hsn hnr hVV
  rw [Int.toNat_natCast, Int.toNat_natCast] at hVV
  have htl : top < 4294967296 := by omega
  have hnl : next < 4294967296 := by omega
  have htop1 : 1 ≤ top := by
    rcases Nat.eq_zero_or_pos top with h0 | h0
    · exfalso
      have hz : ∀ p, V.length - 1 ≤ p → V.getD p 0 = 0 := fun p hp => by
        by_cases h : p = V.length - 1
        · rw [h, htop, h0]; rfl
        · exact getD_big (by omega)
      have h1 := nval_short hRV hz
      rw [eV, show V.length - 1 = bl.length by omega] at h1
      omega
    · exact h0
  have wt : IntKind.u64.wrap (top : Int) = (top : Int) := wrap_u64 (by omega) (by omega)
  have wn : IntKind.u64.wrap (next : Int) = (next : Int) := wrap_u64 (by omega) (by omega)
  have hcp : S.length ≤ A.length + 1 := hSl
  simp only [c180, us32, go_sem, subB1, subT1, FL, w0, g0, g1, hsd, Int.toNat_natCast]
  refine goP h148 ?_
  simp only [us32, go_sem, subB1, subT1, FL]
  refine goP h149b ?_
  simp only [us32, go_sem, subB1, subT1, FL, w1, b1, b2, b3, Int.toNat_natCast, flat_nums]
  refine goP h149a ?_
  simp only [us32, go_sem, subB1, subT1, hcp, hfill, w2, w3, b4, b5, b6, w4, w5, g2, g3, g4, g5, hst, hsn, wt, wn, Int.toNat_natCast, flat_nums]
  refine mLoop (fun N st => ∃ (j : Nat) (jj : Int) (U Q : List Int), j ≤ m + 1 ∧ N = j ∧ jj = (j : Int) - 1 ∧ U.length = A.length + 1 ∧ R32 U ∧ Q.length = m + 1 ∧ R32 Q ∧ (∀ p, p < j → U.getD p 0 = U0.getD p 0) ∧
      nval (U.drop j) < b * 2 ^ s ∧ nval (U0.drop j) = nval (Q.drop j) * (b * 2 ^ s) + nval (U.drop j) ∧
      st = ⟨[(4, .loc 3 0 0), (5, .loc 5 0 0), (6, .int .i64 s), (7, us32 V), (8, .arr 6 0), (9, .int .i64 V.length), (11, .arr 7 0), (12, .int .u64 top), (13, .int .u64 next), (14, .int .i64 jj)], longM A C (A.length + 1) (m + 1) U Q⟩) (m + 1)
    ⟨_, rfl, m + 1, (m : Int), U0, List.replicate (m + 1) 0, by omega, rfl, by omega, hU0l, hU0R, by simp, R32_zeros, fun p _ => rfl, ?_, ?_, by simp [getE, us32, longM]⟩ ?_
  · rw [nval_drop hU0R, hU0v]
    refine Nat.div_lt_of_lt_mul ?_
    have e1 : 4294967296 ^ A.length * 2 ^ s ≤ 4294967296 ^ (m + 1) * (4294967296 ^ bl.length * 2147483648) := by
      rw [show A.length = (m + 1) + bl.length by omega, Nat.pow_add, Nat.mul_assoc]
      refine Nat.mul_le_mul_left _ (Nat.mul_le_mul_left _ ?_)
      have : 2 ^ s ≤ 2 ^ 31 := Nat.pow_le_pow_right (by omega) (by omega)
      omega
    have e2 : 4294967296 ^ (m + 1) * (4294967296 ^ bl.length * 2147483648) ≤ 4294967296 ^ (m + 1) * (b * 2 ^ s) := Nat.mul_le_mul_left _ hVlo
    omega
  · have : (List.replicate (m + 1) (0 : Int)).drop (m + 1) = [] := List.drop_eq_nil_of_le (by simp)
    rw [this]
    simp [nval]
  rintro N s0 ⟨j, jj, U, Q, hj, rfl, hjj, hUl, hUR, hQl, hQR, hUk, hUv, hinv, rfl⟩
  cases N with
  | zero =>
    have hn : ¬ 0 ≤ jj := by omega
    rw [List.drop_zero] at hUv
    rw [List.drop_zero, List.drop_zero, List.drop_zero, hU0v] at hinv
    have q1 : nval Q = a / b := by
      rw [← hq, hinv, Nat.mul_comm, Nat.mul_add_div hVn0, Nat.div_eq_of_lt hUv, Nat.add_zero]
    have q2 : nval U = (a % b) * 2 ^ s := by
      rw [← hr, hinv, Nat.mul_comm, Nat.mul_add_mod, Nat.mod_eq_of_lt hUv]
    have h114q := c175_ok (E := E) (l := Q) (by omega)
    rw [trimL_limG hQR, q1] at h114q
    have h114u := c175_ok (E := E) (l := U) (by omega)
    rw [trimL_limG hUR, q2] at h114u
    have hlen : (limG (a % b * 2 ^ s)).length ≤ 1000000 := by
      have h1 : a % b * 2 ^ s < b * 2 ^ s := (Nat.mul_lt_mul_right hps).2 (Nat.mod_lt _ (by omega))
      have h2 := limG_len (Nat.lt_trans h1 hVhi)
      omega
    have h152 := c197_ok (E := E) (n := a % b * 2 ^ s) hs32 hlen
    rw [Nat.mul_div_cancel _ hps] at h152
    have hQl2 : m + 1 = Q.length := hQl.symm
    have hUl2 : A.length + 1 = U.length := hUl.symm
    simp only [natC] at h152
    simp only [b180_0, k180_2, us32, longM, go_sem, hn, hQl2, hUl2]
    refine goF h114q ?_
    simp only [us32, go_sem]
    refine goF h114u ?_
    simp only [us32, go_sem]
    refine goP h152 ?_
    simp only [us32, go_sem, FL]
    simp only [i180, OT, reduceIte, Nat.reduceEqDiff, sub, FL, List.length_cons, List.length_nil, Nat.le_refl, us32]
  | succ k =>
    obtain rfl : jj = (k : Int) := by omega
    have hk0 : (0 : Int) ≤ (k : Int) := by omega
    have hk1 : IntKind.i64.wrap ((k : Int) - 1) = (k : Int) - 1 := wrap_i64 (by omega) (by omega)
    have hkn : k + V.length < U.length := by omega
    -- the window
    have hrB : b * 2 ^ s < 4294967296 ^ V.length := by rw [hVl]; exact hVhi
    have hz1 := short_nval (R32_drop hUR (k + 1)) (Nat.lt_trans hUv hrB)
    have hzU : ∀ p, k + V.length < p → U.getD p 0 = 0 := fun p hp => by
      have := hz1 (p - (k + 1)) (by omega)
      rwa [getD_dropD, show k + 1 + (p - (k + 1)) = p by omega] at this
    obtain ⟨low, hlow, hW⟩ := nval_heads (R32_drop hUR k) hV2 (fun p hp => by rw [getD_dropD]; exact hzU _ (by omega)) (by rw [List.length_drop]; omega)
    rw [getD_dropD, getD_dropD, getD_dropD, show k + (V.length - 1) = k + V.length - 1 by omega, show k + (V.length - 2) = k + V.length - 2 by omega] at hW
    have h0r := R32_get hUR (k + V.length)
    have h1r := R32_get hUR (k + V.length - 1)
    have h2r := R32_get hUR (k + V.length - 2)
    have hs0 := sub_nums (k := .u32) (l := U) (i := k + V.length) (by omega)
    have hs1' := sub_nums (k := .u32) (l := U) (i := k + V.length - 1) (by omega)
    have hs2' := sub_nums (k := .u32) (l := U) (i := k + V.length - 2) (by omega)
    obtain ⟨u0, hu0⟩ := Int.eq_ofNat_of_zero_le h0r.1
    obtain ⟨u1, hu1⟩ := Int.eq_ofNat_of_zero_le h1r.1
    obtain ⟨u2, hu2⟩ := Int.eq_ofNat_of_zero_le h2r.1
    rw [hu0] at hs0 h0r hW
    rw [hu1] at hs1' h1r hW
    rw [hu2] at hs2' h2r hW
    simp only [Int.toNat_natCast] at hW
    have hu0l : u0 < 4294967296 := by omega
    have hu1l : u1 < 4294967296 := by omega
    have hu2l : u2 < 4294967296 := by omega
    have hUkk := hUk k (by omega)
    have hkr := R32_get hUR k
    have hWr : nval (U.drop k) = (U.getD k 0).toNat + 4294967296 * nval (U.drop (k + 1)) := by
      rw [getD_drop (by omega), nval]
    have hWr0 : nval (U0.drop k) = (U.getD k 0).toNat + 4294967296 * nval (U0.drop (k + 1)) := by
      rw [getD_drop (by omega), nval, hUkk]
    have hstep := long_step (u0 := (U.getD k 0).toNat) (B := 4294967296) hinv
    rw [← hWr0, ← hWr] at hstep
    have hWlt : nval (U.drop k) < 4294967296 * (b * 2 ^ s) := by omega
    generalize hw : nval (U.drop k) = w at *
    obtain ⟨head, hhd⟩ : ∃ head, head = u0 * 4294967296 + u1 := ⟨_, rfl⟩
    have H : Heads (b * 2 ^ s) w top next head u2 (4294967296 ^ (V.length - 2)) vl low :=
      ⟨by rw [← hVV, eV], hvl, by rw [hhd]; exact hW, hlow, hWlt, htop1, hnl, hu2l⟩
    have hfirst := H.first
    have x1 : IntKind.i64.wrap ((k : Int) + (V.length : Int)) = ((k + V.length : Nat) : Int) := by rw [wrap_i64 (by omega) (by omega)]; omega
    have x2 : IntKind.i64.wrap (((k + V.length : Nat) : Int) - 1) = ((k + V.length - 1 : Nat) : Int) := by rw [wrap_i64 (by omega) (by omega)]; omega
    have x3 : IntKind.i64.wrap (((k + V.length : Nat) : Int) - 2) = ((k + V.length - 2 : Nat) : Int) := by rw [wrap_i64 (by omega) (by omega)]; omega
    have x4 : (0 : Int) ≤ ((k + V.length : Nat) : Int) := by omega
    have x5 : (0 : Int) ≤ ((k + V.length - 1 : Nat) : Int) := by omega
    have x6 : (0 : Int) ≤ ((k + V.length - 2 : Nat) : Int) := by omega
    have x7 : ((k + V.length : Nat) : Int) < ((A.length + 1 : Nat) : Int) := by omega
    have x8 : ((k + V.length - 1 : Nat) : Int) < ((A.length + 1 : Nat) : Int) := by omega
    have x9 : ((k + V.length - 2 : Nat) : Int) < ((A.length + 1 : Nat) : Int) := by omega
    have y0 : IntKind.u64.wrap (u0 : Int) = (u0 : Int) := wrap_u64 (by omega) (by omega)
    have y1 : IntKind.u64.wrap (u1 : Int) = (u1 : Int) := wrap_u64 (by omega) (by omega)
    have y2 : IntKind.u64.wrap (u2 : Int) = (u2 : Int) := wrap_u64 (by omega) (by omega)
    have y3 := shl32 hu0l
    have y4 : arith .or .u64 ((u0 : Int) * 4294967296) (u1 : Int) = some (.int .u64 (head : Int)) := by rw [hhd]; exact or_shl' hu1l hu0l
    have hhead : head < 18446744073709551616 := by omega
    have hdm := Nat.div_add_mod head top
    have hml := Nat.mod_lt head htop1
    rw [Nat.mul_comm] at hdm
    have ht0 : ¬ (top : Int) = 0 := by omega
    clear hhd hW
    have y5 : Int.tdiv (head : Int) (top : Int) = ((head / top : Nat) : Int) := by
      rw [Int.tdiv_eq_ediv_of_nonneg (by omega), ← Int.natCast_ediv]
    have y6 : Int.tmod (head : Int) (top : Int) = ((head % top : Nat) : Int) := by
      rw [Int.tmod_eq_emod_of_nonneg (by omega), ← Int.natCast_emod]
    have y7 : head / top ≤ head := Nat.div_le_self _ _
    generalize head / top = gg at *
    generalize head % top = rr at *
    have y8 : IntKind.u64.wrap (gg : Int) = (gg : Int) := wrap_u64 (by omega) (by omega)
    simp only [b180_0, us32, longM, go_sem, hk0, x1, x2, x4, x5, x7, x8, hs0, hs1', y0, y1, y3, y4, y5, y6, y8, ht0, Int.toNat_natCast]
    refine mCut1 (R := fun x st => ∃ (g : Nat) (env : Env), x = .exit 2 ∧ w / (b * 2 ^ s) ≤ g ∧ g < 4294967296 ∧ g * (b * 2 ^ s) < w + b * 2 ^ s ∧
      getE env 4 = .loc 3 0 0 ∧ getE env 5 = .loc 5 0 0 ∧ getE env 6 = .int .i64 s ∧ getE env 7 = us32 V ∧ getE env 8 = .arr 6 0 ∧ getE env 9 = .int .i64 V.length ∧ getE env 11 = .arr 7 0 ∧ getE env 12 = .int .u64 top ∧ getE env 13 = .int .u64 next ∧ getE env 14 = .int .i64 k ∧ getE env 16 = .int .u64 g ∧
      st = ⟨env, longM A C (A.length + 1) (m + 1) U Q⟩) ?_ ?_
    · refine mLoop (fun N st => ∃ (g rest : Nat), N = g ∧ g * top + rest = head ∧ w / (b * 2 ^ s) ≤ g ∧ rest < 4294967296 ∧ g < 18446744073709551616 ∧
        st = ⟨[(4, .loc 3 0 0), (5, .loc 5 0 0), (6, .int .i64 s), (7, us32 V), (8, .arr 6 0), (9, .int .i64 V.length), (11, .arr 7 0), (12, .int .u64 top), (13, .int .u64 next), (14, .int .i64 k), (16, .int .u64 g), (17, .int .u64 rest)], longM A C (A.length + 1) (m + 1) U Q⟩) gg
        ⟨_, rfl, gg, rr, rfl, hdm, hfirst, by omega, by omega, by simp [getE, us32, longM]⟩ ?_
      rintro N s0 ⟨g, rest, rfl, h1, h2, h3, h4, rfl⟩
      have step : w < N * (b * 2 ^ s) → 1 ≤ N ∧ w / (b * 2 ^ s) ≤ N - 1 ∧ (N - 1) * top + (rest + top) = head := fun h => by
        obtain ⟨f1, f2⟩ := H.less h
        refine ⟨f2, f1, ?_⟩
        rw [Nat.sub_mul, Nat.one_mul]
        have : 1 * top ≤ N * top := Nat.mul_le_mul_right _ f2
        omega
      have z1 : IntKind.u64.wrap ((rest : Int) + (top : Int)) = ((rest + top : Nat) : Int) := by rw [wrap_u64 (by omega) (by omega)]; omega
      by_cases hbig : 4294967296 ≤ N
      · have hbig' : (4294967296 : Int) ≤ (N : Int) := by omega
        obtain ⟨f1, f2, f3⟩ := step (H.big hbig)
        have z2 : IntKind.u64.wrap ((N : Int) - 1) = ((N - 1 : Nat) : Int) := by rw [wrap_u64 (by omega) (by omega)]; omega
        by_cases hbrk : 4294967296 ≤ rest + top
        · have hbrk' : (4294967296 : Int) ≤ ((rest + top : Nat) : Int) := by omega
          obtain ⟨f4, f5⟩ := H.brk f3 hbrk
          simp only [b180_1, us32, longM, go_sem, hbig', z1, z2, hbrk']
          exact ⟨N - 1, _, f2, f4, f5, rfl, rfl, rfl, rfl, rfl, rfl, rfl, rfl, rfl, rfl, rfl, rfl⟩
        · have hbrk' : ¬ (4294967296 : Int) ≤ ((rest + top : Nat) : Int) := by omega
          simp only [b180_1, us32, longM, go_sem, hbig', z1, z2, hbrk']
          exact loopQ_go rfl (N - 1) (by omega) ⟨N - 1, rest + top, rfl, f3, f2, by omega, by omega, rfl⟩
      · have hbig' : ¬ (4294967296 : Int) ≤ (N : Int) := by omega
        have hgn : N * next ≤ 4294967295 * 4294967295 := Nat.mul_le_mul (by omega) (by omega)
        have z3 : IntKind.u64.wrap ((N : Int) * (next : Int)) = ((N * next : Nat) : Int) := by
          rw [← Int.natCast_mul]
          exact wrap_u64 (by omega) (by omega)
        have z4 := shl32 h3
        have z5 := or_shl' hu2l h3
        by_cases hcmp : rest * 4294967296 + u2 < N * next
        · have hcmp' : ((rest * 4294967296 + u2 : Nat) : Int) < ((N * next : Nat) : Int) := by omega
          obtain ⟨f1, f2, f3⟩ := step (H.dec h1 hcmp)
          have z2 : IntKind.u64.wrap ((N : Int) - 1) = ((N - 1 : Nat) : Int) := by rw [wrap_u64 (by omega) (by omega)]; omega
          by_cases hbrk : 4294967296 ≤ rest + top
          · have hbrk' : (4294967296 : Int) ≤ ((rest + top : Nat) : Int) := by omega
            obtain ⟨f4, f5⟩ := H.brk f3 hbrk
            simp only [b180_1, us32, longM, go_sem, hbig', z1, z2, z3, z4, z5, x1, x3, x6, x9, hs2', y2, hcmp', hbrk', Int.toNat_natCast]
            exact ⟨N - 1, _, f2, f4, f5, rfl, rfl, rfl, rfl, rfl, rfl, rfl, rfl, rfl, rfl, rfl, rfl⟩
          · have hbrk' : ¬ (4294967296 : Int) ≤ ((rest + top : Nat) : Int) := by omega
            simp only [b180_1, us32, longM, go_sem, hbig', z1, z2, z3, z4, z5, x1, x3, x6, x9, hs2', y2, hcmp', hbrk', Int.toNat_natCast]
            exact loopQ_go rfl (N - 1) (by omega) ⟨N - 1, rest + top, rfl, f3, f2, by omega, by omega, rfl⟩
        · have hcmp' : ¬ ((rest * 4294967296 + u2 : Nat) : Int) < ((N * next : Nat) : Int) := by omega
          have f5 := H.ok h1 (by omega) (by omega)
          simp only [b180_1, us32, longM, go_sem, hbig', z3, z4, z5, x1, x3, x6, x9, hs2', y2, hcmp', Int.toNat_natCast]
          exact ⟨N, _, h2, by omega, f5, rfl, rfl, rfl, rfl, rfl, rfl, rfl, rfl, rfl, rfl, rfl, rfl⟩
    · rintro x st ⟨g, env, rfl, hg1, hg2, hg3, e4, e5, e6, e7, e8, e9, e11, e12, e13, e14, e16, rfl⟩
      simp only [us32] at e7
      have hnear := H.near hg1 hg3
      obtain ⟨U', bb, hU'l, hU'R, hbb, hU'k, hU'v, h150⟩ := c195_ok (E := E) (A := A) (C := C) (U := U) (Q := Q) (V := V) (nu := A.length + 1) (nq := m + 1) (j := k) (g := g) hUR hRV hg2 (by omega) (by omega)
      rw [eV, hw] at hU'v
      have hPV : b * 2 ^ s ≤ 4294967296 ^ (V.length + 1) := by
        rw [Nat.pow_succ]
        omega
      have hU's := nval_short (k := V.length + 1) (R32_drop hU'R k) (fun p hp => by rw [getD_dropD, hU'k _ (by omega)]; exact hzU _ (by omega))
      obtain ⟨t0, t1⟩ := take_off hVn0 hbb hU's hPV hnear hU'v
      have v1 : IntKind.i64.wrap (((k + V.length : Nat) : Int) + 1) = ((k + V.length + 1 : Nat) : Int) := by rw [wrap_i64 (by omega) (by omega)]; omega
      have v2 : (0 : Int) ≤ ((k + V.length + 1 : Nat) : Int) := by omega
      have v3 : ((k + V.length + 1 : Nat) : Int) ≤ ((A.length + 1 : Nat) : Int) := by omega
      have v4 : (k : Int) ≤ ((k + V.length + 1 : Nat) : Int) := by omega
      have v5 : k + V.length + 1 - k = V.length + 1 := by omega
      have v6 : (k : Int) < ((m + 1 : Nat) : Int) := by omega
      have v7 : k * 1 + 1 ≤ Q.length := by omega
      have hqd : w / (b * 2 ^ s) < 4294967296 := Nat.lt_of_le_of_lt hg1 hg2
      have hqI : 0 ≤ ((w / (b * 2 ^ s) : Nat) : Int) ∧ ((w / (b * 2 ^ s) : Nat) : Int) < 4294967296 := by
        revert hqd
        generalize w / (b * 2 ^ s) = qd
        intro hqd
        omega
      have fin : ∀ U'' : List Int, U''.length = U.length → R32 U'' → (∀ p, p < k ∨ k + V.length < p → U''.getD p 0 = U.getD p 0) → nval (U''.drop k) = w % (b * 2 ^ s) →
          ∃ (j : Nat) (jj : Int) (U1 Q1 : List Int), j ≤ m + 1 ∧ k = j ∧ jj = (j : Int) - 1 ∧ U1.length = A.length + 1 ∧ R32 U1 ∧ Q1.length = m + 1 ∧ R32 Q1 ∧ (∀ p, p < j → U1.getD p 0 = U0.getD p 0) ∧
            nval (U1.drop j) < b * 2 ^ s ∧ nval (U0.drop j) = nval (Q1.drop j) * (b * 2 ^ s) + nval (U1.drop j) ∧ U1 = U'' ∧ Q1 = put Q k ((w / (b * 2 ^ s) : Nat) : Int) ∧ jj = (k : Int) - 1 := fun U'' g1 g2 g3 g4 => by
        refine ⟨k, (k : Int) - 1, U'', _, by omega, rfl, rfl, by omega, g2, by rw [put_len (by omega), hQl], put_R32 hQR hqI, fun p hp => ?_, ?_, ?_, rfl, rfl, rfl⟩
        · rw [g3 p (by omega)]
          exact hUk p (by omega)
        · rw [g4]
          exact Nat.mod_lt _ hVn0
        · rw [put_drop0 (by omega), nval, Int.toNat_natCast, g4]
          exact hstep
      generalize hqq : w / (b * 2 ^ s) = qd at *
      have wq : IntKind.u32.wrap (qd : Int) = (qd : Int) := by rw [wrap_u32]; omega
      rcases Nat.eq_zero_or_pos bb with rfl | hb1
      · obtain ⟨rfl, t2⟩ := t0 rfl
        obtain ⟨j1, jj1, U1, Q1, r1, r2, r3, r4, r5, r6, r7, r8, r9, r10, rfl, rfl, r11⟩ := fin U' hU'l hU'R hU'k t2
        simp only [longM] at h150
        simp only [k180_0, k180_1, us32, longM, go_sem, e4, e5, e6, e7, e8, e9, e11, e12, e13, e14, e16, hk0, x1, v1, v2, v3, v4, v5, Int.toNat_natCast]
        refine goM h150 ?_
        simp only [us32, longM, go_sem, e4, e5, e6, e7, e8, e9, e11, e12, e13, e14, e16, hk0, hk1, v6, v7, wq, show ((0 : Int) == 1) = false from rfl, Int.toNat_natCast]
        exact loopQ_go rfl k (by omega) ⟨j1, jj1, U1, _, r1, r2, r3, r4, r5, r6, r7, r8, r9, r10, by rw [r11]; rfl⟩
      · obtain rfl : bb = 1 := by omega
        obtain ⟨rfl, t2⟩ := t1 rfl
        obtain ⟨U2, kk, hU2l, hU2R, hkk, hU2k, hU2v, h151⟩ := c196_ok (E := E) (A := A) (C := C) (U := U') (Q := Q) (V := V) (nu := A.length + 1) (nq := m + 1) (j := k) hU'R hRV (by omega) (by omega)
        rw [eV] at hU2v
        have hU2k' : ∀ p, p < k ∨ k + V.length < p → U2.getD p 0 = U.getD p 0 := fun p hp => by rw [hU2k p hp, hU'k p hp]
        have hU2s := nval_short (k := V.length + 1) (R32_drop hU2R k) (fun p hp => by rw [getD_dropD, hU2k' _ (by omega)]; exact hzU _ (by omega))
        have t3 := put_back hVn0 hkk hU2s t2 hU2v
        obtain ⟨j1, jj1, U1, Q1, r1, r2, r3, r4, r5, r6, r7, r8, r9, r10, rfl, rfl, r11⟩ := fin U2 (by omega) hU2R hU2k' t3
        have z2 : IntKind.u64.wrap (((qd + 1 : Nat) : Int) - 1) = (qd : Int) := by rw [wrap_u64 (by omega) (by omega)]; omega
        simp only [longM] at h150 h151
        simp only [k180_0, k180_1, us32, longM, go_sem, e4, e5, e6, e7, e8, e9, e11, e12, e13, e14, e16, hk0, x1, v1, v2, v3, v4, v5, Int.toNat_natCast]
        refine goM h150 ?_
        simp only [us32, longM, go_sem, e4, e5, e6, e7, e8, e9, e11, e12, e13, e14, e16, hk0, x1, v1, v2, v3, v4, v5, z2, show (((1 : Nat) : Int) == 1) = true from rfl, show ((1 : Int) == 1) = true from rfl, Int.toNat_natCast]
        refine goM h151 ?_
        simp only [us32, longM, go_sem, e4, e5, e6, e7, e8, e9, e11, e12, e13, e14, e16, hk0, hk1, v6, v7, wq, Int.toNat_natCast]
        exact loopQ_go rfl k (by omega) ⟨j1, jj1, U1, _, r1, r2, r3, r4, r5, r6, r7, r8, r9, r10, by rw [r11]; rfl⟩
end
end Go.Proofs.YtlejgleocnemoaaGreat.I

namespace Go.Proofs.YtlejgleocnemoaaGreat.I
open Go Go.V
attribute [local go_sem_proc ↓] reduceIte
attribute [local go_sem_proc] Nat.reduceEqDiff Nat.reduceAdd Nat.reduceMul Nat.reduceLeDiff Nat.reduceLT Int.reduceToNat Int.reduceLT Int.reduceLE reduceCtorEq Nat.reduceBEq
attribute [local go_sem] mNil nat0 beq_self_eq_true mSkip mRet mExit mReg mSeq mCond mTrue mFalse mBlock mLv mCodeE mCodeR mEndN mEndR mEndE mOps mSome mGuard mGtt mGff mGtf mGft mGu mCallP mCallR mCallF mCallO mCallZ mCallG mCallM mCallV loopQ_exit loopQ_ret mO_mov mO_newnil mO_pick mO_alloc mO_box mO_build mO_bsl mO_bslF mO_newnilB mO_bslB mO_lenB mO_appB mO_allocA mO_bslA mO_appA mO_ldb mO_faddrb mRsv mO_ldf mO_ld mO_st mO_sta mO_nilchk mO_bin mO_binb mO_binp mO_bins mO_neg mO_com mO_not mO_conv mO_mk mO_mk0 mO_mkB mO_s2b mO_b2s mO_cpy mO_cut mO_faddr mO_fld mO_iaddr mO_iaddrf mO_sidx mO_len mO_lenf mO_slen mO_scut mO_app mO_ext mO_mx mO_mn mO_mkfn evalOp cutOp argsE ev getE putE cellsOf adopt rowOf binV boolV nilV ar_add ar_sub ar_mul ar_quo ar_rem ar_eq ar_ne ar_lt ar_le ar_gt ar_ge ar_and ar_or ar_xor geto bound finRet finNrm ints List.length_cons List.length_nil List.length_append List.getElem?_cons_zero List.getElem?_cons_succ List.nil_append List.cons_append List.map_cons List.map_nil List.mapM_cons List.mapM_nil Option.map_some Option.map_none Option.bind_some Option.pure_def Option.bind_eq_bind List.drop_zero or_self or_false false_or or_true true_or true_and and_true and_self decide_true decide_false Bool.false_eq_true Bool.true_eq_false Bool.not_true Bool.not_false Nat.le_refl eq_self gt_iff_lt ge_iff_le ne_eq not_true_eq_false not_false_eq_true storeOp apartOf freeze_nil refsL refs List.flatMap_cons List.flatMap_nil List.append_nil List.contains_nil List.set_cons_zero List.set_cons_succ snap snapL fill_nums flat_nums nums_length Go.V.freeze List.mapIdx_cons List.mapIdx_nil List.contains_cons Bool.or_false Bool.false_or Bool.or_true Bool.true_or
section
variable {E : CallRel}
theorem c178_nat {n : Nat} (h : n < 18446744073709551616) : Go.V.Call tab E 178 [natC n] [] (.tup [.int .u64 n, .bool true]) [] := by
  have := c178_ok (E := E) h
  rw [lim_limG h] at this
  exact this
theorem c149_nat {n : Nat} (h : n < 18446744073709551616) : Go.V.Call tab E 149 [.int .u64 n] [] (natC n) [] := by
  have := c149_ok (E := E) h
  rw [lim_limG h] at this
  exact this
theorem limG_one {d : Nat} (h : d ≠ 0) (h2 : d < 4294967296) : limG d = [(d : Int)] := by
  rw [limG_pos h, Nat.mod_eq_of_lt h2, Nat.div_eq_of_lt h2, limG_zero]
theorem limG_len0 {n : Nat} (h : (limG n).length = 0) : n = 0 := by
  by_cases h0 : n = 0
  · exact h0
  · rw [limG_pos h0] at h; simp at h
theorem limG_len1 {n : Nat} (h : (limG n).length = 1) : n ≠ 0 ∧ n < 4294967296 := by
  refine ⟨?_, ?_⟩
  · rintro rfl; rw [limG_zero] at h; simp at h
  · have := limG_lt n
    rw [h] at this
    omega
theorem c157_ok {a b : Nat} (ha : (limG a).length ≤ 1000000) (hb : (limG b).length ≤ 1000000) (hb0 : b ≠ 0) : Go.V.Call tab E 157 [natC a, natC b] [] (.tup [natC (a / b), natC (a % b), .bool true]) [] := by
  refine Go.V.Call.mach i157 c157 rfl rfl rfl rfl ?_
  have h142 := c179_ok (E := E) ha hb
  have q0 : (((limG b).length : Int) == 0) = false := by
    rw [beq_eq_false_iff_ne]
    intro h
    exact hb0 (limG_len0 (by omega))
  simp only [natC] at h142
  simp only [c157, natC, us32, go_sem, List.all_cons, List.all_nil, Nat.reduceBNe, Bool.and_true, subB1, subT1, FL, q0]
  refine goP h142 ?_
  by_cases hlt : a < b
  · have h1 : cmpZ a b = -1 := by rw [cmpZ, if_pos hlt]
    simp only [us32, go_sem, List.all_cons, List.all_nil, Nat.reduceBNe, Bool.and_true, subB1, subT1, FL, h1]
    simp only [i157, OT, reduceIte, Nat.reduceEqDiff, sub, FL, List.length_cons, List.length_nil, Nat.le_refl, us32, Nat.div_eq_of_lt hlt, Nat.mod_eq_of_lt hlt, limG_zero]
    rfl
  · have h1 : ¬ cmpZ a b < 0 := by
      rw [cmpZ, if_neg hlt]
      split <;> omega
    by_cases hl1 : (limG b).length = 1
    · obtain ⟨h2, h3⟩ := limG_len1 hl1
      have q1 : (((limG b).length : Int) == 1) = true := by rw [beq_iff_eq]; omega
      have e1 := limG_one h2 h3
      have hsd : sub false 1 (nums .u32 (limG b)) (0 * 1) = some (.int .u32 (b : Int)) := by rw [e1]; rfl
      have hsd' : sub false 1 (nums .u32 (limG b)) 0 = some (.int .u32 (b : Int)) := by rw [e1]; rfl
      have g1 : (0 : Int) < ((limG b).length : Int) := by omega
      have h125 := c169_ok (E := E) (l := limG a) (d := b) R32_limG (by omega) (by omega)
      rw [nval_limG] at h125
      have hrl : a % b < 4294967296 := by
        have := Nat.mod_lt a (show 0 < b by omega)
        omega
      have h90 := c149_nat (E := E) (n := a % b) (by omega)
      have w1 : IntKind.u64.wrap ((a % b : Nat) : Int) = ((a % b : Nat) : Int) := wrap_u64 (by omega) (by omega)
      simp only [natC] at h90
      simp only [us32, go_sem, List.all_cons, List.all_nil, Nat.reduceBNe, Bool.and_true, subB1, subT1, FL, h1, q1, hsd, hsd', g1]
      refine goP h125 ?_
      simp only [us32, go_sem, List.all_cons, List.all_nil, Nat.reduceBNe, Bool.and_true, subB1, subT1, FL, w1]
      refine goP h90 ?_
      simp only [us32, go_sem, List.all_cons, List.all_nil, Nat.reduceBNe, Bool.and_true, subB1, subT1, FL]
      simp only [i157, OT, reduceIte, Nat.reduceEqDiff, sub, FL, List.length_cons, List.length_nil, Nat.le_refl, us32]
    · have q1 : (((limG b).length : Int) == 1) = false := by rw [beq_eq_false_iff_ne]; omega
      have h145 := c180_ok (E := E) (a := a) (b := b) (by
        have : (limG b).length ≠ 0 := fun h => hb0 (limG_len0 h)
        omega) (by omega) ha
      simp only [natC] at h145
      simp only [us32, go_sem, List.all_cons, List.all_nil, Nat.reduceBNe, Bool.and_true, subB1, subT1, FL, h1, q1]
      refine goP h145 ?_
      simp only [us32, go_sem, List.all_cons, List.all_nil, Nat.reduceBNe, Bool.and_true, subB1, subT1, FL]
      simp only [i157, OT, reduceIte, Nat.reduceEqDiff, sub, FL, List.length_cons, List.length_nil, Nat.le_refl, us32]
theorem c155_ok {a b : Nat} (ha : (limG a).length ≤ 1000000) (hb : (limG b).length ≤ 1000000) : Go.V.Call tab E 155 [natC a, natC b] [] (natC (Nat.gcd a b)) [] := by
  refine Go.V.Call.mach i155 c155 rfl rfl rfl rfl ?_
  simp only [c155, natC, us32, go_sem, List.all_cons, List.all_nil, Nat.reduceBNe, Bool.and_true, subB1, subT1, FL]
  refine mLoop (fun N st => ∃ (x y : Nat), N = y ∧ Nat.gcd x y = Nat.gcd a b ∧ (limG x).length ≤ 1000000 ∧ (limG y).length ≤ 1000000 ∧
    st = ⟨[(2, .loc 0 0 0), (3, .loc 1 0 0), (4, .loc 3 0 0)], [⟨true, 94, 1, 0, 1, [us32 (limG x)], false⟩, ⟨true, 94, 1, 0, 1, [us32 (limG y)], false⟩, ⟨false, 191, 1, 0, 0, [], false⟩, ⟨true, 94, 1, 0, 1, [.arr 2 0], false⟩]⟩) b
    ⟨_, rfl, a, b, rfl, rfl, ha, hb, by simp [getE, us32]⟩ ?_
  rintro N s0 ⟨x, y, rfl, hg, hx, hy, rfl⟩
  have h124 := c154_ok (E := E) (l := limG N)
  simp only [us32] at h124
  by_cases hN : N = 0
  · subst hN
    rw [Nat.gcd_zero_right] at hg
    subst hg
    have q0 : (((limG 0).length : Int) == 0) = true := by rw [limG_zero]; rfl
    rw [q0] at h124
    simp only [b155_0, k155_2, us32, go_sem, List.all_cons, List.all_nil, Nat.reduceBNe, Bool.and_true, subB1, subT1, FL]
    refine goR h124 rfl ?_
    simp only [us32, go_sem, List.all_cons, List.all_nil, Nat.reduceBNe, Bool.and_true, subB1, subT1, FL]
    simp only [i155, OT, reduceIte, Nat.reduceEqDiff, sub, FL, List.length_cons, List.length_nil, Nat.le_refl, us32]
  · have q0 : (((limG N).length : Int) == 0) = false := by
      rw [beq_eq_false_iff_ne]
      intro h
      exact hN (limG_len0 (by omega))
    rw [q0] at h124
    have h137 := c157_ok (E := E) hx hy hN
    have hml := Nat.mod_lt x (Nat.pos_of_ne_zero hN)
    have hrl : (limG (x % N)).length ≤ 1000000 := by
      have := limG_mono (Nat.le_of_lt hml)
      omega
    have hg2 : Nat.gcd N (x % N) = Nat.gcd a b := by rw [← hg, Nat.gcd_comm N, ← Nat.gcd_rec, Nat.gcd_comm]
    simp only [natC, us32] at h137
    by_cases hx64 : x < 18446744073709551616
    · have h131x := c178_nat (E := E) hx64
      simp only [natC, us32] at h131x
      by_cases hy64 : N < 18446744073709551616
      · have h131y := c178_nat (E := E) hy64
        simp only [natC, us32] at h131y
        simp only [b155_0, k155_0, k155_1, us32, go_sem, List.all_cons, List.all_nil, Nat.reduceBNe, Bool.and_true, subB1, subT1, FL]
        refine goR h124 rfl ?_
        simp only [us32, go_sem, List.all_cons, List.all_nil, Nat.reduceBNe, Bool.and_true, subB1, subT1, FL]
        refine goR h131x rfl ?_
        simp only [us32, go_sem, List.all_cons, List.all_nil, Nat.reduceBNe, Bool.and_true, subB1, subT1, FL]
        refine goR h131y rfl ?_
        simp only [us32, go_sem, List.all_cons, List.all_nil, Nat.reduceBNe, Bool.and_true, subB1, subT1, FL]
        refine mLoop (fun N' st => ∃ (p q : Nat), N' = q ∧ Nat.gcd p q = Nat.gcd a b ∧ p < 18446744073709551616 ∧ q < 18446744073709551616 ∧
          st = ⟨[(4, .loc 3 0 0), (5, .int .u64 p), (7, .int .u64 q)], [⟨true, 94, 1, 0, 1, [us32 (limG x)], false⟩, ⟨true, 94, 1, 0, 1, [us32 (limG N)], false⟩, ⟨false, 191, 1, 0, 0, [], false⟩, ⟨true, 94, 1, 0, 1, [.arr 2 0], false⟩]⟩) N
          ⟨_, rfl, x, N, rfl, hg, hx64, hy64, by simp [getE, us32]⟩ ?_
        rintro N' s0 ⟨p, q, rfl, hpq, hp, hq, rfl⟩
        by_cases hq0 : N' = 0
        · subst hq0
          rw [Nat.gcd_zero_right] at hpq
          have h90 := c149_nat (E := E) hp
          rw [hpq] at h90 hp
          simp only [natC, us32] at h90
          simp only [b155_1, us32, go_sem, List.all_cons, List.all_nil, Nat.reduceBNe, Bool.and_true, subB1, subT1, FL, hpq, show ((0 : Int) != 0) = false from rfl]
          refine goP h90 ?_
          simp only [us32, go_sem, List.all_cons, List.all_nil, Nat.reduceBNe, Bool.and_true, subB1, subT1, FL]
          simp only [i155, OT, reduceIte, Nat.reduceEqDiff, sub, FL, List.length_cons, List.length_nil, Nat.le_refl, us32]
        · have q1 : ((N' : Int) != 0) = true := by rw [bne_iff_ne]; omega
          have q2 : ¬ (N' : Int) = 0 := by omega
          have q3 : Int.tmod (p : Int) (N' : Int) = ((p % N' : Nat) : Int) := by
            rw [Int.tmod_eq_emod_of_nonneg (by omega), ← Int.natCast_emod]
          have hml2 := Nat.mod_lt p (Nat.pos_of_ne_zero hq0)
          have hpq2 : Nat.gcd N' (p % N') = Nat.gcd a b := by rw [← hpq, Nat.gcd_comm N', ← Nat.gcd_rec, Nat.gcd_comm]
          generalize p % N' = r at *
          simp only [b155_1, us32, go_sem, List.all_cons, List.all_nil, Nat.reduceBNe, Bool.and_true, subB1, subT1, FL, q1, q2, q3]
          exact loopQ_go rfl r (by omega) ⟨N', r, rfl, hpq2, hq, by omega, rfl⟩
      · have h131y := c178_big (E := E) (n := N) (by omega)
        simp only [natC, us32] at h131y
        generalize x % N = r at *
        simp only [b155_0, k155_0, k155_1, us32, go_sem, List.all_cons, List.all_nil, Nat.reduceBNe, Bool.and_true, subB1, subT1, FL]
        refine goR h124 rfl ?_
        simp only [us32, go_sem, List.all_cons, List.all_nil, Nat.reduceBNe, Bool.and_true, subB1, subT1, FL]
        refine goR h131x rfl ?_
        simp only [us32, go_sem, List.all_cons, List.all_nil, Nat.reduceBNe, Bool.and_true, subB1, subT1, FL]
        refine goR h131y rfl ?_
        simp only [us32, go_sem, List.all_cons, List.all_nil, Nat.reduceBNe, Bool.and_true, subB1, subT1, FL]
        refine goF h137 ?_
        simp only [us32, go_sem, List.all_cons, List.all_nil, Nat.reduceBNe, Bool.and_true, subB1, subT1, FL]
        exact loopQ_go rfl r (by omega) ⟨N, r, rfl, hg2, hy, hrl, rfl⟩
    · have h131x := c178_big (E := E) (n := x) (by omega)
      simp only [natC, us32] at h131x
      have h131y : ∃ n2 t2, Go.V.Call tab E 178 [.agg [us32 (limG N)]] [] (.tup [.int .u64 n2, .bool t2]) [] := by
        by_cases hy64 : N < 18446744073709551616
        · exact ⟨_, _, c178_nat hy64⟩
        · exact ⟨_, _, c178_big (by omega)⟩
      obtain ⟨n2, t2, h131y⟩ := h131y
      simp only [us32] at h131y
      generalize x % N = r at *
      simp only [b155_0, k155_0, k155_1, us32, go_sem, List.all_cons, List.all_nil, Nat.reduceBNe, Bool.and_true, subB1, subT1, FL]
      refine goR h124 rfl ?_
      simp only [us32, go_sem, List.all_cons, List.all_nil, Nat.reduceBNe, Bool.and_true, subB1, subT1, FL]
      refine goR h131x rfl ?_
      simp only [us32, go_sem, List.all_cons, List.all_nil, Nat.reduceBNe, Bool.and_true, subB1, subT1, FL]
      refine goR h131y rfl ?_
      simp only [us32, go_sem, List.all_cons, List.all_nil, Nat.reduceBNe, Bool.and_true, subB1, subT1, FL]
      refine goF h137 ?_
      simp only [us32, go_sem, List.all_cons, List.all_nil, Nat.reduceBNe, Bool.and_true, subB1, subT1, FL]
      exact loopQ_go rfl r (by omega) ⟨N, r, rfl, hg2, hy, hrl, rfl⟩
end
section
variable {E : CallRel}
theorem c146_one {x : Int} : Go.V.Call tab E 146 [.str (bs [x])] [] (.str (bs [x])) [] := by
  refine Go.V.Call.mach i146 c146 rfl rfl rfl rfl ?_
  have h1 : ¬ (1 : Int) < (((bs [x]).size : Nat) : Int) := by rw [bs_size]; simp
  simp only [c146, go_sem]
  refine mLoop (fun N st => N = 0 ∧ st = ⟨[(0, .str (bs [x]))], []⟩) 0 ⟨_, rfl, rfl, rfl⟩ ?_
  rintro N s0 ⟨rfl, rfl⟩
  simp only [b146_0, k146_0, go_sem, h1]
  simp only [i146, OT, reduceIte, Nat.reduceEqDiff]
theorem c146_ok {x : Int} {l : List Int} (hx : 49 ≤ x ∧ x ≤ 57) : Go.V.Call tab E 146 [.str (bs (x :: l))] [] (.str (bs (x :: l))) [] := by
  cases l with
  | nil => exact c146_one
  | cons y l =>
    refine Go.V.Call.mach i146 c146 rfl rfl rfl rfl ?_
    have h1 : (1 : Int) < (((bs (x :: y :: l)).size : Nat) : Int) := by rw [bs_size]; simp; omega
    have h2 : (((UInt8.ofNat x.toNat).toNat : Nat) : Int) = x := by simp; omega
    have h3 : (x == 48) = false := by rw [beq_eq_false_iff_ne]; omega
    have h4 : (bs (x :: y :: l))[0]? = some (UInt8.ofNat x.toNat) := rfl
    simp only [c146, go_sem]
    refine mLoop (fun N st => N = 0 ∧ st = ⟨[(0, .str (bs (x :: y :: l)))], []⟩) 0 ⟨_, rfl, rfl, rfl⟩ ?_
    rintro N s0 ⟨rfl, rfl⟩
    simp only [b146_0, k146_0, go_sem, h1, h4, h2, h3]
    simp only [i146, OT, reduceIte, Nat.reduceEqDiff]
theorem c188_ok {l : List Int} {d : Int} (hl : (l.length : Int) ≤ 1000000000) (hr : ∀ x ∈ l, 0 ≤ x ∧ x ≤ 9) (hd : 1 ≤ d ∧ d ≤ 9) : Go.V.Call tab E 188 [ints (l ++ [d])] [] (.str (bs (asc (l ++ [d])).reverse)) [] := by
  refine Go.V.Call.mach i188 c188 rfl rfl rfl rfl ?_
  have hrr : ∀ x ∈ l ++ [d], 0 ≤ x ∧ x ≤ 9 := fun x hx => by
    rcases List.mem_append.1 hx with hx | hx
    · exact hr x hx
    · simp at hx; omega
  have hL : (l ++ [d]).length = l.length + 1 := by simp
  have htrim : Go.V.Call tab E 146 [.str (bs (asc (l ++ [d])).reverse)] [] (.str (bs (asc (l ++ [d])).reverse)) [] := by
    have : (asc (l ++ [d])).reverse = (48 + d) :: (asc l).reverse := by simp [asc]
    rw [this]
    exact c146_ok (by omega)
  generalize hLL : l ++ [d] = L at *
  have w1 : IntKind.i64.wrap ((L.length : Int) + 1) = ((L.length + 1 : Nat) : Int) := by rw [wrap_i64 (by omega) (by omega)]; omega
  have w2 : IntKind.i64.wrap ((L.length : Int) - 1) = (L.length : Int) - 1 := wrap_i64 (by omega) (by omega)
  have b1 : (0 : Int) ≤ ((L.length + 1 : Nat) : Int) := by omega
  have b2 : 1 * (L.length + 1) ≤ 140737488355328 := by omega
  have b3 : ((L.length + 1 : Nat) : Int) ≤ 140737488355328 := by omega
  simp only [c188, go_sem, w1, w2, b1, b2, b3, Int.toNat_natCast]
  refine mLoop (fun N st => ∃ (j : Nat) (jj : Int), j ≤ L.length ∧ N = j ∧ jj = (j : Int) - 1 ∧
    st = ⟨[(0, ints L), (3, .arr 0 (L.length - j)), (4, .int .i64 jj)], [⟨false, 5, 1, L.length - j, L.length - j, nums .u8 (asc (L.drop j)).reverse, false⟩]⟩) L.length
    ⟨_, rfl, L.length, _, by omega, rfl, rfl, by rw [List.drop_length, Nat.sub_self]; rfl⟩ ?_
  rintro N s0 ⟨j, jj, hj, rfl, hjj, rfl⟩
  cases N with
  | zero =>
    have hn : ¬ 0 ≤ jj := by omega
    have hz : ((L.length : Int) == 0) = false := by rw [beq_eq_false_iff_ne]; omega
    simp only [b188_0, k188_0, go_sem, hn, Nat.sub_zero, List.drop_zero, hz, bytesOf_nums]
    refine goP htrim ?_
    simp only [go_sem]
    simp only [i188, OT, reduceIte, Nat.reduceEqDiff]
  | succ k =>
    obtain rfl : jj = (k : Int) := by omega
    have hlt : k < L.length := by omega
    have hlt' : (k : Int) < (L.length : Int) := by omega
    have hk0 : (0 : Int) ≤ (k : Int) := by omega
    have hk1 : IntKind.i64.wrap ((k : Int) - 1) = (k : Int) - 1 := wrap_i64 (by omega) (by omega)
    have hsub := sub_nums (k := .i64) hlt
    have hx := hrr (L.getD k 0) (by simp [List.getD, hlt])
    have hdr := getD_drop hlt
    generalize L.getD k 0 = x at *
    have t3 : IntKind.i64.wrap (48 + x) = 48 + x := wrap_i64 (by omega) (by omega)
    have t4 : IntKind.u8.wrap (48 + x) = 48 + x := by
      simp only [IntKind.wrap, IntKind.bits, IntKind.signed]
      simp
      omega
    have e0 : L.length - k = L.length - (k + 1) + 1 := by omega
    have e3 : (L.length - (k + 1) + 1) * 1 ≤ 140737488355328 := by omega
    have e4 : L.length - (k + 1) + 1 ≤ 140737488355328 := by omega
    have hasc : nums .u8 (asc (L.drop k)).reverse = nums .u8 (asc (L.drop (k + 1))).reverse ++ [.int .u8 (48 + x)] := by rw [hdr]; simp [nums, asc]
    simp only [b188_0, go_sem, hk0, hlt', Int.toNat_natCast, hsub, t3, t4, e3, e4, hk1, List.flatten_cons, List.flatten_nil, Option.getD_some]
    refine loopQ_go rfl k (by omega) ⟨k, _, by omega, rfl, rfl, ?_⟩
    rw [hasc, e0]
    rfl
theorem c170_ok {n : Nat} (hn : n < 18446744073709551616) : Go.V.Call tab E 170 [.int .u64 n] [] (.str (dec n)) [] := by
  refine Go.V.Call.mach i170 c170 rfl rfl rfl rfl ?_
  by_cases h0 : n = 0
  · subst h0
    simp only [c170, go_sem, show ((((0 : Nat) : Int)) == 0) = true from rfl]
    simp only [i170, OT, reduceIte, Nat.reduceEqDiff, dec]
  · have h0' : ((n : Int) == 0) = false := by rw [beq_eq_false_iff_ne]; omega
    simp only [c170, go_sem, h0']
    refine mLoop (fun N st => ∃ (i m : Nat) (o : List Int), i ≤ 20 ∧ N = 20 - i ∧ o.length = i ∧ m < 10 ^ (20 - i) ∧ m < 18446744073709551616 ∧ dgs n = o ++ dgs m ∧
      st = ⟨[(0, .int .u64 m), (3, .arr 0 i), (4, .int .i64 i)], [⟨false, 3, 1, i, i, nums .i64 o, false⟩]⟩) 20 ⟨_, rfl, 0, n, [], by omega, by omega, rfl, by omega, by omega, by simp, by simp [getE, nums]⟩ ?_
    rintro N s0 ⟨i, m, o, hi, rfl, hol, hm, hm64, hd, rfl⟩
    by_cases hm0 : m = 0
    · subst hm0
      rw [dgs_zero, List.append_nil] at hd
      obtain ⟨l, d, e1, e2, e3⟩ := dgs_last h0
      have hr := dgs_range (n := n)
      rw [hd] at e1 hr
      have hw := c188_ok (E := E) (l := l) (d := d) (by
        have : o.length = l.length + 1 := by rw [e1]; simp
        omega) (fun x hx => hr x (by rw [e1]; simp [hx])) ⟨e2, e3⟩
      rw [← e1, ints, hol] at hw
      have hdec : dec n = bs (asc o).reverse := by rw [dec, if_neg h0, hd]
      rw [← hdec] at hw
      have z : ¬ (0 : Int) < ((0 : Nat) : Int) := by omega
      by_cases hi20 : i < 20
      · have hi' : (i : Int) < 20 := by omega
        simp only [b170_0, k170_0, go_sem, hi', z]
        refine goR hw rfl ?_
        simp only [go_sem]
        simp only [i170, OT, reduceIte, Nat.reduceEqDiff]
      · have hi' : ¬ (i : Int) < 20 := by omega
        simp only [b170_0, k170_0, go_sem, hi', z]
        refine goR hw rfl ?_
        simp only [go_sem]
        simp only [i170, OT, reduceIte, Nat.reduceEqDiff]
    · have hi20 : i < 20 := by
        rcases Nat.lt_or_ge i 20 with h | h
        · exact h
        · have : i = 20 := by omega
          subst this
          simp at hm
          omega
      have hi' : (i : Int) < 20 := by omega
      have hp : 10 ^ (20 - i) = 10 * 10 ^ (20 - (i + 1)) := by rw [show 20 - i = (20 - (i + 1)) + 1 by omega, Nat.pow_succ, Nat.mul_comm]
      rw [hp] at hm
      have z : (0 : Int) < (m : Int) := by omega
      have t0 : ¬ (10 : Int) = 0 := by omega
      have t1 : Int.tmod (m : Int) 10 = ((m % 10 : Nat) : Int) := by rw [Int.tmod_eq_emod_of_nonneg (by omega)]; omega
      have t2 : IntKind.u64.wrap (Int.tdiv (m : Int) 10) = ((m / 10 : Nat) : Int) := by rw [Int.tdiv_eq_ediv_of_nonneg (by omega), wrap_u64 (by omega) (by omega)]; omega
      have t3 : IntKind.i64.wrap ((m % 10 : Nat) : Int) = ((m % 10 : Nat) : Int) := wrap_i64 (by omega) (by omega)
      have hi1 : IntKind.i64.wrap ((i : Int) + 1) = ((i + 1 : Nat) : Int) := by rw [wrap_i64 (by omega) (by omega)]; omega
      have e3 : (i + 1) * 8 ≤ 140737488355328 := by omega
      have e4 : i + 1 ≤ 140737488355328 := by omega
      simp only [b170_0, go_sem, hi', z, t0, t1, t2, t3, hi1, e3, e4, List.flatten_cons, List.flatten_nil, Option.getD_some]
      refine loopQ_go rfl (20 - (i + 1)) (by omega) ⟨i + 1, m / 10, o ++ [((m % 10 : Nat) : Int)], by omega, rfl, by simp [hol], by omega, by omega, ?_, ?_⟩
      · rw [hd, dgs_pos hm0]; simp
      · rw [nums_app]; rfl
theorem c139_ok {z : Int} (hz : In64 z) : Go.V.Call tab E 139 [.int .i64 z] [] (.agg [.bool (decide (z < 0)), .str (dec z.natAbs)]) [] := by
  obtain ⟨hz1, hz2⟩ := hz
  refine Go.V.Call.mach i139 c139 rfl rfl rfl rfl ?_
  by_cases h0 : z < 0
  · have e1 : IntKind.i64.wrap (z + 1) = z + 1 := wrap_i64 (by omega) (by omega)
    have e2 : IntKind.i64.wrap (0 - (z + 1)) = -(z + 1) := by rw [wrap_i64 (by omega) (by omega)]; omega
    have e3 : IntKind.u64.wrap (-(z + 1)) = -(z + 1) := wrap_u64 (by omega) (by omega)
    have e4 : IntKind.u64.wrap (-(z + 1) + 1) = (z.natAbs : Int) := by rw [wrap_u64 (by omega) (by omega)]; omega
    simp only [c139, go_sem, h0, e1, e2, e3, e4]
    refine goP (c170_ok (by omega)) ?_
    simp only [go_sem, FL]
    simp only [i139, OT, reduceIte, Nat.reduceEqDiff, sub, FL, List.length_cons, List.length_nil, Nat.le_refl]
  · have e1 : IntKind.u64.wrap z = (z.natAbs : Int) := by rw [wrap_u64 (by omega) (by omega)]; omega
    simp only [c139, go_sem, h0, e1]
    refine goP (c170_ok (by omega)) ?_
    simp only [go_sem, FL]
    simp only [i139, OT, reduceIte, Nat.reduceEqDiff, sub, FL, List.length_cons, List.length_nil, Nat.le_refl]
def numC (z : Int) : List AV := [.bool (decide (z < 0)), .str (dec z.natAbs), .str ⟨#[49]⟩]
theorem c88_ok {z : Int} (hz : In64 z) : Go.V.Call tab E 88 [.int .i64 z] [] (.agg (numC z)) [] := by
  refine Go.V.Call.mach i88 c88 rfl rfl rfl rfl ?_
  simp only [c88, go_sem]
  refine goP (c139_ok hz) ?_
  simp only [go_sem, sub, FL]
  simp only [i88, OT, reduceIte, Nat.reduceEqDiff, sub, FL, List.length_cons, List.length_nil, Nat.le_refl, numC]
end
end Go.Proofs.YtlejgleocnemoaaGreat.I

namespace Go.Proofs.YtlejgleocnemoaaGreat.I
open Go Go.V
attribute [local go_sem] mNil nat0 beq_self_eq_true mSkip mRet mExit mReg mSeq mCond mTrue mFalse mBlock mLv mCodeE mCodeR mEndN mEndR mEndE mOps mSome mGuard mGtt mGff mGtf mGft mGu mCallP mCallR mCallF mCallO mCallZ mCallG mCallM mCallV loopQ_exit loopQ_ret mO_mov mO_newnil mO_pick mO_alloc mO_box mO_build mO_bsl mO_bslF mO_newnilB mO_bslB mO_lenB mO_appB mO_allocA mO_bslA mO_appA mO_ldb mO_faddrb mRsv mO_ldf mO_ld mO_st mO_sta mO_nilchk mO_bin mO_binb mO_binp mO_bins mO_neg mO_com mO_not mO_conv mO_mk mO_mk0 mO_mkB mO_s2b mO_b2s mO_cpy mO_cut mO_faddr mO_fld mO_iaddr mO_iaddrf mO_sidx mO_len mO_lenf mO_slen mO_scut mO_app mO_ext mO_mx mO_mn mO_mkfn evalOp cutOp argsE ev getE putE cellsOf adopt rowOf binV boolV nilV ar_add ar_sub ar_mul ar_quo ar_rem ar_eq ar_ne ar_lt ar_le ar_gt ar_ge ar_and ar_or ar_xor geto bound finRet finNrm ints List.length_cons List.length_nil List.length_append List.getElem?_cons_zero List.getElem?_cons_succ List.nil_append List.cons_append List.map_cons List.map_nil List.mapM_cons List.mapM_nil Option.map_some Option.map_none Option.bind_some Option.pure_def Option.bind_eq_bind List.drop_zero or_self or_false false_or or_true true_or true_and and_true and_self decide_true decide_false Bool.false_eq_true Bool.true_eq_false Bool.not_true Bool.not_false Nat.le_refl eq_self gt_iff_lt ge_iff_le ne_eq not_true_eq_false not_false_eq_true storeOp apartOf freeze_nil refsL refs List.flatMap_cons List.flatMap_nil List.append_nil List.contains_nil List.set_cons_zero List.set_cons_succ snap snapL fill_nums flat_nums nums_length Go.V.freeze List.mapIdx_cons List.mapIdx_nil List.contains_cons Bool.or_false Bool.false_or Bool.or_true Bool.true_or
def U8 (l : List Int) : Prop := ∀ x ∈ l, 0 ≤ x ∧ x < 256
def Dig (l : List Int) : Prop := ∀ x ∈ l, 48 ≤ x ∧ x ≤ 57
def u8l (l : List Int) : List UInt8 := l.map fun n => UInt8.ofNat n.toNat
theorem Dig.u8 {l : List Int} (h : Dig l) : U8 l := fun x hx => by have := h x hx; omega
theorem U8_cons {x : Int} {l : List Int} : U8 (x :: l) ↔ (0 ≤ x ∧ x < 256) ∧ U8 l := by simp [U8]
theorem Dig_cons {x : Int} {l : List Int} : Dig (x :: l) ↔ (48 ≤ x ∧ x ≤ 57) ∧ Dig l := by simp [Dig]
theorem Dig_app {a b : List Int} : Dig (a ++ b) ↔ Dig a ∧ Dig b := by
  simp only [Dig, List.mem_append]
  exact ⟨fun h => ⟨fun x hx => h x (.inl hx), fun x hx => h x (.inr hx)⟩, fun h x hx => hx.elim (h.1 x) (h.2 x)⟩
theorem bs_toList {l : List Int} : (bs l).toList = u8l l := by rw [Go.Lib.toList_data]; simp [bs, u8l]
theorem u8n {x : Int} (h : 0 ≤ x ∧ x < 256) : (((UInt8.ofNat x.toNat).toNat : Nat) : Int) = x := by simp; omega
theorem u8_inj {x y : Int} (hx : 0 ≤ x ∧ x < 256) (hy : 0 ≤ y ∧ y < 256) (h : UInt8.ofNat x.toNat = UInt8.ofNat y.toNat) : x = y := by
  rw [← u8n hx, ← u8n hy, h]
theorem u8l_inj : ∀ {a b : List Int}, U8 a → U8 b → u8l a = u8l b → a = b
  | [], [], _, _, _ => rfl
  | [], _ :: _, _, _, h => by simp [u8l] at h
  | _ :: _, [], _, _, h => by simp [u8l] at h
  | x :: a, y :: b, ha, hb, h => by
    rw [U8_cons] at ha hb
    simp only [u8l, List.map_cons, List.cons.injEq] at h
    rw [u8_inj ha.1 hb.1 h.1, u8l_inj ha.2 hb.2 h.2]
theorem bs_all (s : ByteArray) : ∃ l, U8 l ∧ s = bs l := by
  refine ⟨s.data.toList.map fun b => (b.toNat : Int), ?_, ?_⟩
  · intro x hx
    obtain ⟨b, _, rfl⟩ := List.mem_map.1 hx
    have := UInt8.toNat_lt b
    omega
  · obtain ⟨d⟩ := s
    simp only [bs, List.map_map]
    congr 1
    rw [← Array.toList_inj]
    simp [Function.comp_def]
theorem str_eq {a b : List Int} (ha : U8 a) (hb : U8 b) : ((bs a).toList == (bs b).toList) = decide (a = b) := by
  rw [bs_toList, bs_toList]
  by_cases h : a = b
  · subst h; simp
  · rw [decide_eq_false h, beq_eq_false_iff_ne]
    exact fun e => h (u8l_inj ha hb e)
theorem bs_append {a b : List Int} : bs a ++ bs b = bs (a ++ b) := by
  apply ByteArray.ext
  rw [← Array.toList_inj, ByteArray.toList_data_append]
  simp [bs]
theorem bs_extract {l : List Int} {i j : Nat} : (bs l).extract i j = bs ((l.take j).drop i) := by
  apply ByteArray.ext
  rw [← Array.toList_inj]
  simp [bs, ByteArray.data_extract, List.map_drop, List.map_take]
  rw [List.drop_take]
theorem bytesAV_bs {l : List Int} (h : U8 l) : bytesAV (bs l) = nums .u8 l := by
  simp only [bytesAV, bs, nums, List.map_map]
  refine List.map_congr_left fun x hx => ?_
  simp only [Function.comp]
  rw [u8n (h x hx)]
theorem bs_getK {l : List Int} {k : Nat} (h : k < l.length) : (bs l)[k]? = some (UInt8.ofNat (l.getD k 0).toNat) := by
  have hk : k < (bs l).size := by rw [bs_size]; exact h
  rw [getElem?_pos (bs l) k hk]
  congr 1
  simp [bs, ByteArray.getElem_eq_getElem_data, List.getD, h]
def sval (l : List Int) : Nat := l.foldl (fun a x => 10 * a + (x - 48).toNat) 0
theorem sval_snoc {l : List Int} {x : Int} : sval (l ++ [x]) = 10 * sval l + (x - 48).toNat := by simp [sval]
theorem sval_nil : sval [] = 0 := rfl
theorem foldl_sval : ∀ {l : List Int} {a : Nat}, l.foldl (fun a x => 10 * a + (x - 48).toNat) a = a * 10 ^ l.length + sval l
  | [], a => by simp [sval]
  | x :: l, a => by
    have h1 := foldl_sval (l := l) (a := 10 * a + (x - 48).toNat)
    have h2 := foldl_sval (l := l) (a := 10 * 0 + (x - 48).toNat)
    simp only [sval, List.foldl_cons, List.length_cons] at h1 h2 ⊢
    rw [h1, h2, Nat.pow_succ, Nat.add_mul, Nat.mul_comm 10 a, Nat.mul_assoc a, Nat.mul_comm 10]
    simp only [Nat.mul_zero, Nat.zero_add, Nat.add_assoc, Nat.zero_mul]
theorem sval_cons {l : List Int} {x : Int} : sval (x :: l) = (x - 48).toNat * 10 ^ l.length + sval l := by
  have := foldl_sval (l := l) (a := 10 * 0 + (x - 48).toNat)
  simp only [Nat.mul_zero, Nat.zero_add] at this
  rw [← this]
  simp [sval]
theorem sval_append {a b : List Int} : sval (a ++ b) = sval a * 10 ^ b.length + sval b := by
  rw [← foldl_sval, sval, sval, List.foldl_append]
theorem sval_lt : ∀ {l : List Int}, Dig l → sval l < 10 ^ l.length
  | [], _ => by simp [sval]
  | x :: l, h => by
    rw [Dig_cons] at h
    have := sval_lt h.2
    rw [sval_cons, List.length_cons, Nat.pow_succ]
    have h2 : (x - 48).toNat ≤ 9 := by omega
    have h3 := Nat.mul_le_mul_right (10 ^ l.length) h2
    omega
def decL (n : Nat) : List Int := if n = 0 then [48] else (asc (dgs n)).reverse
theorem dec_eq {n : Nat} : dec n = bs (decL n) := by
  unfold dec decL
  split <;> rfl
theorem decL_digit {d : Nat} (h : d < 10) : decL d = [48 + (d : Int)] := by
  unfold decL
  split
  · rename_i h0; subst h0; rfl
  · rename_i h0
    rw [dgs_pos h0, show d / 10 = 0 by omega, dgs_zero, show d % 10 = d by omega]
    rfl
theorem decL_ten {v d : Nat} (hv : v ≠ 0) (hd : d < 10) : decL (10 * v + d) = decL v ++ [48 + (d : Int)] := by
  unfold decL
  rw [if_neg (by omega), if_neg hv, dgs_pos (by omega), show (10 * v + d) / 10 = v by omega, show (10 * v + d) % 10 = d by omega]
  simp [asc]
theorem decL_dig (n : Nat) : Dig (decL n) := by
  unfold decL
  split
  · intro x hx; simp at hx; omega
  · intro x hx
    simp only [asc, List.mem_reverse, List.mem_map] at hx
    obtain ⟨d, hd, rfl⟩ := hx
    have := dgs_range d hd
    omega
theorem decL_ne (n : Nat) : decL n ≠ [] := by
  unfold decL
  split
  · simp
  · rename_i h
    rw [dgs_pos h]
    simp [asc]
theorem sval_decL : ∀ (n : Nat), sval (decL n) = n := by
  intro n
  induction n using Nat.strongRecOn with
  | _ n ih =>
    by_cases h : n < 10
    · rw [decL_digit h, sval_cons]; simp [sval]; omega
    · have e : n = 10 * (n / 10) + n % 10 := by omega
      rw [e, decL_ten (by omega) (by omega), sval_snoc, ih _ (by omega)]
      omega
def Canon (l : List Int) : Prop := l ≠ [] ∧ (2 ≤ l.length → l.getD 0 0 ≠ 48)
theorem decL_of : ∀ {n : Nat} {l : List Int}, l.length = n → Dig l → Canon l → l = decL (sval l) := by
  intro n
  induction n with
  | zero => intro l h1 _ h3; exact absurd (List.length_eq_zero_iff.1 h1) h3.1
  | succ n ih =>
    intro l h1 h2 h3
    rcases List.eq_nil_or_concat l with rfl | ⟨l', x, rfl⟩
    · exact absurd rfl h3.1
    · rw [List.concat_eq_append] at *
      rw [Dig_app] at h2
      have hx := h2.2 x (by simp)
      rw [sval_snoc]
      by_cases h0 : l' = []
      · subst h0
        rw [sval_nil, decL_digit (by omega)]
        simp
        omega
      · have hl : l'.length = n := by simpa using h1
        have hc : Canon l' := by
          refine ⟨h0, fun h => ?_⟩
          have := h3.2 (by simp; omega)
          rw [List.getD_eq_getElem?_getD, List.getElem?_append_left (by omega)] at this
          rwa [List.getD_eq_getElem?_getD]
        have e := ih hl h2.1 hc
        have hne : sval l' ≠ 0 := by
          intro hz
          rw [hz, decL_digit (by omega)] at e
          have := h3.2 (by rw [e]; simp)
          rw [e] at this
          exact this rfl
        rw [decL_ten hne (by omega), ← e]
        congr 2
        omega
def trimS : List Int → List Int
  | x :: y :: l => if x = 48 then trimS (y :: l) else x :: y :: l
  | l => l
theorem trimS_dec : ∀ {l : List Int}, Dig l → l ≠ [] → trimS l = decL (sval l)
  | [], _, h => absurd rfl h
  | [x], h, _ => by
    rw [trimS]
    · exact decL_of rfl h ⟨by simp, fun h => by simp at h⟩
    · intro a b c h; simp at h
  | x :: y :: l, h, _ => by
    rw [trimS]
    by_cases hx : x = 48
    · rw [if_pos hx, trimS_dec (Dig_cons.1 h).2 (by simp), sval_cons (x := x), hx]
      simp
    · rw [if_neg hx]
      exact decL_of rfl h ⟨by simp, fun _ => by simpa using hx⟩
theorem decL_len {n : Nat} (h : n ≠ 0) : 10 ^ ((decL n).length - 1) ≤ n := by
  induction n using Nat.strongRecOn with
  | _ n ih =>
    by_cases hn : n < 10
    · rw [decL_digit hn]; simp; omega
    · have e : n = 10 * (n / 10) + n % 10 := by omega
      have := ih (n / 10) (by omega) (by omega)
      have hne : 1 ≤ (decL (n / 10)).length := by
        have := decL_ne (n / 10)
        rcases h : decL (n / 10) with _ | ⟨a, b⟩
        · exact absurd h this
        · simp
      rw [e, decL_ten (by omega) (by omega), List.length_append, List.length_singleton, Nat.add_sub_cancel]
      have e2 : 10 ^ (decL (n / 10)).length = 10 ^ ((decL (n / 10)).length - 1) * 10 := by rw [← Nat.pow_succ]; congr 1; omega
      rw [e2]
      omega
theorem decL_short {a b : Nat} (h : (decL a).length < (decL b).length) : a < b := by
  have h1 := sval_lt (decL_dig a)
  rw [sval_decL] at h1
  have hb : b ≠ 0 := by
    rintro rfl
    have := decL_ne a
    have h2 : (decL 0).length = 1 := rfl
    rw [h2] at h
    exact this (List.length_eq_zero_iff.1 (by omega))
  have h2 := decL_len hb
  have h3 : 10 ^ (decL a).length ≤ 10 ^ ((decL b).length - 1) := Nat.pow_le_pow_right (by omega) (by omega)
  omega
theorem bytesLess_dig : ∀ {a b : List Int}, Dig a → Dig b → a.length = b.length → (Op.bytesLess (u8l a) (u8l b) = decide (sval a < sval b))
  | [], [], _, _, _ => by simp [u8l, Op.bytesLess, sval]
  | [], _ :: _, _, _, h => by simp at h
  | _ :: _, [], _, _, h => by simp at h
  | x :: a, y :: b, ha, hb, h => by
    rw [Dig_cons] at ha hb
    have hl : a.length = b.length := by simpa using h
    have ih := bytesLess_dig ha.2 hb.2 hl
    have l1 := sval_lt ha.2
    have l2 := sval_lt hb.2
    rw [hl] at l1
    simp only [u8l, List.map_cons] at ih ⊢
    rw [sval_cons, sval_cons, hl]
    have ux := u8n (x := x) (by omega)
    have uy := u8n (x := y) (by omega)
    have hlt : UInt8.ofNat x.toNat < UInt8.ofNat y.toNat ↔ x < y := by rw [UInt8.lt_iff_toNat_lt]; omega
    have heq : UInt8.ofNat x.toNat = UInt8.ofNat y.toNat ↔ x = y := ⟨fun h => u8_inj (by omega) (by omega) h, fun h => by rw [h]⟩
    simp only [Op.bytesLess, ih]
    rcases Int.lt_trichotomy x y with h1 | h1 | h1
    · have e1 := Nat.mul_le_mul_right (10 ^ b.length) (show (x - 48).toNat + 1 ≤ (y - 48).toNat by omega)
      rw [Nat.add_mul, Nat.one_mul] at e1
      rw [decide_eq_true (hlt.2 h1), Bool.true_or, decide_eq_true (by omega)]
    · subst h1
      have e1 : ¬ UInt8.ofNat x.toNat < UInt8.ofNat x.toNat := fun h => by have := hlt.1 h; omega
      rw [decide_eq_false e1, Bool.false_or, beq_self_eq_true, Bool.true_and]
      congr 1
      exact propext ⟨fun h => by omega, fun h => by omega⟩
    · have e1 := Nat.mul_le_mul_right (10 ^ b.length) (show (y - 48).toNat + 1 ≤ (x - 48).toNat by omega)
      rw [Nat.add_mul, Nat.one_mul] at e1
      have e2 : ¬ UInt8.ofNat x.toNat < UInt8.ofNat y.toNat := fun h => by have := hlt.1 h; omega
      have e3 : (UInt8.ofNat x.toNat == UInt8.ofNat y.toNat) = false := by
        rw [beq_eq_false_iff_ne]
        intro h
        have := heq.1 h
        omega
      have e4 : ¬ ((x - 48).toNat * 10 ^ b.length + sval a < (y - 48).toNat * 10 ^ b.length + sval b) := by omega
      rw [decide_eq_false e2, e3, decide_eq_false e4]
      rfl
end Go.Proofs.YtlejgleocnemoaaGreat.I

namespace Go.Proofs.YtlejgleocnemoaaGreat.I
open Go Go.V
attribute [local go_sem_proc ↓] reduceIte
attribute [local go_sem_proc] Nat.reduceEqDiff Nat.reduceAdd Nat.reduceMul Nat.reduceLeDiff Nat.reduceLT Int.reduceToNat Int.reduceLT Int.reduceLE reduceCtorEq Nat.reduceBEq
attribute [local go_sem] mNil nat0 beq_self_eq_true mSkip mRet mExit mReg mSeq mCond mTrue mFalse mBlock mLv mCodeE mCodeR mEndN mEndR mEndE mOps mSome mGuard mGtt mGff mGtf mGft mGu mCallP mCallR mCallF mCallO mCallZ mCallG mCallM mCallV loopQ_exit loopQ_ret mO_mov mO_newnil mO_pick mO_alloc mO_box mO_build mO_bsl mO_bslF mO_newnilB mO_bslB mO_lenB mO_appB mO_allocA mO_bslA mO_appA mO_ldb mO_faddrb mRsv mO_ldf mO_ld mO_st mO_sta mO_nilchk mO_bin mO_binb mO_binp mO_bins mO_neg mO_com mO_not mO_conv mO_mk mO_mk0 mO_mkB mO_s2b mO_b2s mO_cpy mO_cut mO_faddr mO_fld mO_iaddr mO_iaddrf mO_sidx mO_len mO_lenf mO_slen mO_scut mO_app mO_ext mO_mx mO_mn mO_mkfn evalOp cutOp argsE ev getE putE cellsOf adopt rowOf binV boolV nilV ar_add ar_sub ar_mul ar_quo ar_rem ar_eq ar_ne ar_lt ar_le ar_gt ar_ge ar_and ar_or ar_xor geto bound finRet finNrm ints List.length_cons List.length_nil List.length_append List.getElem?_cons_zero List.getElem?_cons_succ List.nil_append List.cons_append List.map_cons List.map_nil List.mapM_cons List.mapM_nil Option.map_some Option.map_none Option.bind_some Option.pure_def Option.bind_eq_bind List.drop_zero or_self or_false false_or or_true true_or true_and and_true and_self decide_true decide_false Bool.false_eq_true Bool.true_eq_false Bool.not_true Bool.not_false Nat.le_refl eq_self gt_iff_lt ge_iff_le ne_eq not_true_eq_false not_false_eq_true storeOp apartOf freeze_nil refsL refs List.flatMap_cons List.flatMap_nil List.append_nil List.contains_nil List.set_cons_zero List.set_cons_succ snap snapL fill_nums flat_nums nums_length Go.V.freeze List.mapIdx_cons List.mapIdx_nil List.contains_cons Bool.or_false Bool.false_or Bool.or_true Bool.true_or
def RightS (l : List Int) : Prop := Dig l ∧ 1 ≤ l.length ∧ l.length ≤ 2000
theorem Dig_take {l : List Int} {i : Nat} (h : i < l.length) : Dig (l.take (i + 1)) ↔ Dig (l.take i) ∧ 48 ≤ l.getD i 0 ∧ l.getD i 0 ≤ 57 := by
  rw [take_snoc h, Dig_app]
  simp [Dig]
theorem dgs_get {n i : Nat} : (dgs n).getD i 0 = ((n / 10 ^ i % 10 : Nat) : Int) := by
  induction i generalizing n with
  | zero =>
    by_cases h : n = 0
    · subst h; rw [dgs_zero]; rfl
    · rw [dgs_pos h]; simp
  | succ i ih =>
    by_cases h : n = 0
    · subst h; rw [dgs_zero]; simp
    · rw [dgs_pos h, List.getD_cons_succ, ih, Nat.div_div_eq_div_mul, Nat.pow_succ, Nat.mul_comm]
theorem dgs_len {n : Nat} : n < 10 ^ (decL n).length := by
  have := sval_lt (decL_dig n)
  rwa [sval_decL] at this
theorem digit_dec {n i : Nat} : (i < (decL n).length → (decL n).getD ((decL n).length - 1 - i) 0 = 48 + (dgs n).getD i 0) ∧ ((decL n).length ≤ i → (dgs n).getD i 0 = 0) := by
  refine ⟨fun h => ?_, fun h => ?_⟩
  · unfold decL at h ⊢
    split at h
    · rename_i h0
      subst h0
      simp at h
      subst h
      simp [dgs_zero]
    · rename_i h0
      rw [if_neg h0]
      have hl : (asc (dgs n)).reverse.length = (dgs n).length := by simp [asc]
      rw [hl] at h ⊢
      rw [List.getD_eq_getElem?_getD, List.getElem?_reverse (by rw [asc_len]; omega), asc_len, show (dgs n).length - 1 - ((dgs n).length - 1 - i) = i by omega]
      simp [asc, List.getElem?_map, List.getD, h]
  · rw [dgs_get, Nat.div_eq_of_lt]
    · rfl
    · exact Nat.lt_of_lt_of_le dgs_len (Nat.pow_le_pow_right (by omega) h)
def dval : List Int → Nat
  | [] => 0
  | x :: l => x.toNat + 10 * dval l
theorem dval_snoc : ∀ {l : List Int} {x : Int}, dval (l ++ [x]) = dval l + 10 ^ l.length * x.toNat
  | [], x => by simp [dval]
  | y :: l, x => by
    rw [List.cons_append, dval, dval_snoc, dval, List.length_cons, Nat.pow_succ, Nat.mul_add, Nat.mul_comm (10 ^ l.length) 10, Nat.mul_assoc]
    omega
theorem dval_lt : ∀ {l : List Int}, (∀ x ∈ l, 0 ≤ x ∧ x ≤ 9) → dval l < 10 ^ l.length
  | [], _ => by simp [dval]
  | x :: l, h => by
    have h1 := h x (by simp)
    have h2 := dval_lt (l := l) fun y hy => h y (by simp [hy])
    rw [dval, List.length_cons, Nat.pow_succ]
    omega
theorem sval_asc : ∀ {l : List Int}, (∀ x ∈ l, 0 ≤ x ∧ x ≤ 9) → sval (asc l).reverse = dval l
  | [], _ => rfl
  | x :: l, h => by
    have h1 := h x (by simp)
    have e : (asc (x :: l)).reverse = (asc l).reverse ++ [48 + x] := by simp [asc]
    rw [e, sval_snoc, sval_asc fun y hy => h y (by simp [hy]), dval]
    omega
theorem Dig_asc {l : List Int} (h : ∀ x ∈ l, 0 ≤ x ∧ x ≤ 9) : Dig (asc l).reverse := fun x hx => by
  simp only [asc, List.mem_reverse, List.mem_map] at hx
  obtain ⟨d, hd, rfl⟩ := hx
  have := h d hd
  omega
section
variable {E : CallRel}
theorem c145_ok {l : List Int} {b : Bool} (hl : U8 l) (hll : l.length ≤ 1000000000) (hb : b = true ↔ RightS l) : Go.V.Call tab E 145 [.str (bs l)] [] (.bool b) [] := by
  refine Go.V.Call.mach i145 c145 rfl rfl rfl rfl ?_
  simp only [c145, go_sem]
  refine mLoop (fun N st => ∃ i : Nat, i ≤ l.length ∧ N = l.length - i ∧ Dig (l.take i) ∧ st = ⟨[(0, .str (bs l)), (3, .int .i64 i)], []⟩) l.length ⟨_, rfl, 0, by omega, by omega, fun x hx => by simp at hx, by simp [getE]⟩ ?_
  rintro N s0 ⟨i, hi, rfl, hd, rfl⟩
  by_cases hil : i < l.length
  · have hi' : (i : Int) < (l.length : Int) := by omega
    have hi0 : (0 : Int) ≤ (i : Int) := by omega
    have hi1 : IntKind.i64.wrap ((i : Int) + 1) = ((i + 1 : Nat) : Int) := by rw [wrap_i64 (by omega) (by omega)]; omega
    by_cases hi2 : i ≤ 2000
    · have hi3 : (i : Int) ≤ 2000 := by omega
      have hg := bs_getK hil
      have hx := u8n (x := l.getD i 0) (hl _ (by simp [List.getD, hil]))
      have ht := Dig_take hil
      generalize l.getD i 0 = x at *
      by_cases h1 : x < 48
      · have hbf : b = false := by
          rw [← Bool.not_eq_true, hb]
          intro h
          have := (ht.1 (fun y hy => h.1 y (List.mem_of_mem_take hy))).2
          omega
        subst hbf
        simp only [b145_0, go_sem, bs_size, hi', hi3, hi0, Int.toNat_natCast, hg, hx, h1]
        simp only [i145, OT, reduceIte, Nat.reduceEqDiff]
      · by_cases h2 : 57 < x
        · have hbf : b = false := by
            rw [← Bool.not_eq_true, hb]
            intro h
            have := (ht.1 (fun y hy => h.1 y (List.mem_of_mem_take hy))).2
            omega
          subst hbf
          simp only [b145_0, go_sem, bs_size, hi', hi3, hi0, Int.toNat_natCast, hg, hx, h1, h2]
          simp only [i145, OT, reduceIte, Nat.reduceEqDiff]
        · simp only [b145_0, go_sem, bs_size, hi', hi3, hi0, Int.toNat_natCast, hg, hx, h1, h2, hi1]
          exact loopQ_go rfl (l.length - (i + 1)) (by omega) ⟨i + 1, by omega, rfl, ht.2 ⟨hd, by omega, by omega⟩, rfl⟩
    · have hi3 : ¬ (i : Int) ≤ 2000 := by omega
      have hbf : b = false := by
        rw [← Bool.not_eq_true, hb]
        intro h
        have := h.2.2
        omega
      subst hbf
      have g1 : (1 : Int) ≤ (l.length : Int) := by omega
      have g2 : ¬ (l.length : Int) ≤ 2000 := by omega
      simp only [b145_0, k145_0, go_sem, bs_size, hi', hi3, g1, g2]
      simp only [i145, OT, reduceIte, Nat.reduceEqDiff]
  · have hi' : ¬ (i : Int) < (l.length : Int) := by omega
    obtain rfl : i = l.length := by omega
    rw [List.take_length] at hd
    by_cases g : 1 ≤ l.length
    · have g1 : (1 : Int) ≤ (l.length : Int) := by omega
      by_cases h : l.length ≤ 2000
      · have g2 : (l.length : Int) ≤ 2000 := by omega
        have hbt : b = true := hb.2 ⟨hd, g, h⟩
        subst hbt
        simp only [b145_0, k145_0, go_sem, bs_size, hi', g1, g2]
        simp only [i145, OT, reduceIte, Nat.reduceEqDiff]
      · have g2 : ¬ (l.length : Int) ≤ 2000 := by omega
        have hbf : b = false := by
          rw [← Bool.not_eq_true, hb]
          exact fun h' => h h'.2.2
        subst hbf
        simp only [b145_0, k145_0, go_sem, bs_size, hi', g1, g2]
        simp only [i145, OT, reduceIte, Nat.reduceEqDiff]
    · have g1 : ¬ (1 : Int) ≤ (l.length : Int) := by omega
      have hbf : b = false := by
        rw [← Bool.not_eq_true, hb]
        exact fun h' => g h'.2.1
      subst hbf
      simp only [b145_0, k145_0, go_sem, bs_size, hi', g1]
      simp only [i145, OT, reduceIte, Nat.reduceEqDiff]
theorem c146_S {l : List Int} (hl : U8 l) (hll : l.length ≤ 1000000000) : Go.V.Call tab E 146 [.str (bs l)] [] (.str (bs (trimS l))) [] := by
  refine Go.V.Call.mach i146 c146 rfl rfl rfl rfl ?_
  simp only [c146, go_sem]
  refine mLoop (fun N st => ∃ l' : List Int, N = l'.length ∧ U8 l' ∧ l'.length ≤ 1000000000 ∧ trimS l' = trimS l ∧ st = ⟨[(0, .str (bs l'))], []⟩) l.length ⟨_, rfl, l, rfl, hl, hll, rfl, by simp [getE]⟩ ?_
  rintro N s0 ⟨l', rfl, hU, hL, ht, rfl⟩
  have small : l'.length ≤ 1 → trimS l' = l' := fun h => by
    match l', h with
    | [], _ => rfl
    | [_], _ => rfl
  by_cases h1 : 1 < l'.length
  · have h1' : (1 : Int) < (l'.length : Int) := by omega
    match l', h1 with
    | x :: y :: t, _ =>
      have hx := u8n (x := x) (hU x (by simp))
      have hg : (bs (x :: y :: t))[0]? = some (UInt8.ofNat x.toNat) := rfl
      by_cases hx48 : x = 48
      · have h2 : (x == 48) = true := by rw [beq_iff_eq]; exact hx48
        have hex : (bs (x :: y :: t)).extract 1 ((x :: y :: t).length) = bs (y :: t) := by
          rw [bs_extract, List.take_length]; rfl
        have hex2 : (bs (x :: y :: t)).extract 1 (t.length + 1 + 1) = bs (y :: t) := hex
        have h3 : (1 : Int) ≤ ((t.length + 1 + 1 : Nat) : Int) := by omega
        have h4 : (1 : Int) < ((t.length + 1 + 1 : Nat) : Int) := by omega
        rw [trimS, if_pos hx48] at ht
        simp only [b146_0, go_sem, bs_size, h1', hg, hx, h2, hex, hex2, h3, h4]
        exact loopQ_go rfl (t.length + 1) (by simp) ⟨y :: t, rfl, (U8_cons.1 hU).2, by simp at hL ⊢; omega, ht, rfl⟩
      · have h2 : (x == 48) = false := by rw [beq_eq_false_iff_ne]; exact hx48
        have h4 : (1 : Int) < ((t.length + 1 + 1 : Nat) : Int) := by omega
        rw [trimS, if_neg hx48] at ht
        simp only [b146_0, k146_0, go_sem, bs_size, h1', hg, hx, h2, h4]
        simp only [i146, OT, reduceIte, Nat.reduceEqDiff, ht]
  · have h1' : ¬ (1 : Int) < (l'.length : Int) := by omega
    rw [small (by omega)] at ht
    subst ht
    simp only [b146_0, k146_0, go_sem, bs_size, h1']
    simp only [i146, OT, reduceIte, Nat.reduceEqDiff]
theorem c146_dig {l : List Int} (hl : Dig l) (h0 : l ≠ []) (hll : l.length ≤ 1000000000) : Go.V.Call tab E 146 [.str (bs l)] [] (.str (dec (sval l))) [] := by
  have := c146_S (E := E) hl.u8 hll
  rwa [trimS_dec hl h0, ← dec_eq] at this
theorem c185_ok {a b : Nat} : Go.V.Call tab E 185 [.str (dec a), .str (dec b)] [] (.int .i64 (cmpZ a b)) [] := by
  refine Go.V.Call.mach i185 c185 rfl rfl rfl rfl ?_
  rw [dec_eq, dec_eq]
  have hda := decL_dig a
  have hdb := decL_dig b
  have ha := sval_decL a
  have hb := sval_decL b
  have hne0 : a = b → decL a = decL b := fun h => by rw [h]
  have s1 := decL_short (a := a) (b := b)
  have s2 := decL_short (a := b) (b := a)
  generalize decL a = A at *
  generalize decL b = C at *
  by_cases hl : A.length = C.length
  · have hl1 : ((A.length : Int) != (C.length : Int)) = false := by rw [bne_eq_false_iff_eq]; omega
    have he : strOp .eq (bs A) (bs C) = some (.bool (decide (A = C))) := by simp only [strOp, str_eq hda.u8 hdb.u8]
    have hlt : strOp .lt (bs A) (bs C) = some (.bool (decide (a < b))) := by simp only [strOp, bs_toList, bytesLess_dig hda hdb hl, ha, hb]
    by_cases hAC : A = C
    · have : a = b := by rw [← ha, ← hb, hAC]
      rw [decide_eq_true hAC] at he
      simp only [c185, go_sem, bs_size, hl1, he]
      simp only [i185, OT, reduceIte, Nat.reduceEqDiff, cmpZ, this, Nat.lt_irrefl]
    · have hne : ¬ a = b := fun h => hAC (hne0 h)
      rw [decide_eq_false hAC] at he
      by_cases hab : a < b
      · simp only [c185, go_sem, bs_size, hl1, he, hlt, hab]
        simp only [i185, OT, reduceIte, Nat.reduceEqDiff, cmpZ, hab]
      · simp only [c185, go_sem, bs_size, hl1, he, hlt, hab]
        simp only [i185, OT, reduceIte, Nat.reduceEqDiff, cmpZ, hab, hne]
  · have hl1 : ((A.length : Int) != (C.length : Int)) = true := by rw [bne_iff_ne]; omega
    by_cases hl2 : A.length < C.length
    · have hl3 : (A.length : Int) < (C.length : Int) := by omega
      have := s1 hl2
      simp only [c185, go_sem, bs_size, hl1, hl3]
      simp only [i185, OT, reduceIte, Nat.reduceEqDiff, cmpZ, this]
    · have hl3 : ¬ (A.length : Int) < (C.length : Int) := by omega
      have h5 := s2 (by omega)
      have h6 : ¬ a < b := by omega
      have h7 : ¬ a = b := by omega
      simp only [c185, go_sem, bs_size, hl1, hl3]
      simp only [i185, OT, reduceIte, Nat.reduceEqDiff, cmpZ, h6, h7]
theorem c200_ok {n i : Nat} (hll : (decL n).length ≤ 1000000000) (hi : i ≤ 1000000000) : Go.V.Call tab E 200 [.str (dec n), .int .i64 i] [] (.int .i64 ((dgs n).getD i 0)) [] := by
  refine Go.V.Call.mach i200 c200 rfl rfl rfl rfl ?_
  obtain ⟨hd1, hd2⟩ := digit_dec (n := n) (i := i)
  have hU := decL_dig n
  rw [dec_eq]
  generalize (dgs n).getD i 0 = d at *
  generalize decL n = l at *
  by_cases hil : i < l.length
  · have h1 : ¬ (l.length : Int) ≤ (i : Int) := by omega
    have w1 : IntKind.i64.wrap ((l.length : Int) - 1) = ((l.length - 1 : Nat) : Int) := by rw [wrap_i64 (by omega) (by omega)]; omega
    have w2 : IntKind.i64.wrap (((l.length - 1 : Nat) : Int) - (i : Int)) = ((l.length - 1 - i : Nat) : Int) := by rw [wrap_i64 (by omega) (by omega)]; omega
    have h2 : (0 : Int) ≤ ((l.length - 1 - i : Nat) : Int) := by omega
    have hg := bs_getK (l := l) (k := l.length - 1 - i) (by omega)
    have hr := hU (l.getD (l.length - 1 - i) 0) (by simp [List.getD, show l.length - 1 - i < l.length by omega])
    have e := hd1 hil
    rw [e] at hg hr
    have hx := u8n (x := 48 + d) (by omega)
    have w3 : IntKind.u8.wrap (48 + d - 48) = d := by
      simp only [IntKind.wrap, IntKind.bits, IntKind.signed]
      simp
      omega
    have w4 : IntKind.i64.wrap d = d := wrap_i64 (by omega) (by omega)
    simp only [c200, go_sem, bs_size, h1, w1, w2, h2, Int.toNat_natCast, hg, hx, w3, w4]
    simp only [i200, OT, reduceIte, Nat.reduceEqDiff]
  · have h1 : (l.length : Int) ≤ (i : Int) := by omega
    have := hd2 (by omega)
    subst this
    simp only [c200, go_sem, bs_size, h1]
    simp only [i200, OT, reduceIte, Nat.reduceEqDiff]
theorem c188_gen {L : List Int} (hl : (L.length : Int) ≤ 1000000000) (h0 : L ≠ []) (hrr : ∀ x ∈ L, 0 ≤ x ∧ x ≤ 9) : Go.V.Call tab E 188 [ints L] [] (.str (dec (dval L))) [] := by
  refine Go.V.Call.mach i188 c188 rfl rfl rfl rfl ?_
  have hL0 : L.length ≠ 0 := fun h => h0 (List.length_eq_zero_iff.1 h)
  have htrim := c146_dig (E := E) (l := (asc L).reverse) (Dig_asc hrr) (by
    intro h
    have := congrArg List.length h
    simp [asc] at this
    exact h0 this) (by rw [List.length_reverse, asc_len]; omega)
  rw [sval_asc hrr] at htrim
  have w1 : IntKind.i64.wrap ((L.length : Int) + 1) = ((L.length + 1 : Nat) : Int) := by rw [wrap_i64 (by omega) (by omega)]; omega
  have w2 : IntKind.i64.wrap ((L.length : Int) - 1) = (L.length : Int) - 1 := wrap_i64 (by omega) (by omega)
  have b1 : (0 : Int) ≤ ((L.length + 1 : Nat) : Int) := by omega
  have b2 : 1 * (L.length + 1) ≤ 140737488355328 := by omega
  have b3 : ((L.length + 1 : Nat) : Int) ≤ 140737488355328 := by omega
  simp only [c188, go_sem, w1, w2, b1, b2, b3, Int.toNat_natCast]
  refine mLoop (fun N st => ∃ (j : Nat) (jj : Int), j ≤ L.length ∧ N = j ∧ jj = (j : Int) - 1 ∧
    st = ⟨[(0, ints L), (3, .arr 0 (L.length - j)), (4, .int .i64 jj)], [⟨false, 5, 1, L.length - j, L.length - j, nums .u8 (asc (L.drop j)).reverse, false⟩]⟩) L.length
    ⟨_, rfl, L.length, _, by omega, rfl, rfl, by rw [List.drop_length, Nat.sub_self]; rfl⟩ ?_
  rintro N s0 ⟨j, jj, hj, rfl, hjj, rfl⟩
  cases N with
  | zero =>
    have hn : ¬ 0 ≤ jj := by omega
    have hz : ((L.length : Int) == 0) = false := by rw [beq_eq_false_iff_ne]; omega
    simp only [b188_0, k188_0, go_sem, hn, Nat.sub_zero, List.drop_zero, hz, bytesOf_nums]
    refine goP htrim ?_
    simp only [go_sem]
    simp only [i188, OT, reduceIte, Nat.reduceEqDiff]
  | succ k =>
    obtain rfl : jj = (k : Int) := by omega
    have hlt : k < L.length := by omega
    have hlt' : (k : Int) < (L.length : Int) := by omega
    have hk0 : (0 : Int) ≤ (k : Int) := by omega
    have hk1 : IntKind.i64.wrap ((k : Int) - 1) = (k : Int) - 1 := wrap_i64 (by omega) (by omega)
    have hsub := sub_nums (k := .i64) hlt
    have hx := hrr (L.getD k 0) (by simp [List.getD, hlt])
    have hdr := getD_drop hlt
    generalize L.getD k 0 = x at *
    have t3 : IntKind.i64.wrap (48 + x) = 48 + x := wrap_i64 (by omega) (by omega)
    have t4 : IntKind.u8.wrap (48 + x) = 48 + x := by
      simp only [IntKind.wrap, IntKind.bits, IntKind.signed]
      simp
      omega
    have e0 : L.length - k = L.length - (k + 1) + 1 := by omega
    have e3 : (L.length - (k + 1) + 1) * 1 ≤ 140737488355328 := by omega
    have e4 : L.length - (k + 1) + 1 ≤ 140737488355328 := by omega
    have hasc : nums .u8 (asc (L.drop k)).reverse = nums .u8 (asc (L.drop (k + 1))).reverse ++ [.int .u8 (48 + x)] := by rw [hdr]; simp [nums, asc]
    simp only [b188_0, go_sem, hk0, hlt', Int.toNat_natCast, hsub, t3, t4, e3, e4, hk1, List.flatten_cons, List.flatten_nil, Option.getD_some]
    refine loopQ_go rfl k (by omega) ⟨k, _, by omega, rfl, rfl, ?_⟩
    rw [hasc, e0]
    rfl
theorem c186_ok {a b : Nat} (hab : b ≤ a) (ha : (decL a).length ≤ 1000000) (hb : (decL b).length ≤ 1000000) : Go.V.Call tab E 186 [.str (dec a), .str (dec b)] [] (.str (dec (a - b))) [] := by
  refine Go.V.Call.mach i186 c186 rfl rfl rfl rfl ?_
  have hak := dgs_len (n := a)
  have hne := decL_ne a
  have hsz : (dec a).size = (decL a).length := by rw [dec_eq, bs_size]
  have hdg : ∀ i : Nat, i ≤ 1000000000 → Go.V.Call tab E 200 [.str (dec a), .int .i64 i] [] (.int .i64 ((dgs a).getD i 0)) [] := fun i hi => c200_ok (by omega) hi
  generalize hK : (decL a).length = K at *
  have hK0 : K ≠ 0 := fun h => hne (List.length_eq_zero_iff.1 (by omega))
  simp only [c186, go_sem]
  refine mLoop (fun N st => ∃ (i br : Nat) (L : List Int), i ≤ K ∧ N = K - i ∧ br ≤ 1 ∧ L.length = i ∧ (∀ x ∈ L, 0 ≤ x ∧ x ≤ 9) ∧ dval L + b % 10 ^ i = a % 10 ^ i + br * 10 ^ i ∧
    st = ⟨[(0, .str (dec a)), (1, .str (dec b)), (5, .arr 0 i), (6, .int .i64 br), (7, .int .i64 i)], [⟨false, 3, 1, i, i, nums .i64 L, false⟩]⟩) K
    ⟨_, rfl, 0, 0, [], by omega, by omega, by omega, rfl, fun x hx => by simp at hx, by simp [dval, Nat.mod_one], by simp [getE, nums]⟩ ?_
  rintro N s0 ⟨i, br, L, hi, rfl, hbr, hLl, hLd, hv, rfl⟩
  by_cases hiK : i < K
  · have hi' : (i : Int) < (K : Int) := by omega
    have hi1 : IntKind.i64.wrap ((i : Int) + 1) = ((i + 1 : Nat) : Int) := by rw [wrap_i64 (by omega) (by omega)]; omega
    have h1 := hdg i (by omega)
    have h2 := c200_ok (E := E) (n := b) (i := i) (by omega) (by omega)
    rw [dgs_get] at h1 h2
    have ma := Nat.mod_pow_succ (b := 10) (x := a) (k := i)
    have mb := Nat.mod_pow_succ (b := 10) (x := b) (k := i)
    have la := Nat.mod_lt (a / 10 ^ i) (show 0 < 10 by omega)
    have lb := Nat.mod_lt (b / 10 ^ i) (show 0 < 10 by omega)
    generalize a / 10 ^ i % 10 = x at *
    generalize b / 10 ^ i % 10 = y at *
    have w1 : IntKind.i64.wrap ((x : Int) - (y : Int)) = (x : Int) - (y : Int) := wrap_i64 (by omega) (by omega)
    have w2 : IntKind.i64.wrap ((x : Int) - (y : Int) - (br : Int)) = (x : Int) - (y : Int) - (br : Int) := wrap_i64 (by omega) (by omega)
    have w3 : IntKind.i64.wrap ((x : Int) - (y : Int) - (br : Int) + 10) = (x : Int) - (y : Int) - (br : Int) + 10 := wrap_i64 (by omega) (by omega)
    have e3 : (i + 1) * 8 ≤ 140737488355328 := by omega
    have e4 : i + 1 ≤ 140737488355328 := by omega
    have fin : ∀ (t : Int) (br' : Nat), 0 ≤ t → t ≤ 9 → br' ≤ 1 → t + y + br = x + 10 * br' → (L ++ [t]).length = i + 1 ∧ (∀ z ∈ L ++ [t], 0 ≤ z ∧ z ≤ 9) ∧ dval (L ++ [t]) + b % 10 ^ (i + 1) = a % 10 ^ (i + 1) + br' * 10 ^ (i + 1) := fun t br' t1 t2 t3 t4 => by
      refine ⟨by simp [hLl], fun z hz => ?_, ?_⟩
      · rcases List.mem_append.1 hz with hz | hz
        · exact hLd z hz
        · simp at hz; omega
      · rw [dval_snoc, ma, mb, hLl, Nat.pow_succ]
        have q1 : 10 ^ i * (t.toNat + y + br) = 10 ^ i * (x + 10 * br') := by congr 1; omega
        rw [Nat.mul_add, Nat.mul_add, Nat.mul_add] at q1
        have q2 : br' * (10 ^ i * 10) = 10 ^ i * (10 * br') := by rw [Nat.mul_comm, Nat.mul_assoc]
        have q3 : br * 10 ^ i = 10 ^ i * br := Nat.mul_comm _ _
        rw [q2]
        rw [q3] at hv
        clear q2 q3 ma mb
        generalize 10 ^ i * t.toNat = Z1 at *
        generalize 10 ^ i * y = Z2 at *
        generalize 10 ^ i * x = Z3 at *
        generalize 10 ^ i * br = Z4 at *
        generalize 10 ^ i * (10 * br') = Z5 at *
        omega
    by_cases hneg : (x : Int) - (y : Int) - (br : Int) < 0
    · obtain ⟨f1, f2, f3⟩ := fin ((x : Int) - (y : Int) - (br : Int) + 10) 1 (by omega) (by omega) (by omega) (by omega)
      simp only [b186_0, go_sem, hsz, hi', hi1]
      refine goP h1 ?_
      simp only [go_sem]
      refine goP h2 ?_
      simp only [go_sem, w1, w2, hneg, w3, e3, e4, hi1, List.flatten_cons, List.flatten_nil, Option.getD_some]
      exact loopQ_go rfl (K - (i + 1)) (by omega) ⟨i + 1, 1, _, by omega, rfl, by omega, f1, f2, f3, by rw [nums_app]; rfl⟩
    · obtain ⟨f1, f2, f3⟩ := fin ((x : Int) - (y : Int) - (br : Int)) 0 (by omega) (by omega) (by omega) (by omega)
      simp only [b186_0, go_sem, hsz, hi', hi1]
      refine goP h1 ?_
      simp only [go_sem]
      refine goP h2 ?_
      simp only [go_sem, w1, w2, hneg, e3, e4, hi1, List.flatten_cons, List.flatten_nil, Option.getD_some]
      exact loopQ_go rfl (K - (i + 1)) (by omega) ⟨i + 1, 0, _, by omega, rfl, by omega, f1, f2, f3, by rw [nums_app]; rfl⟩
  · have hi' : ¬ (i : Int) < (K : Int) := by omega
    obtain rfl : i = K := by omega
    have hdl := dval_lt hLd
    rw [hLl] at hdl
    rw [Nat.mod_eq_of_lt hak, Nat.mod_eq_of_lt (by omega)] at hv
    have hbr0 : br = 0 := by
      rcases Nat.eq_zero_or_pos br with h | h
      · exact h
      · obtain rfl : br = 1 := by omega
        omega
    subst hbr0
    have hdv : dval L = a - b := by omega
    have h143 := c188_gen (E := E) (L := L) (by omega) (by
      rintro rfl
      simp at hLl
      omega) hLd
    rw [hdv, ints, hLl] at h143
    simp only [b186_0, k186_0, go_sem, hsz, hi']
    refine goR h143 rfl ?_
    simp only [go_sem]
    simp only [i186, OT, reduceIte, Nat.reduceEqDiff]
end
theorem decL_mono {a b : Nat} (h : a ≤ b) : (decL a).length ≤ (decL b).length := by
  rcases Nat.lt_or_ge (decL b).length (decL a).length with h1 | h1
  · have := decL_short h1; omega
  · exact h1
theorem sval_take {l : List Int} {i : Nat} (h : i < l.length) : sval (l.take (i + 1)) = 10 * sval (l.take i) + (l.getD i 0 - 48).toNat := by
  rw [take_snoc h, sval_snoc]
theorem div_digit {P d b R : Nat} (hb : 0 < b) (hR : R = 10 * (P % b) + d) : (10 * P + d) / b = 10 * (P / b) + R / b ∧ (10 * P + d) % b = R % b := by
  have e : 10 * P + d = R + b * (10 * (P / b)) := by
    have h := Nat.div_add_mod P b
    have h2 : b * (10 * (P / b)) = 10 * (b * (P / b)) := by rw [Nat.mul_left_comm]
    omega
  rw [e, Nat.add_mul_div_left _ _ hb, Nat.add_mul_mod_self_left]
  exact ⟨by omega, rfl⟩
section
variable {E : CallRel}
theorem c174_ok {a b : Nat} (hb0 : b ≠ 0) (ha : (decL a).length ≤ 100000) (hb : (decL b).length ≤ 100000) : Go.V.Call tab E 174 [.str (dec a), .str (dec b)] [] (.tup [.str (dec (a / b)), .str (dec (a % b))]) [] := by
  refine Go.V.Call.mach i174 c174 rfl rfl rfl rfl ?_
  have hbp : 0 < b := Nat.pos_of_ne_zero hb0
  have hda := decL_dig a
  have hne := decL_ne a
  have hav := sval_decL a
  have hae := dec_eq (n := a)
  have hd0 : (⟨#[48]⟩ : ByteArray) = dec 0 := rfl
  generalize decL a = l at *
  generalize dec a = sa at *
  subst hae
  have hl0 : l.length ≠ 0 := fun h => hne (List.length_eq_zero_iff.1 h)
  have b1 : (0 : Int) ≤ (l.length : Int) := by omega
  have b2 : 1 * l.length ≤ 140737488355328 := by omega
  have b3 : (l.length : Int) ≤ 140737488355328 := by omega
  have b4 : l.length ≤ 140737488355328 := by omega
  simp only [c174, go_sem, bs_size, b1, b2, b3, b4, Int.toNat_natCast, hd0]
  refine mLoop (fun N st => ∃ (i : Nat) (q : List Int), i ≤ l.length ∧ N = l.length - i ∧ q.length = i ∧ Dig q ∧ sval q = sval (l.take i) / b ∧
    st = ⟨[(0, .str (bs l)), (1, .str (dec b)), (6, .arr 0 i), (7, .str (dec (sval (l.take i) % b))), (8, .int .i64 i)], [⟨false, 5, 1, i, i, nums .u8 q, false⟩]⟩) l.length
    ⟨_, rfl, 0, [], by omega, by omega, rfl, fun x hx => by simp at hx, by simp [sval], by simp [getE, nums, sval]⟩ ?_
  rintro N s0 ⟨i, q, hi, rfl, hql, hqd, hqv, rfl⟩
  by_cases hil : i < l.length
  · have hi' : (i : Int) < (l.length : Int) := by omega
    have hi0 : (0 : Int) ≤ (i : Int) := by omega
    have hi1 : IntKind.i64.wrap ((i : Int) + 1) = ((i + 1 : Nat) : Int) := by rw [wrap_i64 (by omega) (by omega)]; omega
    have hi2 : (0 : Int) ≤ ((i + 1 : Nat) : Int) := by omega
    have hi3 : ((i + 1 : Nat) : Int) ≤ (l.length : Int) := by omega
    have hi4 : (i : Int) ≤ ((i + 1 : Nat) : Int) := by omega
    have hex : (bs l).extract i (i + 1) = bs [l.getD i 0] := by
      rw [bs_extract, take_snoc hil, List.drop_append_of_le_length (by rw [List.length_take]; omega), List.drop_eq_nil_of_le (by rw [List.length_take]; omega)]; rfl
    have hx := hda (l.getD i 0) (by simp [List.getD, hil])
    have hst := sval_take hil
    generalize l.getD i 0 = x at *
    have hrb := Nat.mod_lt (sval (l.take i)) hbp
    have hrl : (decL (sval (l.take i) % b)).length ≤ 100000 := by
      have := decL_mono (Nat.le_of_lt hrb)
      omega
    have hadd : strOp .add (dec (sval (l.take i) % b)) (bs [x]) = some (.str (bs (decL (sval (l.take i) % b) ++ [x]))) := by
      simp only [strOp]
      rw [if_neg, dec_eq, bs_append]
      rw [dec_eq, bs_size, bs_size]
      simp [IntKind.max, IntKind.bits, IntKind.signed]
      omega
    have h120 := c146_dig (E := E) (l := decL (sval (l.take i) % b) ++ [x]) (by
      rw [Dig_app]
      exact ⟨decL_dig _, fun y hy => by simp at hy; omega⟩) (by simp) (by simp; omega)
    rw [sval_snoc, sval_decL] at h120
    obtain ⟨dq, dm⟩ := div_digit (P := sval (l.take i)) (d := (x - 48).toNat) hbp rfl
    rw [← hst] at dq dm
    rw [← hqv] at dq
    have hR10 : 10 * (sval (l.take i) % b) + (x - 48).toNat < 10 * b := by omega
    have hRl : (decL (10 * (sval (l.take i) % b) + (x - 48).toNat)).length ≤ 1000000 := by
      have h1 : (decL (10 * b)).length ≤ (decL b).length + 1 := by
        have := decL_ten hb0 (d := 0) (by omega)
        rw [Nat.add_zero] at this
        rw [this]; simp
      have h2 := decL_mono (Nat.le_of_lt hR10)
      omega
    generalize 10 * (sval (l.take i) % b) + (x - 48).toNat = R at *
    simp only [b174_0, go_sem, bs_size, hi', hi0, hi1, hi2, hi3, hi4, Int.toNat_natCast, hex, hadd]
    refine goP h120 ?_
    simp only [go_sem]
    refine mLoop (fun N st => ∃ (n : Nat), n * b ≤ R ∧ N = 10 - n ∧
      st = ⟨[(0, .str (bs l)), (1, .str (dec b)), (6, .arr 0 i), (7, .str (dec (R - n * b))), (8, .int .i64 i), (9, .int .i64 n)], [⟨false, 5, 1, i, i, nums .u8 q, false⟩]⟩) 10
      ⟨_, rfl, 0, by omega, rfl, by simp [getE]⟩ ?_
    rintro N s0 ⟨n, hn, rfl, rfl⟩
    have hn9 : n < 10 := by
      rcases Nat.lt_or_ge n 10 with h | h
      · exact h
      · have := Nat.mul_le_mul_right b h
        omega
    have hn' : (n : Int) < 10 := by omega
    have hn1 : IntKind.i64.wrap ((n : Int) + 1) = ((n + 1 : Nat) : Int) := by rw [wrap_i64 (by omega) (by omega)]; omega
    have h146 := c185_ok (E := E) (a := R - n * b) (b := b)
    by_cases hge : b ≤ R - n * b
    · have hc : (0 : Int) ≤ cmpZ (R - n * b) b := by
        rw [cmpZ, if_neg (by omega)]
        split <;> omega
      have h147 := c186_ok (E := E) hge (by have := decL_mono (show R - n * b ≤ R by omega); omega) (by omega)
      have hsub : R - n * b - b = R - (n + 1) * b := by rw [Nat.add_mul, Nat.one_mul]; omega
      rw [hsub] at h147
      simp only [b174_1, go_sem]
      refine goP h146 ?_
      simp only [go_sem, hc, hn']
      refine goP h147 ?_
      simp only [go_sem, hn1]
      exact loopQ_go rfl (10 - (n + 1)) (by omega) ⟨n + 1, by rw [Nat.add_mul, Nat.one_mul]; omega, rfl, rfl⟩
    · have hc : ¬ (0 : Int) ≤ cmpZ (R - n * b) b := by
        rw [cmpZ, if_pos (by omega)]
        omega
      have hdiv : R / b = n := by
        refine (Nat.div_eq_iff hbp).2 ⟨hn, ?_⟩
        omega
      have hmod : R % b = R - n * b := by
        have := Nat.div_add_mod R b
        rw [hdiv, Nat.mul_comm] at this
        omega
      rw [hdiv] at dq
      rw [hmod] at dm
      have w1 : IntKind.i64.wrap (48 + (n : Int)) = 48 + (n : Int) := wrap_i64 (by omega) (by omega)
      have w2 : IntKind.u8.wrap (48 + (n : Int)) = 48 + (n : Int) := by
        simp only [IntKind.wrap, IntKind.bits, IntKind.signed]
        simp
        omega
      have e3 : (i + 1) * 1 ≤ 140737488355328 := by omega
      have e4 : i + 1 ≤ 140737488355328 := by omega
      simp only [b174_1, k174_0, k174_1, go_sem]
      refine goP h146 ?_
      simp only [go_sem, hc, w1, w2, e3, e4, hi1, List.flatten_cons, List.flatten_nil, Option.getD_some]
      refine loopQ_go rfl (l.length - (i + 1)) (by omega) ⟨i + 1, q ++ [48 + (n : Int)], by omega, rfl, by simp [hql], ?_, ?_, ?_⟩
      · rw [Dig_app]
        exact ⟨hqd, fun y hy => by simp at hy; omega⟩
      · rw [sval_snoc, dq]
        omega
      · rw [dm, nums_app]
        rfl
  · have hi' : ¬ (i : Int) < (l.length : Int) := by omega
    obtain rfl : i = l.length := by omega
    rw [List.take_length, hav] at hqv
    have h120 := c146_dig (E := E) (l := q) hqd (by
      rintro rfl
      simp at hql
      omega) (by omega)
    rw [hqv] at h120
    simp only [b174_0, k174_2, go_sem, bs_size, hi', bytesOf_nums, List.take_length, hav]
    refine goP h120 ?_
    simp only [go_sem]
    simp only [i174, OT, reduceIte, Nat.reduceEqDiff]
def powN (b n : Nat) : Nat := b ^ n
theorem powN_lt {b j n : Nat} (hb : 1 < b) (h : b ^ j < powN b n) : j < n := (Nat.pow_lt_pow_iff_right hb).1 h
def lim2000 : Nat := powN 10 2000
def lim2000sq : Nat := powN 2 13288
theorem lim_sq : lim2000 * lim2000 ≤ lim2000sq := of_decide_eq_true (by kernel_rfl)
theorem pow_lim {j : Nat} (h : 2 ^ j < lim2000sq) : j < 13288 := powN_lt (n := 13288) (by omega) h
theorem pow_lim10 {j x : Nat} (h1 : 10 ^ j ≤ x) (h2 : x < lim2000) : j < 2000 := powN_lt (n := 2000) (by omega) (Nat.lt_of_le_of_lt h1 h2)
theorem lim2000_len {x : Nat} (h : x < lim2000) : (decL x).length ≤ 2000 := by
  by_cases hx0 : x = 0
  · subst hx0
    have : (decL 0).length = 1 := rfl
    omega
  · have h1 := pow_lim10 (decL_len hx0) h
    omega
theorem c147_gen {M S a b : Nat} (hMM : M * M ≤ S) (hpow : ∀ j, 2 ^ j < S → j < 13288) (lenb : ∀ x, x < M → (decL x).length ≤ 100000) (ha : a < M) (hb : b < M) : Go.V.Call tab E 147 [.str (dec a), .str (dec b)] [] (.str (dec (Nat.gcd a b))) [] := by
  refine Go.V.Call.mach i147 c147 rfl rfl rfl rfl ?_
  have hd0 : (⟨#[48]⟩ : ByteArray) = dec 0 := rfl
  simp only [c147, go_sem, hd0]
  refine mLoop (fun N st => ∃ (i x y : Nat), N = y ∧ Nat.gcd x y = Nat.gcd a b ∧ x < M ∧ y < M ∧ (i = 0 ∨ 1 ≤ i ∧ y < x ∧ x * y * 2 ^ (i - 1) < S) ∧
    st = ⟨[(0, .str (dec x)), (1, .str (dec y)), (5, .int .i64 i)], []⟩) b ⟨_, rfl, 0, a, b, rfl, rfl, ha, hb, .inl rfl, by simp [getE]⟩ ?_
  rintro N s0 ⟨i, x, y, rfl, hg, hx, hy, hm, h2⟩
  have hne : strOp .ne (dec N) (dec 0) = some (.bool (decide (N ≠ 0))) := by
    simp only [strOp]
    rw [dec_eq, dec_eq, str_eq (decL_dig N).u8 (decL_dig 0).u8]
    congr 2
    rw [← decide_not]
    congr 1
    refine propext ⟨fun h h2 => h (by rw [h2]), fun h h2 => h ?_⟩
    rw [← sval_decL N, h2, sval_decL]
  by_cases hN : N = 0
  · subst hN
    rw [Nat.gcd_zero_right] at hg
    subst hg
    rw [decide_eq_false (by omega)] at hne
    by_cases hi : i < 20000
    · have hi' : (i : Int) < 20000 := by omega
      simp only [h2, b147_0, k147_0, go_sem, hd0, hi', hne]
      simp only [i147, OT, reduceIte, Nat.reduceEqDiff]
    · have hi' : ¬ (i : Int) < 20000 := by omega
      simp only [h2, b147_0, k147_0, go_sem, hd0, hi', hne]
      simp only [i147, OT, reduceIte, Nat.reduceEqDiff]
  · rw [decide_eq_true hN] at hne
    have hNp : 0 < N := Nat.pos_of_ne_zero hN
    have hi : i < 20000 := by
      rcases hm with h | ⟨h1, h5', h3⟩
      · omega
      · have h4 : 1 ≤ x * N := Nat.mul_pos (by omega) hNp
        have h5 := Nat.mul_le_mul_right (2 ^ (i - 1)) h4
        rw [Nat.one_mul] at h5
        have h6 : 2 ^ (i - 1) < S := Nat.lt_of_le_of_lt h5 h3
        have h7 := hpow _ h6
        omega
    have hi' : (i : Int) < 20000 := by omega
    have hi1 : IntKind.i64.wrap ((i : Int) + 1) = ((i + 1 : Nat) : Int) := by rw [wrap_i64 (by omega) (by omega)]; omega
    have h138 := c174_ok (E := E) (a := x) hN (lenb x hx) (lenb N hy)
    have hml := Nat.mod_lt x hNp
    have hg2 : Nat.gcd N (x % N) = Nat.gcd a b := by rw [← hg, Nat.gcd_comm N, ← Nat.gcd_rec, Nat.gcd_comm]
    have hnew : N * (x % N) * 2 ^ i < S := by
      rcases hm with h | ⟨h1, h5', h3⟩
      · subst h
        rw [Nat.pow_zero, Nat.mul_one]
        exact Nat.lt_of_lt_of_le (Nat.mul_lt_mul'' hy (by omega)) hMM
      · have h4 : 2 * (x % N) ≤ x := by
          have e1 := Nat.div_add_mod x N
          have e2 : 1 ≤ x / N := (Nat.one_le_div_iff hNp).2 (by omega)
          have e3 := Nat.mul_le_mul_left N e2
          omega
        obtain ⟨k, rfl⟩ : ∃ k, i = k + 1 := ⟨i - 1, by omega⟩
        rw [Nat.add_sub_cancel] at h3
        refine Nat.lt_of_le_of_lt ?_ h3
        rw [Nat.pow_succ, Nat.mul_comm (2 ^ k) 2, ← Nat.mul_assoc]
        refine Nat.mul_le_mul_right _ ?_
        rw [Nat.mul_assoc, Nat.mul_comm x, Nat.mul_comm (x % N)]
        exact Nat.mul_le_mul_left _ h4
    generalize x % N = r at *
    simp only [h2, b147_0, go_sem, hd0, hi', hne]
    refine goP h138 ?_
    simp only [go_sem, hi1]
    exact loopQ_go rfl r (by omega) ⟨i + 1, N, r, rfl, hg2, hy, by omega, .inr ⟨by omega, hml, by rw [Nat.add_sub_cancel]; exact hnew⟩, rfl⟩
theorem c147_ok {a b : Nat} (ha : a < lim2000) (hb : b < lim2000) : Go.V.Call tab E 147 [.str (dec a), .str (dec b)] [] (.str (dec (Nat.gcd a b))) [] :=
  c147_gen lim_sq (fun _ h => pow_lim h) (fun x hx => Nat.le_trans (lim2000_len hx) (by decide)) ha hb
end
theorem lim2000_limbs {x : Nat} (h : x < lim2000) : (limG x).length ≤ 208 := by
  refine limG_len (Nat.lt_of_lt_of_le h ?_)
  show lim2000 ≤ 4294967296 ^ 208
  exact of_decide_eq_true (by kernel_rfl)
theorem powN_le {b n m : Nat} (hb : 0 < b) (h : n ≤ m) : b ^ n ≤ powN b m := Nat.pow_le_pow_right hb h
theorem pow10_le {n : Nat} (h : n ≤ 2000) : 10 ^ n ≤ lim2000 := powN_le (by omega) h
theorem Right_lim {l : List Int} (h : RightS l) : sval l < lim2000 := Nat.lt_of_lt_of_le (sval_lt h.1) (pow10_le h.2.2)
theorem sval_drop {l : List Int} {j n : Nat} : sval (l.take (j + n)) = sval (l.take j) * 10 ^ ((l.drop j).take n).length + sval ((l.drop j).take n) := by
  rw [← sval_append, ← List.take_add]
section
variable {E : CallRel}
theorem c150_ok {l : List Int} {b : Bool} (hl : U8 l) (hll : l.length ≤ 1000000000) (hb : b = true ↔ RightS l) : Go.V.Call tab E 150 [.str (bs l)] [] (.tup [natC (if b then sval l else 0), .bool b]) [] := by
  refine Go.V.Call.mach i150 c150 rfl rfl rfl rfl ?_
  have hfalse : ¬ RightS l → b = false := fun h => by rw [← Bool.not_eq_true, hb]; exact h
  have heq : strOp .eq (bs l) (⟨#[]⟩ : ByteArray) = some (.bool (decide (l = []))) := by
    have : (⟨#[]⟩ : ByteArray) = bs [] := rfl
    rw [this]
    simp only [strOp, str_eq hl (show U8 [] from fun x hx => by simp at hx)]
  by_cases h0 : l = []
  · have hbf := hfalse (fun h => by have := h.2.1; rw [h0] at this; simp at this)
    subst hbf
    rw [decide_eq_true h0] at heq
    simp only [c150, natC, us32, go_sem, FL, heq, bs_size]
    simp only [i150, OT, reduceIte, Nat.reduceEqDiff, sub, FL, List.length_cons, List.length_nil, Nat.le_refl, us32, if_false, Bool.false_eq_true, limG_zero]
    rfl
  rw [decide_eq_false h0] at heq
  by_cases h2 : 2000 < l.length
  · have hbf := hfalse (fun h => by have := h.2.2; omega)
    subst hbf
    have h2' : (2000 : Int) < (l.length : Int) := by omega
    simp only [c150, natC, us32, go_sem, FL, heq, bs_size, h2']
    simp only [i150, OT, reduceIte, Nat.reduceEqDiff, sub, FL, List.length_cons, List.length_nil, Nat.le_refl, us32, if_false, Bool.false_eq_true, limG_zero]
    rfl
  have h2' : ¬ (2000 : Int) < (l.length : Int) := by omega
  have hlim : ∀ j, Dig (l.take j) → sval (l.take j) < lim2000 := fun j h => by
    refine Nat.lt_of_lt_of_le (sval_lt h) (pow10_le ?_)
    rw [List.length_take]
    omega
  simp only [c150, natC, us32, go_sem, heq, bs_size, h2']
  refine mLoop (fun N st => ∃ (j : Nat) (c : AV) (fr : Bool), j ≤ l.length ∧ N = l.length - j ∧ Dig (l.take j) ∧ ((c = .arr 2 0 ∧ fr = false ∧ sval (l.take j) = 0) ∨ c = us32 (limG (sval (l.take j)))) ∧
    st = ⟨[(0, .str (bs (l.drop j))), (2, .loc 1 0 0), (4, .loc 3 0 0)], [⟨false, 191, 1, 0, 0, [], false⟩, ⟨true, 94, 1, 0, 1, [.arr 0 0], false⟩, ⟨false, 191, 1, 0, 0, [], fr⟩, ⟨true, 94, 1, 0, 1, [c], false⟩]⟩) l.length
    ⟨_, rfl, 0, .arr 2 0, false, by omega, by omega, fun x hx => by simp at hx, .inl ⟨rfl, rfl, rfl⟩, by simp [getE]⟩ ?_
  rintro N s0 ⟨j, c, fr, hj, rfl, hd, hc, rfl⟩
  have hdl : (l.drop j).length = l.length - j := List.length_drop
  by_cases hjl : j < l.length
  · have g1 : (0 : Int) < ((l.length - j : Nat) : Int) := by omega
    obtain ⟨n, hn⟩ : ∃ n, n = min 9 (l.length - j) := ⟨_, rfl⟩
    have hmin : (if ((l.length - j : Nat) : Int) < 9 then ((l.length - j : Nat) : Int) else 9) = (n : Int) := by split <;> omega
    have g2 : (0 : Int) ≤ (n : Int) := by omega
    have g3 : (n : Int) ≤ ((l.length - j : Nat) : Int) := by omega
    obtain ⟨p, hp⟩ : ∃ p, p = (l.drop j).take n := ⟨_, rfl⟩
    have hpl : p.length = n := by rw [hp, List.length_take, hdl]; omega
    have hex : (bs (l.drop j)).extract 0 n = bs p := by rw [bs_extract, hp]; rfl
    have hpU : U8 p := fun x hx => hl x (by rw [hp] at hx; exact List.mem_of_mem_drop (List.mem_of_mem_take hx))
    have hby := bytesAV_bs hpU
    have hex2 : (bs (l.drop j)).extract n (l.length - j) = bs (l.drop (j + n)) := by
      rw [bs_extract, List.take_of_length_le (by omega), List.drop_drop]
    have hsv := sval_drop (l := l) (j := j) (n := n)
    rw [← hp, hpl] at hsv
    have htk : l.take (j + n) = l.take j ++ p := by rw [hp, List.take_add]
    have hx90 := fun i (hi : i ≤ 9) => (Nat.pow_le_pow_right (show 0 < 10 by omega) hi : 10 ^ i ≤ 10 ^ 9)
    rcases hc with ⟨rfl, rfl, hv⟩ | rfl
    · simp only [b150_0, us32, go_sem, bs_size, hdl, g1, hmin, g2, g3, Int.toNat_natCast, hex, hby, hpl]
      refine mLoop (fun N st => ∃ i : Nat, i ≤ n ∧ N = n - i ∧ Dig (p.take i) ∧
        st = ⟨[(0, .str (bs (l.drop j))), (2, .loc 1 0 0), (4, .loc 3 0 0), (5, .int .i64 n), (6, .int .u64 ((sval (p.take i) : Nat) : Int)), (7, .int .u64 ((10 ^ i : Nat) : Int)), (27, .sl n 1 (nums .u8 p)), (28, .int .i64 n), (29, .int .i64 i)],
          [⟨false, 191, 1, 0, 0, [], false⟩, ⟨true, 94, 1, 0, 1, [.arr 0 0], false⟩, ⟨false, 191, 1, 0, 0, [], false⟩, ⟨true, 94, 1, 0, 1, [.arr 2 0], false⟩]⟩) n
        ⟨_, rfl, 0, by omega, by omega, fun x hx => by simp at hx, by simp [getE, sval_nil, us32]⟩ ?_
      rintro N s0 ⟨i, hi, rfl, hdi, rfl⟩
      by_cases hin : i < n
      · have h1 : (i : Int) < (n : Int) := by omega
        have h2 : (0 : Int) ≤ (i : Int) := by omega
        have h3 : IntKind.i64.wrap ((i : Int) + 1) = ((i + 1 : Nat) : Int) := by rw [wrap_i64 (by omega) (by omega)]; omega
        have hsub := sub_nums (k := .u8) (l := p) (i := i) (by omega)
        have hyU := hpU (p.getD i 0) (by simp [List.getD, show i < p.length by omega])
        have htd := Dig_take (l := p) (i := i) (by omega)
        have hts := sval_take (l := p) (i := i) (by omega)
        have hlt := sval_lt hdi
        rw [List.length_take, hpl, Nat.min_eq_left (by omega)] at hlt
        have h99 := hx90 i (by omega)
        have hps : 10 ^ (i + 1) = 10 * 10 ^ i := by rw [Nat.pow_succ, Nat.mul_comm]
        generalize p.getD i 0 = y at *
        have bad : ¬ (48 ≤ y ∧ y ≤ 57) → b = false := fun h => hfalse (fun hr => h (by
          have : Dig (l.take (j + n)) := fun z hz => hr.1 z (List.mem_of_mem_take hz)
          rw [htk, Dig_app] at this
          exact (htd.1 (fun z hz => this.2 z (List.mem_of_mem_take hz))).2))
        by_cases y1 : y < 48
        · have hbf := bad (by omega)
          subst hbf
          simp only [b150_1, us32, go_sem, FL, h1, h2, Int.toNat_natCast, hsub, y1]
          simp only [i150, OT, reduceIte, Nat.reduceEqDiff, sub, FL, List.length_cons, List.length_nil, Nat.le_refl, us32, if_false, Bool.false_eq_true, limG_zero]
          rfl
        · by_cases y2 : 57 < y
          · have hbf := bad (by omega)
            subst hbf
            simp only [b150_1, us32, go_sem, FL, h1, h2, Int.toNat_natCast, hsub, y1, y2]
            simp only [i150, OT, reduceIte, Nat.reduceEqDiff, sub, FL, List.length_cons, List.length_nil, Nat.le_refl, us32, if_false, Bool.false_eq_true, limG_zero]
            rfl
          · have w1 : IntKind.u8.wrap (y - 48) = (((y - 48).toNat : Nat) : Int) := by
              simp only [IntKind.wrap, IntKind.bits, IntKind.signed]
              simp
              omega
            have w2 : IntKind.u64.wrap (((y - 48).toNat : Nat) : Int) = (((y - 48).toNat : Nat) : Int) := wrap_u64 (by omega) (by omega)
            have w3 : IntKind.u64.wrap (10 * ((sval (p.take i) : Nat) : Int)) = ((10 * sval (p.take i) : Nat) : Int) := by rw [wrap_u64 (by omega) (by omega)]; omega
            have w4 : IntKind.u64.wrap (((10 * sval (p.take i) : Nat) : Int) + (((y - 48).toNat : Nat) : Int)) = ((sval (p.take (i + 1)) : Nat) : Int) := by rw [hts, wrap_u64 (by omega) (by omega)]; omega
            have w5 : IntKind.u64.wrap (10 * ((10 ^ i : Nat) : Int)) = ((10 ^ (i + 1) : Nat) : Int) := by rw [hps, wrap_u64 (by omega) (by omega)]; omega
            simp only [b150_1, us32, go_sem, h1, h2, h3, Int.toNat_natCast, hsub, y1, y2, w1, w2, w3, w4, w5]
            exact loopQ_go rfl (n - (i + 1)) (by omega) ⟨i + 1, by omega, rfl, htd.2 ⟨hdi, by omega, by omega⟩, rfl⟩
      · have h1 : ¬ (i : Int) < (n : Int) := by omega
        obtain rfl : i = n := by omega
        rw [List.take_of_length_le (by omega)] at hdi
        have hps : p.take p.length = p := List.take_length
        have hlt := sval_lt hdi
        rw [hpl] at hlt
        have h99 := hx90 i (by omega)
        have hdn : Dig (l.take (j + i)) := by rw [htk, Dig_app]; exact ⟨hd, hdi⟩
        have hln := hlim _ hdn
        have h90s := c149_nat (E := E) (n := 10 ^ i) (by omega)
        have h90x := c149_nat (E := E) (n := sval p) (by omega)
        have hv1 : sval (l.take j) * 10 ^ i < lim2000 := by omega
        have hl1 := lim2000_limbs hv1
        have hl2 : (limG (sval p)).length ≤ 2 := limG_len (by omega)
        have hl3 : (limG (10 ^ i)).length ≤ 2 := limG_len (by omega)
        have hl4 := lim2000_limbs (hlim _ hd)
        have h133 := c158_ok (E := E) (a := sval (l.take j)) (b := 10 ^ i) (by omega) (by omega)
        have h134 := c176_ok (E := E) (a := sval (l.take j) * 10 ^ i) (b := sval p) (by omega) (by omega)
        rw [← hsv] at h134
        have ht : p.take i = p := List.take_of_length_le (by omega)
        simp only [natC] at h90s h90x h133 h134
        rw [hv, limG_zero] at h133
        rw [hv] at h134
        simp only [us32] at h90s h90x h133 h134
        simp only [b150_1, k150_0, us32, go_sem, subB1, subT1, h1, ht, Int.toNat_natCast]
        refine goP h90s ?_
        simp only [us32, go_sem, subB1, subT1]
        refine goF h133 ?_
        simp only [us32, go_sem, subB1, subT1]
        refine goP h90x ?_
        simp only [us32, go_sem, subB1, subT1]
        refine goP h134 ?_
        simp only [us32, go_sem, FL, subB1, subT1, bs_size, hdl, g2, g3, Int.toNat_natCast, hex2]
        exact loopQ_go rfl (l.length - (j + i)) (by omega) ⟨j + i, _, _, by omega, rfl, hdn, .inr rfl, rfl⟩
    · simp only [b150_0, us32, go_sem, bs_size, hdl, g1, hmin, g2, g3, Int.toNat_natCast, hex, hby, hpl]
      refine mLoop (fun N st => ∃ i : Nat, i ≤ n ∧ N = n - i ∧ Dig (p.take i) ∧
        st = ⟨[(0, .str (bs (l.drop j))), (2, .loc 1 0 0), (4, .loc 3 0 0), (5, .int .i64 n), (6, .int .u64 ((sval (p.take i) : Nat) : Int)), (7, .int .u64 ((10 ^ i : Nat) : Int)), (27, .sl n 1 (nums .u8 p)), (28, .int .i64 n), (29, .int .i64 i)],
          [⟨false, 191, 1, 0, 0, [], false⟩, ⟨true, 94, 1, 0, 1, [.arr 0 0], false⟩, ⟨false, 191, 1, 0, 0, [], fr⟩, ⟨true, 94, 1, 0, 1, [us32 (limG (sval (l.take j)))], false⟩]⟩) n
        ⟨_, rfl, 0, by omega, by omega, fun x hx => by simp at hx, by simp [getE, sval_nil, us32]⟩ ?_
      rintro N s0 ⟨i, hi, rfl, hdi, rfl⟩
      by_cases hin : i < n
      · have h1 : (i : Int) < (n : Int) := by omega
        have h2 : (0 : Int) ≤ (i : Int) := by omega
        have h3 : IntKind.i64.wrap ((i : Int) + 1) = ((i + 1 : Nat) : Int) := by rw [wrap_i64 (by omega) (by omega)]; omega
        have hsub := sub_nums (k := .u8) (l := p) (i := i) (by omega)
        have hyU := hpU (p.getD i 0) (by simp [List.getD, show i < p.length by omega])
        have htd := Dig_take (l := p) (i := i) (by omega)
        have hts := sval_take (l := p) (i := i) (by omega)
        have hlt := sval_lt hdi
        rw [List.length_take, hpl, Nat.min_eq_left (by omega)] at hlt
        have h99 := hx90 i (by omega)
        have hps : 10 ^ (i + 1) = 10 * 10 ^ i := by rw [Nat.pow_succ, Nat.mul_comm]
        generalize p.getD i 0 = y at *
        have bad : ¬ (48 ≤ y ∧ y ≤ 57) → b = false := fun h => hfalse (fun hr => h (by
          have : Dig (l.take (j + n)) := fun z hz => hr.1 z (List.mem_of_mem_take hz)
          rw [htk, Dig_app] at this
          exact (htd.1 (fun z hz => this.2 z (List.mem_of_mem_take hz))).2))
        by_cases y1 : y < 48
        · have hbf := bad (by omega)
          subst hbf
          simp only [b150_1, us32, go_sem, FL, h1, h2, Int.toNat_natCast, hsub, y1]
          simp only [i150, OT, reduceIte, Nat.reduceEqDiff, sub, FL, List.length_cons, List.length_nil, Nat.le_refl, us32, if_false, Bool.false_eq_true, limG_zero]
          rfl
        · by_cases y2 : 57 < y
          · have hbf := bad (by omega)
            subst hbf
            simp only [b150_1, us32, go_sem, FL, h1, h2, Int.toNat_natCast, hsub, y1, y2]
            simp only [i150, OT, reduceIte, Nat.reduceEqDiff, sub, FL, List.length_cons, List.length_nil, Nat.le_refl, us32, if_false, Bool.false_eq_true, limG_zero]
            rfl
          · have w1 : IntKind.u8.wrap (y - 48) = (((y - 48).toNat : Nat) : Int) := by
              simp only [IntKind.wrap, IntKind.bits, IntKind.signed]
              simp
              omega
            have w2 : IntKind.u64.wrap (((y - 48).toNat : Nat) : Int) = (((y - 48).toNat : Nat) : Int) := wrap_u64 (by omega) (by omega)
            have w3 : IntKind.u64.wrap (10 * ((sval (p.take i) : Nat) : Int)) = ((10 * sval (p.take i) : Nat) : Int) := by rw [wrap_u64 (by omega) (by omega)]; omega
            have w4 : IntKind.u64.wrap (((10 * sval (p.take i) : Nat) : Int) + (((y - 48).toNat : Nat) : Int)) = ((sval (p.take (i + 1)) : Nat) : Int) := by rw [hts, wrap_u64 (by omega) (by omega)]; omega
            have w5 : IntKind.u64.wrap (10 * ((10 ^ i : Nat) : Int)) = ((10 ^ (i + 1) : Nat) : Int) := by rw [hps, wrap_u64 (by omega) (by omega)]; omega
            simp only [b150_1, us32, go_sem, h1, h2, h3, Int.toNat_natCast, hsub, y1, y2, w1, w2, w3, w4, w5]
            exact loopQ_go rfl (n - (i + 1)) (by omega) ⟨i + 1, by omega, rfl, htd.2 ⟨hdi, by omega, by omega⟩, rfl⟩
      · have h1 : ¬ (i : Int) < (n : Int) := by omega
        obtain rfl : i = n := by omega
        rw [List.take_of_length_le (by omega)] at hdi
        have hps : p.take p.length = p := List.take_length
        have hlt := sval_lt hdi
        rw [hpl] at hlt
        have h99 := hx90 i (by omega)
        have hdn : Dig (l.take (j + i)) := by rw [htk, Dig_app]; exact ⟨hd, hdi⟩
        have hln := hlim _ hdn
        have h90s := c149_nat (E := E) (n := 10 ^ i) (by omega)
        have h90x := c149_nat (E := E) (n := sval p) (by omega)
        have hv1 : sval (l.take j) * 10 ^ i < lim2000 := by omega
        have hl1 := lim2000_limbs hv1
        have hl2 : (limG (sval p)).length ≤ 2 := limG_len (by omega)
        have hl3 : (limG (10 ^ i)).length ≤ 2 := limG_len (by omega)
        have hl4 := lim2000_limbs (hlim _ hd)
        have h133 := c158_ok (E := E) (a := sval (l.take j)) (b := 10 ^ i) (by omega) (by omega)
        have h134 := c176_ok (E := E) (a := sval (l.take j) * 10 ^ i) (b := sval p) (by omega) (by omega)
        rw [← hsv] at h134
        have ht : p.take i = p := List.take_of_length_le (by omega)
        simp only [natC] at h90s h90x h133 h134
        simp only [us32] at h90s h90x h133 h134
        simp only [b150_1, k150_0, us32, go_sem, subB1, subT1, h1, ht, Int.toNat_natCast]
        refine goP h90s ?_
        simp only [us32, go_sem, subB1, subT1]
        refine goF h133 ?_
        simp only [us32, go_sem, subB1, subT1]
        refine goP h90x ?_
        simp only [us32, go_sem, subB1, subT1]
        refine goP h134 ?_
        simp only [us32, go_sem, FL, subB1, subT1, bs_size, hdl, g2, g3, Int.toNat_natCast, hex2]
        exact loopQ_go rfl (l.length - (j + i)) (by omega) ⟨j + i, _, _, by omega, rfl, hdn, .inr rfl, rfl⟩
  · have g1 : ¬ (0 : Int) < ((l.length - j : Nat) : Int) := by omega
    obtain rfl : j = l.length := by omega
    rw [List.take_length] at hd hc
    have hbt : b = true := hb.2 ⟨hd, by
      rcases Nat.eq_zero_or_pos l.length with h | h
      · exact absurd (List.length_eq_zero_iff.1 h) h0
      · exact h, by omega⟩
    subst hbt
    rcases hc with ⟨rfl, rfl, hv⟩ | rfl
    · simp only [b150_0, k150_1, us32, go_sem, bs_size, hdl, g1, subB1, subT1, FL]
      simp only [i150, OT, reduceIte, Nat.reduceEqDiff, sub, FL, List.length_cons, List.length_nil, Nat.le_refl, us32, if_true, hv, limG_zero]
      rfl
    · simp only [b150_0, k150_1, us32, go_sem, bs_size, hdl, g1, subB1, subT1, FL]
      simp only [i150, OT, reduceIte, Nat.reduceEqDiff, sub, FL, List.length_cons, List.length_nil, Nat.le_refl, us32, if_true]
end
def ratG (n : Bool) (p q : Nat) : List AV := [us32 (limG p), .bool n, us32 (limG q)]
def numG (n : Bool) (p q : Nat) : List AV := [.bool n, .str (dec p), .str (dec q)]
def dn (q : Nat) : Nat := if q = 0 then 1 else q
section
variable {E : CallRel}
theorem c154_nat {n : Nat} : Go.V.Call tab E 154 [natC n] [] (.bool (decide (n = 0))) [] := by
  have h := c154_ok (E := E) (l := limG n)
  by_cases h0 : n = 0
  · subst h0
    rw [limG_zero] at h
    rw [natC, limG_zero, decide_eq_true rfl]
    exact h
  · have : (((limG n).length : Int) == 0) = false := by
      rw [beq_eq_false_iff_ne]
      intro h1
      exact h0 (limG_len0 (by omega))
    rw [this] at h
    rw [decide_eq_false h0]
    exact h
theorem c137_gen {n : Bool} {p : Nat} : Go.V.Call tab E 137 [.agg [us32 (limG p), .bool n]] [] (.bool n) [] := by
  refine Go.V.Call.mach i137 c137 rfl rfl rfl rfl ?_
  simp only [c137, us32, go_sem, sub, FL]
  simp only [i137, OT, reduceIte, Nat.reduceEqDiff]
theorem c156_gen {n : Bool} {p : Nat} : Go.V.Call tab E 156 [.agg [us32 (limG p), .bool n]] [] (natC p) [] := by
  refine Go.V.Call.mach i156 c156 rfl rfl rfl rfl ?_
  simp only [c156, natC, us32, go_sem, sub, FL]
  simp only [i156, OT, reduceIte, Nat.reduceEqDiff, sub, FL, List.length_cons, List.length_nil, Nat.le_refl, us32]
theorem c126_gen {n : Bool} {p q : Nat} : Go.V.Call tab E 126 [.agg (ratG n p q)] [] (natC (dn q)) [] := by
  refine Go.V.Call.mach i126 c126 rfl rfl rfl rfl ?_
  have h124 := c154_nat (E := E) (n := q)
  simp only [natC, us32] at h124
  simp only [c126, natC, ratG, us32, go_sem, sub, FL]
  refine goP h124 ?_
  by_cases h : q = 0
  · subst h
    have h90 := c149_nat (E := E) (n := 1) (by omega)
    simp only [natC, us32] at h90
    simp only [dn, us32, go_sem, sub, FL]
    refine goP h90 ?_
    simp only [us32, go_sem, sub, FL]
    simp only [i126, OT, reduceIte, Nat.reduceEqDiff, sub, FL, List.length_cons, List.length_nil, Nat.le_refl, us32]
  · simp only [dn, us32, go_sem, sub, FL, h]
    simp only [i126, OT, reduceIte, Nat.reduceEqDiff, sub, FL, List.length_cons, List.length_nil, Nat.le_refl, us32]
theorem dgs_small {n : Nat} (h : n < lim2000) : (dgs n).length ≤ 1000000 := by
  by_cases h0 : n = 0
  · subst h0; rw [dgs_zero]; simp
  · have := lim2000_len h
    unfold decL at this
    rw [if_neg h0, List.length_reverse, asc_len] at this
    omega
theorem c138_lim {n : Nat} (h : n < lim2000) : Go.V.Call tab E 138 [natC n] [] (.str (dec n)) [] :=
  c138_ok (Nat.le_trans (lim2000_limbs h) (by omega)) (dgs_small h)
theorem c87_gen {n : Bool} {p q : Nat} (hp : p < lim2000) (hq : dn q < lim2000) : Go.V.Call tab E 87 [.agg (ratG n p q)] [] (.agg (numG n p (dn q))) [] := by
  have h99 := c138_lim (E := E) hp
  have h991 := c138_lim (E := E) hq
  have h98 := c137_gen (E := E) (n := n) (p := p)
  have h100 := c126_gen (E := E) (n := n) (p := p) (q := q)
  simp only [natC, us32, ratG] at h99 h991 h98 h100
  refine Go.V.Call.mach i87 c87 rfl rfl rfl rfl ?_
  simp only [c87, ratG, us32, go_sem, sub, FL]
  refine goP h98 ?_
  simp only [us32, go_sem, sub, FL]
  refine goP h99 ?_
  simp only [us32, go_sem, sub, FL]
  refine goP h100 ?_
  simp only [us32, go_sem, sub, FL]
  refine goP h991 ?_
  simp only [us32, go_sem, sub, FL]
  simp only [i87, OT, reduceIte, Nat.reduceEqDiff, sub, FL, List.length_cons, List.length_nil, Nat.le_refl, numG]
theorem c151_ok {n : Bool} {p : Nat} : Go.V.Call tab E 151 [.bool n, natC p] [] (.agg [us32 (limG p), .bool (n && decide (p ≠ 0))]) [] := by
  refine Go.V.Call.mach i151 c151 rfl rfl rfl rfl ?_
  have h124 := c154_nat (E := E) (n := p)
  simp only [natC, us32] at h124
  cases n with
  | false =>
    simp only [c151, natC, us32, go_sem, sub, FL]
    simp only [i151, OT, reduceIte, Nat.reduceEqDiff, sub, FL, List.length_cons, List.length_nil, Nat.le_refl, us32, Bool.false_and]
  | true =>
    simp only [c151, natC, us32, go_sem, sub, FL]
    refine goP h124 ?_
    by_cases h : p = 0
    · subst h
      simp only [us32, go_sem, sub, FL]
      simp only [i151, OT, reduceIte, Nat.reduceEqDiff, sub, FL, List.length_cons, List.length_nil, Nat.le_refl, us32, Bool.true_and, decide_false, not_true_eq_false, ne_eq]
    · simp only [us32, go_sem, sub, FL, h]
      simp only [i151, OT, reduceIte, Nat.reduceEqDiff, sub, FL, List.length_cons, List.length_nil, Nat.le_refl, us32, Bool.true_and, decide_true, h, not_false_eq_true, ne_eq]
theorem c127_ok {n1 n2 : Bool} {p q : Nat} (hq : q ≠ 0) (hpl : (limG p).length ≤ 1000000) (hql : (limG q).length ≤ 1000000) :
    Go.V.Call tab E 127 [.agg [us32 (limG p), .bool n1], .agg [us32 (limG q), .bool n2]] [] (.tup [.agg (ratG ((n1 != n2) && decide (p / Nat.gcd p q ≠ 0)) (p / Nat.gcd p q) (q / Nat.gcd p q)), .bool true]) [] := by
  refine Go.V.Call.mach i127 c127 rfl rfl rfl rfl ?_
  have h124 := c154_nat (E := E) (n := q)
  rw [decide_eq_false hq] at h124
  have h136 := c156_gen (E := E) (n := n2) (p := q)
  have h135 := c155_ok (E := E) hpl hql
  have hg0 : Nat.gcd p q ≠ 0 := fun h => hq (Nat.eq_zero_of_gcd_eq_zero_right h)
  have hgl : (limG (Nat.gcd p q)).length ≤ 1000000 := by
    have := limG_mono (Nat.gcd_le_right p (Nat.pos_of_ne_zero hq))
    omega
  have h137p := c157_ok (E := E) hpl hgl hg0
  have h137q := c157_ok (E := E) hql hgl hg0
  generalize Nat.gcd p q = g at *
  have h981 := c137_gen (E := E) (n := n1) (p := p)
  have h982 := c137_gen (E := E) (n := n2) (p := q)
  have h118 := c151_ok (E := E) (n := n1 != n2) (p := p / g)
  generalize p / g = x at *
  generalize q / g = y at *
  simp only [natC, us32] at h124 h136 h135 h137p h137q h981 h982 h118
  have hb : boolV .ne (.bool n1) (.bool n2) = some (.bool (n1 != n2)) := by cases n1 <;> cases n2 <;> rfl
  simp only [c127, natC, us32, go_sem, sub, FL]
  refine goP h124 ?_
  simp only [us32, go_sem, sub, FL]
  refine goP h136 ?_
  simp only [us32, go_sem, sub, FL]
  refine goP h135 ?_
  simp only [us32, go_sem, sub, FL]
  refine goF h137p ?_
  simp only [us32, go_sem, sub, FL]
  refine goF h137q ?_
  simp only [us32, go_sem, sub, FL]
  refine goP h981 ?_
  simp only [us32, go_sem, sub, FL]
  refine goP h982 ?_
  simp only [us32, go_sem, sub, FL, hb]
  refine goF h118 ?_
  simp only [us32, go_sem, sub, FL]
  simp only [i127, OT, reduceIte, Nat.reduceEqDiff, sub, FL, List.length_cons, List.length_nil, Nat.le_refl, ratG, us32]
theorem c127_zero {n1 n2 : Bool} {p : Nat} : Go.V.Call tab E 127 [.agg [us32 (limG p), .bool n1], .agg [us32 (limG 0), .bool n2]] [] (.tup [.agg (ratG false 0 0), .bool false]) [] := by
  have h124 := c154_nat (E := E) (n := 0)
  rw [decide_eq_true rfl] at h124
  simp only [natC, us32, limG_zero] at h124
  simp only [ratG, us32, limG_zero]
  refine Go.V.Call.mach i127 c127 rfl rfl rfl rfl ?_
  simp only [c127, natC, us32, go_sem, sub, FL]
  refine goP h124 ?_
  simp only [us32, go_sem, sub, FL]
  simp only [i127, OT, reduceIte, Nat.reduceEqDiff, sub, FL, List.length_cons, List.length_nil, Nat.le_refl, ratG, us32]
  rfl
def RightN (n : Bool) (a b : List Int) : Prop := RightS a ∧ RightS b ∧ trimS a = a ∧ trimS b = b ∧ b ≠ [48] ∧ Nat.gcd (sval a) (sval b) = 1 ∧ ¬ (n = true ∧ a = [48])
theorem right_dec {a : List Int} (h : RightS a) (ht : trimS a = a) : bs a = dec (sval a) := by
  rw [dec_eq, ← trimS_dec h.1 (fun h0 => by have := h.2.1; rw [h0] at this; simp at this), ht]
theorem right_zero {a : List Int} (h : RightS a) (ht : trimS a = a) : sval a = 0 ↔ a = [48] := by
  have h1 : a = decL (sval a) := by
    rw [← trimS_dec h.1 (fun h0 => by have := h.2.1; rw [h0] at this; simp at this), ht]
  refine ⟨fun h0 => ?_, fun h0 => by rw [h0]; rfl⟩
  rw [h1, h0]
  rfl
theorem trim_decL (n : Nat) : trimS (decL n) = decL n := by rw [trimS_dec (decL_dig n) (decL_ne n), sval_decL]
theorem str_eq' {a b : List Int} (ha : U8 a) (hb : U8 b) : strOp .eq (bs a) (bs b) = some (.bool (decide (a = b))) := by simp only [strOp, str_eq ha hb]
theorem str_ne' {a b : List Int} (ha : U8 a) (hb : U8 b) : strOp .ne (bs a) (bs b) = some (.bool (!decide (a = b))) := by simp only [strOp, str_eq ha hb]
theorem U8_48 {x : Int} (h : 0 ≤ x ∧ x < 256) : U8 [x] := fun y hy => by simp at hy; omega
theorem trimS_u8 {l : List Int} (h : U8 l) : U8 (trimS l) := by
  induction l with
  | nil => exact h
  | cons x l ih =>
    cases l with
    | nil => exact h
    | cons y l =>
      rw [trimS]
      split
      · exact ih (U8_cons.1 h).2
      · exact h
theorem c106_ok {n ok : Bool} {a b : List Int} (ha : U8 a) (hb : U8 b) (hal : a.length ≤ 1000000000) (hbl : b.length ≤ 1000000000) (hok : ok = true ↔ RightN n a b) :
    Go.V.Call tab E 106 [.agg [.bool n, .str (bs a), .str (bs b)]] [] (.bool ok) [] := by
  refine Go.V.Call.mach i106 c106 rfl rfl rfl rfl ?_
  have hfalse : ¬ RightN n a b → ok = false := fun h => by rw [← Bool.not_eq_true, hok]; exact h
  have e48 : (⟨#[48]⟩ : ByteArray) = bs [48] := rfl
  have e49 : (⟨#[49]⟩ : ByteArray) = bs [49] := rfl
  by_cases hRa : RightS a
  · have h119a := c145_ok (E := E) (b := true) ha hal ⟨fun _ => hRa, fun _ => rfl⟩
    by_cases hRb : RightS b
    · have h119b := c145_ok (E := E) (b := true) hb hbl ⟨fun _ => hRb, fun _ => rfl⟩
      have h120a := c146_S (E := E) ha hal
      have h120b := c146_S (E := E) hb hbl
      have na := str_ne' (trimS_u8 ha) ha
      have nb := str_ne' (trimS_u8 hb) hb
      have eb := str_eq' hb (U8_48 (x := 48) (by omega))
      have ea := str_eq' ha (U8_48 (x := 48) (by omega))
      rw [← e48] at eb ea
      by_cases hta : trimS a = a
      · by_cases htb : trimS b = b
        · by_cases hb48 : b = [48]
          · have := hfalse (fun h => h.2.2.2.2.1 hb48)
            subst this
            rw [decide_eq_true hta, Bool.not_true] at na
            rw [decide_eq_true htb, Bool.not_true] at nb
            rw [decide_eq_true hb48] at eb
            simp only [c106, go_sem, sub, FL]
            refine goP h119a ?_
            simp only [go_sem, sub, FL]
            refine goP h119b ?_
            simp only [go_sem, sub, FL]
            refine goP h120a ?_
            simp only [go_sem, sub, FL, na]
            refine goP h120b ?_
            simp only [go_sem, sub, FL, nb, eb]
            simp only [i106, OT, reduceIte, Nat.reduceEqDiff]
          · have h121 := c147_ok (E := E) (a := sval a) (b := sval b) (Right_lim hRa) (Right_lim hRb)
            rw [← right_dec hRa hta, ← right_dec hRb htb, dec_eq] at h121
            have eg := str_eq' (decL_dig (Nat.gcd (sval a) (sval b))).u8 (U8_48 (x := 49) (by omega))
            rw [← e49] at eg
            have hg1 : decL (Nat.gcd (sval a) (sval b)) = [49] ↔ Nat.gcd (sval a) (sval b) = 1 := ⟨fun h => by rw [← sval_decL (Nat.gcd _ _), h]; rfl, fun h => by rw [h, decL_digit (by omega)]; rfl⟩
            rw [decide_eq_true hta, Bool.not_true] at na
            rw [decide_eq_true htb, Bool.not_true] at nb
            rw [decide_eq_false hb48] at eb
            have fin : ok = (decide (decL (Nat.gcd (sval a) (sval b)) = [49]) && !(n && decide (a = [48]))) := by
              rw [Bool.eq_iff_iff, hok]
              simp only [RightN, Bool.and_eq_true, decide_eq_true_eq, Bool.not_eq_true', Bool.and_eq_false_iff, decide_eq_false_iff_not, hg1]
              constructor
              · rintro ⟨_, _, _, _, _, h6, h7⟩
                refine ⟨h6, ?_⟩
                cases n with
                | false => exact .inl rfl
                | true => exact .inr (fun h => h7 ⟨rfl, h⟩)
              · rintro ⟨h6, h7⟩
                refine ⟨hRa, hRb, hta, htb, hb48, h6, ?_⟩
                rintro ⟨rfl, h8⟩
                rcases h7 with h7 | h7
                · cases h7
                · exact h7 h8
            simp only [c106, go_sem, sub, FL]
            refine goP h119a ?_
            simp only [go_sem, sub, FL]
            refine goP h119b ?_
            simp only [go_sem, sub, FL]
            refine goP h120a ?_
            simp only [go_sem, sub, FL, na]
            refine goP h120b ?_
            simp only [go_sem, sub, FL, nb, eb]
            refine goP h121 ?_
            subst fin
            by_cases hg : decL (Nat.gcd (sval a) (sval b)) = [49]
            · rw [decide_eq_true hg] at eg ⊢
              cases n with
              | false =>
                simp only [go_sem, sub, FL, eg]
                simp only [i106, OT, reduceIte, Nat.reduceEqDiff, Bool.false_and, Bool.not_false, Bool.true_and]
              | true =>
                cases hd : decide (a = [48])
                · rw [hd] at ea
                  simp only [go_sem, sub, FL, eg, ea]
                  simp only [i106, OT, reduceIte, Nat.reduceEqDiff, Bool.true_and, Bool.not_false]
                · rw [hd] at ea
                  simp only [go_sem, sub, FL, eg, ea]
                  simp only [i106, OT, reduceIte, Nat.reduceEqDiff, Bool.true_and, Bool.not_true]
            · rw [decide_eq_false hg] at eg ⊢
              simp only [go_sem, sub, FL, eg]
              simp only [i106, OT, reduceIte, Nat.reduceEqDiff, Bool.false_and]
        · have := hfalse (fun h => htb h.2.2.2.1)
          subst this
          rw [decide_eq_true hta, Bool.not_true] at na
          rw [decide_eq_false htb, Bool.not_false] at nb
          simp only [c106, go_sem, sub, FL]
          refine goP h119a ?_
          simp only [go_sem, sub, FL]
          refine goP h119b ?_
          simp only [go_sem, sub, FL]
          refine goP h120a ?_
          simp only [go_sem, sub, FL, na]
          refine goP h120b ?_
          simp only [go_sem, sub, FL, nb]
          simp only [i106, OT, reduceIte, Nat.reduceEqDiff]
      · have := hfalse (fun h => hta h.2.2.1)
        subst this
        rw [decide_eq_false hta, Bool.not_false] at na
        simp only [c106, go_sem, sub, FL]
        refine goP h119a ?_
        simp only [go_sem, sub, FL]
        refine goP h119b ?_
        simp only [go_sem, sub, FL]
        refine goP h120a ?_
        simp only [go_sem, sub, FL, na]
        simp only [i106, OT, reduceIte, Nat.reduceEqDiff]
    · have h119b := c145_ok (E := E) (b := false) hb hbl ⟨fun h => (by cases h), fun h => absurd h hRb⟩
      have := hfalse (fun h => hRb h.2.1)
      subst this
      simp only [c106, go_sem, sub, FL]
      refine goP h119a ?_
      simp only [go_sem, sub, FL]
      refine goP h119b ?_
      simp only [go_sem, sub, FL]
      simp only [i106, OT, reduceIte, Nat.reduceEqDiff]
  · have h119a := c145_ok (E := E) (b := false) ha hal ⟨fun h => (by cases h), fun h => absurd h hRa⟩
    have := hfalse (fun h => hRa h.1)
    subst this
    simp only [c106, go_sem, sub, FL]
    refine goP h119a ?_
    simp only [go_sem, sub, FL]
    simp only [i106, OT, reduceIte, Nat.reduceEqDiff]
end
end Go.Proofs.YtlejgleocnemoaaGreat.I

namespace Go.Proofs.YtlejgleocnemoaaGreat.I
open Go Go.V
attribute [local go_sem_proc ↓] reduceIte
attribute [local go_sem_proc] Nat.reduceEqDiff Nat.reduceAdd Nat.reduceMul Nat.reduceLeDiff Nat.reduceLT Int.reduceToNat Int.reduceLT Int.reduceLE reduceCtorEq Nat.reduceBEq
attribute [local go_sem] mNil nat0 beq_self_eq_true mSkip mRet mExit mReg mSeq mCond mTrue mFalse mBlock mLv mCodeE mCodeR mEndN mEndR mEndE mOps mSome mGuard mGtt mGff mGtf mGft mGu mCallP mCallR mCallF mCallO mCallZ mCallG mCallM mCallV loopQ_exit loopQ_ret mO_mov mO_newnil mO_pick mO_alloc mO_box mO_build mO_bsl mO_bslF mO_newnilB mO_bslB mO_lenB mO_appB mO_allocA mO_bslA mO_appA mO_ldb mO_faddrb mRsv mO_ldf mO_ld mO_st mO_sta mO_nilchk mO_bin mO_binb mO_binp mO_bins mO_neg mO_com mO_not mO_conv mO_mk mO_mk0 mO_mkB mO_s2b mO_b2s mO_cpy mO_cut mO_faddr mO_fld mO_iaddr mO_iaddrf mO_sidx mO_len mO_lenf mO_slen mO_scut mO_app mO_ext mO_mx mO_mn mO_mkfn evalOp cutOp argsE ev getE putE cellsOf adopt rowOf binV boolV nilV ar_add ar_sub ar_mul ar_quo ar_rem ar_eq ar_ne ar_lt ar_le ar_gt ar_ge ar_and ar_or ar_xor geto bound finRet finNrm ints List.length_cons List.length_nil List.length_append List.getElem?_cons_zero List.getElem?_cons_succ List.nil_append List.cons_append List.map_cons List.map_nil List.mapM_cons List.mapM_nil Option.map_some Option.map_none Option.bind_some Option.pure_def Option.bind_eq_bind List.drop_zero or_self or_false false_or or_true true_or true_and and_true and_self decide_true decide_false Bool.false_eq_true Bool.true_eq_false Bool.not_true Bool.not_false Nat.le_refl eq_self gt_iff_lt ge_iff_le ne_eq not_true_eq_false not_false_eq_true
section
variable {E : CallRel}
theorem max1 {d : Int} : max 1 d = if 1 ≤ d then d else 1 := by rw [Int.max_def]
theorem mul_bound {a b A B : Int} (h1 : 0 ≤ a) (h2 : a ≤ A) (h3 : 0 ≤ b) (h4 : b ≤ B) : 0 ≤ a * b ∧ a * b ≤ A * B :=
  ⟨Int.mul_nonneg h1 h3, Int.mul_le_mul h2 h4 h3 (by omega)⟩
theorem c78_ok {s : List Int} (hs : ∀ d ∈ s, In64 d) (hl : (s.length : Int) ≤ 9223372036854775806) : Go.V.Call tab E 78 [ints s] [] (optP (count s)) [] := by
  refine Go.V.Call.mach i78 c78 rfl rfl rfl rfl ?_
  simp only [c78, go_sem]
  refine mLoop (fun N st => ∃ (k : Nat) (most n : Int), k ≤ s.length ∧ k ≤ 8 ∧ N = s.length - k ∧ 1 ≤ most ∧ most ≤ 4096 ∧ 0 ≤ n ∧ n ≤ most ∧ cnt 1 1 s = cnt most n (s.drop k) ∧
    st = ⟨[(0, ints s), (4, .int .i64 most), (5, .int .i64 n), (6, .int .i64 k)], []⟩) s.length ⟨_, rfl, 0, 1, 1, by omega, by omega, by omega, by omega, by omega, by omega, by omega, by simp, rfl⟩ ?_
  rintro N s0 ⟨k, most, n, hk, hk8, rfl, h1, h2, h3, h4, h5, rfl⟩
  by_cases hlt : k < s.length
  · have hlt' : (k : Int) < (s.length : Int) := by omega
    have hk0 : (0 : Int) ≤ (k : Int) := by omega
    have hk1 : IntKind.i64.wrap ((k : Int) + 1) = ((k + 1 : Nat) : Int) := by rw [wrap_i64 (by omega) (by omega)]; omega
    have hd := getD_in hs hlt
    rw [getD_drop hlt] at h5
    have hsub := sub_nums (k := .i64) hlt
    generalize s.getD k 0 = d at *
    by_cases he8 : 8 ≤ k
    · have he8' : (8 : Int) ≤ (k : Int) := by omega
      have : count s = none := by rw [count, if_pos (by omega)]
      simp only [b78_0, go_sem, hlt', he8']
      simp only [i78, OT, reduceIte, Nat.reduceEqDiff, this, optP]
    · have he8' : ¬ (8 : Int) ≤ (k : Int) := by omega
      have none_of : (d < 0 ∨ 4096 < most * max 1 d) → count s = none := by
        intro h
        rw [count, h5, cnt, if_pos h]
        split <;> rfl
      by_cases hneg : d < 0
      · simp only [b78_0, go_sem, hlt', he8', hk0, Int.toNat_natCast, hsub, hneg]
        simp only [i78, OT, reduceIte, Nat.reduceEqDiff, none_of (.inl hneg), optP]
      · by_cases hbig : 4096 < d
        · have : count s = none := none_of (.inr (by
            rw [max1, if_pos (by omega)]
            have := Int.mul_le_mul_of_nonneg_right (a := 1) (b := most) (c := d) h1 (by omega)
            omega))
          simp only [b78_0, go_sem, hlt', he8', hk0, Int.toNat_natCast, hsub, hneg, hbig]
          simp only [i78, OT, reduceIte, Nat.reduceEqDiff, this, optP]
        · have hnd := mul_bound h3 (Int.le_trans h4 h2) (show 0 ≤ d by omega) (show d ≤ 4096 by omega)
          have hmd := mul_bound (show 0 ≤ most by omega) h2 (show 0 ≤ d by omega) (show d ≤ 4096 by omega)
          have hw1 : IntKind.i64.wrap (n * d) = n * d := wrap_i64 (by omega) (by omega)
          have hw2 : IntKind.i64.wrap (most * d) = most * d := wrap_i64 (by omega) (by omega)
          by_cases hpos : 0 < d
          · have hm : most * max 1 d = most * d := by rw [max1, if_pos (by omega)]
            by_cases hov : 4096 < most * d
            · simp only [b78_0, go_sem, hlt', he8', hk0, Int.toNat_natCast, hsub, hneg, hbig, hw1, hw2, hpos, hov]
              simp only [i78, OT, reduceIte, Nat.reduceEqDiff, none_of (.inr (by rw [hm]; exact hov)), optP]
            · have g1 : 1 ≤ most * d := by
                have := Int.mul_le_mul_of_nonneg_left (a := 1) (b := d) (c := most) (by omega) (by omega)
                omega
              have g2 : n * d ≤ most * d := Int.mul_le_mul_of_nonneg_right h4 (by omega)
              have g3 : cnt 1 1 s = cnt (most * d) (n * d) (s.drop (k + 1)) := by rw [h5, cnt, if_neg (by rw [hm]; omega), hm]
              simp only [b78_0, go_sem, hlt', he8', hk0, Int.toNat_natCast, hsub, hneg, hbig, hw1, hw2, hpos, hov, hk1]
              exact loopQ_go rfl (s.length - (k + 1)) (by omega) ⟨k + 1, most * d, n * d, by omega, by omega, rfl, g1, by omega, hnd.1, g2, g3, rfl⟩
          · obtain rfl : d = 0 := by omega
            have g3 : cnt 1 1 s = cnt most 0 (s.drop (k + 1)) := by rw [h5, cnt, if_neg (by rw [max1]; simp; omega)]; simp [max1]
            have hnov : ¬ 4096 < most := by omega
            simp only [b78_0, go_sem, hlt', he8', hk0, Int.toNat_natCast, hsub, hneg, hbig, hw1, hw2, hpos, hnov, hk1]
            exact loopQ_go rfl (s.length - (k + 1)) (by omega) ⟨k + 1, most, n * 0, by omega, by omega, rfl, h1, h2, by simp, by simp; omega, by simpa using g3, rfl⟩
  · have hlt' : ¬ (k : Int) < (s.length : Int) := by omega
    obtain rfl : k = s.length := by omega
    have : count s = some n := by rw [count, if_neg (by omega), h5, List.drop_length, cnt]
    simp only [b78_0, k78_0, go_sem, hlt']
    simp only [i78, OT, reduceIte, Nat.reduceEqDiff, this, optP]
end
section
variable {E : CallRel}
theorem c65_ok {s t : List Int} (hs : (s.length : Int) ≤ 1000000000000000) (ht : (t.length : Int) ≤ 1000000000000000) : Go.V.Call tab E 65 [ints s, ints t] [] (.bool (decide (s = t))) [] := by
  refine Go.V.Call.mach i65 c65 rfl rfl rfl rfl ?_
  by_cases hl : s.length = t.length
  · have hl' : (s.length : Int) = (t.length : Int) := by omega
    simp only [c65, go_sem, hl', bne_self_eq_false]
    refine mLoop (fun N st => ∃ (k : Nat), k ≤ s.length ∧ N = s.length - k ∧ s.take k = t.take k ∧
      st = ⟨[(0, ints s), (1, ints t), (5, .int .i64 k)], []⟩) s.length ⟨_, rfl, 0, by omega, by omega, by simp, rfl⟩ ?_
    rintro N s0 ⟨k, hk, rfl, hp, rfl⟩
    by_cases hlt : k < s.length
    · have hlt' : (k : Int) < (t.length : Int) := by omega
      have hlt2 : k < t.length := by omega
      have hk0 : (0 : Int) ≤ (k : Int) := by omega
      have hk1 : IntKind.i64.wrap ((k : Int) + 1) = ((k + 1 : Nat) : Int) := by rw [wrap_i64 (by omega) (by omega)]; omega
      have hsub := sub_nums (k := .i64) hlt
      have hsub2 := sub_nums (k := .i64) hlt2
      by_cases he : s.getD k 0 = t.getD k 0
      · simp only [b65_0, go_sem, hl', hlt', hk0, Int.toNat_natCast, hsub, hsub2, he, bne_self_eq_false, hk1]
        refine loopQ_go (rfl) (s.length - (k + 1)) (by omega) ⟨k + 1, by omega, rfl, ?_, rfl⟩
        rw [List.take_add_one, List.take_add_one, hp]
        congr 1
        have h1 : s[k]? = some (s.getD k 0) := by simp [List.getD, hlt]
        have h2 : t[k]? = some (t.getD k 0) := by simp [List.getD, hlt2]
        rw [h1, h2, he]
      · have he' : (s.getD k 0 != t.getD k 0) = true := by simpa using he
        have hne : s ≠ t := fun h => he (by rw [h])
        simp only [b65_0, go_sem, hl', hlt', hk0, Int.toNat_natCast, hsub, hsub2, he']
        simp only [i65, OT, reduceIte, Nat.reduceEqDiff, hne, decide_false]
    · have hlt' : ¬ (k : Int) < (t.length : Int) := by omega
      have heq : s = t := by
        rw [List.take_of_length_le (by omega), List.take_of_length_le (by omega)] at hp
        exact hp
      simp only [b65_0, k65_0, go_sem, hl', hlt']
      simp only [i65, OT, reduceIte, Nat.reduceEqDiff, heq, decide_true]
  · have hl' : ((s.length : Int) != (t.length : Int)) = true := by simp; omega
    have hne : s ≠ t := fun h => hl (by rw [h])
    simp only [c65, go_sem, hl']
    simp only [i65, OT, reduceIte, Nat.reduceEqDiff, hne, decide_false]
end
end Go.Proofs.YtlejgleocnemoaaGreat.I

namespace Go.Proofs.YtlejgleocnemoaaGreat.I
open Go Go.V
attribute [local go_sem] mNil nat0 beq_self_eq_true mSkip mRet mExit mReg mSeq mCond mTrue mFalse mBlock mLv mCodeE mCodeR mEndN mEndR mEndE mOps mSome mGuard mGtt mGff mGtf mGft mGu mCallP mCallR mCallF mCallO mCallZ mCallG mCallM mCallV loopQ_exit loopQ_ret mO_mov mO_newnil mO_pick mO_alloc mO_box mO_build mO_bsl mO_bslF mO_newnilB mO_bslB mO_lenB mO_appB mO_allocA mO_bslA mO_appA mO_ldb mO_faddrb mRsv mO_ldf mO_ld mO_st mO_sta mO_nilchk mO_bin mO_binb mO_binp mO_bins mO_neg mO_com mO_not mO_conv mO_mk mO_mk0 mO_mkB mO_s2b mO_b2s mO_cpy mO_cut mO_faddr mO_fld mO_iaddr mO_iaddrf mO_sidx mO_len mO_lenf mO_slen mO_scut mO_app mO_ext mO_mx mO_mn mO_mkfn evalOp cutOp argsE ev getE putE cellsOf adopt rowOf binV boolV nilV ar_add ar_sub ar_mul ar_quo ar_rem ar_eq ar_ne ar_lt ar_le ar_gt ar_ge ar_and ar_or ar_xor geto bound finRet finNrm ints List.length_cons List.length_nil List.length_append List.getElem?_cons_zero List.getElem?_cons_succ List.nil_append List.cons_append List.map_cons List.map_nil List.mapM_cons List.mapM_nil Option.map_some Option.map_none Option.bind_some Option.pure_def Option.bind_eq_bind List.drop_zero or_self or_false false_or or_true true_or true_and and_true and_self decide_true decide_false Bool.false_eq_true Bool.true_eq_false Bool.not_true Bool.not_false Nat.le_refl eq_self gt_iff_lt ge_iff_le ne_eq not_true_eq_false not_false_eq_true storeOp apartOf freeze_nil refsL refs List.flatMap_cons List.flatMap_nil List.append_nil List.contains_nil List.set_cons_zero List.set_cons_succ snap snapL fill_nums flat_nums nums_length Go.V.freeze List.mapIdx_cons List.mapIdx_nil List.contains_cons Bool.or_false Bool.false_or Bool.or_true Bool.true_or
def runes (t : List Int) : AV := .sl t.length 1 (nums .i32 t)
def arrG (s : List Int) (ch : Bool) (t l : List Int) : List AV := [ints s, .bool ch, runes t, .sl l.length 3 (ratsC l), .bool true]
def numsC (l : List Int) : List AV := l.flatMap numC
def plG (s : List Int) (ch : Bool) (t l : List Int) : List AV := [ints s, .bool ch, runes t, .sl l.length 3 (numsC l)]
def noA : List AV := [.sl 0 1 [], .bool false, .sl 0 1 [], .sl 0 3 [], .bool false]
theorem numsC_snoc {l : List Int} {z : Int} : numsC (l ++ [z]) = numsC l ++ numC z := by simp [numsC]
theorem beqBA {a : ByteArray} : (a == a) = true := by
  obtain ⟨⟨l⟩⟩ := a
  show ((⟨l⟩ : Array UInt8) == ⟨l⟩) = true
  simp
section
variable {E : CallRel}
end
end Go.Proofs.YtlejgleocnemoaaGreat.I

namespace Go.Proofs.YtlejgleocnemoaaGreat.I
open Go Go.V
attribute [local go_sem_proc ↓] reduceIte
attribute [local go_sem_proc] Nat.reduceEqDiff Nat.reduceAdd Nat.reduceMul Nat.reduceLeDiff Nat.reduceLT Int.reduceToNat Int.reduceLT Int.reduceLE reduceCtorEq Nat.reduceBEq
attribute [local go_sem] mNil nat0 beq_self_eq_true mSkip mRet mExit mReg mSeq mCond mTrue mFalse mBlock mLv mCodeE mCodeR mEndN mEndR mEndE mOps mSome mGuard mGtt mGff mGtf mGft mGu mCallP mCallR mCallF mCallO mCallZ mCallG mCallM mCallV loopQ_exit loopQ_ret mO_mov mO_newnil mO_pick mO_alloc mO_box mO_build mO_bsl mO_bslF mO_newnilB mO_bslB mO_lenB mO_appB mO_allocA mO_bslA mO_appA mO_ldb mO_faddrb mRsv mO_ldf mO_ld mO_st mO_sta mO_nilchk mO_bin mO_binb mO_binp mO_bins mO_neg mO_com mO_not mO_conv mO_mk mO_mk0 mO_mkB mO_s2b mO_b2s mO_cpy mO_cut mO_faddr mO_fld mO_iaddr mO_iaddrf mO_sidx mO_len mO_lenf mO_slen mO_scut mO_app mO_ext mO_mx mO_mn mO_mkfn evalOp cutOp argsE ev getE putE cellsOf adopt rowOf binV boolV nilV ar_add ar_sub ar_mul ar_quo ar_rem ar_eq ar_ne ar_lt ar_le ar_gt ar_ge ar_and ar_or ar_xor geto bound finRet finNrm ints List.length_cons List.length_nil List.length_append List.getElem?_cons_zero List.getElem?_cons_succ List.nil_append List.cons_append List.map_cons List.map_nil List.mapM_cons List.mapM_nil Option.map_some Option.map_none Option.bind_some Option.pure_def Option.bind_eq_bind List.drop_zero or_self or_false false_or or_true true_or true_and and_true and_self decide_true decide_false Bool.false_eq_true Bool.true_eq_false Bool.not_true Bool.not_false Nat.le_refl eq_self gt_iff_lt ge_iff_le ne_eq not_true_eq_false not_false_eq_true storeOp apartOf freeze_nil refsL refs List.flatMap_cons List.flatMap_nil List.append_nil List.contains_nil List.set_cons_zero List.set_cons_succ snap snapL fill_nums flat_nums nums_length Go.V.freeze List.mapIdx_cons List.mapIdx_nil List.contains_cons Bool.or_false Bool.false_or Bool.or_true Bool.true_or
theorem beq_bs {a b : List Int} (ha : U8 a) (hb : U8 b) : (bs a == bs b) = decide (a = b) := by
  by_cases h : a = b
  · subst h
    rw [beqBA, decide_eq_true rfl]
  · rw [decide_eq_false h]
    have h2 : u8l a ≠ u8l b := fun e => h (u8l_inj ha hb e)
    show (((u8l a).toArray : Array UInt8) == (u8l b).toArray) = false
    simpa using h2
theorem num_same {n m : Bool} {a b c d : List Int} (ha : U8 a) (hb : U8 b) (hc : U8 c) (hd : U8 d) :
    structV .eq [0, 2, 2] (.agg [.bool n, .str (bs a), .str (bs b)]) (.agg [.bool m, .str (bs c), .str (bs d)]) = some (.bool (decide (n = m ∧ a = c ∧ b = d))) := by
  have h1 : ([AV.bool n, AV.str (bs a), AV.str (bs b)]).map kindOf = [0, 2, 2] := rfl
  have h2 : ([AV.bool m, AV.str (bs c), AV.str (bs d)]).map kindOf = [0, 2, 2] := rfl
  simp only [structV, h1, h2, and_self, if_true, scalarsEq, scalEq, beq_bs ha hc, beq_bs hb hd]
  by_cases e1 : n = m
  · have : (n == m) = true := by rw [e1]; cases m <;> rfl
    rw [this]
    by_cases e2 : a = c
    · rw [decide_eq_true e2]
      by_cases e3 : b = d
      · rw [decide_eq_true e3]; simp [e1, e2, e3]
      · rw [decide_eq_false e3]; simp [e3]
    · rw [decide_eq_false e2]; simp [e2]
  · have : (n == m) = false := by revert e1; cases n <;> cases m <;> simp
    rw [this]; simp [e1]
section
variable {E : CallRel}
theorem c113_ok {n ok : Bool} {a b : List Int} (ha : U8 a) (hb : U8 b) (hal : a.length ≤ 1000000000) (hbl : b.length ≤ 1000000000) (hok : ok = true ↔ RightN n a b) :
    ∃ (n' : Bool) (p q : Nat), (ok = true → n' = n ∧ p = sval a ∧ q = sval b) ∧ Go.V.Call tab E 113 [.agg [.bool n, .str (bs a), .str (bs b)]] [] (.tup [.agg (ratG n' p q), .bool ok]) [] := by
  have hfalse : ¬ RightN n a b → ok = false := fun h => by rw [← Bool.not_eq_true, hok]; exact h
  have pa : ∀ b' : Bool, (b' = true ↔ RightS a) → _ := fun b' h => c150_ok (E := E) (b := b') ha hal h
  have pb : ∀ b' : Bool, (b' = true ↔ RightS b) → _ := fun b' h => c150_ok (E := E) (b := b') hb hbl h
  by_cases hRa : RightS a
  · have h116a := pa true ⟨fun _ => hRa, fun _ => rfl⟩
    by_cases hRb : RightS b
    · have h116b := pb true ⟨fun _ => hRb, fun _ => rfl⟩
      simp only [if_true] at h116a h116b
      have h118a := c151_ok (E := E) (n := n) (p := sval a)
      have h118b := c151_ok (E := E) (n := false) (p := sval b)
      have la := lim2000_limbs (Right_lim hRa)
      have lb := lim2000_limbs (Right_lim hRb)
      by_cases hq : sval b = 0
      · have := hfalse (fun h => h.2.2.2.2.1 ((right_zero hRb h.2.2.2.1).1 hq))
        subst this
        refine ⟨false, 0, 0, fun h => (by cases h), ?_⟩
        rw [hq] at h116b h118b
        have h117 := c127_zero (E := E) (n1 := n && decide (sval a ≠ 0)) (n2 := false && decide (0 ≠ 0)) (p := sval a)
        simp only [natC, us32, ratG] at h116a h116b h118a h118b h117 ⊢
        refine Go.V.Call.mach i113 c113 rfl rfl rfl rfl ?_
        simp only [c113, us32, go_sem, sub, FL]
        refine goP h116a ?_
        simp only [us32, go_sem, sub, FL]
        refine goP h116b ?_
        simp only [us32, go_sem, sub, FL]
        refine goF h118a ?_
        simp only [us32, go_sem, sub, FL]
        refine goF h118b ?_
        simp only [us32, go_sem, sub, FL]
        refine goP h117 ?_
        simp only [us32, go_sem, sub, FL, List.all_cons, List.all_nil, Nat.reduceBNe, Bool.and_true]
        simp only [i113, OT, reduceIte, Nat.reduceEqDiff, sub, FL, List.length_cons, List.length_nil, Nat.le_refl, us32]
      · have hqp := Nat.pos_of_ne_zero hq
        have h117 := c127_ok (E := E) (n1 := n && decide (sval a ≠ 0)) (n2 := false && decide (sval b ≠ 0)) (p := sval a) (q := sval b) hq (by omega) (by omega)
        have hgp : 0 < Nat.gcd (sval a) (sval b) := Nat.gcd_pos_of_pos_right _ hqp
        have hy0 : sval b / Nat.gcd (sval a) (sval b) ≠ 0 := by
          have h1 := Nat.gcd_le_right (sval a) hqp
          have := (Nat.div_pos h1 hgp)
          omega
        have hxl : sval a / Nat.gcd (sval a) (sval b) < lim2000 := Nat.lt_of_le_of_lt (Nat.div_le_self _ _) (Right_lim hRa)
        have hyl : sval b / Nat.gcd (sval a) (sval b) < lim2000 := Nat.lt_of_le_of_lt (Nat.div_le_self _ _) (Right_lim hRb)
        have hdn : dn (sval b / Nat.gcd (sval a) (sval b)) = sval b / Nat.gcd (sval a) (sval b) := by rw [dn, if_neg hy0]
        have hdiv1 : sval b / Nat.gcd (sval a) (sval b) = sval b → Nat.gcd (sval a) (sval b) = 1 := fun h => by
          rcases Nat.lt_or_ge 1 (Nat.gcd (sval a) (sval b)) with h1 | h1
          · have := Nat.div_lt_self hqp h1
            omega
          · omega
        refine ⟨((n && decide (sval a ≠ 0)) != (false && decide (sval b ≠ 0))) && decide (sval a / Nat.gcd (sval a) (sval b) ≠ 0), sval a / Nat.gcd (sval a) (sval b), sval b / Nat.gcd (sval a) (sval b), ?_, ?_⟩
        rotate_left
        · have h74 := c87_gen (E := E) (n := ((n && decide (sval a ≠ 0)) != (false && decide (sval b ≠ 0))) && decide (sval a / Nat.gcd (sval a) (sval b) ≠ 0)) hxl (by rw [hdn]; exact hyl)
          have hsame := num_same (n := ((n && decide (sval a ≠ 0)) != (false && decide (sval b ≠ 0))) && decide (sval a / Nat.gcd (sval a) (sval b) ≠ 0)) (m := n) (decL_dig (sval a / Nat.gcd (sval a) (sval b))).u8 (decL_dig (sval b / Nat.gcd (sval a) (sval b))).u8 ha hb
          have hokd : decide ((((n && decide (sval a ≠ 0)) != (false && decide (sval b ≠ 0))) && decide (sval a / Nat.gcd (sval a) (sval b) ≠ 0)) = n ∧ decL (sval a / Nat.gcd (sval a) (sval b)) = a ∧ decL (sval b / Nat.gcd (sval a) (sval b)) = b) = ok := by
            rw [Bool.eq_iff_iff, hok, decide_eq_true_eq]
            constructor
            · rintro ⟨e1, e2, e3⟩
              have s1 := congrArg sval e2
              rw [sval_decL] at s1
              have s2 := congrArg sval e3
              rw [sval_decL] at s2
              refine ⟨hRa, hRb, by rw [← e2]; exact trim_decL _, by rw [← e3]; exact trim_decL _, ?_, hdiv1 s2, ?_⟩
              · rintro rfl
                exact hq rfl
              · rintro ⟨rfl, rfl⟩
                have : sval [48] = 0 := rfl
                rw [this] at e1
                simp at e1
            · rintro ⟨_, _, t1, t2, _, g1, g2⟩
              rw [g1, Nat.div_one, Nat.div_one]
              refine ⟨?_, ?_, ?_⟩
              · cases n with
                | false => simp
                | true =>
                  have : sval a ≠ 0 := fun h => g2 ⟨rfl, (right_zero hRa t1).1 h⟩
                  simp [this]
              · rw [← trimS_dec hRa.1 (fun h0 => by have := hRa.2.1; rw [h0] at this; simp at this), t1]
              · rw [← trimS_dec hRb.1 (fun h0 => by have := hRb.2.1; rw [h0] at this; simp at this), t2]
          rw [hokd, ← dec_eq, ← dec_eq] at hsame
          rw [hdn] at h74
          simp only [natC, us32, ratG, numG] at h116a h116b h118a h118b h117 h74 ⊢
          refine Go.V.Call.mach i113 c113 rfl rfl rfl rfl ?_
          simp only [c113, us32, go_sem, sub, FL]
          refine goP h116a ?_
          simp only [us32, go_sem, sub, FL]
          refine goP h116b ?_
          simp only [us32, go_sem, sub, FL]
          refine goF h118a ?_
          simp only [us32, go_sem, sub, FL]
          refine goF h118b ?_
          simp only [us32, go_sem, sub, FL]
          refine goP h117 ?_
          simp only [us32, go_sem, sub, FL]
          refine goR h74 rfl ?_
          simp only [us32, go_sem, sub, FL, hsame, List.all_cons, List.all_nil, Nat.reduceBNe, Bool.and_true]
          simp only [i113, OT, reduceIte, Nat.reduceEqDiff, sub, FL, List.length_cons, List.length_nil, Nat.le_refl, us32]
        · intro ht
          obtain ⟨_, _, t1, t2, _, g1, g2⟩ := hok.1 ht
          rw [g1, Nat.div_one, Nat.div_one]
          refine ⟨?_, rfl, rfl⟩
          cases n with
          | false => simp
          | true =>
            have : sval a ≠ 0 := fun h => g2 ⟨rfl, (right_zero hRa t1).1 h⟩
            simp [this]
    · have h116b := pb false ⟨fun h => (by cases h), fun h => absurd h hRb⟩
      have := hfalse (fun h => hRb h.2.1)
      subst this
      refine ⟨false, 0, 0, fun h => (by cases h), ?_⟩
      simp only [if_true, if_false, Bool.false_eq_true] at h116a h116b
      simp only [natC, us32, ratG, limG_zero] at h116a h116b ⊢
      refine Go.V.Call.mach i113 c113 rfl rfl rfl rfl ?_
      simp only [c113, us32, go_sem, sub, FL]
      refine goP h116a ?_
      simp only [us32, go_sem, sub, FL]
      refine goP h116b ?_
      simp only [us32, go_sem, sub, FL]
      simp only [i113, OT, reduceIte, Nat.reduceEqDiff, sub, FL, List.length_cons, List.length_nil, Nat.le_refl, us32]
      rfl
  · have h116a := pa false ⟨fun h => (by cases h), fun h => absurd h hRa⟩
    have := hfalse (fun h => hRa h.1)
    subst this
    have h116b : ∃ (x : Nat) (t : Bool), Go.V.Call tab E 150 [.str (bs b)] [] (.tup [natC x, .bool t]) [] := by
      by_cases hRb : RightS b
      · exact ⟨_, _, pb true ⟨fun _ => hRb, fun _ => rfl⟩⟩
      · exact ⟨_, _, pb false ⟨fun h => (by cases h), fun h => absurd h hRb⟩⟩
    obtain ⟨x, t, h116b⟩ := h116b
    refine ⟨false, 0, 0, fun h => (by cases h), ?_⟩
    simp only [if_true, if_false, Bool.false_eq_true] at h116a
    simp only [natC, us32, ratG, limG_zero] at h116a h116b ⊢
    refine Go.V.Call.mach i113 c113 rfl rfl rfl rfl ?_
    simp only [c113, us32, go_sem, sub, FL]
    refine goP h116a ?_
    simp only [us32, go_sem, sub, FL]
    refine goP h116b ?_
    simp only [us32, go_sem, sub, FL]
    simp only [i113, OT, reduceIte, Nat.reduceEqDiff, sub, FL, List.length_cons, List.length_nil, Nat.le_refl, us32]
    rfl
end
theorem c112_ok {t : List Int} (ht : (t.length : Int) ≤ 1000000000000) : Go.V.Call tab E 112 [runes t] [] (.arr 0 0) [⟨false, 21, 1, 0, t.length, nums .i32 t, false⟩] := by
  refine ⟨0, ?_⟩
  have h1 : t.length * 4 ≤ 140737488355328 := by omega
  have h2 : t.length ≤ 140737488355328 := by omega
  simp only [CallN, E, ext, cloneOf, runes, h1, h2, and_self, if_true]
section
variable {E : CallRel}
theorem c55_no : Go.V.Call tab E 55 [.agg noA] [] (.int .i64 0) [] := by
  refine Go.V.Call.mach i55 c55 rfl rfl rfl rfl ?_
  have hw : IntKind.i64.wrap (0 + 0) = 0 := by decide
  simp only [c55, noA, go_sem, sub, FL, hw]
  simp only [i55, OT, reduceIte, Nat.reduceEqDiff]
end
theorem subP4 {a b c d : AV} : sub true 4 [a, b, c, d] 0 = some (.agg [a, b, c, d]) := rfl
theorem subP3 {a b c d : AV} : sub false 1 [a, b, c, d] (0 + 3) = some d := rfl
theorem subP3' {a b c d : AV} : sub false 1 [a, b, c, d] 3 = some d := rfl
def fits (s : List Int) (n : Nat) : Bool := decide (count s = some (n : Int))
section
variable {E : CallRel}
theorem c120_ok {z : Int} : Go.V.Call tab E 120 [.agg (numC z)] [] (.agg (plG [] false [] [z])) [] := by
  refine Go.V.Call.mach i120 c120 rfl rfl rfl rfl ?_
  simp only [c120, numC, go_sem, sub, FL, List.flatten_cons, List.flatten_nil, Option.getD_some]
  simp only [i120, OT, reduceIte, Nat.reduceEqDiff, subP4, plG, runes]
  rfl
theorem c67_ok {z : Int} (hz : In64 z) : Go.V.Call tab E 67 [.int .i64 z] [] (.agg (plG [] false [] [z])) [] := by
  refine Go.V.Call.mach i67 c67 rfl rfl rfl rfl ?_
  simp only [c67, go_sem]
  refine goP (c88_ok hz) ?_
  simp only [go_sem, numC]
  refine goP (c120_ok (z := z)) ?_
  simp only [go_sem, plG, runes, FL]
  simp only [i67, OT, reduceIte, Nat.reduceEqDiff, subP4, plG, runes]
theorem c32_ok {l : List Int} (hl : (l.length : Int) ≤ 1000000000000) (hz : ∀ z ∈ l, In64 z) : Go.V.Call tab E 32 [ints l] [] (.agg (plG [(l.length : Int)] false [] l)) [] := by
  refine Go.V.Call.mach i32 c32 rfl rfl rfl rfl ?_
  simp only [c32, go_sem, FL, List.flatten_cons, List.flatten_nil, Option.getD_some]
  refine mLoop (fun N st => ∃ (i : Nat), i ≤ l.length ∧ N = l.length - i ∧
    st = ⟨[(0, ints l), (2, .loc 3 0 0), (3, .loc 8 0 0), (4, .int .i64 i)],
      [⟨false, 3, 1, 0, 0, [], false⟩, ⟨false, 21, 1, 0, 0, [], false⟩, ⟨false, 72, 3, 0, 0, [], false⟩, ⟨true, 26, 4, 0, 1, [.arr 0 0, .bool false, .arr 1 0, .arr 2 0], false⟩,
       ⟨false, 3, 1, 0, 1, [.int .i64 l.length], false⟩, ⟨false, 3, 1, 0, 0, [], false⟩, ⟨false, 21, 1, 0, 0, [], false⟩, ⟨false, 72, 3, 0, 0, [], false⟩, ⟨true, 26, 4, 0, 1, [.arr 4 0, .bool false, .arr 9 0, .arr 10 i], false⟩,
       ⟨false, 21, 1, 0, 0, [], false⟩, ⟨false, 72, 3, i, i, numsC (l.take i), false⟩]⟩) l.length
    ⟨_, rfl, 0, by omega, by omega, by simp [getE, ints, numsC]⟩ ?_
  rintro N s0 ⟨i, hi, rfl, rfl⟩
  by_cases hlt : i < l.length
  · have hlt' : (i : Int) < (l.length : Int) := by omega
    have hi0 : (0 : Int) ≤ (i : Int) := by omega
    have hi1 : IntKind.i64.wrap ((i : Int) + 1) = ((i + 1 : Nat) : Int) := by rw [wrap_i64 (by omega) (by omega)]; omega
    have hsub := sub_nums (k := .i64) hlt
    have hzi : In64 (l.getD i 0) := hz _ (by simp [List.getD, hlt])
    have htk := take_snoc hlt
    have e1 : (i + 1) * 40 ≤ 140737488355328 := by omega
    have e2 : i + 1 ≤ 140737488355328 := by omega
    simp only [b32_0, go_sem, hlt', hi0, Int.toNat_natCast, hsub, subP3, subP3']
    refine goP (c88_ok hzi) ?_
    simp only [go_sem, FL, hi1, e1, e2, numC, List.flatten_cons, List.flatten_nil, Option.getD_some]
    refine loopQ_go rfl (l.length - (i + 1)) (by omega) ⟨i + 1, by omega, rfl, ?_⟩
    rw [htk, numsC_snoc]
    rfl
  · have hlt' : ¬ (i : Int) < (l.length : Int) := by omega
    obtain rfl : i = l.length := by omega
    simp only [b32_0, k32_0, go_sem, hlt', List.take_length, subP4, FL]
    simp only [i32, OT, reduceIte, Nat.reduceEqDiff, plG, runes, subP4, nums, List.map_cons, List.map_nil, List.length_cons, List.length_nil]
end
abbrev Nm := Bool × List Int × List Int
abbrev Rt := Bool × Nat × Nat
def nmC (x : Nm) : List AV := [.bool x.1, .str (bs x.2.1), .str (bs x.2.2)]
def rtC (x : Rt) : List AV := ratG x.1 x.2.1 x.2.2
def nmsC (l : List Nm) : List AV := l.flatMap nmC
def rtsC (l : List Rt) : List AV := l.flatMap rtC
def nmAt (l : List Nm) (i : Nat) : Nm := l.getD i (false, [], [])
def rtAt (l : List Rt) (i : Nat) : Rt := l.getD i (false, 0, 0)
def arrX (s : List Int) (ch : Bool) (t : List Int) (l : List Rt) : List AV := [ints s, .bool ch, runes t, .sl l.length 3 (rtsC l), .bool true]
def plX (s : List Int) (ch : Bool) (t : List Int) (l : List Nm) : List AV := [ints s, .bool ch, runes t, .sl l.length 3 (nmsC l)]
def toNm (x : Rt) : Nm := (x.1, decL x.2.1, decL (dn x.2.2))
def toRt (x : Nm) : Rt := (x.1, sval x.2.1, sval x.2.2)
theorem flat_len {α : Type} {f : α → List AV} (hf : ∀ x, (f x).length = 3) : ∀ {l : List α}, (l.flatMap f).length = l.length * 3
  | [] => rfl
  | z :: l => by rw [List.flatMap_cons, List.length_append, hf, flat_len hf, List.length_cons]; omega
theorem flat_get {α : Type} {f : α → List AV} (hf : ∀ x, (f x).length = 3) {d : α} : ∀ {l : List α} {i : Nat}, i < l.length → ((l.flatMap f).drop (i * 3)).take 3 = f (l.getD i d)
  | [], i, h => by simp at h
  | z :: l, 0, _ => by
    rw [List.flatMap_cons, Nat.zero_mul, List.drop_zero, List.take_append_of_le_length (by rw [hf]; omega), List.take_of_length_le (by rw [hf]; omega)]
    rfl
  | z :: l, i + 1, h => by
    rw [List.flatMap_cons, Nat.succ_mul, List.drop_append, List.drop_eq_nil_of_le (by rw [hf]; omega), hf, Nat.add_sub_cancel, List.nil_append, flat_get hf (d := d) (by simpa using h)]
    simp
theorem sub_flat {α : Type} {f : α → List AV} (hf : ∀ x, (f x).length = 3) {d : α} {l : List α} {i : Nat} (h : i < l.length) : sub true 3 (l.flatMap f) (i * 3) = some (.agg (f (l.getD i d))) := by
  simp only [sub, flat_len hf, if_true]
  rw [if_pos (by omega), flat_get hf h]
theorem sub_flat1 {α : Type} {f : α → List AV} (hf : ∀ x, (f x).length = 3) {d : α} {l : List α} {i k : Nat} (h : i < l.length) (hk : k < 3) : sub false 1 (l.flatMap f) (i * 3 + k) = (f (l.getD i d))[k]? := by
  simp only [sub, flat_len hf, if_true, Bool.false_eq_true, if_false]
  rw [if_pos (by omega), ← flat_get hf h, List.getElem?_take, if_pos hk, List.getElem?_drop]
theorem sub_nms {l : List Nm} {i : Nat} (h : i < l.length) : sub true 3 (nmsC l) (i * 3) = some (.agg (nmC (nmAt l i))) := sub_flat (fun _ => rfl) h
theorem sub_rts {l : List Rt} {i : Nat} (h : i < l.length) : sub true 3 (rtsC l) (i * 3) = some (.agg (rtC (rtAt l i))) := sub_flat (fun _ => rfl) h
theorem sub_nms1 {l : List Nm} {i : Nat} (h : i < l.length) : sub false 1 (nmsC l) (i * 3 + 1) = some (.str (bs (nmAt l i).2.1)) := sub_flat1 (fun _ => rfl) h (by omega)
theorem sub_nms2 {l : List Nm} {i : Nat} (h : i < l.length) : sub false 1 (nmsC l) (i * 3 + 2) = some (.str (bs (nmAt l i).2.2)) := sub_flat1 (fun _ => rfl) h (by omega)
theorem takeAt {α : Type} {l : List α} {i : Nat} {d : α} (h : i < l.length) : l.take (i + 1) = l.take i ++ [l.getD i d] := by
  rw [List.take_add_one, List.getElem?_eq_getElem h]
  simp [List.getD, h]
theorem nmsC_snoc {l : List Nm} {x : Nm} : nmsC (l ++ [x]) = nmsC l ++ nmC x := by simp [nmsC]
theorem rtsC_snoc {l : List Rt} {x : Rt} : rtsC (l ++ [x]) = rtsC l ++ rtC x := by simp [rtsC]
theorem nmC_dec {x : Rt} : numG x.1 x.2.1 (dn x.2.2) = nmC (toNm x) := by
  simp only [numG, nmC, toNm, dec_eq]
theorem subX1 {a b c d e : AV} : sub false 1 [a, b, c, d, e] 1 = some b := rfl
theorem c55_X {s t : List Int} {l : List Rt} {ch : Bool} (ht : (t.length : Int) ≤ 1000000000000) (hl : (l.length : Int) ≤ 1000000000000) : Go.V.Call tab E 55 [.agg (arrX s ch t l)] [] (.int .i64 ((t.length + l.length : Nat) : Int)) [] := by
  refine Go.V.Call.mach i55 c55 rfl rfl rfl rfl ?_
  have w : IntKind.i64.wrap ((t.length : Int) + (l.length : Int)) = ((t.length + l.length : Nat) : Int) := by rw [wrap_i64 (by omega) (by omega)]; omega
  simp only [c55, arrX, runes, go_sem, sub, FL, w]
  simp only [i55, OT, reduceIte, Nat.reduceEqDiff]
theorem c20_ok {s t : List Int} {l : List Nm} {ch : Bool} (ht : (t.length : Int) ≤ 1000000000000) (hl : (l.length : Int) ≤ 1000000000000) : Go.V.Call tab E 20 [.agg (plX s ch t l)] [] (.int .i64 ((t.length + l.length : Nat) : Int)) [] := by
  refine Go.V.Call.mach i20 c20 rfl rfl rfl rfl ?_
  have w : IntKind.i64.wrap ((t.length : Int) + (l.length : Int)) = ((t.length + l.length : Nat) : Int) := by rw [wrap_i64 (by omega) (by omega)]; omega
  simp only [c20, plX, runes, go_sem, sub, FL, w]
  simp only [i20, OT, reduceIte, Nat.reduceEqDiff]
theorem c48_X {s t : List Int} {l : List Rt} {ch : Bool} (hs : (s.length : Int) ≤ 1000000000000) : Go.V.Call tab E 48 [.agg (arrX s ch t l)] [] (ints s) [] := by
  refine Go.V.Call.mach i48 c48 rfl rfl rfl rfl ?_
  simp only [c48, arrX, runes, go_sem, sub, FL]
  refine goO (c110_ok hs) rfl rfl ?_
  simp only [go_sem, FL]
  simp only [i48, OT, reduceIte, Nat.reduceEqDiff]
theorem c59_X {s t : List Int} {l : List Rt} {ch : Bool} (ht : (t.length : Int) ≤ 1000000000000) : Go.V.Call tab E 59 [.agg (arrX s ch t l)] [] (.arr 0 0) [⟨false, 21, 1, 0, t.length, nums .i32 t, false⟩] := by
  refine Go.V.Call.mach i59 c59 rfl rfl rfl rfl ?_
  simp only [c59, arrX, runes, go_sem, sub, FL]
  refine goO (c112_ok ht) rfl rfl ?_
  simp only [go_sem, FL]
  simp only [i59, OT, reduceIte, Nat.reduceEqDiff, ownOut, ownL, ownV, scalar, List.contains_nil, List.length_nil, List.length_cons, List.nil_append, List.cons_append, storeOp, apartOf, freeze_nil, refsL, refs, List.flatMap_cons, List.flatMap_nil, List.append_nil, List.contains_nil, List.set_cons_zero, List.set_cons_succ, snap, snapL, fill_nums, flat_nums, nums_length, reduceCtorEq, Bool.false_eq_true, and_self, not_false_eq_true, beq_self_eq_true, Nat.zero_add]
def pickR (l : List Rt) (k : Int) : Rt := if 0 ≤ k ∧ k < l.length then rtAt l k.toNat else (false, 0, 0)
theorem c62_ok {s t : List Int} {l : List Rt} {ch : Bool} {k : Int} (hl : (l.length : Int) ≤ 1000000000000) : Go.V.Call tab E 62 [.agg (arrX s ch t l), .int .i64 k] [] (.agg (rtC (pickR l k))) [] := by
  have hz : rtC (false, 0, 0) = [.sl 0 1 [], .bool false, .sl 0 1 []] := by
    simp only [rtC, ratG, limG_zero, us32]; rfl
  by_cases h1 : k < 0
  · have hp : pickR l k = (false, 0, 0) := by rw [pickR, if_neg (by omega)]
    rw [hp, hz]
    refine Go.V.Call.mach i62 c62 rfl rfl rfl rfl ?_
    simp only [c62, arrX, runes, go_sem, sub, FL, h1]
    simp only [i62, OT, reduceIte, Nat.reduceEqDiff, sub, FL, List.length_cons, List.length_nil, Nat.le_refl]
  · by_cases h2 : (l.length : Int) ≤ k
    · have hp : pickR l k = (false, 0, 0) := by rw [pickR, if_neg (by omega)]
      rw [hp, hz]
      refine Go.V.Call.mach i62 c62 rfl rfl rfl rfl ?_
      simp only [c62, arrX, runes, go_sem, sub, FL, h1, h2]
      simp only [i62, OT, reduceIte, Nat.reduceEqDiff, sub, FL, List.length_cons, List.length_nil, Nat.le_refl]
    · have hp : pickR l k = rtAt l k.toNat := by rw [pickR, if_pos (by omega)]
      rw [hp]
      obtain ⟨j, rfl⟩ := Int.eq_ofNat_of_zero_le (show 0 ≤ k by omega)
      rw [Int.toNat_natCast]
      have hsub := sub_rts (l := l) (i := j) (by omega)
      have h3 : (0 : Int) ≤ (j : Int) := by omega
      have h4 : (j : Int) < (l.length : Int) := by omega
      have subA3' : ∀ {a b c d e : AV}, sub false 1 [a, b, c, d, e] (0 + 3) = some d := fun {a b c d e} => rfl
      refine Go.V.Call.mach i62 c62 rfl rfl rfl rfl ?_
      simp only [c62, arrX, runes, go_sem, subA3, subA3', FL, h1, h2, h3, h4, Int.toNat_natCast, hsub, rtC, ratG, us32]
      simp only [i62, OT, reduceIte, Nat.reduceEqDiff, sub, FL, List.length_cons, List.length_nil, Nat.le_refl, us32]
theorem c115_ok : Go.V.Call tab E 115 [] [] (.agg (nmC (false, [48], [49]))) [] := by
  refine Go.V.Call.mach i115 c115 rfl rfl rfl rfl ?_
  simp only [c115, go_sem, sub, FL]
  simp only [i115, OT, reduceIte, Nat.reduceEqDiff, sub, FL, List.length_cons, List.length_nil, Nat.le_refl, nmC]
  rfl
def RtOk (x : Rt) : Prop := x.2.1 < lim2000 ∧ dn x.2.2 < lim2000
theorem c31_X {s t : List Int} {l : List Rt} {ch : Bool} (hs : (s.length : Int) ≤ 1000000000000) (ht : (t.length : Int) ≤ 1000000000000) (hl : (l.length : Int) ≤ 1000000000000) (hz : ∀ z ∈ l, RtOk z) : Go.V.Call tab E 31 [.agg (arrX s ch t l)] [] (.agg (plX s ch t (l.map toNm))) [] := by
  refine Go.V.Call.mach i31 c31 rfl rfl rfl rfl ?_
  have h69 := c48_X (s := s) (t := t) (l := l) (ch := ch) hs
  have h76 := c59_X (s := s) (t := t) (l := l) (ch := ch) ht
  simp only [arrX, runes, ints] at h69 h76
  simp only [c31, arrX, runes, go_sem, subA5, subX1, subA3, FL]
  refine goP h69 ?_
  simp only [go_sem, subA5, subX1, subA3, FL]
  refine goZ (r' := runes t) h76 rfl ?_
  simp only [runes, go_sem, subA5, subX1, subA3, FL]
  refine mLoop (fun N st => ∃ (i : Nat), i ≤ l.length ∧ N = l.length - i ∧
    st = ⟨[(2, .loc 4 0 0), (3, .loc 8 0 0), (14, .sl l.length 3 (rtsC l)), (15, .int .i64 l.length), (16, .int .i64 i)],
      [⟨true, 35, 5, 0, 1, arrX s ch t l, false⟩, ⟨false, 3, 1, 0, 0, [], false⟩, ⟨false, 21, 1, 0, 0, [], false⟩, ⟨false, 72, 3, 0, 0, [], false⟩, ⟨true, 26, 4, 0, 1, [.arr 1 0, .bool false, .arr 2 0, .arr 3 0], false⟩,
       ⟨false, 3, 1, 0, 0, [], false⟩, ⟨false, 21, 1, 0, 0, [], false⟩, ⟨false, 72, 3, 0, 0, [], false⟩, ⟨true, 26, 4, 0, 1, [ints s, .bool ch, runes t, .arr 9 i], false⟩, ⟨false, 72, 3, i, i, nmsC ((l.take i).map toNm), false⟩]⟩) l.length
    ⟨_, rfl, 0, by omega, by omega, by simp [getE, ints, runes, arrX, nmsC]⟩ ?_
  rintro N s0 ⟨i, hi, rfl, rfl⟩
  by_cases hlt : i < l.length
  · have hlt' : (i : Int) < (l.length : Int) := by omega
    have hi0 : (0 : Int) ≤ (i : Int) := by omega
    have hi1 : IntKind.i64.wrap ((i : Int) + 1) = ((i + 1 : Nat) : Int) := by rw [wrap_i64 (by omega) (by omega)]; omega
    have hsub := sub_rts hlt
    obtain ⟨hz1, hz2⟩ : RtOk (rtAt l i) := hz _ (by simp [rtAt, List.getD, hlt])
    have htk : l.take (i + 1) = l.take i ++ [rtAt l i] := takeAt hlt
    have hmt : nmsC ((l.take (i + 1)).map toNm) = nmsC ((l.take i).map toNm) ++ nmC (toNm (rtAt l i)) := by rw [htk, List.map_append, List.map_cons, List.map_nil, nmsC_snoc]
    have e1 : (i + 1) * 40 ≤ 140737488355328 := by omega
    have e2 : i + 1 ≤ 140737488355328 := by omega
    have h74 := c87_gen (E := E) (n := (rtAt l i).1) hz1 hz2
    rw [nmC_dec] at h74
    generalize rtAt l i = x at *
    simp only [ratG, us32, nmC] at h74
    simp only [b31_0, arrX, runes, go_sem, hlt', hi0, Int.toNat_natCast, hsub, rtC, ratG, us32, subT3, subP3, subP3', FL]
    refine goR h74 rfl ?_
    simp only [go_sem, FL, hi1, e1, e2, List.flatten_cons, List.flatten_nil, Option.getD_some, subP3, subP3']
    refine loopQ_go rfl (l.length - (i + 1)) (by omega) ⟨i + 1, by omega, rfl, ?_⟩
    rw [hmt]
    rfl
  · have hlt' : ¬ (i : Int) < (l.length : Int) := by omega
    obtain rfl : i = l.length := by omega
    simp only [b31_0, k31_0, arrX, runes, go_sem, hlt', List.take_length, subP4, FL]
    simp only [i31, OT, reduceIte, Nat.reduceEqDiff, plX, runes, subP4, List.length_map]
theorem c86_gen {t u : List Int} (ht : (t.length : Int) ≤ 1000000000000) (hu : (u.length : Int) ≤ 1000000000000) : Go.V.Call tab E 86 [runes t, runes u] [] (.bool (decide (t = u))) [] := by
  refine Go.V.Call.mach i86 c86 rfl rfl rfl rfl ?_
  by_cases hl : t.length = u.length
  · have q : ((t.length : Int) != (u.length : Int)) = false := by rw [bne_eq_false_iff_eq]; omega
    simp only [c86, runes, go_sem, q]
    refine mLoop (fun N st => ∃ (k : Nat), k ≤ t.length ∧ N = t.length - k ∧ t.take k = u.take k ∧
      st = ⟨[(0, runes t), (1, runes u), (5, .int .i64 k)], []⟩) t.length ⟨_, rfl, 0, by omega, by omega, rfl, rfl⟩ ?_
    rintro N s0 ⟨k, hk, rfl, htu, rfl⟩
    by_cases hlt : k < t.length
    · have hlt' : (k : Int) < (t.length : Int) := by omega
      have hlt2 : (k : Int) < (u.length : Int) := by omega
      have hk0 : (0 : Int) ≤ (k : Int) := by omega
      have hk1 : IntKind.i64.wrap ((k : Int) + 1) = ((k + 1 : Nat) : Int) := by rw [wrap_i64 (by omega) (by omega)]; omega
      have hsub := sub_nums (k := .i32) hlt
      have hsub2 := sub_nums (k := .i32) (l := u) (i := k) (by omega)
      have h1 := take_snoc hlt
      have h2 := take_snoc (l := u) (m := k) (by omega)
      by_cases hxy : t.getD k 0 = u.getD k 0
      · have q2 : (t.getD k 0 != u.getD k 0) = false := by rw [bne_eq_false_iff_eq]; exact hxy
        simp only [b86_0, runes, go_sem, hlt', hlt2, hk0, Int.toNat_natCast, hsub, hsub2, q2, hk1]
        exact loopQ_go rfl (t.length - (k + 1)) (by omega) ⟨k + 1, by omega, rfl, by rw [h1, h2, htu, hxy], rfl⟩
      · have q2 : (t.getD k 0 != u.getD k 0) = true := by rw [bne_iff_ne]; exact hxy
        have hne : ¬ t = u := fun h => hxy (by rw [h])
        simp only [b86_0, runes, go_sem, hlt', hlt2, hk0, Int.toNat_natCast, hsub, hsub2, q2]
        simp only [i86, OT, reduceIte, Nat.reduceEqDiff, decide_eq_false hne]
    · have hlt' : ¬ (k : Int) < (t.length : Int) := by omega
      have he : t = u := by
        rw [List.take_of_length_le (by omega), List.take_of_length_le (by omega)] at htu
        exact htu
      subst he
      simp only [b86_0, k86_0, runes, go_sem, hlt']
      simp only [i86, OT, reduceIte, Nat.reduceEqDiff, decide_true]
  · have q : ((t.length : Int) != (u.length : Int)) = true := by rw [bne_iff_ne]; omega
    have hne : ¬ t = u := fun h => hl (by rw [h])
    simp only [c86, runes, go_sem, q]
    simp only [i86, OT, reduceIte, Nat.reduceEqDiff, decide_eq_false hne]
end Go.Proofs.YtlejgleocnemoaaGreat.I
