/- The texts LDoc L06p L02a L02b L02c L16a L18a L16b L08a L08b L16c L16d L18b L18c L18d L18e, one behind the other. Conditions: each text's own. -/
import Derived.Test.YtlejgleocnemoabGreatG07
import Derived.Test.YtlejgleocnemoabGreatG05
set_option linter.unusedSimpArgs false
set_option linter.unusedVariables false
namespace Go.Proofs.YtlejgleocnemoabGreat.I
open Go Go.V
def pvD (a:Gd) (c:Nat):Nat→Option Nat
  | 0=>none
  | k+1=>if en a (c+k) c=0 then pvD a c k else some (c+k)
def rowT (x:List Rat) (q:Rat):List Rat:=x.map (· * q)
def rowS (x y:List Rat):List Rat:=(List.range x.length).map fun i=>x.getD i 0+y.getD i 0
def stepP (a:Gd) (x:List Rat) (c q:Nat):Gd:=fun r=>if r=c then x else if r<q then rowS (a r) (rowT x (-(en a r c))) else a r
def stepD (n:Nat) (a:Gd) (c:Nat):Gd:=stepP a (rowT (a c) (1/en a c c)) c n
def redD (n:Nat):Nat→Gd→Option Gd
  | 0,a=>some a
  | k+1,a=>match pvD a (n - (k+1)) (k+1) with
    | none=>none
    | some p=>redD n k (stepD n (swA a (n - (k+1)) p) (n - (k+1)))
theorem pvD_spec {a:Gd} {c:Nat}:∀{k:Nat},match pvD a c k with
    | none=>∀i,c≤i→i<c+k→en a i c=0
    | some p=>c≤p∧p<c+k∧en a p c≠0
  | 0=>fun i h1 h2=>by omega
  | k+1=>by
    rw [pvD]
    by_cases h:en a (c+k) c=0
    · rw [if_pos h]
      have ih:=pvD_spec (a:=a) (c:=c) (k:=k)
      revert ih
      cases pvD a c k with
      | none=>
        intro ih i h1 h2
        by_cases hi:i=c+k
        · subst hi;exact h
        · exact ih i h1 (by omega)
      | some p=>exact fun ⟨g1,g2,g3⟩=>⟨g1,by omega,g3⟩
    · rw [if_neg h]
      exact ⟨by omega,by omega,h⟩
theorem rowT_len {x:List Rat} {q:Rat}:(rowT x q).length=x.length:=by simp [rowT]
theorem rowS_len {x y:List Rat}:(rowS x y).length=x.length:=by simp [rowS]
theorem rowT_get {x:List Rat} {q:Rat} {j:Nat} (h:j<x.length):(rowT x q).getD j 0=x.getD j 0*q:=by
  simp [rowT,List.getD,h]
theorem rowS_get {x y:List Rat} {j:Nat} (h:j<x.length):(rowS x y).getD j 0=x.getD j 0+y.getD j 0:=by
  simp [rowS,List.getD,h]
def LenD (n w:Nat) (a:Gd):Prop:=∀r,r<n→(a r).length=w
theorem LenD.swap {n w c p:Nat} {a:Gd} (h:LenD n w a) (hc:c<n) (hp:p<n):LenD n w (swA a c p):=fun r hr=>by
  unfold swA
  split
  · exact h p hp
  · split
    · exact h c hc
    · exact h r hr
theorem LenD.stepP {n w c q:Nat} {a:Gd} {x:List Rat} (h:LenD n w a) (hx:x.length=w):LenD n w (stepP a x c q):=fun r hr=>by
  unfold I.stepP
  split
  · exact hx
  · split
    · rw [rowS_len];exact h r hr
    · exact h r hr
theorem LenD.step {n w c:Nat} {a:Gd} (h:LenD n w a) (hc:c<n):LenD n w (stepD n a c):=h.stepP (by rw [rowT_len];exact h c hc)
abbrev mxD (a:Gd):Mx:=fun r j=>en a r j
theorem mxD_swap {a:Gd} {c p:Nat}:mxD (swA a c p)=swR (mxD a) c p:=by
  funext r j
  unfold mxD swR swA en
  by_cases h1:r=c
  · simp only [if_pos h1]
  · simp only [if_neg h1]
    by_cases h2:r=p
    · simp only [if_pos h2]
    · simp only [if_neg h2]
theorem step_c {n w c:Nat} {a:Gd} (h:LenD n w a) (hc:c<n) {j:Nat} (hj:j<w):mxD (stepD n a c) c j=mxD a c j/mxD a c c:=by
  have e:stepD n a c c=rowT (a c) (1/en a c c):=by unfold stepD stepP;rw [if_pos rfl]
  unfold mxD
  rw [en,e,rowT_get (by rw [h c hc];exact hj),show (a c).getD j 0=en a c j from rfl]
  grind
theorem step_r {n w c:Nat} {a:Gd} (h:LenD n w a) (hc:c<n) {r:Nat} (hr:r<n) (hrc:r≠c) {j:Nat} (hj:j<w):mxD (stepD n a c) r j=mxD a r j - mxD a r c*mxD (stepD n a c) c j:=by
  rw [step_c h hc hj]
  have e:stepD n a c r=rowS (a r) (rowT (rowT (a c) (1/en a c c)) (-(en a r c))):=by unfold stepD stepP;rw [if_neg hrc,if_pos hr]
  unfold mxD
  rw [en,e,rowS_get (by rw [h r hr];exact hj),rowT_get (by rw [rowT_len,h c hc];exact hj),rowT_get (by rw [h c hc];exact hj),show (a r).getD j 0=en a r j from rfl,show (a c).getD j 0=en a c j from rfl]
  grind
def Fine (n w K:Nat):Nat→Gd→Prop
  | 0,a=>LenD n w a∧∀r,r<n→∀x∈a r,Sz K x
  | k+1,a=>(LenD n w a∧∀r,r<n→∀x∈a r,Sz K x)∧∀p,pvD a (n - (k+1)) (k+1)=some p→Fine n w K k (stepD n (swA a (n - (k+1)) p) (n - (k+1)))
theorem Fine.len {n w K:Nat}:∀{k:Nat} {a:Gd},Fine n w K k a→LenD n w a
  | 0,_,h=>h.1
  | _+1,_,h=>h.1.1
theorem Fine.sz {n w K:Nat}:∀{k:Nat} {a:Gd},Fine n w K k a→∀r,r<n→∀x∈a r,Sz K x
  | 0,_,h=>h.2
  | _+1,_,h=>h.1.2
theorem mem_en {n w:Nat} {a:Gd} (h:LenD n w a) {r:Nat} (hr:r<n) {x:Rat} (hx:x∈a r):∃j,j<w∧x=mxD a r j:=by
  obtain ⟨j,hj,rfl⟩:=List.getElem_of_mem hx
  refine ⟨j,by rw [←h r hr];exact hj,?_⟩
  unfold mxD en
  simp [List.getD,hj]
theorem en_mem {n w:Nat} {a:Gd} (h:LenD n w a) {r j:Nat} (hr:r<n) (hj:j<w):en a r j∈a r:=by
  have:=h r hr
  unfold en
  generalize a r=l at *
  simp [List.getD,show j<l.length by omega]
theorem way_sz {n w c:Nat} {R:Mx} {a:Gd} {M A B K:Nat} (h:Way n w c R (mxD a) M A B) (hl:LenD n w a) (hc:c≤n) (hw:n≤w) (hA:1≤A) (h1:(c+1)*(M*dB M c)<2^K) (h2:dB M c*(A*B)<2^K):∀r,r<n→∀x∈a r,Sz K x:=fun r hr x hx=>by
  obtain ⟨j,hj,rfl⟩:=mem_en hl hr hx
  obtain ⟨Z,q,q1,q2,q3,q4⟩:=h.bound hc hw hA hr hj
  rw [q2,←Rat.divInt_eq_div]
  exact Sz.of_divInt (Nat.lt_of_le_of_lt q3 h1) (Nat.lt_of_le_of_lt q4 h2) q1
theorem redD_fine {n w K:Nat} {R:Mx} {M A B:Nat} (hw:n≤w) (hA:1≤A) (hK:∀c,c≤n→(c+1)*(M*dB M c)<2^K∧dB M c*(A*B)<2^K):∀{k:Nat} {a:Gd},k≤n→LenD n w a→Way n w (n - k) R (mxD a) M A B→
    Fine n w K k a∧match redD n k a with
    | none=>Ker n w R
    | some t=>Way n w n R (mxD t) M A B∧LenD n w t
  | 0,a,hk,hl,h=>⟨⟨hl,way_sz h hl (by omega) hw hA (hK _ (by omega)).1 (hK _ (by omega)).2⟩,by rw [redD];exact ⟨h,hl⟩⟩
  | k+1,a,hk,hl,h=>by
    have hsz:=way_sz h hl (by omega) hw hA (hK _ (by omega)).1 (hK _ (by omega)).2
    obtain ⟨c,hcd⟩:∃c,c=n - (k+1):=⟨_,rfl⟩
    have hcn:c<n:=by omega
    have hp:=pvD_spec (a:=a) (c:=c) (k:=k+1)
    rw [redD,Fine,←hcd]
    rw [←hcd] at h
    cases hq:pvD a c (k+1) with
    | none=>
      rw [hq] at hp
      refine ⟨⟨⟨hl,hsz⟩,fun p h=>by cases h⟩,?_⟩
      exact (ker_of h.cl hcn hw (fun r hr hcr=>hp r hcr (by omega))).same h.same
    | some p=>
      rw [hq] at hp
      obtain ⟨p1,p2,p3⟩:=hp
      have hl2:=hl.swap hcn (show p<n by omega)
      have h2:=h.swap p1 (show p<n by omega)
      rw [←mxD_swap] at h2
      have hpv:mxD (swA a c p) c c≠0:=by
        rw [mxD_swap];unfold swR;rw [if_pos rfl];exact p3
      have h3:=h2.step hcn hw hpv (T:=mxD (stepD n (swA a c p) c)) (fun j hj=>step_c hl2 hcn hj) (fun r hr hrc j hj=>step_r hl2 hcn hr hrc hj)
      rw [show c+1=n - k by omega] at h3
      obtain ⟨i1,i2⟩:=redD_fine hw hA hK (by omega) (hl2.step hcn) h3
      exact ⟨⟨⟨hl,hsz⟩,fun p' e=>by cases e;exact i1⟩,i2⟩
theorem redD_all {n w K:Nat} {a:Gd} {M A B:Nat} {x y:Nat→Nat} (hw:n≤w) (hA:1≤A) (hK:∀c,c≤n→(c+1)*(M*dB M c)<2^K∧dB M c*(A*B)<2^K) (hl:LenD n w a) (h:Scl n w (mxD a) x y M A B) :
    Fine n w K n a∧match redD n n a with
    | none=>Ker n w (mxD a)
    | some t=>SameSol n w (mxD a) (mxD t)∧Cl n n (mxD t)∧(∀r,r<n→mxD t r r=1)∧LenD n w t:=by
  obtain ⟨h1,h2⟩:=redD_fine hw hA hK (Nat.le_refl n) hl (by rw [Nat.sub_self];exact Way.zero h)
  refine ⟨h1,?_⟩
  revert h2
  cases redD n n a with
  | none=>exact fun h=>h
  | some t=>
    rintro ⟨g,gl⟩
    refine ⟨g.same,g.cl,fun r hr=>?_,gl⟩
    obtain ⟨P,a',b',e1,e2⟩:=g.elm
    obtain ⟨z,_,z2⟩:=e1.top r hr
    rw [z2 r hr,if_pos rfl]
theorem redD_redA {n m K:Nat} {a:Gd} {s:Gd × Gd} {M A B:Nat} {x y:Nat→Nat} (hA:1≤A) (hK:∀c,c≤n→(c+1)*(M*dB M c)<2^K∧dB M c*(A*B)<2^K) (hl:LenD n (n+m) a) (hs:Lens n m s) (h:Scl n (n+m) (mxD a) x y M A B)
    (he:∀r j,r<n→j<n+m→mxD a r j=cmb n s r j) :
    Fine n (n+m) K n a∧match redA n n s with
    | none=>redD n n a=none
    | some u=>∃t,redD n n a=some t∧LenD n (n+m) t∧∀r j,r<n→j<m→en t r (n+j)=en u.2 r j/en u.1 r r:=by
  obtain ⟨h1,h2⟩:=redD_all (by omega) hA hK hl h
  refine ⟨h1,?_⟩
  have hr:=redA_all hs
  have hss:SameSol n (n+m) (mxD a) (cmb n s):=fun v=>by
    have e:∀r,r<n→sumN (n+m) (fun j=>mxD a r j*v j)=sumN (n+m) (fun j=>cmb n s r j*v j):=fun r hr=>sumN_congr fun j hj=>by rw [he r j hr hj]
    exact ⟨fun g r hr=>by rw [←e r hr];exact g r hr,fun g r hr=>by rw [e r hr];exact g r hr⟩
  cases hA':redA n n s with
  | none=>
    rw [hA'] at hr
    have hk:Ker n (n+m) (mxD a):=hr.same hss
    cases hD:redD n n a with
    | none=>rfl
    | some t=>
      rw [hD] at h2
      exact absurd (hk.same h2.1.symm) (no_ker h2.2.1 (by omega))
  | some u=>
    rw [hA'] at hr
    obtain ⟨r1,r2,r3⟩:=hr
    cases hD:redD n n a with
    | none=>
      rw [hD] at h2
      exact absurd ((h2.same hss.symm).same r1.symm) (no_ker r2 (by omega))
    | some t=>
      rw [hD] at h2
      obtain ⟨t1,t2,t3,t4⟩:=h2
      refine ⟨t,rfl,t4,fun r j hr hj=>?_⟩
      have:=ans_same t1 (hss.trans r1) t2 r2 (show n≤n+m by omega) (show n≤n+j by omega) (by omega) r hr
      rw [t3 r hr] at this
      have e1:cmb n u r (n+j)=en u.2 r j:=by unfold cmb;rw [if_neg (by omega),show n+j - n=j by omega]
      have e2:cmb n u r r=en u.1 r r:=by unfold cmb;rw [if_pos hr]
      rw [e1,e2] at this
      rw [←this]
      show mxD t r (n+j)=_
      grind
attribute [local go_sem_proc ↓] reduceIte
attribute [local go_sem_proc] Nat.reduceEqDiff Nat.reduceAdd Nat.reduceMul Nat.reduceLeDiff Nat.reduceLT Int.reduceToNat Int.reduceLT Int.reduceLE reduceCtorEq Nat.reduceBEq
attribute [local go_sem] mNil nat0 beq_self_eq_true mSkip mRet mExit mReg mSeq mCond mTrue mFalse mBlock mLv mCodeE mCodeR mEndN mEndR mEndE mOps mSome mGuard mGtt mGff mGtf mGft mGu mCallP mCallR mCallF mCallO mCallZ mCallG mCallM mCallV loopQ_exit loopQ_ret mO_mov mO_newnil mO_pick mO_alloc mO_box mO_build mO_bsl mO_bslF mO_newnilB mO_bslB mO_lenB mO_appB mO_allocA mO_bslA mO_appA mO_ldb mO_faddrb mRsv mO_ldf mO_ld mO_st mO_sta mO_nilchk mO_bin mO_binb mO_binp mO_bins mO_neg mO_com mO_not mO_conv mO_mk mO_mk0 mO_mkB mO_s2b mO_b2s mO_cpy mO_cut mO_faddr mO_fld mO_iaddr mO_iaddrf mO_sidx mO_len mO_lenf mO_slen mO_scut mO_app mO_ext mO_mx mO_mn mO_mkfn evalOp cutOp argsE ev getE putE cellsOf adopt rowOf binV boolV nilV ar_add ar_sub ar_mul ar_quo ar_rem ar_eq ar_ne ar_lt ar_le ar_gt ar_ge ar_and ar_or ar_xor geto bound finRet finNrm ints List.length_cons List.length_nil List.length_append List.getElem?_cons_zero List.getElem?_cons_succ List.nil_append List.cons_append List.map_cons List.map_nil List.mapM_cons List.mapM_nil Option.map_some Option.map_none Option.bind_some Option.pure_def Option.bind_eq_bind List.drop_zero or_self or_false false_or or_true true_or true_and and_true and_self decide_true decide_false Bool.false_eq_true Bool.true_eq_false Bool.not_true Bool.not_false Nat.le_refl eq_self gt_iff_lt ge_iff_le ne_eq not_true_eq_false not_false_eq_true storeOp apartOf freeze_nil refsL refs List.flatMap_cons List.flatMap_nil List.append_nil List.contains_nil List.set_cons_zero List.set_cons_succ snap snapL fill_nums flat_nums nums_length Go.V.freeze List.mapIdx_cons List.mapIdx_nil List.contains_cons Bool.or_false Bool.false_or Bool.or_true Bool.true_or
section
variable {E:CallRel}
theorem sub_step {x y c:Nat} (hx:x<4294967296) (hy:y<4294967296) (hc:c≤1):∃d c':Nat,d<4294967296∧c'≤1∧x+4294967296*c'=y+c+d∧
    (x+4294967296 - y+4294967296 - c) % 4294967296=d∧(if x<y+c then 1 else 0)=c':=by
  by_cases h:x<y+c
  · exact ⟨x+4294967296 - y - c,1,by omega,by omega,by omega,by omega,if_pos h⟩
  · exact ⟨x - y - c,0,by omega,by omega,by omega,by omega,if_neg h⟩
theorem c166_ok {a b:Nat} (ha:(limG a).length≤1000000) (hb:(limG b).length≤1000000):Go.V.Call tab E 166 [natC a,natC b] [] (.tup [natC (if b≤a then a - b else 0),.bool (decide (b≤a))]) []:=by
  refine Go.V.Call.mach i166 c166 rfl rfl rfl rfl ?_
  have hcmp:=c112_ok (E:=E) (a:=a) (b:=b) ha hb
  have hmono:=fun h:b≤a=>limG_mono (a:=b) (b:=a) h
  have hRa:=R32_limG (n:=a)
  have hRb:=R32_limG (n:=b)
  have ea:=nval_limG (n:=a)
  have eb:=nval_limG (n:=b)
  by_cases hab:b≤a
  · have hc:¬cmpZ a b<0:=by
      unfold cmpZ
      rw [if_neg (by omega)]
      split<;>omega
    rw [if_pos hab,decide_eq_true hab]
    have hCA:=hmono hab
    have htrim:∀l:List Int,R32 l→(l.length:Int)≤1000000000000→nval l=a - b→Go.V.Call tab E 137 [us32 l] [] (natC (a - b)) []:=fun l h1 h2 h3=>by
      have h:=c137_ok (E:=E) (l:=l) h2
      rwa [trimL_limG h1,h3] at h
    simp only [natC,us32] at hcmp htrim ⊢
    clear hmono
    generalize hA:limG a=A at *
    generalize hC:limG b=C at *
    have b1:(0:Int)≤(A.length:Int):=by omega
    have b2:4*A.length≤140737488355328:=by omega
    have b3:(A.length:Int)≤140737488355328:=by omega
    simp only [c166,us32,go_sem,subB1,subT1,FL]
    refine goP hcmp ?_
    simp only [us32,go_sem,subB1,subT1,FL,hc,b1,b2,b3,Int.toNat_natCast,flat_nums]
    refine mLoop (fun N st=>∃(i:Nat) (L:List Int) (c:Nat),i≤A.length∧N=A.length - i∧L.length=A.length∧R32 L∧c≤1∧(∀j,i≤j→L.getD j 0=0)∧nval (A.take i)+4294967296^i*c=nval (C.take i)+nval L∧
      st=⟨[(2,.loc 0 0 0),(3,.loc 1 0 0),(4,.loc 3 0 0),(6,.arr 4 0),(7,.int .u32 c),(21,.int .i64 A.length),(22,.int .i64 i)],
        [⟨true,53,1,0,1,[us32 A],false⟩,⟨true,53,1,0,1,[us32 C],false⟩,⟨false,162,1,0,0,[],false⟩,⟨true,53,1,0,1,[.arr 2 0],false⟩,⟨false,162,1,0,A.length,nums .u32 L,false⟩]⟩) A.length
      ⟨_,rfl,0,List.replicate A.length 0,0,by omega,by omega,by simp,R32_zeros,by omega,fun j _=>zeros_get,by rw [nval_zeros];simp [nval],by simp [getE,us32]⟩ ?_
    rintro N s0 ⟨i,L,c,hi,rfl,hL,hR',hc1,hz,hv,rfl⟩
    by_cases hiX:i<A.length
    · have hi':(i:Int)<(A.length:Int):=by omega
      have hi0:(0:Int)≤(i:Int):=by omega
      have hi1:IntKind.i64.wrap ((i:Int)+1)=((i+1:Nat):Int):=by rw [wrap_i64 (by omega) (by omega)];omega
      have hsx:=sub_nums (k:=.u32) hiX
      have hxr:=R32_get hRa i
      have hyr:=R32_get hRb i
      have htx:=nval_take_succ' (l:=A) (k:=i)
      have hty:=nval_take_succ' (l:=C) (k:=i)
      obtain ⟨x,hx⟩:=Int.eq_ofNat_of_zero_le hxr.1
      obtain ⟨y,hy⟩:=Int.eq_ofNat_of_zero_le hyr.1
      rw [hx] at hsx hxr htx
      rw [hy] at hyr hty
      simp only [Int.toNat_natCast] at htx hty
      have h103:=c178_ok (E:=E) (x:=x) (y:=y) (b:=c) (by omega) (by omega) hc1
      obtain ⟨d,c',hdl,hc'1,hst,hd,hc'⟩:=sub_step (x:=x) (y:=y) (c:=c) (by omega) (by omega) hc1
      rw [hd,hc'] at h103
      clear hd hc'
      have t1:i*1+1≤L.length:=by omega
      have p1:=put_nval (l:=L) (k:=i) (v:=(d:Int)) (by omega)
      rw [hz i (by omega)] at p1
      simp only [Int.toNat_natCast,Int.toNat_zero,Nat.mul_zero,Nat.add_zero] at p1
      have inv:nval (A.take (i+1))+4294967296^(i+1)*c'=nval (C.take (i+1))+nval (put L i (d:Int)):=by
        rw [p1,htx,hty,Nat.pow_succ,Nat.mul_assoc]
        generalize 4294967296^i=P at *
        have e1:P*(x+4294967296*c')=P*(y+c+d):=by rw [hst]
        simp only [Nat.mul_add] at e1
        omega
      have fin:(put L i (d:Int)).length=A.length∧R32 (put L i (d:Int))∧(∀j,i+1≤j→(put L i (d:Int)).getD j 0=0):=by
        refine ⟨by rw [put_len (by omega),hL],put_R32 hR' (by omega),fun j hj=>?_⟩
        rw [put_get (by omega),if_neg (by omega)]
        exact hz j (by omega)
      obtain ⟨f1,f2,f3⟩:=fin
      by_cases hiY:i<C.length
      · have hiY':(i:Int)<(C.length:Int):=by omega
        have hsy:=sub_nums (k:=.u32) hiY
        rw [hy] at hsy
        simp only [b166_0,us32,go_sem,subB1,hi',hi0,hiY',hsx,hsy,Int.toNat_natCast]
        refine goP h103 ?_
        simp only [us32,go_sem,hi',hi0,Int.toNat_natCast,t1,hi1]
        exact loopQ_go rfl (A.length - (i+1)) (by omega) ⟨i+1,put L i (d:Int),c',by omega,rfl,f1,f2,hc'1,f3,inv,rfl⟩
      · have hiY':¬(i:Int)<(C.length:Int):=by omega
        have hy0:y=0:=by
          have:=getD_big (l:=C) (k:=i) (by omega)
          omega
        subst hy0
        simp only [b166_0,us32,go_sem,subB1,hi',hi0,hiY',hsx,Int.toNat_natCast]
        refine goP h103 ?_
        simp only [us32,go_sem,hi',hi0,Int.toNat_natCast,t1,hi1]
        exact loopQ_go rfl (A.length - (i+1)) (by omega) ⟨i+1,put L i (d:Int),c',by omega,rfl,f1,f2,hc'1,f3,inv,rfl⟩
    · have hn':¬(i:Int)<(A.length:Int):=by omega
      obtain rfl:i=A.length:=by omega
      rw [List.take_length,List.take_of_length_le hCA,ea,eb] at hv
      have hlt:=nval_lt hR'
      rw [hL] at hlt
      have hc0:c=0:=by
        by_cases h:c=0
        · exact h
        · have:c=1:=by omega
          subst this
          omega
      have hval:nval L=a - b:=by subst hc0;omega
      have h63:=htrim L hR' (by omega) hval
      rw [hL] at h63
      simp only [b166_0,k166_0,us32,go_sem,hn',Int.lt_irrefl]
      refine goF h63 ?_
      simp only [us32,go_sem,FL]
      simp only [i166,OT,reduceIte,Nat.reduceEqDiff,sub,FL,List.length_cons,List.length_nil,Nat.le_refl,us32]
  · have hc:cmpZ a b<0:=by
      unfold cmpZ
      rw [if_pos (by omega)]
      omega
    rw [if_neg hab,decide_eq_false hab]
    simp only [natC,us32,limG_zero] at hcmp ⊢
    simp only [c166,us32,go_sem,subB1,subT1,FL]
    refine goP hcmp ?_
    simp only [us32,go_sem,subB1,subT1,FL,hc]
    simp only [i166,OT,reduceIte,Nat.reduceEqDiff,sub,FL,List.length_cons,List.length_nil,Nat.le_refl]
    rfl
end
theorem sgn_zero {z:Int}:(decide (z<0)&&decide (z.natAbs≠0))=decide (z<0):=by
  by_cases h:z<0
  · rw [decide_eq_true h,decide_eq_true (by omega)];rfl
  · rw [decide_eq_false h];rfl
theorem wI_neg {p:Nat}:whC (true&&decide (p≠0)) p=wI (-(p:Int)):=by
  have h1:(-(p:Int)).natAbs=p:=by omega
  rw [wI,h1]
  congr 1
  by_cases h:p=0
  · subst h;rfl
  · rw [decide_eq_true h,decide_eq_true (show -(p:Int)<0 by omega)];rfl
theorem wI_pos {p:Nat}:whC (false&&decide (p≠0)) p=wI (p:Int):=by
  have h1:((p:Int)).natAbs=p:=by omega
  rw [wI,h1,decide_eq_false (show ¬(p:Int)<0 by omega)]
  rfl
section
variable {E:CallRel}
theorem c154_ok {x y:Int} (hx:(limG x.natAbs).length≤1000000) (hy:(limG y.natAbs).length≤1000000):Go.V.Call tab E 154 [.agg (wI x),.agg (wI y)] [] (.agg (wI (x+y))) []:=by
  refine Go.V.Call.mach i154 c154 rfl rfl rfl rfl ?_
  have h92:=c156_ok (E:=E) hx hy
  have h93:=c166_ok (E:=E) hx hy
  have h93':=c166_ok (E:=E) hy hx
  have h68:=fun n p=>c109_ok (E:=E) (n:=n) (p:=p)
  simp only [natC,us32] at h92 h93 h93' h68
  by_cases hs:decide (x<0)=decide (y<0)
  · have hb:(decide (x<0)==decide (y<0))=true:=by rw [hs];cases decide (y<0)<;>rfl
    have hr:whC (decide (x<0)&&decide (x.natAbs+y.natAbs≠0)) (x.natAbs+y.natAbs)=wI (x+y):=by
      by_cases h:x<0
      · have hy0:y<0:=by rw [decide_eq_true h] at hs;simpa using hs.symm
        rw [decide_eq_true h,wI_neg]
        congr 1;omega
      · have hy0:¬y<0:=by rw [decide_eq_false h] at hs;simpa using hs.symm
        rw [decide_eq_false h,wI_pos]
        congr 1;omega
    rw [←hr]
    simp only [c154,wI,whC,us32,go_sem,FL,subW0,subW1,hb]
    refine goP h92 ?_
    simp only [us32,go_sem,FL]
    refine goP (h68 _ _) ?_
    simp only [us32,go_sem,FL]
    simp only [i154,OT,reduceIte,Nat.reduceEqDiff,subW2,whC,us32]
  · have hb:(decide (x<0)==decide (y<0))=false:=by
      revert hs;cases decide (x<0)<;>cases decide (y<0)<;>intro hs<;>first|rfl|exact absurd rfl hs
    by_cases hle:y.natAbs≤x.natAbs
    · rw [if_pos hle,decide_eq_true hle] at h93
      have hr:whC (decide (x<0)&&decide (x.natAbs - y.natAbs≠0)) (x.natAbs - y.natAbs)=wI (x+y):=by
        by_cases h:x<0
        · have hy0:¬y<0:=fun h2=>hs (by rw [decide_eq_true h,decide_eq_true h2])
          rw [decide_eq_true h,wI_neg]
          congr 1;omega
        · have hy0:y<0:=by
            by_cases h2:y<0
            · exact h2
            · exact absurd (by rw [decide_eq_false h,decide_eq_false h2]) hs
          rw [decide_eq_false h,wI_pos]
          congr 1;omega
      rw [←hr]
      simp only [c154,wI,whC,us32,go_sem,FL,subW0,subW1,hb]
      refine goP h93 ?_
      simp only [us32,go_sem,FL,subW0,subW1,subT1]
      refine goF (h68 _ _) ?_
      simp only [us32,go_sem,FL]
      simp only [i154,OT,reduceIte,Nat.reduceEqDiff,subW2,whC,us32]
    · rw [if_neg hle,decide_eq_false hle,limG_zero] at h93
      rw [if_pos (by omega),decide_eq_true (show x.natAbs≤y.natAbs by omega)] at h93'
      have hr:whC (decide (y<0)&&decide (y.natAbs - x.natAbs≠0)) (y.natAbs - x.natAbs)=wI (x+y):=by
        by_cases h:y<0
        · have hy0:¬x<0:=fun h2=>hs (by rw [decide_eq_true h,decide_eq_true h2])
          rw [decide_eq_true h,wI_neg]
          congr 1;omega
        · have hy0:x<0:=by
            by_cases h2:x<0
            · exact h2
            · exact absurd (by rw [decide_eq_false h,decide_eq_false h2]) hs
          rw [decide_eq_false h,wI_pos]
          congr 1;omega
      rw [←hr]
      simp only [c154,wI,whC,us32,go_sem,FL,subW0,subW1,hb]
      refine goP h93 ?_
      simp only [us32,go_sem,FL,subW0,subW1,subT1]
      refine goP h93' ?_
      simp only [us32,go_sem,FL,subW0,subW1,subT1]
      refine goF (h68 _ _) ?_
      simp only [us32,go_sem,FL]
      simp only [i154,OT,reduceIte,Nat.reduceEqDiff,subW2,whC,us32]
theorem c123_ok {x y:Int} (hx:(limG x.natAbs).length≤1000000) (hy:(limG y.natAbs).length≤1000000):Go.V.Call tab E 123 [.agg (wI x),.sl 1 2 (wI y)] [] (.agg (wI (x+y))) []:=by
  refine Go.V.Call.mach i123 c123 rfl rfl rfl rfl ?_
  have h72:=c154_ok (E:=E) hx hy
  simp only [wI,whC,us32] at h72
  simp only [c123,wI,whC,us32,go_sem,FL,subW2]
  refine mLoop (fun N st=>∃(i:Nat) (z:Int),(i=0∧z=x∨i=1∧z=x+y)∧N=1 - i∧
    st=⟨[(2,.loc 0 0 0),(4,.loc 2 0 0),(7,.sl 1 2 (wI y)),(8,.int .i64 1),(9,.int .i64 i)],[⟨true,55,2,0,1,wI z,false⟩,⟨false,162,1,0,0,[],false⟩,⟨true,55,2,0,1,[.arr 1 0,.bool false],false⟩]⟩) 1
    ⟨_,rfl,0,x,.inl ⟨rfl,rfl⟩,by omega,by simp [getE,wI,whC,us32]⟩ ?_
  rintro N s0 ⟨i,z,hiv,rfl,rfl⟩
  rcases hiv with ⟨rfl,rfl⟩|⟨rfl,rfl⟩
  · have hs2:sub true 2 (wI y) (0*2)=some (.agg (wI y)):=rfl
    have hs2':sub true 2 (wI y) 0=some (.agg (wI y)):=rfl
    have w1:IntKind.i64.wrap (0+1)=1:=by decide
    have h01:(0:Int)<((1:Nat):Int):=by omega
    simp only [wI,whC,us32] at hs2 hs2'
    simp only [b123_0,wI,whC,us32,go_sem,FL,subW2,subW0,subW1,h01,hs2,hs2']
    refine goF h72 ?_
    simp only [us32,go_sem,FL,subW2,subW0,subW1,w1]
    exact loopQ_go rfl 0 (by omega) ⟨1,_,.inr ⟨rfl,rfl⟩,by omega,rfl⟩
  · have g:¬((1:Nat):Int)<1:=by omega
    simp only [b123_0,k123_0,wI,whC,us32,go_sem,FL,subW2,subW0,subW1,Int.lt_irrefl,g]
    simp only [i123,OT,reduceIte,Nat.reduceEqDiff,subW2,wI,whC,us32]
end
theorem decL_two {n k:Nat} (h:n<2^k) (hk:1≤k):(decL n).length≤k:=by
  by_cases h0:n=0
  · subst h0
    have:(decL 0).length=1:=rfl
    omega
  · have h1:=decL_len h0
    have h2:2^k≤10^k:=Nat.pow_le_pow_left (by omega) k
    have h3:10^((decL n).length - 1)<10^k:=by omega
    have:=(Nat.pow_lt_pow_iff_right (a:=10) (by omega)).1 h3
    omega
theorem dgs_digit {n i:Nat}:∃d:Nat,(dgs n).getD i 0=(d:Int)∧d≤9∧n % 10^(i+1)=n % 10^i+10^i*d:=by
  refine ⟨n/10^i % 10,dgs_get,by omega,?_⟩
  rw [Nat.mod_pow_succ]
def R9d (l:List Int):Prop:=∀x∈l,0≤x∧x≤9
theorem R9d_snoc {l:List Int} {d:Nat} (h:R9d l) (hd:d≤9):R9d (l++[(d:Int)]):=fun y hy=>by
  rcases List.mem_append.1 hy with h1|h1
  · exact h y h1
  · simp at h1;subst h1;omega
theorem R9d_put {l:List Int} {k d:Nat} (h:R9d l) (hd:d≤9):R9d (put l k (d:Int)):=fun y hy=>by
  unfold put at hy
  rcases List.mem_append.1 hy with h1|h1
  · exact h y (List.mem_of_mem_take h1)
  · rcases List.mem_cons.1 h1 with h1|h1
    · subst h1;omega
    · exact h y (List.mem_of_mem_drop h1)
theorem dval_append:∀{a b:List Int},dval (a++b)=dval a+10^a.length*dval b
  | [],b=>by simp [dval]
  | x::a,b=>by
    rw [List.cons_append,dval,dval_append,dval,List.length_cons,Nat.pow_succ,Nat.mul_add,←Nat.mul_assoc,Nat.mul_comm 10 (10^a.length)]
    omega
theorem put_dval {l:List Int} {k:Nat} {v:Int} (h:k<l.length):dval (put l k v)+10^k*(l.getD k 0).toNat=dval l+10^k*v.toNat:=by
  have e1:l=l.take k++l.getD k 0::l.drop (k+1):=by
    conv=>lhs;rw [←List.take_append_drop k l]
    congr 1
    rw [List.drop_eq_getElem_cons h]
    simp [List.getD,h]
  have hl:(l.take k).length=k:=by rw [List.length_take];omega
  have e2:dval l=dval (l.take k)+10^k*((l.getD k 0).toNat+10*dval (l.drop (k+1))):=by
    conv=>lhs;rw [e1]
    rw [dval_append,hl,dval]
  have e3:dval (put l k v)=dval (l.take k)+10^k*(v.toNat+10*dval (l.drop (k+1))):=by
    rw [put,dval_append,hl,dval]
  rw [e2,e3,Nat.mul_add,Nat.mul_add]
  omega
theorem dval_zeros:∀{n:Nat},dval (List.replicate n 0)=0
  | 0=>rfl
  | n+1=>by rw [List.replicate_succ,dval,dval_zeros];rfl
theorem add_facts {x y c:Nat} (hx:x≤9) (hy:y≤9) (hc:c≤1):∃d c':Nat,d≤9∧c'≤1∧x+y+c=d+10*c'∧(x=0→y=0→c'=0)∧
    IntKind.i64.wrap ((x:Int)+(y:Int))=((x+y:Nat):Int)∧IntKind.i64.wrap (((x+y:Nat):Int)+(c:Int))=((x+y+c:Nat):Int)∧
    (((x+y+c:Nat):Int)).tmod 10=(d:Int)∧(((x+y+c:Nat):Int)).tdiv 10=(c':Int)∧IntKind.i64.wrap (c':Int)=(c':Int):=by
  refine ⟨(x+y+c) % 10,(x+y+c)/10,by omega,by omega,by omega,fun h1 h2=>by omega,by rw [wrap_i64 (by omega) (by omega)];omega,by rw [wrap_i64 (by omega) (by omega)];omega,tmodN _ 10,tdivN _ 10,wrap_i64 (by omega) (by omega)⟩
section
variable {E:CallRel}
theorem c168_ok {a b:Nat} (ha:(decL a).length≤1000000) (hb:(decL b).length≤1000000):Go.V.Call tab E 168 [.str (dec a),.str (dec b)] [] (.str (dec (a+b))) []:=by
  refine Go.V.Call.mach i168 c168 rfl rfl rfl rfl ?_
  have hak:=dgs_len (n:=a)
  have hbk:=dgs_len (n:=b)
  have hna:=decL_ne a
  have hda:=fun i h=>c170_ok (E:=E) (n:=a) (i:=i) (by omega) h
  have hdb:=fun i h=>c170_ok (E:=E) (n:=b) (i:=i) (by omega) h
  have hsa:(dec a).size=(decL a).length:=by rw [dec_eq,bs_size]
  have hsb:(dec b).size=(decL b).length:=by rw [dec_eq,bs_size]
  obtain ⟨la,hla⟩:∃la,la=(decL a).length:=⟨_,rfl⟩
  obtain ⟨lb,hlb⟩:∃lb,lb=(decL b).length:=⟨_,rfl⟩
  have hla0:la≠0:=fun h=>hna (List.length_eq_zero_iff.1 (by omega))
  rw [←hla] at hak hsa ha
  rw [←hlb] at hbk hsb hb
  clear hna hla hlb
  have q10:¬((10:Int)=0):=by decide
  simp only [c168,go_sem]
  refine mLoop (fun N st=>∃(i:Nat) (L:List Int) (c:Nat),N=max la lb+1 - i∧i≤max la lb+1∧L.length=i∧R9d L∧c≤1∧(max la lb<i→c=0)∧dval L+10^i*c=a % 10^i+b % 10^i∧
    st=⟨[(0,.str (dec a)),(1,.str (dec b)),(5,.arr 0 i),(6,.int .i64 c),(7,.int .i64 i)],[⟨false,3,1,i,i,nums .i64 L,false⟩]⟩) (max la lb+1)
    ⟨_,rfl,0,[],0,by omega,by omega,rfl,fun x hx=>by simp at hx,by omega,fun _=>rfl,by simp [dval,Nat.mod_one],by simp [getE,nums]⟩ ?_
  rintro N s0 ⟨i,L,c,rfl,hi,hL,hR,hc,hcm,hv,rfl⟩
  obtain ⟨x,hx,hx9,hax⟩:=dgs_digit (n:=a) (i:=i)
  obtain ⟨y,hy,hy9,hby⟩:=dgs_digit (n:=b) (i:=i)
  have h1:=hda i (by omega)
  have h2:=hdb i (by omega)
  rw [hx] at h1
  rw [hy] at h2
  have hi1:IntKind.i64.wrap ((i:Int)+1)=((i+1:Nat):Int):=by rw [wrap_i64 (by omega) (by omega)];omega
  have e1:(i+1)*8≤140737488355328:=by omega
  have e2:i+1≤140737488355328:=by omega
  have x0:la≤i→x=0:=fun h=>by
    have h3:a<10^i:=Nat.lt_of_lt_of_le hak (Nat.pow_le_pow_right (by omega) h)
    have h4:a<10^(i+1):=Nat.lt_of_lt_of_le h3 (Nat.pow_le_pow_right (by omega) (by omega))
    rw [Nat.mod_eq_of_lt h3,Nat.mod_eq_of_lt h4] at hax
    have hp:0<10^i:=Nat.pow_pos (by omega)
    rcases Nat.eq_zero_or_pos x with h5|h5
    · exact h5
    · have:=Nat.mul_pos hp h5;omega
  have y0:lb≤i→y=0:=fun h=>by
    have h3:b<10^i:=Nat.lt_of_lt_of_le hbk (Nat.pow_le_pow_right (by omega) h)
    have h4:b<10^(i+1):=Nat.lt_of_lt_of_le h3 (Nat.pow_le_pow_right (by omega) (by omega))
    rw [Nat.mod_eq_of_lt h3,Nat.mod_eq_of_lt h4] at hby
    have hp:0<10^i:=Nat.pow_pos (by omega)
    rcases Nat.eq_zero_or_pos y with h5|h5
    · exact h5
    · have:=Nat.mul_pos hp h5;omega
  obtain ⟨d,c',hd,hc',hst,hz,w1,w2,w3,w4,w5⟩:=add_facts hx9 hy9 hc
  have goOn:(i<la∨i<lb∨0<c)→∃m,m<max la lb+1 - i∧∃(i':Nat) (L':List Int) (cc:Nat),m=max la lb+1 - i'∧i'≤max la lb+1∧L'.length=i'∧R9d L'∧cc≤1∧(max la lb<i'→cc=0)∧dval L'+10^i'*cc=a % 10^i'+b % 10^i'∧
      (⟨[(0,.str (dec a)),(1,.str (dec b)),(5,.arr 0 (i+1)),(6,.int .i64 c'),(7,.int .i64 ((i+1:Nat):Int))],[⟨false,3,1,i+1,i+1,nums .i64 L++[.int .i64 (d:Int)],false⟩]⟩:St) =
       ⟨[(0,.str (dec a)),(1,.str (dec b)),(5,.arr 0 i'),(6,.int .i64 cc),(7,.int .i64 i')],[⟨false,3,1,i',i',nums .i64 L',false⟩]⟩:=fun h=>by
    have him:i≤max la lb:=by
      by_cases hh:max la lb<i
      · have:=hcm hh;omega
      · omega
    refine ⟨max la lb+1 - (i+1),by omega,i+1,L++[(d:Int)],c',rfl,by omega,by simp [hL],R9d_snoc hR hd,hc',fun h=>hz (x0 (by omega)) (y0 (by omega)),?_,?_⟩
    · rw [dval_snoc,hL,Int.toNat_natCast,hax,hby,Nat.pow_succ,Nat.mul_assoc]
      generalize 10^i=P at *
      have e3:P*(x+y+c)=P*(d+10*c'):=by rw [hst]
      simp only [Nat.mul_add] at e3
      omega
    · simp only [nums,List.map_append,List.map_cons,List.map_nil]
  clear hax hby x0 y0 hst hz hda hdb
  by_cases h1a:i<la
  · have h1a':(i:Int)<(la:Int):=by omega
    obtain ⟨m,hm,hI⟩:=goOn (.inl h1a)
    clear goOn
    simp only [b168_0,go_sem,hsa,hsb,h1a']
    refine goP h1 ?_
    simp only [go_sem]
    refine goP h2 ?_
    simp only [go_sem,w1,w2,w3,w4,w5,q10,e1,e2,hi1,List.flatten_cons,List.flatten_nil,Option.getD_some]
    exact loopQ_go rfl m hm hI
  · have h1a':¬(i:Int)<(la:Int):=by omega
    by_cases h1b:i<lb
    · have h1b':(i:Int)<(lb:Int):=by omega
      obtain ⟨m,hm,hI⟩:=goOn (.inr (.inl h1b))
      clear goOn
      simp only [b168_0,go_sem,hsa,hsb,h1a',h1b']
      refine goP h1 ?_
      simp only [go_sem]
      refine goP h2 ?_
      simp only [go_sem,w1,w2,w3,w4,w5,q10,e1,e2,hi1,List.flatten_cons,List.flatten_nil,Option.getD_some]
      exact loopQ_go rfl m hm hI
    · have h1b':¬(i:Int)<(lb:Int):=by omega
      by_cases h1c:0<c
      · have h1c':(0:Int)<(c:Int):=by omega
        obtain ⟨m,hm,hI⟩:=goOn (.inr (.inr h1c))
        clear goOn
        simp only [b168_0,go_sem,hsa,hsb,h1a',h1b',h1c']
        refine goP h1 ?_
        simp only [go_sem]
        refine goP h2 ?_
        simp only [go_sem,w1,w2,w3,w4,w5,q10,e1,e2,hi1,List.flatten_cons,List.flatten_nil,Option.getD_some]
        exact loopQ_go rfl m hm hI
      · have h1c':¬(0:Int)<(c:Int):=by omega
        clear goOn
        have hc0:c=0:=by omega
        have h3:a<10^i:=Nat.lt_of_lt_of_le hak (Nat.pow_le_pow_right (by omega) (by omega))
        have h4:b<10^i:=Nat.lt_of_lt_of_le hbk (Nat.pow_le_pow_right (by omega) (by omega))
        rw [hc0,Nat.mul_zero,Nat.add_zero,Nat.mod_eq_of_lt h3,Nat.mod_eq_of_lt h4] at hv
        have h96:=c150_gen (E:=E) (L:=L) (by omega) (fun h=>by rw [h] at hL;simp at hL;omega) hR
        rw [hv,ints,hL] at h96
        clear h3 h4 hak hbk
        simp only [b168_0,k168_0,go_sem,hsa,hsb,h1a',h1b',h1c']
        refine goR h96 rfl ?_
        simp only [go_sem]
        simp only [i168,OT,reduceIte,Nat.reduceEqDiff]
end
theorem mul_facts {o x y c:Nat} (ho:o≤9) (hx:x≤9) (hy:y≤9) (hc:c≤9):∃d c':Nat,d≤9∧c'≤9∧o+x*y+c=d+10*c'∧
    IntKind.i64.wrap ((x:Int)*(y:Int))=((x*y:Nat):Int)∧IntKind.i64.wrap ((o:Int)+((x*y:Nat):Int))=((o+x*y:Nat):Int)∧IntKind.i64.wrap (((o+x*y:Nat):Int)+(c:Int))=((o+x*y+c:Nat):Int)∧
    (((o+x*y+c:Nat):Int)).tmod 10=(d:Int)∧(((o+x*y+c:Nat):Int)).tdiv 10=(c':Int)∧IntKind.i64.wrap (c':Int)=(c':Int):=by
  have hxy:x*y≤81:=Nat.le_trans (Nat.mul_le_mul hx hy) (by omega)
  have hcast:(x:Int)*(y:Int)=((x*y:Nat):Int):=by omega
  rw [hcast]
  generalize x*y=z at *
  refine ⟨(o+z+c) % 10,(o+z+c)/10,by omega,by omega,by omega,wrap_i64 (by omega) (by omega),by rw [wrap_i64 (by omega) (by omega)];omega,by rw [wrap_i64 (by omega) (by omega)];omega,tmodN _ 10,tdivN _ 10,wrap_i64 (by omega) (by omega)⟩
section
variable {E:CallRel}
theorem c160_ok {a b:Nat} (ha:(decL a).length≤1000000) (hb:(decL b).length≤1000000):Go.V.Call tab E 160 [.str (dec a),.str (dec b)] [] (.str (dec (a*b))) []:=by
  refine Go.V.Call.mach i160 c160 rfl rfl rfl rfl ?_
  have hak:=dgs_len (n:=a)
  have hbk:=dgs_len (n:=b)
  have hda:=fun i h=>c170_ok (E:=E) (n:=a) (i:=i) (by omega) h
  have hdb:=fun i h=>c170_ok (E:=E) (n:=b) (i:=i) (by omega) h
  have hsa:(dec a).size=(decL a).length:=by rw [dec_eq,bs_size]
  have hsb:(dec b).size=(decL b).length:=by rw [dec_eq,bs_size]
  obtain ⟨la,hla⟩:∃la,la=(decL a).length:=⟨_,rfl⟩
  obtain ⟨lb,hlb⟩:∃lb,lb=(decL b).length:=⟨_,rfl⟩
  rw [←hla] at hak hsa ha
  rw [←hlb] at hbk hsb hb
  clear hla hlb
  obtain ⟨n,hn⟩:∃n,n=la+lb+1:=⟨_,rfl⟩
  have v1:IntKind.i64.wrap ((la:Int)+(lb:Int))=(la:Int)+(lb:Int):=wrap_i64 (by omega) (by omega)
  have v2:IntKind.i64.wrap ((la:Int)+(lb:Int)+1)=(n:Int):=by rw [wrap_i64 (by omega) (by omega)];omega
  have b1:(0:Int)≤(n:Int):=by omega
  have b2:8*n≤140737488355328:=by omega
  have b3:(n:Int)≤140737488355328:=by omega
  have q10:¬((10:Int)=0):=by decide
  simp only [c160,go_sem,hsa,hsb,v1,v2,b1,b2,b3,Int.toNat_natCast,flat_nums]
  refine mLoop (fun N st=>∃(i:Nat) (L:List Int),N=la - i∧i≤la∧L.length=n∧R9d L∧dval L=a % 10^i*b∧
    st=⟨[(0,.str (dec a)),(1,.str (dec b)),(5,.arr 0 0),(6,.int .i64 i)],[⟨false,3,1,0,n,nums .i64 L,false⟩]⟩) la
    ⟨_,rfl,0,List.replicate n 0,by omega,by omega,by simp,fun x hx=>by have:=List.eq_of_mem_replicate hx;omega,by rw [dval_zeros];simp [Nat.mod_one],by simp [getE]⟩ ?_
  rintro N s0 ⟨i,L,rfl,hi,hL,hR,hv,rfl⟩
  by_cases hil:i<la
  · have hil':(i:Int)<(la:Int):=by omega
    have hi1:IntKind.i64.wrap ((i:Int)+1)=((i+1:Nat):Int):=by rw [wrap_i64 (by omega) (by omega)];omega
    obtain ⟨x,hx,hx9,hax⟩:=dgs_digit (n:=a) (i:=i)
    have h1:=hda i (by omega)
    rw [hx] at h1
    have hub:a % 10^(i+1)*b<10^(i+1)*10^lb:=by
      have h3:a % 10^(i+1)<10^(i+1):=Nat.mod_lt _ (Nat.pow_pos (by omega))
      exact Nat.mul_lt_mul'' h3 hbk
    have hax2:a % 10^(i+1)*b=a % 10^i*b+10^i*(x*b):=by rw [hax,Nat.add_mul,Nat.mul_assoc]
    simp only [b160_0,go_sem,hsa,hsb,hil']
    refine mLoop (fun N st=>∃(j:Nat) (L:List Int) (c:Nat),N=lb+1 - j∧j≤lb+1∧L.length=n∧R9d L∧c≤9∧(0<c→j≤lb)∧dval L+10^(i+j)*c=a % 10^i*b+10^i*(x*(b % 10^j))∧
      st=⟨[(0,.str (dec a)),(1,.str (dec b)),(5,.arr 0 0),(6,.int .i64 i),(7,.int .i64 c),(8,.int .i64 j)],[⟨false,3,1,0,n,nums .i64 L,false⟩]⟩) (lb+1)
      ⟨_,rfl,0,L,0,by omega,by omega,hL,hR,by omega,fun h=>by omega,by rw [hv];simp [Nat.mod_one],by simp [getE]⟩ ?_
    clear hv hR hL
    rintro N s0 ⟨j,L,c,rfl,hj,hL,hR,hc,hcj,hv,rfl⟩
    obtain ⟨y,hy,hy9,hby⟩:=dgs_digit (n:=b) (i:=j)
    have h2:=hdb j (by omega)
    rw [hy] at h2
    have hj1:IntKind.i64.wrap ((j:Int)+1)=((j+1:Nat):Int):=by rw [wrap_i64 (by omega) (by omega)];omega
    have goOn:j≤lb→i+j<L.length∧∃o:Nat,L.getD (i+j) 0=(o:Int)∧o≤9∧∀d c',d≤9→c'≤9→o+x*y+c=d+10*c'→
        ∃m,m<lb+1 - j∧∃(j':Nat) (L':List Int) (cc:Nat),m=lb+1 - j'∧j'≤lb+1∧L'.length=n∧R9d L'∧cc≤9∧(0<cc→j'≤lb)∧dval L'+10^(i+j')*cc=a % 10^i*b+10^i*(x*(b % 10^j'))∧
        (⟨[(0,.str (dec a)),(1,.str (dec b)),(5,.arr 0 0),(6,.int .i64 i),(7,.int .i64 c'),(8,.int .i64 ((j+1:Nat):Int))],[⟨false,3,1,0,n,nums .i64 (put L (i+j) (d:Int)),false⟩]⟩:St) =
         ⟨[(0,.str (dec a)),(1,.str (dec b)),(5,.arr 0 0),(6,.int .i64 i),(7,.int .i64 cc),(8,.int .i64 j')],[⟨false,3,1,0,n,nums .i64 L',false⟩]⟩:=fun hjl=>by
      have hlt:i+j<L.length:=by omega
      have ho:=hR (L.getD (i+j) 0) (by simp [List.getD,hlt])
      refine ⟨hlt,(L.getD (i+j) 0).toNat,by omega,by omega,fun d c' hd hc' hst=>?_⟩
      have hpd:=put_dval (l:=L) (k:=i+j) (v:=(d:Int)) hlt
      rw [Int.toNat_natCast] at hpd
      have hinv:dval (put L (i+j) (d:Int))+10^(i+(j+1))*c'=a % 10^i*b+10^i*(x*(b % 10^(j+1))):=by
        have e4:10^i*(x*(b % 10^(j+1)))=10^i*(x*(b % 10^j))+10^(i+j)*(x*y):=by
          rw [hby,Nat.mul_add,Nat.mul_add,Nat.pow_add,Nat.mul_assoc (10^i) (10^j)]
          congr 2
          rw [←Nat.mul_assoc,←Nat.mul_assoc,Nat.mul_comm x]
        rw [e4,show i+(j+1)=(i+j)+1 by omega,Nat.pow_succ,Nat.mul_assoc]
        generalize 10^(i+j)=P at *
        have e3:P*((L.getD (i+j) 0).toNat+x*y+c)=P*(d+10*c'):=by rw [hst]
        simp only [Nat.mul_add] at e3
        omega
      refine ⟨lb+1 - (j+1),by omega,j+1,put L (i+j) (d:Int),c',rfl,by omega,by rw [put_len hlt,hL],R9d_put hR hd,hc',fun hcp=>?_,hinv,rfl⟩
      by_cases hjb:j+1≤lb
      · exact hjb
      · exfalso
        have hjb2:j=lb:=by omega
        subst hjb2
        have hbm:b % 10^(j+1)=b:=Nat.mod_eq_of_lt (Nat.lt_of_lt_of_le hbk (Nat.pow_le_pow_right (by omega) (by omega)))
        rw [hbm,←hax2] at hinv
        have h5:10^(i+(j+1))≤10^(i+(j+1))*c':=Nat.le_mul_of_pos_right _ hcp
        have h6:10^(i+(j+1))=10^(i+1)*10^j:=by rw [←Nat.pow_add];congr 1;omega
        omega
    by_cases hjb:j<lb
    · have hjb':(j:Int)<(lb:Int):=by omega
      obtain ⟨hlt,o,ho,ho9,hgo⟩:=goOn (by omega)
      obtain ⟨d,c',hd,hc',hst,w1,w2,w3,w4,w5,w6⟩:=mul_facts ho9 hx9 hy9 hc
      obtain ⟨m,hm,hI⟩:=hgo d c' hd hc' hst
      have hij:IntKind.i64.wrap ((i:Int)+(j:Int))=((i+j:Nat):Int):=by rw [wrap_i64 (by omega) (by omega)];omega
      have hij0:(0:Int)≤((i+j:Nat):Int):=by omega
      have hijn:((i+j:Nat):Int)<(n:Int):=by omega
      have hsub:=sub_nums (k:=.i64) hlt
      rw [ho] at hsub
      have t1:(i+j)*1+1≤L.length:=by omega
      clear goOn hgo hst hv hub hax hax2 hby hak hbk hda hdb hR hcj
      simp only [b160_1,go_sem,hsa,hsb,hjb',hij,hij0,hijn,Int.toNat_natCast,hsub]
      refine goP h1 ?_
      simp only [go_sem]
      refine goP h2 ?_
      simp only [go_sem,w1,w2,w3,w4,w5,w6,q10,hij,hij0,hijn,Int.toNat_natCast,t1,hj1]
      exact loopQ_go rfl m hm hI
    · have hjb':¬(j:Int)<(lb:Int):=by omega
      by_cases hcp:0<c
      · have hcp':(0:Int)<(c:Int):=by omega
        obtain ⟨hlt,o,ho,ho9,hgo⟩:=goOn (hcj hcp)
        obtain ⟨d,c',hd,hc',hst,w1,w2,w3,w4,w5,w6⟩:=mul_facts ho9 hx9 hy9 hc
        obtain ⟨m,hm,hI⟩:=hgo d c' hd hc' hst
        have hij:IntKind.i64.wrap ((i:Int)+(j:Int))=((i+j:Nat):Int):=by rw [wrap_i64 (by omega) (by omega)];omega
        have hij0:(0:Int)≤((i+j:Nat):Int):=by omega
        have hijn:((i+j:Nat):Int)<(n:Int):=by omega
        have hsub:=sub_nums (k:=.i64) hlt
        rw [ho] at hsub
        have t1:(i+j)*1+1≤L.length:=by omega
        clear goOn hgo hst hv hub hax hax2 hby hak hbk hda hdb hR hcj
        simp only [b160_1,go_sem,hsa,hsb,hjb',hcp',hij,hij0,hijn,Int.toNat_natCast,hsub]
        refine goP h1 ?_
        simp only [go_sem]
        refine goP h2 ?_
        simp only [go_sem,w1,w2,w3,w4,w5,w6,q10,hij,hij0,hijn,Int.toNat_natCast,t1,hj1]
        exact loopQ_go rfl m hm hI
      · have hcp':¬(0:Int)<(c:Int):=by omega
        have hc0:c=0:=by omega
        have hbm:b % 10^j=b:=Nat.mod_eq_of_lt (Nat.lt_of_lt_of_le hbk (Nat.pow_le_pow_right (by omega) (by omega)))
        rw [hc0,Nat.mul_zero,Nat.add_zero,hbm,←hax2] at hv
        clear goOn hub hax hax2 hby hak hbk hda hdb hcj hbm
        simp only [b160_1,k160_0,go_sem,hsa,hsb,hjb',hcp',hi1]
        exact loopQ_go rfl (la - (i+1)) (by omega) ⟨i+1,L,rfl,by omega,hL,hR,hv,rfl⟩
  · have hil':¬(i:Int)<(la:Int):=by omega
    obtain rfl:i=la:=by omega
    rw [Nat.mod_eq_of_lt hak] at hv
    have h96:=c150_gen (E:=E) (L:=L) (by omega) (fun h=>by rw [h] at hL;simp at hL;omega) hR
    rw [hv,ints,hL] at h96
    simp only [b160_0,k160_1,go_sem,hsa,hsb,hil',Int.lt_irrefl]
    refine goR h96 rfl ?_
    simp only [go_sem]
    simp only [i160,OT,reduceIte,Nat.reduceEqDiff]
theorem c149_two {a b m:Nat} (hm:2*m≤19998) (hb:b<2^m) (hla:(decL a).length≤100000) (hlb:(decL b).length≤100000):Go.V.Call tab E 149 [.str (dec a),.str (dec b)] [] (.str (dec (Nat.gcd a b))) []:=by
  refine Go.V.Call.mach i149 c149 rfl rfl rfl rfl ?_
  obtain ⟨S,hS⟩:∃S,S=2^(2*m):=⟨_,rfl⟩
  have hbb:b*b≤S:=by
    rw [hS,show 2*m=m+m by omega,Nat.pow_add]
    exact Nat.mul_le_mul (by omega) (by omega)
  have hpow:∀j,2^j<S→j<19998:=fun j h=>by
    rw [hS] at h
    have:=(Nat.pow_lt_pow_iff_right (a:=2) (by omega)).1 h
    omega
  clear hS hb
  have hd0:(⟨#[48]⟩:ByteArray)=dec 0:=rfl
  simp only [c149,go_sem,hd0]
  refine mLoop (fun N st=>∃(i x y:Nat),N=y∧Nat.gcd x y=Nat.gcd a b∧(decL x).length≤100000∧(decL y).length≤100000∧(i=0∧y=b∨1≤i∧y<x∧x*y*2^(i - 1)<S)∧
    st=⟨[(0,.str (dec x)),(1,.str (dec y)),(5,.int .i64 i)],[]⟩) b ⟨_,rfl,0,a,b,rfl,rfl,hla,hlb,.inl ⟨rfl,rfl⟩,by simp [getE]⟩ ?_
  rintro N s0 ⟨i,x,y,rfl,hg,hx,hy,hm,h2⟩
  have hne:strOp .ne (dec N) (dec 0)=some (.bool (decide (N≠0))):=by
    rw [dec_ne]
    congr 2
    rw [←decide_not]
  by_cases hN:N=0
  · subst hN
    rw [Nat.gcd_zero_right] at hg
    subst hg
    rw [decide_eq_false (by omega)] at hne
    by_cases hi:i<20000
    · have hi':(i:Int)<20000:=by omega
      simp only [h2,b149_0,k149_0,go_sem,hd0,hi',hne]
      simp only [i149,OT,reduceIte,Nat.reduceEqDiff]
    · have hi':¬(i:Int)<20000:=by omega
      simp only [h2,b149_0,k149_0,go_sem,hd0,hi',hne]
      simp only [i149,OT,reduceIte,Nat.reduceEqDiff]
  · rw [decide_eq_true hN] at hne
    have hNp:0<N:=Nat.pos_of_ne_zero hN
    have hi:i<20000:=by
      rcases hm with h|⟨h1,h5',h3⟩
      · omega
      · have h4:1≤x*N:=Nat.mul_pos (by omega) hNp
        have h5:=Nat.mul_le_mul_right (2^(i - 1)) h4
        rw [Nat.one_mul] at h5
        have h6:2^(i - 1)<S:=Nat.lt_of_le_of_lt h5 h3
        have h7:=hpow _ h6
        omega
    have hi':(i:Int)<20000:=by omega
    have hi1:IntKind.i64.wrap ((i:Int)+1)=((i+1:Nat):Int):=by rw [wrap_i64 (by omega) (by omega)];omega
    have h138:=c158_ok (E:=E) (a:=x) hN hx hy
    have hml:=Nat.mod_lt x hNp
    have hg2:Nat.gcd N (x % N)=Nat.gcd a b:=by rw [←hg,Nat.gcd_comm N,←Nat.gcd_rec,Nat.gcd_comm]
    have hnew:N*(x % N)*2^i<S:=by
      rcases hm with ⟨h,h'⟩|⟨h1,h5',h3⟩
      · subst h
        subst h'
        rw [Nat.pow_zero,Nat.mul_one]
        exact Nat.lt_of_lt_of_le (Nat.mul_lt_mul_of_pos_left hml hNp) hbb
      · have h4:2*(x % N)≤x:=by
          have e1:=Nat.div_add_mod x N
          have e2:1≤x/N:=(Nat.one_le_div_iff hNp).2 (by omega)
          have e3:=Nat.mul_le_mul_left N e2
          omega
        obtain ⟨k,rfl⟩:∃k,i=k+1:=⟨i - 1,by omega⟩
        rw [Nat.add_sub_cancel] at h3
        refine Nat.lt_of_le_of_lt ?_ h3
        rw [Nat.pow_succ,Nat.mul_comm (2^k) 2,←Nat.mul_assoc]
        refine Nat.mul_le_mul_right _ ?_
        rw [Nat.mul_assoc,Nat.mul_comm x,Nat.mul_comm (x % N)]
        exact Nat.mul_le_mul_left _ h4
    have hlr:(decL (x % N)).length≤100000:=by
      by_cases h:(decL N).length<(decL (x % N)).length
      · have:=decL_short h;omega
      · omega
    generalize x % N=r at *
    simp only [h2,b149_0,go_sem,hd0,hi',hne]
    refine goP h138 ?_
    simp only [go_sem,hi1]
    exact loopQ_go rfl r (by omega) ⟨i+1,N,r,rfl,hg2,hy,hlr,.inr ⟨by omega,hml,by rw [Nat.add_sub_cancel];exact hnew⟩,rfl⟩
end
def wdI (z:Int):List AV:=wdC (decide (z<0)) z.natAbs
def numR (r:Rat):List AV:=numG (decide (r.num<0)) r.num.natAbs r.den
theorem numR_nm {r:Rat}:numR r=nmC (toNm (rR r)):=by
  rw [←nmC_dec]
  simp only [rR,dn_pos r.den_nz]
  rfl
theorem wdI_mul {a b:Int}:wdC ((decide (a<0) != decide (b<0))&&decide (a.natAbs*b.natAbs≠0)) (a.natAbs*b.natAbs)=wdI (a*b):=by
  rw [←sgn_mul,←Int.natAbs_mul]
  rfl
theorem wdI_neg {p:Nat}:wdC (true&&decide (p≠0)) p=wdI (-(p:Int)):=by
  have h1:(-(p:Int)).natAbs=p:=by omega
  rw [wdI,h1]
  congr 1
  by_cases h:p=0
  · subst h;rfl
  · rw [decide_eq_true h,decide_eq_true (show -(p:Int)<0 by omega)];rfl
theorem wdI_pos {p:Nat}:wdC (false&&decide (p≠0)) p=wdI (p:Int):=by
  have h1:((p:Int)).natAbs=p:=by omega
  rw [wdI,h1,decide_eq_false (show ¬(p:Int)<0 by omega)]
  rfl
theorem dec_eqB {a b:Nat}:strOp .eq (dec a) (dec b)=some (.bool (decide (a=b))):=by
  rw [dec_eq,dec_eq]
  simp only [strOp,str_eq (decL_dig a).u8 (decL_dig b).u8]
  congr 2
  by_cases h:a=b
  · subst h;simp
  · rw [decide_eq_false h,decide_eq_false]
    intro hh
    exact h (by rw [←sval_decL a,hh,sval_decL])
theorem decL_le {a b:Nat} (h:a≤b):(decL a).length≤(decL b).length:=by
  by_cases hl:(decL b).length<(decL a).length
  · have:=decL_short hl;omega
  · omega
theorem numR_parts {a b:Int} (hb:b≠0):numG ((decide (a<0) != decide (b<0))&&decide (a.natAbs/Nat.gcd a.natAbs b.natAbs≠0)) (a.natAbs/Nat.gcd a.natAbs b.natAbs) (b.natAbs/Nat.gcd a.natAbs b.natAbs)=numR (Rat.divInt a b):=by
  obtain ⟨h1,h2,h3⟩:=divInt_parts (a:=a) hb
  rw [←h3,←h1,←h2]
  rfl
theorem natAbs_den {r:Rat}:((r.den:Int)).natAbs=r.den:=by omega
theorem den_neg {r:Rat}:decide ((r.den:Int)<0)=false:=decide_eq_false (by omega)
section
variable {E:CallRel}
theorem c133_ok {a b:Int} (ha:(decL a.natAbs).length≤1000000) (hb:(decL b.natAbs).length≤1000000) (hab:(decL (a*b).natAbs).length≤1000000000):Go.V.Call tab E 133 [.agg (wdI a),.agg (wdI b)] [] (.agg (wdI (a*b))) []:=by
  refine Go.V.Call.mach i133 c133 rfl rfl rfl rfl ?_
  have h82:=c160_ok (E:=E) ha hb
  rw [Int.natAbs_mul] at hab
  have h78:=c159_ok (E:=E) (n:=decide (a<0) != decide (b<0)) hab
  rw [wdI_mul] at h78
  simp only [wdI,wdC] at h78
  simp only [c133,wdI,wdC,go_sem,FL,subD0,subD1]
  refine goP h82 ?_
  simp only [go_sem,FL]
  refine goP h78 ?_
  simp only [go_sem,FL]
  simp only [i133,OT,reduceIte,Nat.reduceEqDiff,subD2,wdI,wdC]
theorem c157_ok {x y:Int} (hx:(decL x.natAbs).length≤1000000) (hy:(decL y.natAbs).length≤1000000) (hs:(decL (x.natAbs+y.natAbs)).length≤1000000000):Go.V.Call tab E 157 [.agg (wdI x),.agg (wdI y)] [] (.agg (wdI (x+y))) []:=by
  refine Go.V.Call.mach i157 c157 rfl rfl rfl rfl ?_
  have h79:=c168_ok (E:=E) hx hy
  have h80:=c164_ok (E:=E) (a:=x.natAbs) (b:=y.natAbs)
  have h81:=fun h=>c169_ok (E:=E) (a:=x.natAbs) (b:=y.natAbs) h hx hy
  have h81':=fun h=>c169_ok (E:=E) (a:=y.natAbs) (b:=x.natAbs) h hy hx
  have h78:=fun n p h=>c159_ok (E:=E) (n:=n) (p:=p) h
  simp only [wdC] at h78
  by_cases hs2:decide (x<0)=decide (y<0)
  · have hb:(decide (x<0)==decide (y<0))=true:=by rw [hs2];cases decide (y<0)<;>rfl
    have hr:wdC (decide (x<0)&&decide (x.natAbs+y.natAbs≠0)) (x.natAbs+y.natAbs)=wdI (x+y):=by
      by_cases h:x<0
      · have hy0:y<0:=by rw [decide_eq_true h] at hs2;simpa using hs2.symm
        rw [decide_eq_true h,wdI_neg]
        congr 1;omega
      · have hy0:¬y<0:=by rw [decide_eq_false h] at hs2;simpa using hs2.symm
        rw [decide_eq_false h,wdI_pos]
        congr 1;omega
    rw [←hr]
    simp only [c157,wdI,wdC,go_sem,FL,subD0,subD1,hb]
    refine goP h79 ?_
    simp only [go_sem,FL]
    refine goP (h78 _ _ hs) ?_
    simp only [go_sem,FL]
    simp only [i157,OT,reduceIte,Nat.reduceEqDiff,subD2,wdC]
  · have hb:(decide (x<0)==decide (y<0))=false:=by
      revert hs2;cases decide (x<0)<;>cases decide (y<0)<;>intro hs2<;>first|rfl|exact absurd rfl hs2
    by_cases hle:y.natAbs≤x.natAbs
    · have hc:(0:Int)≤cmpZ x.natAbs y.natAbs:=by
        unfold cmpZ
        rw [if_neg (by omega)]
        split<;>omega
      have hr:wdC (decide (x<0)&&decide (x.natAbs - y.natAbs≠0)) (x.natAbs - y.natAbs)=wdI (x+y):=by
        by_cases h:x<0
        · have hy0:¬y<0:=fun h2=>hs2 (by rw [decide_eq_true h,decide_eq_true h2])
          rw [decide_eq_true h,wdI_neg]
          congr 1;omega
        · have hy0:y<0:=by
            by_cases h2:y<0
            · exact h2
            · exact absurd (by rw [decide_eq_false h,decide_eq_false h2]) hs2
          rw [decide_eq_false h,wdI_pos]
          congr 1;omega
      rw [←hr]
      simp only [c157,wdI,wdC,go_sem,FL,subD0,subD1,hb]
      refine goP h80 ?_
      simp only [go_sem,FL,subD0,subD1,hc]
      refine goP (h81 hle) ?_
      simp only [go_sem,FL]
      refine goP (h78 _ _ (Nat.le_trans (decL_le (Nat.sub_le _ _)) (by omega))) ?_
      simp only [go_sem,FL]
      simp only [i157,OT,reduceIte,Nat.reduceEqDiff,subD2,wdC]
    · have hc:¬(0:Int)≤cmpZ x.natAbs y.natAbs:=by
        unfold cmpZ
        rw [if_pos (by omega)]
        omega
      have hr:wdC (decide (y<0)&&decide (y.natAbs - x.natAbs≠0)) (y.natAbs - x.natAbs)=wdI (x+y):=by
        by_cases h:y<0
        · have hy0:¬x<0:=fun h2=>hs2 (by rw [decide_eq_true h,decide_eq_true h2])
          rw [decide_eq_true h,wdI_neg]
          congr 1;omega
        · have hy0:x<0:=by
            by_cases h2:x<0
            · exact h2
            · exact absurd (by rw [decide_eq_false h,decide_eq_false h2]) hs2
          rw [decide_eq_false h,wdI_pos]
          congr 1;omega
      rw [←hr]
      simp only [c157,wdI,wdC,go_sem,FL,subD0,subD1,hb]
      refine goP h80 ?_
      simp only [go_sem,FL,subD0,subD1,hc]
      refine goP (h81' (by omega)) ?_
      simp only [go_sem,FL]
      refine goP (h78 _ _ (Nat.le_trans (decL_le (Nat.sub_le _ _)) (by omega))) ?_
      simp only [go_sem,FL]
      simp only [i157,OT,reduceIte,Nat.reduceEqDiff,subD2,wdC]
theorem c134_R {r:Rat} (hp:(decL r.num.natAbs).length≤1000000000):Go.V.Call tab E 134 [.agg (numR r)] [] (.agg (wdI r.num)) []:=by
  have h:=c134_ok (E:=E) (x:=rR r) hp
  have e1:wdC ((rR r).1&&decide ((rR r).2.1≠0)) (rR r).2.1=wdI r.num:=by
    show wdC (decide (r.num<0)&&decide (r.num.natAbs≠0)) r.num.natAbs=_
    rw [sgn_zero];rfl
  have e2:numG (rR r).1 (rR r).2.1 (dn (rR r).2.2)=numR r:=by
    show numG _ _ (dn r.den)=_
    rw [dn_pos r.den_nz];rfl
  rw [e1,e2] at h
  exact h
theorem c135_ok {r:Rat} (hp:(decL r.den).length≤1000000000):Go.V.Call tab E 135 [.agg (numR r)] [] (.agg (wdI (r.den:Int))) []:=by
  refine Go.V.Call.mach i135 c135 rfl rfl rfl rfl ?_
  have h:=c159_ok (E:=E) (n:=false) hp
  rw [wdI_pos] at h
  simp only [wdI,wdC] at h
  simp only [c135,numR,numG,go_sem,FL,subN2]
  refine goP h ?_
  simp only [go_sem,FL]
  simp only [i135,OT,reduceIte,Nat.reduceEqDiff,subD2,wdI,wdC]
theorem c132_ok {a b:Int} {m:Nat} (hb:b≠0) (hm:2*m≤19998) (hbm:b.natAbs<2^m) (hla:(decL a.natAbs).length≤100000) (hlb:(decL b.natAbs).length≤100000) :
    Go.V.Call tab E 132 [.agg (wdI a),.agg (wdI b)] [] (.tup [.agg (numR (Rat.divInt a b)),.bool true]) []:=by
  refine Go.V.Call.mach i132 c132 rfl rfl rfl rfl ?_
  have hz:=dec_eqB (a:=b.natAbs) (b:=0)
  rw [dec_zero,decide_eq_false (by omega)] at hz
  have h76:=c149_two (E:=E) (a:=a.natAbs) hm hbm hla hlb
  have hgp:0<Nat.gcd a.natAbs b.natAbs:=Nat.gcd_pos_of_pos_right _ (by omega)
  have hlg:(decL (Nat.gcd a.natAbs b.natAbs)).length≤100000:=Nat.le_trans (decL_le (Nat.gcd_le_right _ (by omega))) hlb
  have h77:=c158_ok (E:=E) (a:=a.natAbs) (b:=Nat.gcd a.natAbs b.natAbs) (by omega) hla hlg
  have h77':=c158_ok (E:=E) (a:=b.natAbs) (b:=Nat.gcd a.natAbs b.natAbs) (by omega) hlb hlg
  have hne:=dec_ne (a:=a.natAbs/Nat.gcd a.natAbs b.natAbs) (b:=0)
  rw [dec_zero] at hne
  rw [←numR_parts hb]
  generalize Nat.gcd a.natAbs b.natAbs=g at *
  have hnd:(!decide (a.natAbs/g=0))=decide (a.natAbs/g≠0):=decide_not.symm
  rw [hnd] at hne
  clear hnd hgp hlg hbm
  cases hs:(decide (a<0) != decide (b<0)) with
  | true=>
    have hs:(decide (a<0)==decide (b<0))=false:=by
      revert hs;cases decide (a<0)<;>cases decide (b<0)<;>intro hs<;>first|rfl|cases hs
    simp only [c132,wdI,wdC,go_sem,FL,subD0,subD1,hz]
    refine goP h76 ?_
    simp only [go_sem,FL,subD0,subD1]
    refine goP h77 ?_
    simp only [go_sem,FL,subD0,subD1]
    refine goP h77' ?_
    simp only [go_sem,FL,subD0,subD1,hs,hne]
    simp only [i132,OT,reduceIte,Nat.reduceEqDiff,subT3,numG,Bool.true_and]
  | false=>
    have hs:(decide (a<0)==decide (b<0))=true:=by
      revert hs;cases decide (a<0)<;>cases decide (b<0)<;>intro hs<;>first|rfl|cases hs
    simp only [c132,wdI,wdC,go_sem,FL,subD0,subD1,hz]
    refine goP h76 ?_
    simp only [go_sem,FL,subD0,subD1]
    refine goP h77 ?_
    simp only [go_sem,FL,subD0,subD1]
    refine goP h77' ?_
    simp only [go_sem,FL,subD0,subD1,hs]
    simp only [i132,OT,reduceIte,Nat.reduceEqDiff,subT3,numG,Bool.false_and]
theorem c66_I {a b:Int} (ha:(limG a.natAbs).length≤1000000) (hb:(limG b.natAbs).length≤1000000):Go.V.Call tab E 66 [.agg (wI a),.sl 1 2 (wI b)] [] (.agg (wI (a*b))) []:=by
  rw [←wI_mul]
  exact c66_ok ha hb
theorem c67_R {x:Rt} {r:Rat} (h:RV x r):Go.V.Call tab E 67 [.agg (rtC x)] [] (.agg (wI (r.den:Int))) []:=by
  have h1:=c67_ok (E:=E) (n:=x.1) (p:=x.2.1) (q:=x.2.2)
  rw [h.2.2] at h1
  rw [wI,den_neg,natAbs_den]
  exact h1
theorem c122_I {a b:Int} (hb:b≠0) (hla:(limG a.natAbs).length≤1000000) (hlb:(limG b.natAbs).length≤1000000) :
    Go.V.Call tab E 122 [.agg (wI a),.agg (wI b)] [] (.tup [.agg (rtC (rR (Rat.divInt a b))),.bool true]) []:=by
  rw [←rR_divInt hb]
  exact c122_ok (by omega) hla hlb
theorem rtC_top {x:Rt} {r:Rat} (h:RV x r):rtC x=wI r.num++[us32 (limG x.2.2)]:=by
  obtain ⟨n,p,q⟩:=x
  obtain ⟨h1,h2,_⟩:=h
  simp only at h1 h2
  subst h1;subst h2
  rfl
set_option maxHeartbeats 1000000 in
theorem c82_ok {x y:Rt} {a b:Rat} {i j:Nat} (hx:RV x a) (hy:RV y b) (ha:Sz i a) (hb:Sz j b) (hij:i+j+1≤32000000):Go.V.Call tab E 82 [.agg (rtC x),.sl 1 3 (rtC y)] [] (.agg (rtC (rR (a+b)))) []:=by
  refine Go.V.Call.mach i82 c82 rfl rfl rfl rfl ?_
  obtain ⟨hn,hd⟩:=add_num_lt ha hb
  have ux:=c67_R (E:=E) hx
  have uy:=c67_R (E:=E) hy
  have e1:(a.num*b.den).natAbs<2^(i+j):=by rw [Int.natAbs_mul,Int.natAbs_natCast];exact lt_mul_pow ha.1 hb.2
  have e2:(b.num*a.den).natAbs<2^(i+j):=by rw [Int.natAbs_mul,Int.natAbs_natCast,Nat.add_comm];exact lt_mul_pow hb.1 ha.2
  have l1:=limG_sz ha.1 (by omega)
  have l2:=limG_sz ha.2 (by omega)
  have l3:=limG_sz hb.1 (by omega)
  have l4:=limG_sz hb.2 (by omega)
  have p1:=c66_I (E:=E) (a:=a.num) (b:=(b.den:Int)) l1 (by rw [natAbs_den];exact l4)
  have p2:=c66_I (E:=E) (a:=b.num) (b:=(a.den:Int)) l3 (by rw [natAbs_den];exact l2)
  have p3:=c66_I (E:=E) (a:=(a.den:Int)) (b:=(b.den:Int)) (by rw [natAbs_den];exact l2) (by rw [natAbs_den];exact l4)
  have s:=c123_ok (E:=E) (x:=a.num*b.den) (y:=b.num*a.den) (limG_sz e1 (by omega)) (limG_sz e2 (by omega))
  have h38:=c122_I (E:=E) (a:=a.num*b.den+b.num*a.den) (b:=(a.den:Int)*b.den) den_mul_ne (limG_sz hn (by omega)) (limG_sz hd (by omega))
  rw [add_divInt] at h38
  clear e1 e2 l1 l2 l3 l4 hn hd
  generalize a.num*(b.den:Int)=A1 at *
  generalize b.num*(a.den:Int)=A2 at *
  generalize (a.den:Int)*(b.den:Int)=A3 at *
  have tx:=rtC_top hx
  have ty:=rtC_top hy
  generalize rR (a+b)=z at *
  rw [tx] at ux
  rw [ty] at uy
  simp only [wI,whC,us32,List.cons_append,List.nil_append] at ux uy p1 p2 p3 s
  simp only [rtC,ratG,us32,wI,whC] at h38
  simp only [c82,tx,ty,rtC,ratG,wI,whC,us32,go_sem,FL,subT3]
  refine mLoop (fun N st=>∃(k:Nat) (cs:List AV),(k=0∧cs=rtC x∨k=1∧cs=rtC z)∧N=1 - k∧
    st=⟨[(2,.loc 0 0 0),(4,.loc 3 0 0),(7,.sl 1 3 (rtC y)),(8,.int .i64 1),(9,.int .i64 k)],[⟨true,57,3,0,1,cs,false⟩,⟨false,162,1,0,0,[],false⟩,⟨false,162,1,0,0,[],false⟩,⟨true,57,3,0,1,[.arr 1 0,.bool false,.arr 2 0],false⟩]⟩) 1
    ⟨_,rfl,0,rtC x,.inl ⟨rfl,rfl⟩,by omega,by simp [getE,tx,ty,wI,whC,us32,hx.1,hx.2.1,hy.1,hy.2.1]⟩ ?_
  rintro N s0 ⟨k,cs,hiv,rfl,rfl⟩
  rcases hiv with ⟨rfl,rfl⟩|⟨rfl,rfl⟩
  · have hs2:sub true 3 (rtC y) (0*3)=some (.agg (rtC y)):=rfl
    have hs2':sub true 3 (rtC y) 0=some (.agg (rtC y)):=rfl
    have w1:IntKind.i64.wrap (0+1)=1:=by decide
    have h01:(0:Int)<((1:Nat):Int):=by omega
    rw [ty] at hs2 hs2'
    simp only [wI,whC,us32,List.cons_append,List.nil_append] at hs2 hs2'
    simp only [b82_0,tx,ty,wI,whC,us32,go_sem,FL,subT3,subT2,h01,hs2,hs2']
    refine goF uy ?_
    simp only [us32,go_sem,FL,subT3,subT2,List.flatten_cons,List.flatten_nil,Option.getD_some]
    refine goF p1 ?_
    simp only [us32,go_sem,FL,subT3,subT2]
    refine goP ux ?_
    simp only [us32,go_sem,FL,subT3,subT2,List.flatten_cons,List.flatten_nil,Option.getD_some]
    refine goF p2 ?_
    simp only [us32,go_sem,FL,subT3,subT2,List.flatten_cons,List.flatten_nil,Option.getD_some]
    refine goF s ?_
    simp only [us32,go_sem,FL,subT3,subT2]
    refine goP ux ?_
    simp only [us32,go_sem,FL,subT3,subT2]
    refine goF uy ?_
    simp only [us32,go_sem,FL,subT3,subT2,List.flatten_cons,List.flatten_nil,Option.getD_some]
    refine goF p3 ?_
    simp only [us32,go_sem,FL,subT3,subT2]
    refine goP h38 ?_
    simp only [us32,go_sem,FL,subT3,subT2,w1]
    exact loopQ_go rfl 0 (by omega) ⟨1,_,.inr ⟨rfl,rfl⟩,by omega,by simp only [ty,wI,whC,us32,rtC,ratG,List.cons_append,List.nil_append];rfl⟩
  · have g:¬((1:Nat):Int)<1:=by omega
    simp only [b82_0,k82_0,rtC,ratG,us32,go_sem,FL,subT3,Int.lt_irrefl,g]
    simp only [i82,OT,reduceIte,Nat.reduceEqDiff,subT3,rtC,ratG,us32]
end
theorem wI_minus {z:Int}:whC (!decide (z<0)&&decide (z.natAbs≠0)) z.natAbs=wI (-z):=by
  have h1:(-z).natAbs=z.natAbs:=by omega
  rw [wI,h1]
  congr 1
  by_cases h:z<0
  · rw [decide_eq_true h,decide_eq_false (show ¬-z<0 by omega)];rfl
  · rw [decide_eq_false h]
    by_cases h0:z=0
    · subst h0;rfl
    · rw [decide_eq_true (show z.natAbs≠0 by omega),decide_eq_true (show -z<0 by omega)];rfl
theorem rnum_ne {b:Rat} (h:b≠0):b.num≠0:=fun hh=>h (Rat.num_eq_zero.1 hh)
section
variable {E:CallRel}
theorem c155_I {z:Int}:Go.V.Call tab E 155 [.agg (wI z)] [] (.agg (wI (-z))) []:=by
  refine Go.V.Call.mach i155 c155 rfl rfl rfl rfl ?_
  have h:=c109_ok (E:=E) (n:=!decide (z<0)) (p:=z.natAbs)
  have hw:=wI_minus (z:=z)
  simp only [natC,us32] at h
  simp only [wI,whC,us32] at hw ⊢
  simp only [c155,us32,go_sem,FL,subW2,subW0,subW1]
  refine goP h ?_
  simp only [us32,go_sem,FL]
  simp only [i155,OT,reduceIte,Nat.reduceEqDiff,subW2]
  rw [hw]
theorem rtC_neg {r:Rat}:wI (-r.num)++[us32 (limG r.den)]=rtC (rR (-r)):=by
  simp only [rtC,ratG,rR,Rat.neg_num,Rat.neg_den,wI,whC,List.cons_append,List.nil_append]
theorem c125_ok {x:Rt} {r:Rat} (hx:RV x r):Go.V.Call tab E 125 [.agg (rtC x)] [] (.agg (rtC (rR (-r)))) []:=by
  refine Go.V.Call.mach i125 c125 rfl rfl rfl rfl ?_
  have h:=c155_I (E:=E) (z:=r.num)
  have hd:=c111_gen (E:=E) (n:=x.1) (p:=x.2.1) (q:=x.2.2)
  have tx:=rtC_top hx
  have hn:=rtC_neg (r:=r)
  change Go.V.Call tab E 111 [.agg (rtC x)] [] _ [] at hd
  rw [tx,hx.2.2] at hd
  rw [tx,←hn]
  simp only [wI,whC,us32,natC,List.cons_append,List.nil_append] at h hd ⊢
  simp only [c125,us32,go_sem,FL,subT3,subT2]
  refine goP h ?_
  simp only [us32,go_sem,FL,subT3,subT2]
  refine goP hd ?_
  simp only [us32,go_sem,FL,subT3,subT2]
  simp only [i125,OT,reduceIte,Nat.reduceEqDiff,subT3]
set_option maxHeartbeats 1000000 in
theorem c83_ok {x y:Rt} {a b:Rat} {i j:Nat} (hx:RV x a) (hy:RV y b) (ha:Sz i a) (hb:Sz j b) (hij:i+j+1≤32000000):Go.V.Call tab E 83 [.agg (rtC x),.sl 1 3 (rtC y)] [] (.agg (rtC (rR (a*b)))) []:=by
  refine Go.V.Call.mach i83 c83 rfl rfl rfl rfl ?_
  obtain ⟨hn,hd⟩:=mul_num_lt ha hb
  have ux:=c67_R (E:=E) hx
  have uy:=c67_R (E:=E) hy
  have l1:=limG_sz ha.1 (by omega)
  have l2:=limG_sz ha.2 (by omega)
  have l3:=limG_sz hb.1 (by omega)
  have l4:=limG_sz hb.2 (by omega)
  have p1:=c66_I (E:=E) (a:=a.num) (b:=b.num) l1 l3
  have p3:=c66_I (E:=E) (a:=(a.den:Int)) (b:=(b.den:Int)) (by rw [natAbs_den];exact l2) (by rw [natAbs_den];exact l4)
  have h38:=c122_I (E:=E) (a:=a.num*b.num) (b:=(a.den:Int)*b.den) den_mul_ne (limG_sz hn (by omega)) (limG_sz hd (by omega))
  rw [mul_divInt] at h38
  clear l1 l2 l3 l4 hn hd
  generalize a.num*b.num=A1 at *
  generalize (a.den:Int)*(b.den:Int)=A3 at *
  have tx:=rtC_top hx
  have ty:=rtC_top hy
  generalize rR (a*b)=z at *
  rw [tx] at ux
  rw [ty] at uy
  simp only [wI,whC,us32,List.cons_append,List.nil_append] at ux uy p1 p3
  simp only [rtC,ratG,us32,wI,whC] at h38
  simp only [c83,tx,ty,rtC,ratG,wI,whC,us32,go_sem,FL,subT3]
  refine mLoop (fun N st=>∃(k:Nat) (cs:List AV),(k=0∧cs=rtC x∨k=1∧cs=rtC z)∧N=1 - k∧
    st=⟨[(2,.loc 0 0 0),(4,.loc 3 0 0),(7,.sl 1 3 (rtC y)),(8,.int .i64 1),(9,.int .i64 k)],[⟨true,57,3,0,1,cs,false⟩,⟨false,162,1,0,0,[],false⟩,⟨false,162,1,0,0,[],false⟩,⟨true,57,3,0,1,[.arr 1 0,.bool false,.arr 2 0],false⟩]⟩) 1
    ⟨_,rfl,0,rtC x,.inl ⟨rfl,rfl⟩,by omega,by simp [getE,tx,ty,wI,whC,us32,hx.1,hx.2.1,hy.1,hy.2.1]⟩ ?_
  rintro N s0 ⟨k,cs,hiv,rfl,rfl⟩
  rcases hiv with ⟨rfl,rfl⟩|⟨rfl,rfl⟩
  · have hs2:sub true 3 (rtC y) (0*3)=some (.agg (rtC y)):=rfl
    have hs2':sub true 3 (rtC y) 0=some (.agg (rtC y)):=rfl
    have w1:IntKind.i64.wrap (0+1)=1:=by decide
    have h01:(0:Int)<((1:Nat):Int):=by omega
    rw [ty] at hs2 hs2'
    simp only [wI,whC,us32,List.cons_append,List.nil_append] at hs2 hs2'
    simp only [b83_0,tx,ty,wI,whC,us32,go_sem,FL,subT3,subT2,h01,hs2,hs2']
    refine goF p1 ?_
    simp only [us32,go_sem,FL,subT3,subT2,List.flatten_cons,List.flatten_nil,Option.getD_some]
    refine goP ux ?_
    simp only [us32,go_sem,FL,subT3,subT2,List.flatten_cons,List.flatten_nil,Option.getD_some]
    refine goF uy ?_
    simp only [us32,go_sem,FL,subT3,subT2,List.flatten_cons,List.flatten_nil,Option.getD_some]
    refine goF p3 ?_
    simp only [us32,go_sem,FL,subT3,subT2]
    refine goP h38 ?_
    simp only [us32,go_sem,FL,subT3,subT2,w1]
    exact loopQ_go rfl 0 (by omega) ⟨1,_,.inr ⟨rfl,rfl⟩,by omega,by simp only [ty,wI,whC,us32,rtC,ratG,List.cons_append,List.nil_append];rfl⟩
  · have g:¬((1:Nat):Int)<1:=by omega
    simp only [b83_0,k83_0,rtC,ratG,us32,go_sem,FL,subT3,Int.lt_irrefl,g]
    simp only [i83,OT,reduceIte,Nat.reduceEqDiff,subT3,rtC,ratG,us32]
theorem c85_ok {x y:Rt} {a b:Rat} {i j:Nat} (hx:RV x a) (hy:RV y b) (ha:Sz i a) (hb:Sz j b) (h0:b≠0) (hij:i+j+1≤32000000):Go.V.Call tab E 85 [.agg (rtC x),.agg (rtC y)] [] (.tup [.agg (rtC (rR (a/b))),.bool true]) []:=by
  refine Go.V.Call.mach i85 c85 rfl rfl rfl rfl ?_
  obtain ⟨hn,hd⟩:=div_num_lt ha hb
  have ux:=c67_R (E:=E) hx
  have uy:=c67_R (E:=E) hy
  have p1:=c66_I (E:=E) (a:=a.num) (b:=(b.den:Int)) (limG_sz ha.1 (by omega)) (by rw [natAbs_den];exact limG_sz hb.2 (by omega))
  have p3:=c66_I (E:=E) (a:=(a.den:Int)) (b:=b.num) (by rw [natAbs_den];exact limG_sz ha.2 (by omega)) (limG_sz hb.1 (by omega))
  have h38:=c122_I (E:=E) (a:=a.num*b.den) (b:=(a.den:Int)*b.num) (Int.mul_ne_zero (by have:=a.den_nz;omega) (rnum_ne h0)) (limG_sz hn (by omega)) (limG_sz hd (by omega))
  rw [div_divInt] at h38
  clear hn hd
  generalize a.num*(b.den:Int)=A1 at *
  generalize (a.den:Int)*b.num=A3 at *
  have tx:=rtC_top hx
  have ty:=rtC_top hy
  generalize rR (a/b)=z at *
  rw [tx] at ux
  rw [ty] at uy
  rw [tx,ty]
  simp only [wI,whC,us32,List.cons_append,List.nil_append] at ux uy p1 p3 ⊢
  simp only [rtC,ratG,us32,wI,whC] at h38 ⊢
  simp only [c85,us32,go_sem,FL,subT3,subT2]
  refine goP uy ?_
  simp only [us32,go_sem,FL,subT3,subT2,List.flatten_cons,List.flatten_nil]
  refine goP p1 ?_
  simp only [us32,go_sem,FL,subT3,subT2]
  refine goP ux ?_
  simp only [us32,go_sem,FL,subT3,subT2,List.flatten_cons,List.flatten_nil]
  refine goP p3 ?_
  simp only [us32,go_sem,FL,subT3,subT2]
  refine goP h38 ?_
  simp only [us32,go_sem,FL,subT3,subT2]
  simp only [i85,OT,reduceIte,Nat.reduceEqDiff,subT3]
end
def sgZ (z:Int):Int:=if z=0 then 0 else if z<0 then -1 else 1
theorem c124_ok {z:Int}:Go.V.Call tab E 124 [.agg (wI z)] [] (.int .i64 (sgZ z)) []:=by
  refine Go.V.Call.mach i124 c124 rfl rfl rfl rfl ?_
  have h:=c145_nat (E:=E) (n:=z.natAbs)
  by_cases h0:z=0
  · subst h0
    simp only [natC,us32] at h
    simp only [c124,wI,whC,us32,go_sem,FL,subW2,subW0,subW1]
    refine goP h ?_
    simp only [us32,go_sem,FL,subW2,subW0,subW1,Int.natAbs_zero]
    simp only [i124,OT,reduceIte,Nat.reduceEqDiff,sgZ,if_true]
  · have hz:¬z.natAbs=0:=by omega
    simp only [natC,us32,hz] at h
    by_cases hn:z<0
    · simp only [c124,wI,whC,us32,go_sem,FL,subW2,subW0,subW1]
      refine goP h ?_
      simp only [us32,go_sem,FL,subW2,subW0,subW1,hn]
      simp only [i124,OT,reduceIte,Nat.reduceEqDiff,sgZ,h0,hn,if_false,if_true]
    · simp only [c124,wI,whC,us32,go_sem,FL,subW2,subW0,subW1]
      refine goP h ?_
      simp only [us32,go_sem,FL,subW2,subW0,subW1,hn]
      simp only [i124,OT,reduceIte,Nat.reduceEqDiff,sgZ,h0,hn,if_false]
theorem sgZ_num {r:Rat}:(sgZ r.num==0)=decide (r=0):=by
  have:r.num=0↔r=0:=Rat.num_eq_zero
  unfold sgZ
  by_cases h:r.num=0
  · rw [if_pos h,decide_eq_true (this.1 h)];rfl
  · rw [if_neg h,decide_eq_false (fun h0=>h (this.2 h0))]
    split<;>rfl
theorem c84_ok {r:Rat}:Go.V.Call tab E 84 [.agg (rtC (rR r))] [] (.int .i64 (sgZ r.num)) []:=by
  refine Go.V.Call.mach i84 c84 rfl rfl rfl rfl ?_
  have h:=c124_ok (z:=r.num)
  simp only [wI,whC,us32] at h
  simp only [c84,rtC,ratG,rR,us32,go_sem,FL,subT3,subT2]
  refine goP h ?_
  simp only [us32,go_sem,FL,subT3,subT2]
  simp only [i84,OT,reduceIte,Nat.reduceEqDiff]
theorem fill_rtsA {L:List Rt} {i:Nat} {z:Rt} (h:i<L.length):fillIn (rtsC L) (i*3) (rtC z)=rtsC (L.set i z):=by
  have hl:∀l:List Rt,(rtsC l).length=l.length*3:=fun l=>flat_len (fun _=>rfl)
  have h1:∀{k:Nat} {l:List Rt},(rtsC l).take (k*3)=rtsC (l.take k):=fun {k l}=>by
    induction l generalizing k with
    | nil=>simp [rtsC]
    | cons a l ih=>
      cases k with
      | zero=>simp [rtsC]
      | succ k=>
        have:rtsC (a::l)=rtC a++rtsC l:=by simp [rtsC]
        rw [this,List.take_succ_cons,show rtsC (a::l.take k)=rtC a++rtsC (l.take k) by simp [rtsC],List.take_append,show (k+1)*3=3+k*3 by omega]
        rw [show (rtC a).length=3 from rfl,show 3+k*3 - 3=k*3 by omega,ih]
        congr 1
        exact List.take_of_length_le (by rw [show (rtC a).length=3 from rfl];omega)
  have h2:∀{k:Nat} {l:List Rt},(rtsC l).drop (k*3)=rtsC (l.drop k):=fun {k l}=>by
    induction l generalizing k with
    | nil=>simp [rtsC]
    | cons a l ih=>
      cases k with
      | zero=>simp [rtsC]
      | succ k=>
        have:rtsC (a::l)=rtC a++rtsC l:=by simp [rtsC]
        rw [this,List.drop_succ_cons,List.drop_append,show (k+1)*3=3+k*3 by omega]
        rw [show (rtC a).length=3 from rfl,show 3+k*3 - 3=k*3 by omega,ih,List.drop_eq_nil_of_le (by rw [show (rtC a).length=3 from rfl];omega),List.nil_append]
  unfold fillIn
  rw [show i*3+(rtC z).length=(i+1)*3 by rw [show (rtC z).length=3 from rfl];omega,h1,h2,List.set_eq_take_append_cons_drop,if_pos h]
  simp [rtsC]
def rO (l:List Rat):AObj:=⟨false,57,3,0,l.length,rtsC (l.map rR),false⟩
theorem rO_eq {l:List Rat}:rO l=⟨false,57,3,0,l.length,rtsC (l.map rR),false⟩:=rfl
def lessT (x y:List Rat) (q:Rat) (k:Nat):List Rat:=(List.range x.length).map fun i=>if i<k then x.getD i 0 + -(y.getD i 0*q) else x.getD i 0
theorem lessT_len {x y:List Rat} {q:Rat} {k:Nat}:(lessT x y q k).length=x.length:=by simp [lessT]
theorem lessT_zero {x y:List Rat} {q:Rat}:lessT x y q 0=x:=by
  apply List.ext_getElem?
  intro i
  by_cases h:i<x.length
  · simp [lessT,List.getD,h]
  · rw [List.getElem?_eq_none (by rw [lessT_len];omega),List.getElem?_eq_none (by omega)]
theorem lessT_all {x y:List Rat} {q:Rat}:lessT x y q x.length=lessL x y q:=by
  unfold lessT lessL
  refine List.map_congr_left fun i hi=>?_
  rw [if_pos (List.mem_range.1 hi)]
theorem lessT_get {x y:List Rat} {q:Rat} {k:Nat} (h:k<x.length):(lessT x y q k).getD k 0=x.getD k 0:=by
  simp [lessT,List.getD,h]
theorem lessT_set {x y:List Rat} {q:Rat} {k:Nat} (h:k<x.length):(lessT x y q k).set k (x.getD k 0 + -(y.getD k 0*q))=lessT x y q (k+1):=by
  apply List.ext_getElem?
  intro i
  by_cases hi:i<x.length
  · by_cases hik:i=k
    · subst hik
      rw [List.getElem?_set_self (by rw [lessT_len];exact hi)]
      simp [lessT,List.getD,hi]
    · rw [List.getElem?_set_ne (fun e=>hik e.symm)]
      simp [lessT,List.getD,hi]
      by_cases h2:i<k
      · rw [if_pos h2,if_pos (by omega)]
      · rw [if_neg h2,if_neg (by omega)]
  · rw [List.getElem?_eq_none (by rw [List.length_set,lessT_len];omega),List.getElem?_eq_none (by rw [lessT_len];omega)]
theorem sub_rR {l:List Rat} {i:Nat} (h:i<l.length):sub true 3 (rtsC (l.map rR)) (i*3)=some (.agg (rtC (rR (l.getD i 0)))):=by
  rw [sub_rts (by rw [List.length_map];exact h)]
  simp [rtAt,List.getD,h]
theorem rtC3 {z:Rt}:rtC z=[us32 (limG z.2.1),.bool z.1,us32 (limG z.2.2)]:=rfl
theorem set_self {α:Type} {l:List α} {i:Nat} {a:α} (h:l[i]?=some a):l.set i a=l:=by
  apply List.ext_getElem?
  intro j
  by_cases hj:i=j
  · subst hj;rw [List.getElem?_set_self (List.getElem?_eq_some_iff.1 h).1,h]
  · rw [List.getElem?_set_ne hj]
theorem mapIA {l:List AObj}:List.mapIdx (fun (_:Nat) (o:AObj)=>o) l=l:=by
  apply List.ext_getElem?
  intro i
  simp
theorem fill_rR {l:List Rat} {i:Nat} {z:Rat} (h:i<l.length):fillIn (rtsC (l.map rR)) (i*3) (rtC (rR z))=rtsC ((l.set i z).map rR):=by
  rw [fill_rtsA (by rw [List.length_map];exact h),List.map_set]
theorem rts_len {l:List Rat}:(rtsC (l.map rR)).length=l.length*3:=by
  rw [show (rtsC (l.map rR)).length=(l.map rR).length*3 from flat_len (fun _=>rfl),List.length_map]
theorem c86_ok {M:List AObj} {p q:Nat} {x y:List Rat} {t:Rat} {i j:Nat} (hp:M[p]?=some (rO x)) (hq:M[q]?=some (rO y)) (hne:p≠q) (hl:y.length=x.length) (hxl:x.length≤100000) (hx:∀a∈x,Sz i a) (hy:∀a∈y,Sz i a) (ht:Sz j t) (hij:i+(i+j)+2≤32000000) :
    ∃B:AObj,Go.V.Call tab E 86 [.arr p 0,.arr q 0,.agg (rtC (rR t))] M (.tup []) ((M.set p (rO (lessL x y t)))++[B]):=by
  refine ⟨⟨true,57,3,0,1,rtC (rR t),false⟩,?_⟩
  refine Go.V.Call.mach i86 c86 rfl rfl rfl rfl ?_
  have hpl:p<M.length:=(List.getElem?_eq_some_iff.1 hp).1
  have hql:q<M.length:=(List.getElem?_eq_some_iff.1 hq).1
  have hx0:∀k,k<x.length→Sz i (x.getD k 0):=fun k h=>by
    simp only [List.getD,List.getElem?_eq_getElem h,Option.getD_some];exact hx _ (List.getElem_mem h)
  have hy0:∀k,k<x.length→Sz i (y.getD k 0):=fun k h=>by
    simp only [List.getD,List.getElem?_eq_getElem (show k<y.length by omega),Option.getD_some];exact hy _ (List.getElem_mem (by omega))
  have m1:∀o:AObj,(M++[o])[p]?=some (rO x):=fun o=>by rw [List.getElem?_append_left hpl];exact hp
  simp only [rO_eq] at m1
  simp only [c86,rtC3,us32,go_sem,FL,m1]
  refine mLoop (fun N st=>∃(k:Nat) (K:List AObj),k≤x.length∧N=x.length - k∧K=(M.set p (rO (lessT x y t k)))++[⟨true,57,3,0,1,rtC (rR t),false⟩]∧
    st=⟨[(0,.arr p 0),(1,.arr q 0),(5,.loc M.length 0 0),(8,.int .i64 x.length),(9,.int .i64 k)],K⟩) x.length ⟨_,rfl,0,_,by omega,by omega,rfl,by rw [lessT_zero,set_self hp];rfl⟩ ?_
  rintro N s0 ⟨k,K,hk,rfl,hK,rfl⟩
  by_cases hkx:k<x.length
  · have hk':(k:Int)<(x.length:Int):=by omega
    have hk0:(0:Int)≤(k:Int):=by omega
    have hk1:IntKind.i64.wrap ((k:Int)+1)=((k+1:Nat):Int):=by rw [wrap_i64 (by omega) (by omega)];omega
    have n1:K[p]?=some (rO (lessT x y t k)):=by rw [hK,List.getElem?_append_left (by simpa using hpl)];simp [hpl]
    have n2:K[q]?=some (rO y):=by rw [hK,List.getElem?_append_left (by simpa using hql),List.getElem?_set_ne hne];exact hq
    have n3:K[M.length]?=some ⟨true,57,3,0,1,rtC (rR t),false⟩:=by rw [hK,List.getElem?_append_right (by simp)];simp
    have n4:∀o:AObj,K.set p o=(M.set p o)++[⟨true,57,3,0,1,rtC (rR t),false⟩]:=fun o=>by rw [hK,List.set_append_left _ _ (by simpa using hpl),List.set_set]
    have s1:=sub_rR (l:=lessT x y t k) (i:=k) (by rw [lessT_len];exact hkx)
    rw [lessT_get hkx] at s1
    have s2:=sub_rR (l:=y) (i:=k) (by omega)
    have hfill:=fill_rR (l:=lessT x y t k) (i:=k) (z:=x.getD k 0 + -(y.getD k 0*t)) (by rw [lessT_len];exact hkx)
    rw [lessT_set hkx] at hfill
    have hlen3:k*3+3≤(rtsC ((lessT x y t k).map rR)).length:=by rw [rts_len,lessT_len];omega
    have h56:=c83_ok (E:=I.E) (x:=rR (y.getD k 0)) (y:=rR t) RV.self RV.self (hy0 k hkx) ht (by omega)
    have h50:=c125_ok (E:=I.E) (x:=rR (y.getD k 0*t)) RV.self
    have h49:=c82_ok (E:=I.E) (x:=rR (x.getD k 0)) (y:=rR (-(y.getD k 0*t))) RV.self RV.self (hx0 k hkx) ((hy0 k hkx).mul ht).neg (by omega)
    have hky:(k:Int)<(y.length:Int):=by omega
    have hnx:rO (lessT x y t (k+1))=⟨false,57,3,0,x.length,rtsC ((lessT x y t (k+1)).map rR),false⟩:=by rw [rO_eq,lessT_len]
    have hs3:sub true 3 (rtC (rR t)) 0=some (.agg (rtC (rR t))):=rfl
    simp only [rO_eq,lessT_len,hl] at n1 n2
    clear hK hx hy hx0 hy0
    generalize x.getD k 0=a at *
    generalize y.getD k 0=b at *
    generalize b*t=bt at *
    generalize a + -bt=s at *
    generalize rR (-bt)=zn at *
    generalize rR bt=zb at *
    generalize rR s=zs at *
    generalize rR a=za at *
    generalize rR b=zbb at *
    generalize rR t=zt at *
    simp only [rtC3,us32] at n3 n4 s1 s2 hfill h56 h50 h49 hs3
    simp only [b86_0,go_sem,FL,hk',hk0,hky,n1,n2,n3,s1,s2,hs3,Int.toNat_natCast,us32]
    refine goP h56 ?_
    simp only [go_sem,FL,us32]
    refine goP h50 ?_
    simp only [go_sem,FL,us32]
    refine goP h49 ?_
    simp only [go_sem,us32,mapIA,n1,hk',hk0,Int.toNat_natCast,hlen3,hfill,n4,hk1]
    exact loopQ_go rfl (x.length - (k+1)) (by omega) ⟨k+1,_,by omega,rfl,by rw [hnx];rfl,rfl⟩
  · obtain rfl:k=x.length:=by omega
    rw [lessT_all] at hK
    subst hK
    simp only [b86_0,go_sem,Int.lt_irrefl]
    simp only [i86,OT,reduceIte,Nat.reduceEqDiff]
    simp
    rfl
section
variable {E:CallRel}
end
def zR (z:Int):Rt:=(decide (z<0),z.natAbs,1)
theorem ratC_zR {z:Int} (hz:In64 z):ratC z=rtC (zR z):=by
  obtain ⟨h1,h2⟩:=hz
  rw [ratC,lim_limG (by omega)]
  show _=[us32 (limG z.natAbs),AV.bool (decide (z<0)),us32 (limG 1)]
  rw [limG_one (d:=1) (by omega) (by omega)]
  rfl
def noP:List AV:=plX [] false [] []
theorem noA_len:Go.V.Call tab E 23 [.agg noA] [] (.int .i64 0) []:=c23_no
theorem c88_X {s:List Int} {l:List Rt} (hs:∀d∈s,In64 d) (hsl:(s.length:Int)≤1000000000000) (hl:(l.length:Int)≤1000000000000):Go.V.Call tab E 88 [ints s,.sl l.length 3 (rtsC l)] [] (.tup [if fits s l.length then .agg (arrX s false [] l) else .agg noA,.bool (fits s l.length)]) []:=by
  refine Go.V.Call.mach i88 c88 rfl rfl rfl rfl ?_
  simp only [c88,go_sem,FL]
  refine goP (c78_ok hs (by omega)) ?_
  cases hc:count s with
  | none=>
    have hf:fits s l.length=false:=by simp [fits,hc]
    simp only [optP,go_sem,FL]
    simp only [i88,OT,reduceIte,Nat.reduceEqDiff,subA5,hf,noA,Bool.false_eq_true]
  | some m=>
    by_cases hm:m=(l.length:Int)
    · subst hm
      have hf:fits s l.length=true:=by simp [fits,hc]
      simp only [optP,go_sem,FL,bne_self_eq_false]
      refine goO (c89_ok hsl) rfl rfl ?_
      simp only [go_sem,FL]
      refine goO (c127_X hl) rfl rfl ?_
      simp only [go_sem,FL]
      simp only [i88,OT,reduceIte,Nat.reduceEqDiff,subA5,hf,arrX,runes]
      rfl
    · have hf:fits s l.length=false:=by simp [fits,hc,hm]
      have hm':(m != (l.length:Int))=true:=by simpa using hm
      simp only [optP,go_sem,FL,hm']
      simp only [i88,OT,reduceIte,Nat.reduceEqDiff,subA5,hf,noA,Bool.false_eq_true]
theorem rtAt_mapR {A:List Rat} {i:Nat} (h:i<A.length):rtAt (A.map rR) i=rR (A.getD i 0):=by
  simp [rtAt,List.getD,h]
theorem pick_map {A:List Rat} {i:Nat} (h:i<A.length):pickR (A.map rR) (i:Int)=rR (A.getD i 0):=by
  rw [pickR,if_pos ⟨by omega,by rw [List.length_map];omega⟩,Int.toNat_natCast,rtAt_mapR h]
structure NSt (M:List AObj) (o n:Nat) (L:Nat→List Rat):Prop where
  box:M[o+n]?=some ⟨true,29,1,0,n,(List.range n).map fun i=>.arr (o+i) (L i).length,false⟩
  row:∀i,i<n→M[o+i]?=some ⟨false,57,3,(L i).length,(L i).length,rtsC ((L i).map rR),false⟩
def updL (L:Nat→List Rat) (i:Nat) (l:List Rat):Nat→List Rat:=fun r=>if r=i then l else L r
theorem NSt.lt {M:List AObj} {o n:Nat} {L:Nat→List Rat} (h:NSt M o n L):o+n<M.length:=(List.getElem?_eq_some_iff.1 h.box).1
theorem NSt.app {M G:List AObj} {o n:Nat} {L:Nat→List Rat} (h:NSt M o n L):NSt (M++G) o n L:=by
  have hl:=h.lt
  exact ⟨by rw [List.getElem?_append_left hl];exact h.box,fun i hi=>by rw [List.getElem?_append_left (by omega)];exact h.row i hi⟩
theorem cells_set {o n i:Nat} {L:Nat→List Rat} {l:List Rat} (hi:i<n):((List.range n).map fun i=>AV.arr (o+i) (L i).length).set i (.arr (o+i) l.length)=(List.range n).map fun r=>AV.arr (o+r) (updL L i l r).length:=by
  apply List.ext_getElem?
  intro r
  by_cases hr:r<n
  · by_cases hri:r=i
    · subst hri
      rw [List.getElem?_set_self (by simp;exact hr)]
      simp [updL,hr]
    · rw [List.getElem?_set_ne (fun e=>hri e.symm)]
      simp [updL,hr,hri]
  · rw [List.getElem?_eq_none (by simp;omega),List.getElem?_eq_none (by simp;omega)]
theorem fill_one {cs:List AV} {i:Nat} {v:AV} (h:i<cs.length):fillIn cs (i*1) [v]=cs.set i v:=by
  unfold fillIn
  rw [Nat.mul_one,List.set_eq_take_append_cons_drop,if_pos h]
  simp
theorem NSt.step {M:List AObj} {o n i:Nat} {L:Nat→List Rat} (h:NSt M o n L) (hi:i<n) {l:List Rat} :
    NSt ((M.set (o+i) ⟨false,57,3,l.length,l.length,rtsC (l.map rR),false⟩).set (o+n) ⟨true,29,1,0,n,((List.range n).map fun i=>AV.arr (o+i) (L i).length).set i (.arr (o+i) l.length),false⟩) o n (updL L i l):=by
  have hl:=h.lt
  refine ⟨?_,fun r hr=>?_⟩
  · rw [List.getElem?_set_self (by simpa using hl),cells_set hi]
  · rw [List.getElem?_set_ne (by omega)]
    by_cases hri:r=i
    · subst hri
      rw [List.getElem?_set_self (by omega)]
      simp [updL]
    · rw [List.getElem?_set_ne (by omega)]
      simp only [updL,if_neg hri]
      exact h.row r hr
theorem NSt.congr {M:List AObj} {o n:Nat} {L L':Nat→List Rat} (h:NSt M o n L) (he:∀i,i<n→L i=L' i):NSt M o n L':=
  ⟨by rw [h.box];congr 2;exact List.map_congr_left fun i hi=>by rw [he i (List.mem_range.1 hi)],fun i hi=>by rw [h.row i hi,he i hi]⟩
def gridG (G:List (List Rat)):AV:=.sl G.length 1 (G.map fun r=>.sl r.length 3 (rtsC (r.map rR)))
theorem mapM_some {α β:Type} {f:α→Option β} {g:α→β}:∀{l:List α},(∀x∈l,f x=some (g x))→l.mapM f=some (l.map g)
  | [],_=>rfl
  | x::l,h=>by
    rw [List.mapM_cons,h x (by simp),mapM_some (fun y hy=>h y (by simp [hy]))]
    rfl
theorem snap_arr {M:List AObj} {n g k:Nat} {ob:AObj} (h:M[n]?=some ob) (hg:ob.g=g):snap M (k+1) (.arr n g)=(snapL M k ob.box ob.cs).map fun cs=>.sl ob.n ob.sz cs:=by
  have e:geto M n g=some ob:=by rw [geto,h];simp only [hg,if_true]
  rw [snap,e]
theorem snap_grid {M:List AObj} {o n:Nat} {L:Nat→List Rat} (h:NSt M o n L):snap M 10 (.arr (o+n) 0)=some (gridG ((List.range n).map L)):=by
  have e:∀i,i<n→snap M 8 (.arr (o+i) (L i).length)=some (.sl (L i).length 3 (rtsC ((L i).map rR))):=fun i hi=>by
    rw [snap_arr (k:=7) (h.row i hi) rfl]
    rfl
  rw [snap_arr (k:=9) h.box rfl]
  have e2:snapL M 9 true ((List.range n).map fun i=>AV.arr (o+i) (L i).length)=((List.range n).map fun i=>AV.arr (o+i) (L i).length).mapM (snap M 8):=rfl
  rw [e2,mapM_some (g:=fun v:AV=>match v with|.arr k _=>AV.sl (L (k - o)).length 3 (rtsC ((L (k - o)).map rR))|v=>v) (fun x hx=>by
    obtain ⟨i,hi,rfl⟩:=List.mem_map.1 hx
    simp only [show o+i - o=i by omega]
    exact e i (List.mem_range.1 hi))]
  simp only [Option.map_some,gridG,List.length_map,List.length_range,List.map_map]
  congr 2
  apply List.map_congr_left
  intro i _
  simp only [Function.comp,show o+i - o=i by omega]
theorem adopt_rep {ty sz:Nat}:∀{n:Nat} {M:List AObj},adopt (List.replicate n (.nilsl ty sz)) M=((List.range n).map fun i=>AV.arr (M.length+i) 0,M++List.replicate n ⟨false,ty,sz,0,0,[],false⟩)
  | 0,M=>by simp [adopt]
  | n+1,M=>by
    rw [List.replicate_succ,adopt,adopt_rep (n:=n)]
    simp only [List.length_append,List.length_cons,List.length_nil,List.append_assoc,List.cons_append,List.nil_append]
    rw [List.range_succ_eq_map,List.map_cons,List.map_map,List.replicate_succ]
    congr 2
    apply List.map_congr_left
    intro i _
    simp only [Function.comp]
    congr 1
    omega
theorem NSt.new {M:List AObj} {n:Nat}:NSt ((M++List.replicate n ⟨false,57,3,0,0,[],false⟩)++[⟨true,29,1,0,n,(List.range n).map fun i=>AV.arr (M.length+i) 0,false⟩]) M.length n fun _=>[]:=by
  refine ⟨?_,fun i hi=>?_⟩
  · rw [List.getElem?_append_right (by simp)]
    simp
  · rw [List.getElem?_append_left (by simp;omega),List.getElem?_append_right (by omega)]
    simp [show M.length+i - M.length=i by omega,hi,rtsC]
theorem c41_ok {s t:List Int} {ch:Bool} {l:List Rt} (hs:s.length≤8):Go.V.Call tab E 41 [.agg (arrX s ch t l)] [] (.int .i64 (s.getD 1 1)) []:=by
  refine Go.V.Call.mach i41 c41 rfl rfl rfl rfl ?_
  have h66:=c38_X (s:=s) (t:=t) (l:=l) (ch:=ch) (by omega)
  have h44:=c53_X (s:=s) (t:=t) (l:=l) (ch:=ch) (by omega)
  simp only [arrX,runes,ints] at h66 h44
  by_cases h:s.length<2
  · have h':(s.length:Int)<2:=by omega
    have e:s.getD 1 1=1:=by simp [List.getD,show s[1]?=none from List.getElem?_eq_none (by omega)]
    simp only [c41,arrX,runes,ints,go_sem,FL,subA5]
    refine goP h66 ?_
    simp only [go_sem,FL,h']
    simp only [i41,OT,reduceIte,Nat.reduceEqDiff,e]
  · have h':¬(s.length:Int)<2:=by omega
    have h1:(1:Int)<(s.length:Int):=by omega
    have hs1:=sub_nums (k:=.i64) (l:=s) (i:=1) (by omega)
    have e:s.getD 1 0=s.getD 1 1:=by simp [List.getD,show 1<s.length by omega]
    rw [e] at hs1
    simp only [c41,arrX,runes,ints,go_sem,FL,subA5]
    refine goP h66 ?_
    simp only [go_sem,FL,h',subA5]
    refine goP h44 ?_
    simp only [go_sem,FL,h1,show (0:Int)≤1 by omega,Int.toNat_one,hs1]
    simp only [i41,OT,reduceIte,Nat.reduceEqDiff]
def rowA (A:List Rat) (C i j:Nat):List Rat:=(List.range j).map fun k=>A.getD (i*C+k) 0
theorem rowA_len {A:List Rat} {C i j:Nat}:(rowA A C i j).length=j:=by simp [rowA]
theorem rowA_succ {A:List Rat} {C i j:Nat}:rowA A C i (j+1)=rowA A C i j++[A.getD (i*C+j) 0]:=by simp [rowA,List.range_succ]
def lstA (A:List Rat) (C i j:Nat):Nat→List Rat:=fun r=>if r<i then rowA A C r C else if r=i then rowA A C i j else []
def gridA (A:List Rat) (R C:Nat):List (List Rat):=(List.range R).map fun i=>rowA A C i C
theorem c40_loop {s t:List Int} {A:List Rat} {ch:Bool} {R C:Nat} (hA:A.length=R*C) (hR:R≤4096) (hC:C≤4096) (hAl:A.length≤4096) {M:List AObj} {env:Env} (h0:M[0]?=some ⟨true,31,5,0,1,arrX s ch t (A.map rR),false⟩)
    (hN:NSt M 2 R fun _=>[]) (e1:getE env 1=.loc 0 0 0) (e5:getE env 5=.int .i64 C) (e6:getE env 6=.arr (2+R) 0) (e26:getE env 26=.int .i64 R) (e27:getE env 27=.int .i64 0) :
    Mach (Go.V.Call tab E) (Go.V.Fin i40 [] (gridG (gridA A R C)) []) [.code (.loop [1,5,6,26,27] none b40_0),.endb 0,.code k40_1] .nrm ⟨env,M⟩:=by
  refine mLoop (fun N st=>∃(i:Nat) (K:List AObj),i≤R∧N=R - i∧NSt K 2 R (lstA A C i 0)∧K[0]?=some ⟨true,31,5,0,1,arrX s ch t (A.map rR),false⟩∧
    st=⟨[(1,.loc 0 0 0),(5,.int .i64 C),(6,.arr (2+R) 0),(26,.int .i64 R),(27,.int .i64 i)],K⟩) R ⟨_,rfl,0,M,by omega,by omega,hN.congr (fun i _=>by simp [lstA,rowA]),h0,by simp only [List.map_cons,List.map_nil,e1,e5,e6,e26,e27];rfl⟩ ?_
  rintro N s0 ⟨i,K,hi,rfl,hK,hK0,rfl⟩
  by_cases hiR:i<R
  · have hi':(i:Int)<(R:Int):=by omega
    have hi0:(0:Int)≤(i:Int):=by omega
    have hi1:IntKind.i64.wrap ((i:Int)+1)=((i+1:Nat):Int):=by rw [wrap_i64 (by omega) (by omega)];omega
    simp only [b40_0,go_sem,hi']
    refine mLoop (fun N st=>∃(j:Nat) (K:List AObj),j≤C∧N=C - j∧NSt K 2 R (lstA A C i j)∧K[0]?=some ⟨true,31,5,0,1,arrX s ch t (A.map rR),false⟩∧
      st=⟨[(1,.loc 0 0 0),(5,.int .i64 C),(6,.arr (2+R) 0),(7,.int .i64 i),(26,.int .i64 R),(27,.int .i64 i),(30,.int .i64 C),(31,.int .i64 j)],K⟩) C ⟨_,rfl,0,K,by omega,by omega,hK,hK0,rfl⟩ ?_
    clear hK hK0 K
    rintro N s0 ⟨j,K,hj,rfl,hK,hK0,rfl⟩
    by_cases hjC:j<C
    · have hj':(j:Int)<(C:Int):=by omega
      have hj1:IntKind.i64.wrap ((j:Int)+1)=((j+1:Nat):Int):=by rw [wrap_i64 (by omega) (by omega)];omega
      have hq:i*C+j<A.length:=by
        have:(i+1)*C≤R*C:=Nat.mul_le_mul_right _ hiR
        rw [Nat.add_mul,Nat.one_mul] at this
        omega
      have w1:IntKind.i64.wrap ((i:Int)*(C:Int))=((i*C:Nat):Int):=by rw [←Int.natCast_mul,wrap_i64 (by omega) (by omega)]
      have w2:IntKind.i64.wrap (((i*C:Nat):Int)+(j:Int))=((i*C+j:Nat):Int):=by rw [←Int.natCast_add,wrap_i64 (by omega) (by omega)]
      have h25:=c24_ok (s:=s) (t:=t) (l:=A.map rR) (ch:=ch) (k:=((i*C+j:Nat):Int)) (by rw [List.length_map];omega)
      rw [pick_map hq] at h25
      have b1:=hK.box
      have r1:=hK.row i hiR
      have hlt:=hK.lt
      have ell:lstA A C i j i=rowA A C i j:=by simp [lstA]
      rw [ell,rowA_len] at r1
      have b2:∀o:AObj,(K.set (2+i) o)[2+R]?=some ⟨true,29,1,0,R,(List.range R).map fun r=>.arr (2+r) (lstA A C i j r).length,false⟩:=fun o=>by rw [List.getElem?_set_ne (by omega)];exact b1
      have hcs:sub false 1 ((List.range R).map fun r=>AV.arr (2+r) (lstA A C i j r).length) (i*1)=some (.arr (2+i) j):=by
        simp only [sub,List.length_map,List.length_range,Nat.mul_one,Bool.false_eq_true,if_false,if_true]
        rw [if_pos (by omega)]
        simp [hiR,ell,rowA_len]
      have hfill:=fill_one (cs:=(List.range R).map fun r=>AV.arr (2+r) (lstA A C i j r).length) (i:=i) (v:=.arr (2+i) (rowA A C i (j+1)).length) (by simp;exact hiR)
      have hst:=hK.step hiR (l:=rowA A C i (j+1))
      have hst2:=hst.congr (L':=lstA A C i (j+1)) (fun r hr=>by
        unfold updL lstA
        by_cases hri:r=i
        · subst hri;rw [if_pos rfl,if_neg (by omega),if_pos rfl]
        · rw [if_neg hri,if_neg hri,if_neg hri])
      have hst0:∀a b:AObj,((K.set (2+i) a).set (2+R) b)[0]?=some ⟨true,31,5,0,1,arrX s ch t (A.map rR),false⟩:=fun a b=>by rw [List.getElem?_set_ne (by omega),List.getElem?_set_ne (by omega)];exact hK0
      have hlen1:i*1+1≤((List.range R).map fun r=>AV.arr (2+r) (lstA A C i j r).length).length:=by simp;omega
      have happ:rtsC ((rowA A C i j).map rR)++rtC (rR (A.getD (i*C+j) 0))=rtsC ((rowA A C i (j+1)).map rR):=by rw [rowA_succ,List.map_append];simp [rtsC]
      rw [rowA_len] at hst2 hfill
      clear hK hst
      generalize (List.range R).map (fun r=>AV.arr (2+r) (lstA A C i j r).length)=CS at *
      generalize rR (A.getD (i*C+j) 0)=z at *
      generalize rtsC ((rowA A C i (j+1)).map rR)=rows' at *
      have y1:(j+1)*56≤140737488355328:=by omega
      have y2:j+1≤140737488355328:=by omega
      simp only [arrX,runes,ints] at hK0 h25
      simp only [rtC3,us32] at happ h25
      simp only [b40_1,go_sem,mapIA,hj',hi',hi0,b1,b2,r1,hcs,hK0,subA5,w1,w2,Int.toNat_natCast,us32]
      refine goF h25 ?_
      simp only [go_sem,mapIA,us32,List.flatten_cons,List.flatten_nil,Option.getD_some,hi',hi0,b1,b2,r1,hcs,y1,y2,happ,Int.toNat_natCast,hlen1,hfill,hj1]
      refine loopQ_go rfl (C - (j+1)) (by omega) ⟨j+1,_,by omega,rfl,hst2,hst0 _ _,?_⟩
      simp [getE]
    · obtain rfl:j=C:=by omega
      simp only [b40_1,k40_0,go_sem,Int.lt_irrefl,hi1]
      refine loopQ_go rfl (R - (i+1)) (by omega) ⟨i+1,K,by omega,rfl,hK.congr (fun r hr=>?_),hK0,rfl⟩
      unfold lstA
      by_cases h1:r<i
      · rw [if_pos h1,if_pos (by omega)]
      · rw [if_neg h1]
        by_cases h2:r=i
        · subst h2;rw [if_pos rfl,if_pos (by omega)]
        · rw [if_neg h2,if_neg (by omega)]
          simp [rowA]
  · obtain rfl:i=R:=by omega
    have hsn:=snap_grid hK
    have hgA:(List.range i).map (lstA A C i 0)=gridA A i C:=List.map_congr_left fun r hr=>by unfold lstA;rw [if_pos (List.mem_range.1 hr)]
    rw [hgA] at hsn
    simp only [b40_0,k40_1,go_sem,Int.lt_irrefl]
    exact ⟨rfl,rfl,hsn⟩
theorem c40_ok {s t:List Int} {A:List Rat} {ch:Bool} {R C:Nat} (hs:s.length≤8) (hR0:s.getD 0 1=(R:Int)) (hC0:s.getD 1 1=(C:Int)) (hA:A.length=R*C) (hR:R≤4096) (hC:C≤4096) (hAl:A.length≤4096) :
    Go.V.Call tab E 40 [.agg (arrX s ch t (A.map rR))] [] (gridG (gridA A R C)) []:=by
  refine Go.V.Call.mach i40 c40 rfl rfl rfl rfl ?_
  have h44:=c53_X (s:=s) (t:=t) (l:=A.map rR) (ch:=ch) (by omega)
  have hloop:=fun (M:List AObj) (env:Env) h0 hN e1 e5 e6 e26 e27=>c40_loop (s:=s) (t:=t) (A:=A) (ch:=ch) (R:=R) (C:=C) hA hR hC hAl (M:=M) (env:=env) h0 hN e1 e5 e6 e26 e27
  have had:∀M:List AObj,adopt (List.replicate R (.nilsl 57 3)) M=((List.range R).map fun i=>AV.arr (M.length+i) 0,M++List.replicate R ⟨false,57,3,0,0,[],false⟩):=fun M=>adopt_rep
  have z0:(0:Int)≤(R:Int):=by omega
  have z1:24*R≤140737488355328:=by omega
  have z2:(R:Int)≤140737488355328:=by omega
  have hnew:=NSt.new (M:=[⟨true,31,5,0,1,arrX s ch t (A.map rR),false⟩,⟨true,29,1,0,0,[],false⟩]) (n:=R)
  have hg:∀(a b:AObj) (x:AObj),(a::b::(List.replicate R x))[R+2]?=none:=fun a b x=>List.getElem?_eq_none (by simp)
  have key:∀env,getE env 1=.loc 0 0 0→getE env 5=.int .i64 C→getE env 6=.arr (R+2) 0→getE env 26=.int .i64 R→getE env 27=.int .i64 0→
      Mach (Go.V.Call tab E) (Go.V.Fin i40 [] (gridG (gridA A R C)) []) [.code (.loop [1,5,6,26,27] none b40_0),.endb 0,.code k40_1] .nrm
        ⟨env,⟨true,31,5,0,1,arrX s ch t (A.map rR),false⟩::⟨true,29,1,0,0,[],false⟩::(List.replicate R ⟨false,57,3,0,0,[],false⟩++[⟨true,29,1,0,R,(List.range R).map fun i=>AV.arr (2+i) 0,false⟩])⟩:=fun env e1 e5 e6 e26 e27=>
    hloop _ _ rfl hnew e1 e5 (by rw [e6,Nat.add_comm]) e26 e27
  have hbx:∀a b:AObj,(a::b::(List.replicate R (⟨false,57,3,0,0,[],false⟩:AObj)++[⟨true,29,1,0,R,(List.range R).map fun i=>AV.arr (2+i) 0,false⟩]))[R+2]?=some ⟨true,29,1,0,R,(List.range R).map fun i=>AV.arr (2+i) 0,false⟩:=fun a b=>by
    rw [List.getElem?_cons_succ,List.getElem?_cons_succ,List.getElem?_append_right (by simp)]
    simp
  have hlr:(List.replicate R (⟨false,57,3,0,0,[],false⟩:AObj)).length=R:=List.length_replicate
  clear hloop hnew hg
  match s,hR0,hC0,h44,key with
  | [],hR0,hC0,h44,key=>
    obtain rfl:R=1:=by have:((1:Int))=(R:Int):=hR0;omega
    obtain rfl:C=1:=by have:((1:Int))=(C:Int):=hC0;omega
    have had1:∀M:List AObj,adopt (List.replicate 1 (.nilsl 57 3)) M=([AV.arr M.length 0],M++[⟨false,57,3,0,0,[],false⟩]):=fun M=>rfl
    have key1:∀env,getE env 1=.loc 0 0 0→getE env 5=.int .i64 1→getE env 6=.arr 3 0→getE env 26=.int .i64 1→getE env 27=.int .i64 0→
        Mach (Go.V.Call tab E) (Go.V.Fin i40 [] (gridG (gridA A 1 1)) []) [.code (.loop [1,5,6,26,27] none b40_0),.endb 0,.code k40_1] .nrm
          ⟨env,[⟨true,31,5,0,1,arrX [] ch t (A.map rR),false⟩,⟨true,29,1,0,0,[],false⟩,⟨false,57,3,0,0,[],false⟩,⟨true,29,1,0,1,[.arr 2 0],false⟩]⟩:=key
    clear had key hbx hlr
    simp only [arrX,runes,ints,List.length_nil] at h44 key1
    simp only [c40,arrX,runes,ints,go_sem,FL,subA5]
    refine goF h44 ?_
    simp only [go_sem,mapIA,had1,Int.natCast_zero,Int.natCast_one,Int.lt_irrefl,show ¬(1:Int)<0 by omega,Int.toNat_one,Nat.zero_add,show (0:Int)≤1 by omega,show (1:Int)≤140737488355328 by omega,show 24*1≤140737488355328 by omega]
    exact key1 _ rfl rfl rfl rfl rfl
  | [d],hR0,hC0,h44,key=>
    obtain rfl:d=(R:Int):=hR0
    obtain rfl:C=1:=by have:((1:Int))=(C:Int):=hC0;omega
    have hs0:sub false 1 (nums .i64 [(R:Int)]) 0=some (.int .i64 (R:Int)):=rfl
    simp only [arrX,runes,ints] at h44 key
    simp only [c40,arrX,runes,ints,go_sem,FL,subA5]
    refine goF h44 ?_
    simp only [go_sem,mapIA,had,hs0,Int.natCast_zero,Int.natCast_one,Int.lt_irrefl,z0,z1,z2,Int.toNat_natCast,hbx,hlr,Nat.zero_add,Nat.zero_mul,show (0:Int)≤0 by omega,show (0:Int)<1 by omega]
    exact key _ rfl rfl rfl rfl rfl
  | d::e::r,hR0,hC0,h44,key=>
    obtain rfl:d=(R:Int):=hR0
    obtain rfl:e=(C:Int):=hC0
    have hs0:sub false 1 (nums .i64 ((R:Int)::(C:Int)::r)) 0=some (.int .i64 (R:Int)):=rfl
    have hs1:sub false 1 (nums .i64 ((R:Int)::(C:Int)::r)) (1*1)=some (.int .i64 (C:Int)):=rfl
    have p0:(0:Int)<((r.length+1+1:Nat):Int):=by omega
    have p1:(1:Int)<((r.length+1+1:Nat):Int):=by omega
    simp only [arrX,runes,ints] at h44 key
    simp only [c40,arrX,runes,ints,go_sem,FL,subA5]
    refine goF h44 ?_
    simp only [go_sem,mapIA,had,hs0,hs1,p0,p1,Int.lt_irrefl,z0,z1,z2,Int.toNat_natCast,Int.toNat_one,hbx,hlr,Nat.zero_add,Nat.zero_mul,show (0:Int)≤0 by omega,show (0:Int)≤1 by omega]
    exact key _ rfl rfl rfl rfl rfl
structure ArrM (s t:List Int) (ch:Bool) (A:List Rat) (R C:Nat):Prop where
  s8:s.length≤8
  r0:s.getD 0 1=(R:Int)
  c0:s.getD 1 1=(C:Int)
  R4:R≤4096
  C4:C≤4096
  al:A.length≤4096
  tl:t.length≤4096
  len:s.length≤2→t.length+A.length=R*C
  tx:ch=false→t=[]
theorem ArrM.ok {s t:List Int} {ch:Bool} {A:List Rat} {R C:Nat} (h:ArrM s t ch A R C) (h2:s.length≤2) (hb:(ch&&decide (0<t.length+A.length))=false):A.length=R*C∧t=[]:=by
  have h3:=h.len h2
  cases hc:ch with
  | true=>
    rw [hc,Bool.true_and,decide_eq_false_iff_not] at hb
    exact ⟨by omega,List.eq_nil_of_length_eq_zero (by omega)⟩
  | false=>
    have:=h.tx hc
    subst this
    exact ⟨by simpa using h3,rfl⟩
def chkE (s t:List Int) (ch:Bool) (A:List Rat) (R C:Nat):Int:=
  if 2<s.length then 23 else if (ch&&decide (0<t.length+A.length))=true then 22 else if R<C then 24 else if 32<R∨8<C then 26 else 0
theorem grid_len {A:List Rat} {R C:Nat}:(gridA A R C).length=R:=by simp [gridA]
theorem c37_ok {s t:List Int} {ch:Bool} {A:List Rat} {R C:Nat} (h:ArrM s t ch A R C):Go.V.Call tab E 37 [.agg (arrX s ch t (A.map rR))] [] (.int .i64 (chkE s t ch A R C)) []:=by
  refine Go.V.Call.mach i37 c37 rfl rfl rfl rfl ?_
  have hal:=h.al
  have htl:=h.tl
  have hs8:=h.s8
  have h66:=c38_X (s:=s) (t:=t) (l:=A.map rR) (ch:=ch) (by omega)
  have h68:=c39_ok (s:=s) (t:=t) (l:=A.map rR) (ch:=ch)
  have h23:=c23_X (s:=s) (t:=t) (l:=A.map rR) (ch:=ch) (by omega) (by rw [List.length_map];omega)
  have h97:=c41_ok (s:=s) (t:=t) (l:=A.map rR) (ch:=ch) hs8
  rw [h.c0] at h97
  by_cases h2:2<s.length
  · have h2':(2:Int)<(s.length:Int):=by omega
    simp only [arrX,runes,ints] at h66
    simp only [c37,arrX,runes,ints,go_sem,FL,subA5]
    refine goP h66 ?_
    simp only [go_sem,FL,subA5,h2']
    simp only [i37,OT,reduceIte,Nat.reduceEqDiff,chkE,h2,if_true]
  · have h2':¬(2:Int)<(s.length:Int):=by omega
    by_cases hb:(ch&&decide (0<t.length+A.length))=true
    · obtain ⟨rfl,hb2⟩:=Bool.and_eq_true_iff.1 hb
      have hb3:(0:Int)<((t.length+A.length:Nat):Int):=by have:=of_decide_eq_true hb2;omega
      rw [List.length_map] at h23
      simp only [arrX,runes,ints] at h66 h68 h23
      simp only [c37,arrX,runes,ints,go_sem,FL,subA5]
      refine goP h66 ?_
      simp only [go_sem,FL,subA5,h2']
      refine goP h68 ?_
      simp only [go_sem,FL,subA5]
      refine goP h23 ?_
      simp only [go_sem,FL,subA5,hb3]
      simp only [i37,OT,reduceIte,Nat.reduceEqDiff,chkE,h2,if_false,hb,if_true]
    · have hbf:(ch&&decide (0<t.length+A.length))=false:=by simpa using hb
      obtain ⟨hA,rfl⟩:=h.ok (by omega) hbf
      have h96:=c40_ok (s:=s) (t:=[]) (A:=A) (ch:=ch) (R:=R) (C:=C) hs8 h.r0 h.c0 hA h.R4 h.C4 hal
      rw [gridG,grid_len] at h96
      generalize (gridA A R C).map (fun r=>AV.sl r.length 3 (rtsC (r.map rR)))=GC at *
      have e1:chkE s [] ch A R C=if R<C then 24 else if 32<R∨8<C then 26 else 0:=by rw [chkE,if_neg h2,if_neg hb]
      rw [List.length_map] at h23
      cases hc:ch with
      | true=>
        subst hc
        have hz:¬(0:Int)<((A.length:Nat):Int):=by
          rw [Bool.true_and,decide_eq_false_iff_not] at hbf;simp at hbf ⊢;simp [hbf]
        rw [e1]
        simp only [arrX,runes,ints] at h66 h68 h23 h96 h97
        by_cases hRC:R<C
        · have hRC':(R:Int)<(C:Int):=by omega
          simp only [c37,arrX,runes,ints,go_sem,FL,subA5]
          refine goP h66 ?_
          simp only [go_sem,FL,subA5,h2']
          refine goP h68 ?_
          simp only [go_sem,FL,subA5]
          refine goP h23 ?_
          simp only [go_sem,FL,subA5,hz]
          refine goP h96 ?_
          simp only [go_sem,FL,subA5]
          refine goP h97 ?_
          simp only [go_sem,FL,subA5,hRC']
          simp only [i37,OT,reduceIte,Nat.reduceEqDiff,hRC,if_true]
        · have hRC':¬(R:Int)<(C:Int):=by omega
          by_cases h32:32<R
          · have h32':(32:Int)<(R:Int):=by omega
            have e2:(32<R∨8<C)=True:=eq_true (.inl h32)
            simp only [c37,arrX,runes,ints,go_sem,FL,subA5]
            refine goP h66 ?_
            simp only [go_sem,FL,subA5,h2']
            refine goP h68 ?_
            simp only [go_sem,FL,subA5]
            refine goP h23 ?_
            simp only [go_sem,FL,subA5,hz]
            refine goP h96 ?_
            simp only [go_sem,FL,subA5]
            refine goP h97 ?_
            simp only [go_sem,FL,subA5,hRC']
            refine goP h96 ?_
            simp only [go_sem,FL,subA5,h32']
            simp only [i37,OT,reduceIte,Nat.reduceEqDiff,hRC,if_false,e2,if_true]
          · have h32':¬(32:Int)<(R:Int):=by omega
            by_cases h8:8<C
            · have h8':(8:Int)<(C:Int):=by omega
              have e2:(32<R∨8<C)=True:=eq_true (.inr h8)
              simp only [c37,arrX,runes,ints,go_sem,FL,subA5]
              refine goP h66 ?_
              simp only [go_sem,FL,subA5,h2']
              refine goP h68 ?_
              simp only [go_sem,FL,subA5]
              refine goP h23 ?_
              simp only [go_sem,FL,subA5,hz]
              refine goP h96 ?_
              simp only [go_sem,FL,subA5]
              refine goP h97 ?_
              simp only [go_sem,FL,subA5,hRC']
              refine goP h96 ?_
              simp only [go_sem,FL,subA5,h32']
              refine goP h97 ?_
              simp only [go_sem,FL,subA5,h8']
              simp only [i37,OT,reduceIte,Nat.reduceEqDiff,hRC,if_false,e2,if_true]
            · have h8':¬(8:Int)<(C:Int):=by omega
              have e2:(32<R∨8<C)=False:=eq_false (fun h=>h.elim h32 h8)
              simp only [c37,arrX,runes,ints,go_sem,FL,subA5]
              refine goP h66 ?_
              simp only [go_sem,FL,subA5,h2']
              refine goP h68 ?_
              simp only [go_sem,FL,subA5]
              refine goP h23 ?_
              simp only [go_sem,FL,subA5,hz]
              refine goP h96 ?_
              simp only [go_sem,FL,subA5]
              refine goP h97 ?_
              simp only [go_sem,FL,subA5,hRC']
              refine goP h96 ?_
              simp only [go_sem,FL,subA5,h32']
              refine goP h97 ?_
              simp only [go_sem,FL,subA5,h8']
              simp only [i37,OT,reduceIte,Nat.reduceEqDiff,hRC,if_false,e2]
      | false=>
        subst hc
        rw [e1]
        simp only [arrX,runes,ints] at h66 h68 h23 h96 h97
        by_cases hRC:R<C
        · have hRC':(R:Int)<(C:Int):=by omega
          simp only [c37,arrX,runes,ints,go_sem,FL,subA5]
          refine goP h66 ?_
          simp only [go_sem,FL,subA5,h2']
          refine goP h68 ?_
          simp only [go_sem,FL,subA5]
          refine goP h96 ?_
          simp only [go_sem,FL,subA5]
          refine goP h97 ?_
          simp only [go_sem,FL,subA5,hRC']
          simp only [i37,OT,reduceIte,Nat.reduceEqDiff,hRC,if_true]
        · have hRC':¬(R:Int)<(C:Int):=by omega
          by_cases h32:32<R
          · have h32':(32:Int)<(R:Int):=by omega
            have e2:(32<R∨8<C)=True:=eq_true (.inl h32)
            simp only [c37,arrX,runes,ints,go_sem,FL,subA5]
            refine goP h66 ?_
            simp only [go_sem,FL,subA5,h2']
            refine goP h68 ?_
            simp only [go_sem,FL,subA5]
            refine goP h96 ?_
            simp only [go_sem,FL,subA5]
            refine goP h97 ?_
            simp only [go_sem,FL,subA5,hRC']
            refine goP h96 ?_
            simp only [go_sem,FL,subA5,h32']
            simp only [i37,OT,reduceIte,Nat.reduceEqDiff,hRC,if_false,e2,if_true]
          · have h32':¬(32:Int)<(R:Int):=by omega
            by_cases h8:8<C
            · have h8':(8:Int)<(C:Int):=by omega
              have e2:(32<R∨8<C)=True:=eq_true (.inr h8)
              simp only [c37,arrX,runes,ints,go_sem,FL,subA5]
              refine goP h66 ?_
              simp only [go_sem,FL,subA5,h2']
              refine goP h68 ?_
              simp only [go_sem,FL,subA5]
              refine goP h96 ?_
              simp only [go_sem,FL,subA5]
              refine goP h97 ?_
              simp only [go_sem,FL,subA5,hRC']
              refine goP h96 ?_
              simp only [go_sem,FL,subA5,h32']
              refine goP h97 ?_
              simp only [go_sem,FL,subA5,h8']
              simp only [i37,OT,reduceIte,Nat.reduceEqDiff,hRC,if_false,e2,if_true]
            · have h8':¬(8:Int)<(C:Int):=by omega
              have e2:(32<R∨8<C)=False:=eq_false (fun h=>h.elim h32 h8)
              simp only [c37,arrX,runes,ints,go_sem,FL,subA5]
              refine goP h66 ?_
              simp only [go_sem,FL,subA5,h2']
              refine goP h68 ?_
              simp only [go_sem,FL,subA5]
              refine goP h96 ?_
              simp only [go_sem,FL,subA5]
              refine goP h97 ?_
              simp only [go_sem,FL,subA5,hRC']
              refine goP h96 ?_
              simp only [go_sem,FL,subA5,h32']
              refine goP h97 ?_
              simp only [go_sem,FL,subA5,h8']
              simp only [i37,OT,reduceIte,Nat.reduceEqDiff,hRC,if_false,e2]
def gridM (n:Nat) (L:Nat→List Rat):List AObj:=(List.range n).map (fun i=>rO (L i))++[⟨true,29,1,0,n,(List.range n).map fun i=>.arr i 0,false⟩]
theorem ownL_rows {M:List AObj} {o n:Nat} {L:Nat→List Rat} (h:NSt M o n L):∀{k a:Nat} {acc:List AObj} {ns:List Nat},a+k≤n→(∀i,a≤i→ns.contains (o+i)=false)→
    ∃ns',ownL M ((List.range' a k).map fun i=>AV.arr (o+i) (L i).length) acc ns=some ((List.range' a k).map fun i=>AV.arr (acc.length+(i - a)) 0,acc++(List.range' a k).map fun i=>rO (L i),ns')
  | 0,a,acc,ns,_,_=>⟨ns,by simp [ownL]⟩
  | k+1,a,acc,ns,hk,hn=>by
    have hr:=h.row a (by omega)
    have e:ownV M (.arr (o+a) (L a).length) acc ns=some (.arr acc.length 0,acc++[rO (L a)],(o+a)::ns):=by
      have hg:geto M (o+a) (L a).length=some ⟨false,57,3,(L a).length,(L a).length,rtsC ((L a).map rR),false⟩:=by rw [geto,hr];simp
      unfold ownV
      simp only [hg]
      rw [if_pos ⟨trivial,trivial,hn a (Nat.le_refl _)⟩]
      rfl
    obtain ⟨ns',ih⟩:=ownL_rows h (k:=k) (a:=a+1) (acc:=acc++[rO (L a)]) (ns:=(o+a)::ns) (by omega) (fun i hi=>by
      rw [List.contains_cons,hn i (by omega)]
      simp
      omega)
    refine ⟨ns',?_⟩
    rw [List.range'_succ,List.map_cons,ownL,e,Option.bind_some,ih]
    simp only [Option.map_some,Nat.sub_self,Nat.add_zero,List.length_append,List.length_cons,List.length_nil,List.map_cons,List.append_assoc,List.cons_append,List.nil_append]
    congr 3
    apply List.map_congr_left
    intro i hi
    have:=List.mem_range'_1.1 hi
    congr 1
    omega
theorem own_grid {M:List AObj} {o n:Nat} {L:Nat→List Rat} (h:NSt M o n L):ownOutB M (.arr (o+n) 0)=some (.arr n 0,gridM n L):=by
  have hg:geto M (o+n) 0=some ⟨true,29,1,0,n,(List.range n).map fun i=>.arr (o+i) (L i).length,false⟩:=by rw [geto,h.box];simp
  obtain ⟨ns',h2⟩:=ownL_rows h (k:=n) (a:=0) (acc:=[]) (ns:=[]) (by omega) (fun i _=>rfl)
  rw [←List.range_eq_range'] at h2
  simp only [List.length_nil,Nat.zero_add,Nat.sub_zero,List.nil_append] at h2
  unfold ownOutB
  simp only [hg]
  rw [if_pos ⟨trivial,trivial⟩,h2]
  simp [gridM]
def mxG (G:List (List Rat)):Mx:=fun k i=>(G.getD k []).getD i 0
theorem sub_grid {G:List (List Rat)} {k:Nat} (h:k<G.length):sub false 1 (G.map fun r=>AV.sl r.length 3 (rtsC (r.map rR))) (k*1)=some (.sl (G.getD k []).length 3 (rtsC ((G.getD k []).map rR))):=by
  simp only [sub,List.length_map,Nat.mul_one,Bool.false_eq_true,if_false,if_true]
  rw [if_pos (by omega),List.getElem?_map,List.getElem?_eq_getElem h]
  simp [List.getD,h]
theorem Sz.zero' {i:Nat} (h:1≤i):Sz i 0:=⟨by rw [Rat.num_ofNat];exact Nat.pow_pos (by omega),Nat.one_lt_two_pow (by omega)⟩
theorem Sz.sum {f:Nat→Rat} {e:Nat}:∀{k:Nat},(∀i,i<k→Sz e (f i))→Sz ((e+1)*k+1) (sumN k f)
  | 0,_=>Sz.zero' (by omega)
  | k+1,h=>by
    rw [sumN]
    exact ((Sz.sum (k:=k) fun i hi=>h i (by omega)).add (h k (by omega))).mono (by rw [Nat.mul_add,Nat.mul_one];omega)
def gridX (W:List (List Rt)):AV:=.sl W.length 1 (W.map fun r=>.sl r.length 3 (rtsC r))
structure Rep (W:List (List Rt)) (H:List (List Rat)):Prop where
  len:W.length=H.length
  row:∀k,(W.getD k []).length=(H.getD k []).length
  val:∀k j,j<(H.getD k []).length→RV (rtAt (W.getD k []) j) (mxG H k j)
theorem Rep.self {H:List (List Rat)}:Rep (H.map fun r=>r.map rR) H:=by
  have e:∀k,(H.map fun r=>r.map rR).getD k []=(H.getD k []).map rR:=fun k=>by
    simp only [List.getD,List.getElem?_map]
    cases H[k]?<;>rfl
  refine ⟨by simp,fun k=>by rw [e,List.length_map],fun k j hj=>?_⟩
  rw [e]
  unfold rtAt mxG
  generalize H.getD k []=r at *
  simp only [List.getD,List.getElem?_map,List.getElem?_eq_getElem hj,Option.map_some,Option.getD_some]
  exact RV.self
theorem gridX_self {H:List (List Rat)}:gridX (H.map fun r=>r.map rR)=gridG H:=by
  simp only [gridX,gridG,List.length_map,List.map_map]
  congr 1
  apply List.map_congr_left
  intro r _
  simp [Function.comp]
theorem sub_gridX {X:List (List Rt)} {k:Nat} (h:k<X.length):sub false 1 (X.map fun r=>AV.sl r.length 3 (rtsC r)) (k*1)=some (.sl (X.getD k []).length 3 (rtsC (X.getD k []))):=by
  simp only [sub,List.length_map,Nat.mul_one,Bool.false_eq_true,if_false,if_true]
  rw [if_pos (by omega),List.getElem?_map,List.getElem?_eq_getElem h]
  simp [List.getD,h]
section
variable {G H:List (List Rat)} {W:List (List Rt)} {n m e:Nat}
theorem c42_sum (hR:Rep W H) {i j:Nat} {M:List AObj} {env:Env} {Q:X→St→Prop} {ks:List Go.V.Item} (hGH:H.length=G.length) (hG:∀r∈G,i<r.length) (hH:∀r∈H,j<r.length) (hGs:∀r∈G,∀a∈r,Sz e a) (hHs:∀r∈H,∀a∈r,Sz e a) (hK:G.length≤4096) (he:(2*e+1)*(G.length+1)≤30000000)
    (e0:getE env 0=gridG G) (e1:getE env 1=gridX W) (e3:getE env 3=.int .i64 m) (e9:getE env 9=.arr (1+n) 0) (e10:getE env 10=.int .i64 i) (e11:getE env 11=.int .i64 j) (e12:getE env 12=.loc M.length 0 0)
    (e17:getE env 17=.int .i64 n) (e18:getE env 18=.int .i64 i) (e21:getE env 21=.int .i64 m) (e22:getE env 22=.int .i64 j) (e27:getE env 27=.int .i64 G.length) (e28:getE env 28=.int .i64 0)
    (hgo:∀z:Rt,(0<G.length→z=rR (gram G.length (mxG G) (mxG H) i j))→Mach (Go.V.Call tab E) Q ks .nrm ⟨[(0,gridG G),(1,gridX W),(3,.int .i64 m),(9,.arr (1+n) 0),(10,.int .i64 i),(11,.int .i64 j),(12,.loc M.length 0 0),(17,.int .i64 n),(18,.int .i64 i),(21,.int .i64 m),(22,.int .i64 j),(27,.int .i64 G.length),(28,.int .i64 G.length),(29,.bool false)],M++[⟨true,57,3,0,1,rtC z,false⟩]⟩) :
    Mach (Go.V.Call tab E) Q (.code (.loop [0,1,3,9,10,11,12,17,18,21,22,27,28] none b42_2)::.endb 4::ks) .nrm ⟨env,M++[⟨true,57,3,0,1,rtC (false,0,0),false⟩]⟩:=by
  have sG:∀k,k<G.length→(G.getD k [])∈G:=fun k h=>by simp [List.getD,h]
  have sH:∀k,k<H.length→(H.getD k [])∈H:=fun k h=>by simp [List.getD,h]
  have gg:∀k,k<G.length→Sz e (mxG G k i):=fun k h=>by
    have h2:=hG _ (sG k h)
    have:mxG G k i∈G.getD k []:=by unfold mxG;generalize G.getD k []=r at *;simp [List.getD,h2]
    exact hGs _ (sG k h) _ this
  have hh:∀k,k<G.length→Sz e (mxG H k j):=fun k h=>by
    have h2:=hH _ (sH k (by omega))
    have:mxG H k j∈H.getD k []:=by unfold mxG;generalize H.getD k []=r at *;simp [List.getD,h2]
    exact hHs _ (sH k (by omega)) _ this
  have hmul:∀k,k<G.length→Sz (2*e) (mxG G k i*mxG H k j):=fun k h=>((gg k h).mul (hh k h)).mono (by omega)
  have x1:∀o:AObj,(M++[o])[M.length]?=some o:=fun o=>by rw [List.getElem?_append_right (Nat.le_refl _)];simp
  have x2:∀o o':AObj,(M++[o]).set M.length o'=M++[o']:=fun o o'=>by rw [List.set_append_right _ _ (Nat.le_refl _)];simp
  refine mLoop (fun N st=>∃(k:Nat) (z:Rt),k≤G.length∧N=G.length - k∧RV z (sumN k fun k=>mxG G k i*mxG H k j)∧(0<k→z=rR (sumN k fun k=>mxG G k i*mxG H k j))∧
    st=⟨[(0,gridG G),(1,gridX W),(3,.int .i64 m),(9,.arr (1+n) 0),(10,.int .i64 i),(11,.int .i64 j),(12,.loc M.length 0 0),(17,.int .i64 n),(18,.int .i64 i),(21,.int .i64 m),(22,.int .i64 j),(27,.int .i64 G.length),(28,.int .i64 k)],M++[⟨true,57,3,0,1,rtC z,false⟩]⟩) G.length
    ⟨_,rfl,0,(false,0,0),by omega,by omega,RV.zero,fun h=>by omega,by simp only [List.map_cons,List.map_nil,e0,e1,e3,e9,e10,e11,e12,e17,e18,e21,e22,e27,e28];rfl⟩ ?_
  rintro N s0 ⟨k,z,hk,rfl,hz,hz0,rfl⟩
  by_cases hkG:k<G.length
  · have hk':(k:Int)<(G.length:Int):=by omega
    have hXl:=hR.len
    have hXr:=hR.row k
    have hkH:(k:Int)<(W.length:Int):=by omega
    have hk0:(0:Int)≤(k:Int):=by omega
    have hi0:(0:Int)≤(i:Int):=by omega
    have hj0:(0:Int)≤(j:Int):=by omega
    have hk1:IntKind.i64.wrap ((k:Int)+1)=((k+1:Nat):Int):=by rw [wrap_i64 (by omega) (by omega)];omega
    have g1:=sub_grid hkG
    have g2:=sub_gridX (X:=W) (k:=k) (by omega)
    have l1:=hG _ (sG k hkG)
    have l2:=hH _ (sH k (by omega))
    have l1':(i:Int)<((G.getD k []).length:Int):=by omega
    have l2':(j:Int)<((W.getD k []).length:Int):=by omega
    have g3:=sub_rR l1
    have g4:=sub_rts (l:=W.getD k []) (i:=j) (by omega)
    have h56:=c83_ok (E:=I.E) (x:=rR (mxG G k i)) (y:=rtAt (W.getD k []) j) RV.self (hR.val k j l2) (gg k hkG) (hh k hkG) (by
      have:(2*e+1)*1≤(2*e+1)*(G.length+1):=Nat.mul_le_mul_left _ (by omega)
      omega)
    have hsz:=Sz.sum (k:=k) (f:=fun k=>mxG G k i*mxG H k j) (e:=2*e) (fun q hq=>hmul q (by omega))
    have h49:=c82_ok (E:=I.E) (x:=z) (y:=rR (mxG G k i*mxG H k j)) hz RV.self hsz (hmul k hkG) (by
      have:(2*e+1)*k≤(2*e+1)*G.length:=Nat.mul_le_mul_left _ (by omega)
      rw [Nat.mul_add] at he
      omega)
    have hsucc:sumN (k+1) (fun k=>mxG G k i*mxG H k j)=sumN k (fun k=>mxG G k i*mxG H k j)+mxG G k i*mxG H k j:=rfl
    rw [←hsucc] at h49
    have eG:(G.getD k []).getD i 0=mxG G k i:=rfl
    rw [eG] at g3
    have hnz:sub true 3 (rtC z) 0=some (.agg (rtC z)):=rfl
    have hin:RV (rR (sumN (k+1) fun k=>mxG G k i*mxG H k j)) (sumN (k+1) fun k=>mxG G k i*mxG H k j):=RV.self
    clear hsucc hsz hz hz0 gg hh hmul eG hXl hXr
    generalize hzs:rR (sumN (k+1) fun k=>mxG G k i*mxG H k j)=zs at *
    generalize rR (mxG G k i*mxG H k j)=zp at *
    generalize rR (mxG G k i)=za at *
    generalize rtAt (W.getD k []) j=zb at *
    simp only [rtC3,us32] at h56 h49 g3 g4 hnz
    simp only [b42_2,gridG,gridX,rtC3,us32,go_sem,FL,hk',hkH,hk0,hi0,hj0,x1,g1,g2,g3,g4,hnz,l1',l2',Int.toNat_natCast]
    refine goP h56 ?_
    simp only [go_sem,FL,us32]
    refine goP h49 ?_
    simp only [go_sem,FL,mapIA,us32,x1,x2,hk1]
    exact loopQ_go rfl (G.length - (k+1)) (by omega) ⟨k+1,zs,by omega,rfl,hin,fun _=>hzs.symm,rfl⟩
  · obtain rfl:k=G.length:=by omega
    have:=hgo z hz0
    simp only [b42_2,gridG,gridX,go_sem,Int.lt_irrefl] at this ⊢
    exact this
def nrmR (G H:List (List Rat)) (i j:Nat):List Rat:=(List.range j).map fun q=>gram G.length (mxG G) (mxG H) i q
theorem nrmR_len {i j:Nat}:(nrmR G H i j).length=j:=by simp [nrmR]
theorem nrmR_succ {i j:Nat}:nrmR G H i (j+1)=nrmR G H i j++[gram G.length (mxG G) (mxG H) i j]:=by simp [nrmR,List.range_succ]
def lstN (G H:List (List Rat)) (m i j:Nat):Nat→List Rat:=fun r=>if r<i then nrmR G H r m else if r=i then nrmR G H i j else []
theorem x_last {K:List AObj} (o:AObj):(K++[o])[K.length]?=some o:=by rw [List.getElem?_append_right (Nat.le_refl _)];simp
theorem x_put {K:List AObj} (o o':AObj):(K++[o]).set K.length o'=K++[o']:=by rw [List.set_append_right _ _ (Nat.le_refl _)];simp
theorem c42_loop (hR:Rep W H) {M:List AObj} {env:Env} (hGH:H.length=G.length) (hG:∀r∈G,n≤r.length) (hH:∀r∈H,m≤r.length) (hGs:∀r∈G,∀a∈r,Sz e a) (hHs:∀r∈H,∀a∈r,Sz e a) (hK:G.length≤4096) (hn0:0<n→0<G.length) (hn:n≤4096) (hm:m≤4096) (he:(2*e+1)*(G.length+1)≤30000000)
    (hN:NSt M 1 n fun _=>[]) (e0:getE env 0=gridG G) (e1:getE env 1=gridX W) (e3:getE env 3=.int .i64 m) (e9:getE env 9=.arr (1+n) 0) (e17:getE env 17=.int .i64 n) (e18:getE env 18=.int .i64 0) :
    Mach (Go.V.Call tab E) (Go.V.Fin i42 [] (.arr n 0) (gridM n fun i=>nrmR G H i m)) [.code (.loop [0,1,3,9,17,18] none b42_0),.endb 0,.code k42_3] .nrm ⟨env,M⟩:=by
  refine mLoop (fun N st=>∃(i:Nat) (K:List AObj),i≤n∧N=n - i∧NSt K 1 n (lstN G H m i 0)∧
    st=⟨[(0,gridG G),(1,gridX W),(3,.int .i64 m),(9,.arr (1+n) 0),(17,.int .i64 n),(18,.int .i64 i)],K⟩) n ⟨_,rfl,0,M,by omega,by omega,hN.congr (fun i _=>by simp [lstN,nrmR]),by simp only [List.map_cons,List.map_nil,e0,e1,e3,e9,e17,e18];rfl⟩ ?_
  rintro N s0 ⟨i,K,hi,rfl,hKN,rfl⟩
  by_cases hin:i<n
  · have hi':(i:Int)<(n:Int):=by omega
    have hi0:(0:Int)≤(i:Int):=by omega
    have hi1:IntKind.i64.wrap ((i:Int)+1)=((i+1:Nat):Int):=by rw [wrap_i64 (by omega) (by omega)];omega
    simp only [b42_0,go_sem,hi']
    refine mLoop (fun N st=>∃(j:Nat) (K:List AObj),j≤m∧N=m - j∧NSt K 1 n (lstN G H m i j)∧
      st=⟨[(0,gridG G),(1,gridX W),(3,.int .i64 m),(9,.arr (1+n) 0),(10,.int .i64 i),(17,.int .i64 n),(18,.int .i64 i),(21,.int .i64 m),(22,.int .i64 j)],K⟩) m ⟨_,rfl,0,K,by omega,by omega,hKN,rfl⟩ ?_
    clear hKN K
    rintro N s0 ⟨j,K,hj,rfl,hKN,rfl⟩
    by_cases hjm:j<m
    · have hj':(j:Int)<(m:Int):=by omega
      have hj1:IntKind.i64.wrap ((j:Int)+1)=((j+1:Nat):Int):=by rw [wrap_i64 (by omega) (by omega)];omega
      have xl:=x_last (K:=K)
      have xp:=x_put (K:=K)
      have hz0:rtC (false,0,0)=[AV.sl 0 1 [],AV.bool false,AV.sl 0 1 []]:=by simp only [rtC,ratG,limG_zero,us32];rfl
      have hsum:=fun (env:Env) (ks:List Go.V.Item) (Q:X→St→Prop)=>c42_sum (G:=G) (H:=H) (n:=n) (m:=m) (e:=e) (i:=i) (j:=j) (M:=K) (env:=env) (Q:=Q) (ks:=ks) hR hGH (fun r hr=>Nat.lt_of_lt_of_le hin (hG r hr)) (fun r hr=>Nat.lt_of_lt_of_le hjm (hH r hr)) hGs hHs hK he
      rw [hz0] at hsum
      simp only [b42_1,gridG,gridX,go_sem,FL,mapIA,hj',xl,xp]
      refine hsum _ _ _ rfl rfl rfl rfl rfl rfl rfl rfl rfl rfl rfl rfl rfl ?_
      intro z hz
      have hz:=hz (hn0 (by omega))
      have hK2:=hKN.app (G:=[⟨true,57,3,0,1,rtC z,false⟩])
      have b1:=hK2.box
      have r1:=hK2.row i hin
      have hlt:=hK2.lt
      have ell:lstN G H m i j i=nrmR G H i j:=by simp [lstN]
      rw [ell,nrmR_len] at r1
      have xl2:(K++[(⟨true,57,3,0,1,rtC z,false⟩:AObj)])[K.length]?=some ⟨true,57,3,0,1,rtC z,false⟩:=x_last _
      have b2:∀o:AObj,((K++[(⟨true,57,3,0,1,rtC z,false⟩:AObj)]).set (1+i) o)[1+n]?=some ⟨true,29,1,0,n,(List.range n).map fun r=>.arr (1+r) (lstN G H m i j r).length,false⟩:=fun o=>by rw [List.getElem?_set_ne (by omega)];exact b1
      have hcs:sub false 1 ((List.range n).map fun r=>AV.arr (1+r) (lstN G H m i j r).length) (i*1)=some (.arr (1+i) j):=by
        simp only [sub,List.length_map,List.length_range,Nat.mul_one,Bool.false_eq_true,if_false,if_true]
        rw [if_pos (by omega)]
        simp [hin,ell,nrmR_len]
      have hfill:=fill_one (cs:=(List.range n).map fun r=>AV.arr (1+r) (lstN G H m i j r).length) (i:=i) (v:=.arr (1+i) (nrmR G H i (j+1)).length) (by simp;exact hin)
      have hst:=hK2.step hin (l:=nrmR G H i (j+1))
      have hst2:=hst.congr (L':=lstN G H m i (j+1)) (fun r hr=>by
        unfold updL lstN
        by_cases hri:r=i
        · subst hri;rw [if_pos rfl,if_neg (by omega),if_pos rfl]
        · rw [if_neg hri,if_neg hri,if_neg hri])
      have hlen1:i*1+1≤((List.range n).map fun r=>AV.arr (1+r) (lstN G H m i j r).length).length:=by simp;omega
      have happ:rtsC ((nrmR G H i j).map rR)++rtC z=rtsC ((nrmR G H i (j+1)).map rR):=by rw [nrmR_succ,List.map_append,hz];simp [rtsC]
      have hnz:sub true 3 (rtC z) 0=some (.agg (rtC z)):=rfl
      rw [nrmR_len] at hst2 hfill
      clear hK2 hst hsum xl xp hz
      generalize hKK:K++[(⟨true,57,3,0,1,rtC z,false⟩:AObj)]=K2 at *
      generalize (List.range n).map (fun r=>AV.arr (1+r) (lstN G H m i j r).length)=CS at *
      generalize rtsC ((nrmR G H i (j+1)).map rR)=rows' at *
      have y1:(j+1)*56≤140737488355328:=by omega
      have y2:j+1≤140737488355328:=by omega
      simp only [rtC3,us32] at happ hnz xl2
      simp only [k42_0,gridG,gridX,go_sem,mapIA,hi',hi0,b1,b2,r1,xl2,hnz,hcs,Int.toNat_natCast,List.flatten_cons,List.flatten_nil,Option.getD_some,y1,y2,happ,hlen1,hfill]
      simp only [k42_1,go_sem,hj1]
      exact loopQ_go rfl (m - (j+1)) (by omega) ⟨j+1,_,by omega,rfl,hst2,rfl⟩
    · obtain rfl:j=m:=by omega
      simp only [b42_1,k42_2,gridG,gridX,go_sem,Int.lt_irrefl,hi1]
      refine loopQ_go rfl (n - (i+1)) (by omega) ⟨i+1,K,by omega,rfl,hKN.congr (fun r hr=>?_),rfl⟩
      unfold lstN
      by_cases h1:r<i
      · rw [if_pos h1,if_pos (by omega)]
      · rw [if_neg h1]
        by_cases h2:r=i
        · subst h2;rw [if_pos rfl,if_pos (by omega)]
        · rw [if_neg h2,if_neg (by omega)]
          simp [nrmR]
  · obtain rfl:i=n:=by omega
    have hsn:=own_grid (hKN.congr (L':=fun i=>nrmR G H i m) (fun r hr=>by unfold lstN;rw [if_pos hr]))
    simp only [b42_0,k42_3,gridG,gridX,go_sem,Int.lt_irrefl]
    exact ⟨rfl,hsn⟩
theorem c42_X (hR:Rep W H) (hGH:H.length=G.length) (hG:∀r∈G,n≤r.length) (hH:∀r∈H,m≤r.length) (hGs:∀r∈G,∀a∈r,Sz e a) (hHs:∀r∈H,∀a∈r,Sz e a) (hK:G.length≤4096) (hn0:0<n→0<G.length) (hn:n≤4096) (hm:m≤4096) (he:(2*e+1)*(G.length+1)≤30000000) :
    Go.V.Call tab E 42 [gridG G,gridX W,.int .i64 n,.int .i64 m] [] (.arr n 0) (gridM n fun i=>nrmR G H i m):=by
  refine Go.V.Call.mach i42 c42 rfl rfl rfl rfl ?_
  have hloop:=fun (M:List AObj) (env:Env)=>c42_loop (G:=G) (H:=H) (n:=n) (m:=m) (e:=e) (M:=M) (env:=env) hR hGH hG hH hGs hHs hK hn0 hn hm he
  have had:∀M:List AObj,adopt (List.replicate n (.nilsl 57 3)) M=((List.range n).map fun i=>AV.arr (M.length+i) 0,M++List.replicate n ⟨false,57,3,0,0,[],false⟩):=fun M=>adopt_rep
  have z0:(0:Int)≤(n:Int):=by omega
  have z1:24*n≤140737488355328:=by omega
  have z2:(n:Int)≤140737488355328:=by omega
  have hnew:=NSt.new (M:=[⟨true,29,1,0,0,[],false⟩]) (n:=n)
  have key:∀env,getE env 0=gridG G→getE env 1=gridX W→getE env 3=.int .i64 m→getE env 9=.arr (n+1) 0→getE env 17=.int .i64 n→getE env 18=.int .i64 0→
      Mach (Go.V.Call tab E) (Go.V.Fin i42 [] (.arr n 0) (gridM n fun i=>nrmR G H i m)) [.code (.loop [0,1,3,9,17,18] none b42_0),.endb 0,.code k42_3] .nrm
        ⟨env,⟨true,29,1,0,0,[],false⟩::(List.replicate n ⟨false,57,3,0,0,[],false⟩++[⟨true,29,1,0,n,(List.range n).map fun i=>AV.arr (1+i) 0,false⟩])⟩:=fun env e0 e1 e3 e9 e17 e18=>
    hloop _ _ hnew e0 e1 e3 (by rw [e9,Nat.add_comm]) e17 e18
  have hbx:∀a:AObj,(a::(List.replicate n (⟨false,57,3,0,0,[],false⟩:AObj)++[⟨true,29,1,0,n,(List.range n).map fun i=>AV.arr (1+i) 0,false⟩]))[n+1]?=some ⟨true,29,1,0,n,(List.range n).map fun i=>AV.arr (1+i) 0,false⟩:=fun a=>by
    rw [List.getElem?_cons_succ,List.getElem?_append_right (by simp)]
    simp
  have hlr:(List.replicate n (⟨false,57,3,0,0,[],false⟩:AObj)).length=n:=List.length_replicate
  clear hloop hnew
  simp only [gridG,gridX] at key
  simp only [c42,gridG,gridX,go_sem,mapIA,had,z0,z1,z2,Int.toNat_natCast,hbx,hlr,Nat.zero_add]
  exact key _ rfl rfl rfl rfl rfl rfl
theorem c42_ok (hGH:H.length=G.length) (hG:∀r∈G,n≤r.length) (hH:∀r∈H,m≤r.length) (hGs:∀r∈G,∀a∈r,Sz e a) (hHs:∀r∈H,∀a∈r,Sz e a) (hK:G.length≤4096) (hn0:0<n→0<G.length) (hn:n≤4096) (hm:m≤4096) (he:(2*e+1)*(G.length+1)≤30000000) :
    Go.V.Call tab E 42 [gridG G,gridG H,.int .i64 n,.int .i64 m] [] (.arr n 0) (gridM n fun i=>nrmR G H i m):=by
  have:=c42_X (Rep.self (H:=H)) hGH hG hH hGs hHs hK hn0 hn hm he
  rwa [gridX_self] at this
end
def bxC (n:Nat) (f:Nat→Nat):List AV:=(List.range n).map fun i=>.arr (f i) 0
structure Two (M:List AObj) (n ba bb:Nat) (ia ib:Nat→Nat) (s:Gd × Gd):Prop where
  bA:M[ba]?=some ⟨true,29,1,0,n,bxC n ia,false⟩
  bB:M[bb]?=some ⟨true,29,1,0,n,bxC n ib,false⟩
  rA:∀i,i<n→M[ia i]?=some (rO (s.1 i))
  rB:∀i,i<n→M[ib i]?=some (rO (s.2 i))
  iA:∀i j,i<n→j<n→ia i=ia j→i=j
  iB:∀i j,i<n→j<n→ib i=ib j→i=j
  iAB:∀i j,i<n→j<n→ia i≠ib j
  bn:ba≠bb
section
variable {M:List AObj} {n ba bb:Nat} {ia ib:Nat→Nat} {s:Gd × Gd}
theorem Two.ne_box (h:Two M n ba bb ia ib s) {i:Nat} (hi:i<n):ia i≠ba∧ia i≠bb∧ib i≠ba∧ib i≠bb:=by
  have k:∀{p q:Nat} {l:List Rat} {f:Nat→Nat},M[p]?=some (rO l)→M[q]?=some ⟨true,29,1,0,n,bxC n f,false⟩→p≠q:=fun h1 h2 e=>by
    subst e
    rw [h1] at h2
    have:=congrArg AObj.box (Option.some.inj h2)
    simp [rO] at this
  exact ⟨k (h.rA i hi) h.bA,k (h.rA i hi) h.bB,k (h.rB i hi) h.bA,k (h.rB i hi) h.bB⟩
theorem lt_of {α:Type} {l:List α} {i:Nat} {a:α} (h:l[i]?=some a):i<l.length:=(List.getElem?_eq_some_iff.1 h).1
theorem Two.app (h:Two M n ba bb ia ib s) {G:List AObj}:Two (M++G) n ba bb ia ib s:=
  ⟨by rw [List.getElem?_append_left (lt_of h.bA)];exact h.bA,by rw [List.getElem?_append_left (lt_of h.bB)];exact h.bB,
   fun i hi=>by rw [List.getElem?_append_left (lt_of (h.rA i hi))];exact h.rA i hi,fun i hi=>by rw [List.getElem?_append_left (lt_of (h.rB i hi))];exact h.rB i hi,h.iA,h.iB,h.iAB,h.bn⟩
theorem Two.congr (h:Two M n ba bb ia ib s) {s':Gd × Gd} (h1:∀i,i<n→s.1 i=s'.1 i) (h2:∀i,i<n→s.2 i=s'.2 i):Two M n ba bb ia ib s':=
  ⟨h.bA,h.bB,fun i hi=>by rw [←h1 i hi];exact h.rA i hi,fun i hi=>by rw [←h2 i hi];exact h.rB i hi,h.iA,h.iB,h.iAB,h.bn⟩
theorem Two.setA (h:Two M n ba bb ia ib s) {r:Nat} (hr:r<n) {l:List Rat}:Two (M.set (ia r) (rO l)) n ba bb ia ib (updL s.1 r l,s.2):=by
  obtain ⟨n1,n2,_,_⟩:=h.ne_box hr
  refine ⟨by rw [List.getElem?_set_ne n1];exact h.bA,by rw [List.getElem?_set_ne n2];exact h.bB,fun i hi=>?_,fun i hi=>?_,h.iA,h.iB,h.iAB,h.bn⟩
  · by_cases hir:i=r
    · subst hir
      rw [List.getElem?_set_self (lt_of (h.rA i hi))]
      simp [updL]
    · rw [List.getElem?_set_ne (fun e=>hir (h.iA i r hi hr e.symm))]
      simp only [updL,if_neg hir]
      exact h.rA i hi
  · rw [List.getElem?_set_ne (h.iAB r i hr hi)]
    exact h.rB i hi
theorem Two.setB (h:Two M n ba bb ia ib s) {r:Nat} (hr:r<n) {l:List Rat}:Two (M.set (ib r) (rO l)) n ba bb ia ib (s.1,updL s.2 r l):=by
  obtain ⟨_,_,n1,n2⟩:=h.ne_box hr
  refine ⟨by rw [List.getElem?_set_ne n1];exact h.bA,by rw [List.getElem?_set_ne n2];exact h.bB,fun i hi=>?_,fun i hi=>?_,h.iA,h.iB,h.iAB,h.bn⟩
  · rw [List.getElem?_set_ne (fun e=>h.iAB i r hi hr e.symm)]
    exact h.rA i hi
  · by_cases hir:i=r
    · subst hir
      rw [List.getElem?_set_self (lt_of (h.rB i hi))]
      simp [updL]
    · rw [List.getElem?_set_ne (fun e=>hir (h.iB i r hi hr e.symm))]
      simp only [updL,if_neg hir]
      exact h.rB i hi
def SameB (d:Nat) (M K:List AObj):Prop:=∀k,k<d→K[k]?=M[k]?
theorem SameB.refl {d:Nat} {M:List AObj}:SameB d M M:=fun _ _=>rfl
theorem SameB.set {d p:Nat} {M K:List AObj} {o:AObj} (h:SameB d M K) (hp:d≤p):SameB d M (K.set p o):=fun k hk=>by rw [List.getElem?_set_ne (by omega)];exact h k hk
theorem SameB.app {d:Nat} {M K G:List AObj} (h:SameB d M K) (hd:d≤K.length):SameB d M (K++G):=fun k hk=>by rw [List.getElem?_append_left (by omega)];exact h k hk
def swI (f:Nat→Nat) (c p:Nat):Nat→Nat:=fun r=>if r=c then f p else if r=p then f c else f r
theorem bxC_swap {f:Nat→Nat} {c p:Nat} (hc:c<n) (hp:p<n):((bxC n f).set c (.arr (f p) 0)).set p (.arr (f c) 0)=bxC n (swI f c p):=by
  apply List.ext_getElem?
  intro r
  by_cases hr:r<n
  · by_cases h1:r=p
    · subst h1
      rw [List.getElem?_set_self (by simp [bxC];exact hr)]
      simp only [bxC,List.getElem?_map,List.getElem?_range hr,Option.map_some,swI]
      by_cases h2:r=c
      · subst h2;simp only [if_true]
      · simp only [if_neg h2,if_true]
    · rw [List.getElem?_set_ne (fun e=>h1 e.symm)]
      by_cases h2:r=c
      · subst h2
        rw [List.getElem?_set_self (by simp [bxC];exact hr)]
        simp only [bxC,List.getElem?_map,List.getElem?_range hr,Option.map_some,swI,if_true]
      · rw [List.getElem?_set_ne (fun e=>h2 e.symm)]
        simp only [bxC,List.getElem?_map,List.getElem?_range hr,Option.map_some,swI,if_neg h1,if_neg h2]
  · rw [List.getElem?_eq_none (by simp [bxC];omega),List.getElem?_eq_none (by simp [bxC];omega)]
theorem swI_inj {f:Nat→Nat} {c p:Nat} (hc:c<n) (hp:p<n) (h:∀i j,i<n→j<n→f i=f j→i=j):∀i j,i<n→j<n→swI f c p i=swI f c p j→i=j:=fun i j hi hj e=>by
  unfold swI at e
  split at e<;>split at e<;>(try split at e)<;>(try split at e)<;>first|omega|(have:=h _ _ (by assumption) (by assumption) e;omega)
theorem swI_in {f:Nat→Nat} {c p i:Nat} (hc:c<n) (hp:p<n) (hi:i<n):∃k,k<n∧swI f c p i=f k:=by
  unfold swI
  split
  · exact ⟨p,hp,rfl⟩
  · split
    · exact ⟨c,hc,rfl⟩
    · exact ⟨i,hi,rfl⟩
theorem Two.swap (h:Two M n ba bb ia ib s) {c p:Nat} (hc:c<n) (hp:p<n) :
    Two ((M.set ba ⟨true,29,1,0,n,bxC n (swI ia c p),false⟩).set bb ⟨true,29,1,0,n,bxC n (swI ib c p),false⟩) n ba bb (swI ia c p) (swI ib c p) (swA s.1 c p,swA s.2 c p):=by
  have kA:∀i,i<n→M[swI ia c p i]?=some (rO (swA s.1 c p i)):=fun i hi=>by
    unfold swI swA
    split
    · exact h.rA p hp
    · split
      · exact h.rA c hc
      · exact h.rA i hi
  have kB:∀i,i<n→M[swI ib c p i]?=some (rO (swA s.2 c p i)):=fun i hi=>by
    unfold swI swA
    split
    · exact h.rB p hp
    · split
      · exact h.rB c hc
      · exact h.rB i hi
  refine ⟨?_,?_,fun i hi=>?_,fun i hi=>?_,swI_inj hc hp h.iA,swI_inj hc hp h.iB,fun i j hi hj=>?_,h.bn⟩
  · rw [List.getElem?_set_ne (fun e=>h.bn e.symm),List.getElem?_set_self (lt_of h.bA)]
  · rw [List.getElem?_set_self (by rw [List.length_set];exact lt_of h.bB)]
  · obtain ⟨k,hk,e⟩:=swI_in (f:=ia) hc hp hi
    obtain ⟨n1,n2,_,_⟩:=h.ne_box hk
    rw [List.getElem?_set_ne (by rw [e];exact fun e=>n2 e.symm),List.getElem?_set_ne (by rw [e];exact fun e=>n1 e.symm)]
    exact kA i hi
  · obtain ⟨k,hk,e⟩:=swI_in (f:=ib) hc hp hi
    obtain ⟨_,_,n1,n2⟩:=h.ne_box hk
    rw [List.getElem?_set_ne (by rw [e];exact fun e=>n2 e.symm),List.getElem?_set_ne (by rw [e];exact fun e=>n1 e.symm)]
    exact kB i hi
  · obtain ⟨k,hk,e⟩:=swI_in (f:=ia) hc hp hi
    obtain ⟨l,hl,e'⟩:=swI_in (f:=ib) hc hp hj
    rw [e,e']
    exact h.iAB k l hk hl
theorem sub_bx {f:Nat→Nat} {i:Nat} (hi:i<n):sub false 1 (bxC n f) (i*1)=some (.arr (f i) 0):=by
  simp only [sub,bxC,List.length_map,List.length_range,Nat.mul_one,Bool.false_eq_true,if_false,if_true]
  rw [if_pos (by omega)]
  simp [hi]
theorem bxC_len {f:Nat→Nat}:(bxC n f).length=n:=by simp [bxC]
theorem c43_piv {c m:Nat} {env:Env} {Q:X→St→Prop} {ks:List Go.V.Item} (h:Two M n ba bb ia ib s) (hl:Lens n m s) (hc:c<n) (hn:n≤4096) {p0:Nat} (hp0:p0≤n)
    (e0:getE env 0=.arr ba 0) (e1:getE env 1=.arr bb 0) (e5:getE env 5=.int .i64 c) (e6:getE env 6=.int .i64 p0) (e13:getE env 13=.int .i64 n) (e14:getE env 14=.int .i64 c)
    (hgo:Mach (Go.V.Call tab E) Q ks .nrm ⟨[(0,.arr ba 0),(1,.arr bb 0),(5,.int .i64 c),(6,.int .i64 (pvt s.1 c (n - p0) p0)),(13,.int .i64 n),(14,.int .i64 c),(32,.bool false)],M⟩) :
    Mach (Go.V.Call tab E) Q (.code (.loop [0,1,5,6,13,14] none b43_1)::.endb 2::ks) .nrm ⟨env,M⟩:=by
  have hbA:=h.bA
  refine mLoop (fun N st=>∃p:Nat,p≤n∧N=n - p∧pvt s.1 c (n - p) p=pvt s.1 c (n - p0) p0∧st=⟨[(0,.arr ba 0),(1,.arr bb 0),(5,.int .i64 c),(6,.int .i64 p),(13,.int .i64 n),(14,.int .i64 c)],M⟩) (n - p0)
    ⟨_,rfl,p0,hp0,rfl,rfl,by simp only [List.map_cons,List.map_nil,e0,e1,e5,e6,e13,e14]⟩ ?_
  rintro N s0 ⟨p,hp,rfl,hpv,rfl⟩
  by_cases hpn:p<n
  · have hp':(p:Int)<(n:Int):=by omega
    have hp00:(0:Int)≤(p:Int):=by omega
    have hc0:(0:Int)≤(c:Int):=by omega
    have hp1:IntKind.i64.wrap ((p:Int)+1)=((p+1:Nat):Int):=by rw [wrap_i64 (by omega) (by omega)];omega
    have hrow:=h.rA p hpn
    have hlen:=(hl p hpn).1
    have hcl:(c:Int)<((s.1 p).length:Int):=by omega
    have g1:=sub_bx (n:=n) (f:=ia) hpn
    have g2:=sub_rR (l:=s.1 p) (i:=c) (by omega)
    have eE:(s.1 p).getD c 0=en s.1 p c:=rfl
    rw [eE] at g2
    have h129:=c84_ok (r:=en s.1 p c)
    have hsg:=sgZ_num (r:=en s.1 p c)
    have hpvt:pvt s.1 c (n - p) p=if en s.1 p c=0 then pvt s.1 c (n - (p+1)) (p+1) else p:=by
      rw [show n - p=(n - (p+1))+1 by omega,pvt]
    simp only [rO_eq] at hrow
    by_cases h0:en s.1 p c=0
    · rw [decide_eq_true h0] at hsg
      rw [if_pos h0] at hpvt
      simp only [rtC3,us32] at g2 h129
      simp only [b43_1,go_sem,FL,hbA,hp',hp00,hc0,g1,hrow,hcl,g2,Int.toNat_natCast,us32]
      refine goR h129 rfl ?_
      simp only [go_sem,hsg,hp1]
      exact loopQ_go rfl (n - (p+1)) (by omega) ⟨p+1,by omega,rfl,by rw [←hpv,hpvt],rfl⟩
    · rw [decide_eq_false h0] at hsg
      rw [if_neg h0,hpv] at hpvt
      rw [hpvt] at hgo
      simp only [rtC3,us32] at g2 h129
      simp only [b43_1,go_sem,FL,hbA,hp',hp00,hc0,g1,hrow,hcl,g2,Int.toNat_natCast,us32]
      refine goR h129 rfl ?_
      simp only [go_sem,hsg]
      exact hgo
  · obtain rfl:p=n:=by omega
    have hpp:pvt s.1 c (p - p0) p0=p:=by rw [←hpv,Nat.sub_self];rfl
    rw [hpp] at hgo
    simp only [b43_1,go_sem,hbA,Int.lt_irrefl]
    exact hgo
end
def SzG (n:Nat) (s:Gd × Gd) (e:Nat):Prop:=∀r,r<n→(∀a∈s.1 r,Sz e a)∧∀a∈s.2 r,Sz e a
theorem SzG.mono {n e e':Nat} {s:Gd × Gd} (h:SzG n s e) (he:e≤e'):SzG n s e':=fun r hr=>⟨fun a ha=>((h r hr).1 a ha).mono he,fun a ha=>((h r hr).2 a ha).mono he⟩
theorem SzG.swap {n e c p:Nat} {s:Gd × Gd} (h:SzG n s e) (hc:c<n) (hp:p<n):SzG n (swA s.1 c p,swA s.2 c p) e:=fun r hr=>by
  unfold swA
  simp only []
  split
  · exact h p hp
  · split
    · exact h c hc
    · exact h r hr
theorem Sz.less {x y:List Rat} {q:Rat} {e:Nat} (hx:∀a∈x,Sz e a) (hy:∀a∈y,Sz e a) (hl:y.length=x.length) (hq:Sz (2*e) q):∀a∈lessL x y q,Sz (4*e+1) a:=fun a ha=>by
  simp only [lessL,List.mem_map,List.mem_range] at ha
  obtain ⟨i,hi,rfl⟩:=ha
  have h1:Sz e (x.getD i 0):=by simp only [List.getD,List.getElem?_eq_getElem hi,Option.getD_some];exact hx _ (List.getElem_mem hi)
  have h2:Sz e (y.getD i 0):=by simp only [List.getD,List.getElem?_eq_getElem (show i<y.length by omega),Option.getD_some];exact hy _ (List.getElem_mem (by omega))
  exact (h1.add (h2.mul hq).neg).mono (by omega)
def elT (a x:Gd) (c k:Nat):Gd:=fun r=>if r<k then elA a x c r else x r
section
variable {n m ba bb e:Nat} {ia ib:Nat→Nat} {s:Gd × Gd}
theorem en_Sz (hS:SzG n s e) (hl:Lens n m s) {r j:Nat} (hr:r<n) (hj:j<n):Sz e (en s.1 r j):=by
  have h1:=(hS r hr).1
  have h2:=(hl r hr).1
  have:en s.1 r j∈s.1 r:=by unfold en;generalize s.1 r=l at *;simp [List.getD,h2,hj]
  exact h1 _ this
theorem SzG.elim {c:Nat} (hS:SzG n s e) (hl:Lens n m s) (hc:c<n) (hp:en s.1 c c≠0):SzG n (elA s.1 s.1 c,elA s.1 s.2 c) (4*e+1):=fun r hr=>by
  have hq:Sz (2*e) (en s.1 r c/en s.1 c c):=((en_Sz hS hl hr hc).div (en_Sz hS hl hc hc) (fun h=>hp (Rat.num_eq_zero.1 h))).mono (by omega)
  unfold elA
  simp only []
  split
  · exact ⟨fun a ha=>((hS r hr).1 a ha).mono (by omega),fun a ha=>((hS r hr).2 a ha).mono (by omega)⟩
  · exact ⟨Sz.less (hS r hr).1 (hS c hc).1 (by rw [(hl r hr).1,(hl c hc).1]) hq,Sz.less (hS r hr).2 (hS c hc).2 (by rw [(hl r hr).2,(hl c hc).2]) hq⟩
theorem elT_row {a x:Gd} {c k r:Nat} (h:k≤r):elT a x c k r=x r:=by unfold elT;rw [if_neg (by omega)]
theorem elT_c {a x:Gd} {c k:Nat}:elT a x c k c=x c:=by
  unfold elT elA
  split
  · rw [if_pos (.inl rfl)]
  · rfl
theorem elT_succ {a x:Gd} {c k:Nat}:updL (elT a x c k) k (elA a x c k)=elT a x c (k+1):=by
  funext r
  unfold updL elT
  by_cases h:r=k
  · subst h;rw [if_pos rfl,if_pos (by omega)]
  · rw [if_neg h]
    by_cases h2:r<k
    · rw [if_pos h2,if_pos (by omega)]
    · rw [if_neg h2,if_neg (by omega)]
theorem elT_skip {a x:Gd} {c k:Nat} (h:elA a x c k=x k):elT a x c k=elT a x c (k+1):=by
  rw [←elT_succ,h]
  funext r
  unfold updL
  by_cases hr:r=k
  · subst hr;rw [if_pos rfl,elT_row (Nat.le_refl _)]
  · rw [if_neg hr]
theorem c43_elim {c d:Nat} {M:List AObj} {env:Env} {Q:X→St→Prop} {ks:List Go.V.Item} (h:Two M n ba bb ia ib s) (hl:Lens n m s) (hS:SzG n s e) (hc:c<n) (hn:n≤4096) (hm:m≤4096) (hp:en s.1 c c≠0) (he:4*e+2≤32000000) (hlow:∀i,i<n→d≤ia i∧d≤ib i)
    (e0:getE env 0=.arr ba 0) (e1:getE env 1=.arr bb 0) (e5:getE env 5=.int .i64 c) (e13:getE env 13=.int .i64 n) (e14:getE env 14=.int .i64 c) (e68:getE env 68=.int .i64 n) (e69:getE env 69=.int .i64 0)
    (hgo:∀M',SameB d M M'→Two M' n ba bb ia ib (elA s.1 s.1 c,elA s.1 s.2 c)→Mach (Go.V.Call tab E) Q ks .nrm ⟨[(0,.arr ba 0),(1,.arr bb 0),(5,.int .i64 c),(13,.int .i64 n),(14,.int .i64 c),(68,.int .i64 n),(69,.int .i64 n),(70,.bool false)],M'⟩) :
    Mach (Go.V.Call tab E) Q (.code (.loop [0,1,5,13,14,68,69] none b43_2)::.endb 4::ks) .nrm ⟨env,M⟩:=by
  have h00:Two M n ba bb ia ib (elT s.1 s.1 c 0,elT s.1 s.2 c 0):=h.congr (fun i _=>(elT_row (a:=s.1) (c:=c) (Nat.zero_le i)).symm) (fun i _=>(elT_row (a:=s.1) (c:=c) (Nat.zero_le i)).symm)
  refine mLoop (fun N st=>∃(r:Nat) (K:List AObj),r≤n∧N=n - r∧SameB d M K∧Two K n ba bb ia ib (elT s.1 s.1 c r,elT s.1 s.2 c r)∧st=⟨[(0,.arr ba 0),(1,.arr bb 0),(5,.int .i64 c),(13,.int .i64 n),(14,.int .i64 c),(68,.int .i64 n),(69,.int .i64 r)],K⟩) n
    ⟨_,rfl,0,M,by omega,by omega,SameB.refl,h00,by simp only [List.map_cons,List.map_nil,e0,e1,e5,e13,e14,e68,e69];rfl⟩ ?_
  clear h00 h env e0 e1 e5 e13 e14 e68 e69
  rintro N s0 ⟨r,K,hr,rfl,hsm,hK,rfl⟩
  by_cases hrn:r<n
  · have hr':(r:Int)<(n:Int):=by omega
    have hr0:(0:Int)≤(r:Int):=by omega
    have hc0:(0:Int)≤(c:Int):=by omega
    have hcn:(c:Int)<(n:Int):=by omega
    have hr1:IntKind.i64.wrap ((r:Int)+1)=((r+1:Nat):Int):=by rw [wrap_i64 (by omega) (by omega)];omega
    by_cases hrc:r=c
    · subst hrc
      have hA:=elT_skip (a:=s.1) (x:=s.1) (c:=r) (k:=r) (by unfold elA;rw [if_pos (.inl rfl)])
      have hB:=elT_skip (a:=s.1) (x:=s.2) (c:=r) (k:=r) (by unfold elA;rw [if_pos (.inl rfl)])
      rw [hA,hB] at hK
      simp only [b43_2,go_sem,hr',beq_self_eq_true,hr1]
      exact loopQ_go rfl (n - (r+1)) (by omega) ⟨r+1,K,by omega,rfl,hsm,hK,rfl⟩
    · have hq:((r:Int)==(c:Int))=false:=by rw [beq_eq_false_iff_ne];omega
      have hbA:=hK.bA
      have hbB:=hK.bB
      have hrow:=hK.rA r hrn
      have hrowc:=hK.rA c hc
      dsimp only at hrow hrowc
      rw [elT_row (Nat.le_refl _)] at hrow
      rw [elT_c] at hrowc
      have g1:=sub_bx (n:=n) (f:=ia) hrn
      have g1c:=sub_bx (n:=n) (f:=ia) hc
      have lr:=hl r hrn
      have lc:=hl c hc
      have g2:=sub_rR (l:=s.1 r) (i:=c) (by omega)
      have g2c:=sub_rR (l:=s.1 c) (i:=c) (by omega)
      have eE:(s.1 r).getD c 0=en s.1 r c:=rfl
      have eEc:(s.1 c).getD c 0=en s.1 c c:=rfl
      rw [eE] at g2
      rw [eEc] at g2c
      have hcl:(c:Int)<((s.1 r).length:Int):=by omega
      have hclc:(c:Int)<((s.1 c).length:Int):=by omega
      have h129:=c84_ok (r:=en s.1 r c)
      have hsg:=sgZ_num (r:=en s.1 r c)
      by_cases h0:en s.1 r c=0
      · have hA:=elT_skip (a:=s.1) (x:=s.1) (c:=c) (k:=r) (by unfold elA;rw [if_pos (.inr h0)])
        have hB:=elT_skip (a:=s.1) (x:=s.2) (c:=c) (k:=r) (by unfold elA;rw [if_pos (.inr h0)])
        rw [hA,hB] at hK
        rw [decide_eq_true h0] at hsg
        simp only [rO_eq] at hrow
        simp only [rtC3,us32] at g2 h129
        simp only [b43_2,go_sem,FL,hbA,hr',hr0,hc0,hq,g1,hrow,hcl,g2,Int.toNat_natCast,us32]
        refine goR h129 rfl ?_
        simp only [go_sem,hsg,hr1]
        exact loopQ_go rfl (n - (r+1)) (by omega) ⟨r+1,K,by omega,rfl,hsm,hK,rfl⟩
      · rw [decide_eq_false h0] at hsg
        have sr:=en_Sz hS hl hrn hc
        have sc:=en_Sz hS hl hc hc
        have hSq:Sz (2*e) (en s.1 r c/en s.1 c c):=(sr.div sc (fun h=>hp (Rat.num_eq_zero.1 h))).mono (by omega)
        have h51:=c85_ok (E:=I.E) (x:=rR (en s.1 r c)) (y:=rR (en s.1 c c)) RV.self RV.self sr sc hp (by omega)
        have hK1:=hK.app (G:=[⟨true,57,3,0,1,rtC (rR (en s.1 r c/en s.1 c c)),false⟩])
        have hne:ia r≠ia c:=fun h=>hrc (hK.iA r c hrn hc h)
        have hneB:ib r≠ib c:=fun h=>hrc (hK.iB r c hrn hc h)
        have q1:=hK1.rA r hrn
        have q2:=hK1.rA c hc
        dsimp only at q1 q2
        rw [elT_row (Nat.le_refl _)] at q1
        rw [elT_c] at q2
        obtain ⟨B1,call1⟩:=c86_ok (t:=en s.1 r c/en s.1 c c) (i:=e) (j:=2*e) q1 q2 hne (by omega) (by omega) (hS r hrn).1 (hS c hc).1 hSq (by omega)
        have hK2:=(hK1.setA (l:=lessL (s.1 r) (s.1 c) (en s.1 r c/en s.1 c c)) hrn).app (G:=[B1])
        have q3:=hK2.rB r hrn
        have q4:=hK2.rB c hc
        dsimp only at q3 q4
        rw [elT_row (Nat.le_refl _)] at q3
        rw [elT_c] at q4
        obtain ⟨B2,call2⟩:=c86_ok (t:=en s.1 r c/en s.1 c c) (i:=e) (j:=2*e) q3 q4 hneB (by omega) (by omega) (hS r hrn).2 (hS c hc).2 hSq (by omega)
        have hK3:=(hK2.setB (l:=lessL (s.2 r) (s.2 c) (en s.1 r c/en s.1 c c)) hrn).app (G:=[B2])
        have eA:elA s.1 s.1 c r=lessL (s.1 r) (s.1 c) (en s.1 r c/en s.1 c c):=by unfold elA;rw [if_neg (fun hh=>hh.elim hrc h0)]
        have eB:elA s.1 s.2 c r=lessL (s.2 r) (s.2 c) (en s.1 r c/en s.1 c c):=by unfold elA;rw [if_neg (fun hh=>hh.elim hrc h0)]
        have u1:updL (elT s.1 s.1 c r) r (lessL (s.1 r) (s.1 c) (en s.1 r c/en s.1 c c))=elT s.1 s.1 c (r+1):=by rw [←eA,elT_succ]
        have u2:updL (elT s.1 s.2 c r) r (lessL (s.2 r) (s.2 c) (en s.1 r c/en s.1 c c))=elT s.1 s.2 c (r+1):=by rw [←eB,elT_succ]
        dsimp only at hK3
        rw [u1,u2] at hK3
        have hrl:=lt_of hrow
        have hlw:=hlow r hrn
        have hsm3:SameB d M ((((((K++[(⟨true,57,3,0,1,rtC (rR (en s.1 r c/en s.1 c c)),false⟩:AObj)]).set (ia r) (rO (lessL (s.1 r) (s.1 c) (en s.1 r c/en s.1 c c))))++[B1])).set (ib r) (rO (lessL (s.2 r) (s.2 c) (en s.1 r c/en s.1 c c))))++[B2]):=
          ((((hsm.app (by omega)).set hlw.1).app (by simp;omega)).set hlw.2).app (by simp;omega)
        have hbA1:=hK1.bA
        have hbB2:=hK2.bB
        have xl:=x_last (K:=K)
        have xp:=x_put (K:=K)
        have hkl:K.length<(K++[(⟨true,57,3,0,1,rtC (rR (en s.1 r c/en s.1 c c)),false⟩:AObj)]).length:=by simp
        have hnl:ia r≠K.length:=fun e=>by have:=lt_of hrow;omega
        have xl2:(((K++[(⟨true,57,3,0,1,rtC (rR (en s.1 r c/en s.1 c c)),false⟩:AObj)]).set (ia r) (rO (lessL (s.1 r) (s.1 c) (en s.1 r c/en s.1 c c))))++[B1])[K.length]?=some ⟨true,57,3,0,1,rtC (rR (en s.1 r c/en s.1 c c)),false⟩:=by
          rw [List.getElem?_append_left (by rw [List.length_set];exact hkl),List.getElem?_set_ne hnl]
          exact x_last _
        have xl1:(K++[(⟨true,57,3,0,1,rtC (rR (en s.1 r c/en s.1 c c)),false⟩:AObj)])[K.length]?=some ⟨true,57,3,0,1,rtC (rR (en s.1 r c/en s.1 c c)),false⟩:=x_last _
        have xpp:∀o:AObj,(K++[o]).set K.length ⟨true,57,3,0,1,rtC (rR (en s.1 r c/en s.1 c c)),false⟩=K++[(⟨true,57,3,0,1,rtC (rR (en s.1 r c/en s.1 c c)),false⟩:AObj)]:=fun o=>x_put _ _
        have gB1:=sub_bx (n:=n) (f:=ib) hrn
        have gBc:=sub_bx (n:=n) (f:=ib) hc
        have hnz:sub true 3 (rtC (rR (en s.1 r c/en s.1 c c))) 0=some (.agg (rtC (rR (en s.1 r c/en s.1 c c)))):=rfl
        simp only [rO_eq] at hrow hrowc
        clear hK1 hK2 q1 q2 q3 q4 hK eA eB u1 u2 sr sc hSq hkl hnl
        generalize ((K++[(⟨true,57,3,0,1,rtC (rR (en s.1 r c/en s.1 c c)),false⟩:AObj)]).set (ia r) (rO (lessL (s.1 r) (s.1 c) (en s.1 r c/en s.1 c c))))++[B1]=K2 at *
        generalize (K2.set (ib r) (rO (lessL (s.2 r) (s.2 c) (en s.1 r c/en s.1 c c))))++[B2]=K3 at *
        generalize hK1e:K++[(⟨true,57,3,0,1,rtC (rR (en s.1 r c/en s.1 c c)),false⟩:AObj)]=K1 at *
        generalize rR (en s.1 r c/en s.1 c c)=zq at *
        generalize rR (en s.1 r c)=zr at *
        generalize rR (en s.1 c c)=zc at *
        simp only [rtC3,us32] at g2 g2c h129 h51 call1 call2 xl1 xl2 xpp hnz
        simp only [b43_2,go_sem,FL,hbA,hr',hr0,hc0,hcn,hq,g1,g1c,hrow,hrowc,hcl,hclc,g2,g2c,Int.toNat_natCast,us32]
        refine goR h129 rfl ?_
        simp only [go_sem,FL,hsg,hbA,hr',hr0,hc0,hcn,g1,g1c,hrow,hrowc,hcl,hclc,g2,g2c,Int.toNat_natCast,us32]
        refine goF h51 ?_
        simp only [go_sem,FL,mapIA,xl,xpp,us32,hbA1,hr',hr0,hc0,hcn,g1,g1c,xl1,hnz,Int.toNat_natCast]
        refine goM call1 ?_
        simp only [go_sem,FL,us32,hbB2,hr',hr0,hc0,hcn,gB1,gBc,xl2,hnz,Int.toNat_natCast]
        refine goM call2 ?_
        simp only [go_sem,hr1]
        exact loopQ_go rfl (n - (r+1)) (by omega) ⟨r+1,K3,by omega,rfl,hsm3,hK3,rfl⟩
  · obtain rfl:r=n:=by omega
    simp only [b43_2,go_sem,Int.lt_irrefl]
    exact hgo K hsm (hK.congr (fun i hi=>by unfold elT;simp only [if_pos hi]) (fun i hi=>by unfold elT;simp only [if_pos hi]))
end
end Go.Proofs.YtlejgleocnemoabGreat.I
