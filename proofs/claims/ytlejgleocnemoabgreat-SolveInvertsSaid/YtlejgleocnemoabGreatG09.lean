/- The texts L18f L18g L18h L18i L18j L16e L16f L16g L16j L16k LScl LNrs L18s L18t L18u L18v L18y, one behind the other. Conditions: each text's own. -/
import Derived.Test.YtlejgleocnemoabGreatG08
set_option linter.unusedSimpArgs false
set_option linter.unusedVariables false
namespace Go.Proofs.YtlejgleocnemoabGreat.I
open Go Go.V
attribute [local go_sem_proc ↓] reduceIte
attribute [local go_sem_proc] Nat.reduceEqDiff Nat.reduceAdd Nat.reduceMul Nat.reduceLeDiff Nat.reduceLT Int.reduceToNat Int.reduceLT Int.reduceLE reduceCtorEq Nat.reduceBEq
attribute [local go_sem] mNil nat0 beq_self_eq_true mSkip mRet mExit mReg mSeq mCond mTrue mFalse mBlock mLv mCodeE mCodeR mEndN mEndR mEndE mOps mSome mGuard mGtt mGff mGtf mGft mGu mCallP mCallR mCallF mCallO mCallZ mCallG mCallM mCallV loopQ_exit loopQ_ret mO_mov mO_newnil mO_pick mO_alloc mO_box mO_build mO_bsl mO_bslF mO_newnilB mO_bslB mO_lenB mO_appB mO_allocA mO_bslA mO_appA mO_ldb mO_faddrb mRsv mO_ldf mO_ld mO_st mO_sta mO_nilchk mO_bin mO_binb mO_binp mO_bins mO_neg mO_com mO_not mO_conv mO_mk mO_mk0 mO_mkB mO_s2b mO_b2s mO_cpy mO_cut mO_faddr mO_fld mO_iaddr mO_iaddrf mO_sidx mO_len mO_lenf mO_slen mO_scut mO_app mO_ext mO_mx mO_mn mO_mkfn evalOp cutOp argsE ev getE putE cellsOf adopt rowOf binV boolV nilV ar_add ar_sub ar_mul ar_quo ar_rem ar_eq ar_ne ar_lt ar_le ar_gt ar_ge ar_and ar_or ar_xor geto bound finRet finNrm ints List.length_cons List.length_nil List.length_append List.getElem?_cons_zero List.getElem?_cons_succ List.nil_append List.cons_append List.map_cons List.map_nil List.mapM_cons List.mapM_nil Option.map_some Option.map_none Option.bind_some Option.pure_def Option.bind_eq_bind List.drop_zero or_self or_false false_or or_true true_or true_and and_true and_self decide_true decide_false Bool.false_eq_true Bool.true_eq_false Bool.not_true Bool.not_false Nat.le_refl eq_self gt_iff_lt ge_iff_le ne_eq not_true_eq_false not_false_eq_true storeOp apartOf freeze_nil refsL refs List.flatMap_cons List.flatMap_nil List.append_nil List.contains_nil List.set_cons_zero List.set_cons_succ snap snapL fill_nums flat_nums nums_length Go.V.freeze List.mapIdx_cons List.mapIdx_nil List.contains_cons Bool.or_false Bool.false_or Bool.or_true Bool.true_or
def dvR (s:Gd × Gd) (m i j:Nat):List Rat:=(List.range m).map fun q=>if q<j then en s.2 i q/en s.1 i i else en s.2 i q
theorem dvR_len {s:Gd × Gd} {m i j:Nat}:(dvR s m i j).length=m:=by simp [dvR]
theorem dvR_zero {s:Gd × Gd} {m i:Nat} (h:(s.2 i).length=m):dvR s m i 0=s.2 i:=by
  apply List.ext_getElem?
  intro q
  by_cases hq:q<m
  · simp [dvR,en,List.getD,hq,h]
  · rw [List.getElem?_eq_none (by rw [dvR_len];omega),List.getElem?_eq_none (by omega)]
theorem dvR_get {s:Gd × Gd} {m i j:Nat} (h:j<m):(dvR s m i j).getD j 0=en s.2 i j:=by simp [dvR,List.getD,h]
theorem dvR_set {s:Gd × Gd} {m i j:Nat} (h:j<m):(dvR s m i j).set j (en s.2 i j/en s.1 i i)=dvR s m i (j+1):=by
  apply List.ext_getElem?
  intro q
  by_cases hq:q<m
  · by_cases hqj:q=j
    · subst hqj
      rw [List.getElem?_set_self (by rw [dvR_len];exact hq)]
      simp [dvR,hq]
    · rw [List.getElem?_set_ne (fun e=>hqj e.symm)]
      simp [dvR,hq]
      by_cases h2:q<j
      · rw [if_pos h2,if_pos (by omega)]
      · rw [if_neg h2,if_neg (by omega)]
  · rw [List.getElem?_eq_none (by rw [List.length_set,dvR_len];omega),List.getElem?_eq_none (by rw [dvR_len];omega)]
def dvT (s:Gd × Gd) (m c j:Nat):Gd:=fun r=>if r<c then dvR s m r m else if r=c then dvR s m c j else s.2 r
section
variable {n m ba bb e:Nat} {ia ib:Nat→Nat} {s:Gd × Gd}
theorem enB_Sz (hS:SzG n s e) (hl:Lens n m s) {r j:Nat} (hr:r<n) (hj:j<m):Sz e (en s.2 r j):=by
  have h1:=(hS r hr).2
  have h2:=(hl r hr).2
  have:en s.2 r j∈s.2 r:=by unfold en;generalize s.2 r=l at *;simp [List.getD,h2,hj]
  exact h1 _ this
theorem c43_div {d:Nat} {M:List AObj} {env:Env} {Q:X→St→Prop} {ks:List Go.V.Item} (h:Two M n ba bb ia ib s) (hl:Lens n m s) (hS:SzG n s e) (hn:n≤4096) (hm:m≤4096) (hd:∀c,c<n→en s.1 c c≠0) (he:2*e+2≤32000000) (hlow:∀i,i<n→d≤ib i)
    (e0:getE env 0=.arr ba 0) (e1:getE env 1=.arr bb 0) (e127:getE env 127=.int .i64 n) (e128:getE env 128=.int .i64 0)
    (hgo:∀M',SameB d M M'→Two M' n ba bb ia ib (s.1,fun r=>dvR s m r m)→Mach (Go.V.Call tab E) Q ks .nrm ⟨[(0,.arr ba 0),(1,.arr bb 0),(127,.int .i64 n),(128,.int .i64 n),(129,.bool false)],M'⟩) :
    Mach (Go.V.Call tab E) Q (.code (.loop [0,1,127,128] none b43_3)::.endb 6::ks) .nrm ⟨env,M⟩:=by
  have h00:Two M n ba bb ia ib (s.1,dvT s m 0 0):=h.congr (fun i _=>rfl) (fun i hi=>by
    unfold dvT
    dsimp only
    rw [if_neg (by omega)]
    split
    · rename_i h0;subst h0;exact (dvR_zero (hl 0 hi).2).symm
    · rfl)
  refine mLoop (fun N st=>∃(c:Nat) (K:List AObj),c≤n∧N=n - c∧SameB d M K∧Two K n ba bb ia ib (s.1,dvT s m c 0)∧st=⟨[(0,.arr ba 0),(1,.arr bb 0),(127,.int .i64 n),(128,.int .i64 c)],K⟩) n
    ⟨_,rfl,0,M,by omega,by omega,SameB.refl,h00,by simp only [List.map_cons,List.map_nil,e0,e1,e127,e128];rfl⟩ ?_
  clear h00 h env e0 e1 e127 e128
  rintro N s0 ⟨c,K,hc,rfl,hsm,hK,rfl⟩
  by_cases hcn:c<n
  · have hc':(c:Int)<(n:Int):=by omega
    have hc0:(0:Int)≤(c:Int):=by omega
    have hc1:IntKind.i64.wrap ((c:Int)+1)=((c+1:Nat):Int):=by rw [wrap_i64 (by omega) (by omega)];omega
    have hbB:=hK.bB
    have hrB:=hK.rB c hcn
    have gB:=sub_bx (n:=n) (f:=ib) hcn
    have gA:=sub_bx (n:=n) (f:=ia) hcn
    have hlA:=(hl c hcn).1
    have ecl:∀j,dvT s m c j c=dvR s m c j:=fun j=>by unfold dvT;rw [if_neg (by omega),if_pos rfl]
    dsimp only at hrB
    rw [ecl] at hrB
    simp only [rO_eq,dvR_len] at hrB
    simp only [b43_3,go_sem,hc',hc0,hbB,gB,hrB,Int.toNat_natCast]
    refine mLoop (fun N st=>∃(j:Nat) (K:List AObj),j≤m∧N=m - j∧SameB d M K∧Two K n ba bb ia ib (s.1,dvT s m c j)∧st=⟨[(0,.arr ba 0),(1,.arr bb 0),(10,.int .i64 c),(127,.int .i64 n),(128,.int .i64 c),(135,.int .i64 m),(136,.int .i64 j)],K⟩) m
      ⟨_,rfl,0,K,by omega,by omega,hsm,hK,rfl⟩ ?_
    clear hsm hK hbB hrB K
    rintro N s0 ⟨j,K,hj,rfl,hsm,hK,rfl⟩
    by_cases hjm:j<m
    · have hj':(j:Int)<(m:Int):=by omega
      have hj0:(0:Int)≤(j:Int):=by omega
      have hj1:IntKind.i64.wrap ((j:Int)+1)=((j+1:Nat):Int):=by rw [wrap_i64 (by omega) (by omega)];omega
      have hbA:=hK.bA
      have hbB:=hK.bB
      have hrA:=hK.rA c hcn
      have hrB:=hK.rB c hcn
      dsimp only at hrA hrB
      rw [ecl] at hrB
      have g1:=sub_rR (l:=dvR s m c j) (i:=j) (by rw [dvR_len];exact hjm)
      rw [dvR_get hjm] at g1
      have g2:=sub_rR (l:=s.1 c) (i:=c) (by omega)
      have eE:(s.1 c).getD c 0=en s.1 c c:=rfl
      rw [eE] at g2
      have hcl:(c:Int)<((s.1 c).length:Int):=by omega
      have h51:=c85_ok (E:=I.E) (x:=rR (en s.2 c j)) (y:=rR (en s.1 c c)) RV.self RV.self (enB_Sz hS hl hcn hjm) (en_Sz hS hl hcn hcn) (hd c hcn) (by omega)
      have hfill:=fill_rR (l:=dvR s m c j) (i:=j) (z:=en s.2 c j/en s.1 c c) (by rw [dvR_len];exact hjm)
      rw [dvR_set hjm] at hfill
      have hlen3:j*3+3≤(rtsC ((dvR s m c j).map rR)).length:=by rw [rts_len,dvR_len];omega
      have hst:=hK.setB (l:=dvR s m c (j+1)) hcn
      have hst2:=hst.congr (s':=(s.1,dvT s m c (j+1))) (fun i _=>rfl) (fun i _=>by
        dsimp only
        unfold updL dvT
        by_cases hic:i=c
        · subst hic;rw [if_pos rfl,if_neg (by omega),if_pos rfl]
        · rw [if_neg hic,if_neg hic,if_neg hic])
      rw [rO_eq,dvR_len] at hst2
      simp only [rO_eq,dvR_len] at hrB
      simp only [rO_eq] at hrA
      clear hst hK
      generalize rtsC ((dvR s m c (j+1)).map rR)=rows' at *
      generalize rR (en s.2 c j/en s.1 c c)=zq at *
      generalize rR (en s.2 c j)=zr at *
      generalize rR (en s.1 c c)=zc at *
      simp only [rtC3,us32] at g1 g2 h51 hfill
      simp only [b43_4,go_sem,hbA,hbB,hc',hc0,hj',hj0,gA,gB,hrA,hrB,hcl,g1,g2,Int.toNat_natCast,us32]
      refine goF h51 ?_
      simp only [go_sem,mapIA,us32,hrB,hj',hj0,Int.toNat_natCast,hlen3,hfill,hj1]
      exact loopQ_go rfl (m - (j+1)) (by omega) ⟨j+1,_,by omega,rfl,hsm.set (hlow c hcn),hst2,rfl⟩
    · obtain rfl:j=m:=by omega
      simp only [b43_4,k43_2,go_sem,Int.lt_irrefl,hc1]
      refine loopQ_go rfl (n - (c+1)) (by omega) ⟨c+1,K,by omega,rfl,hsm,hK.congr (fun i _=>rfl) (fun i hi=>?_),rfl⟩
      dsimp only
      unfold dvT
      by_cases h1:i<c
      · rw [if_pos h1,if_pos (by omega)]
      · rw [if_neg h1]
        by_cases h2:i=c
        · subst h2;rw [if_pos rfl,if_pos (by omega)]
        · rw [if_neg h2,if_neg (by omega)]
          split
          · rename_i h3;subst h3;exact (dvR_zero (hl _ hi).2).symm
          · rfl
  · obtain rfl:c=n:=by omega
    simp only [b43_3,go_sem,Int.lt_irrefl]
    exact hgo K hsm (hK.congr (fun i _=>rfl) (fun i hi=>by dsimp only;unfold dvT;rw [if_pos hi]))
theorem c43_ok {d:Nat} {M:List AObj} (h:Two M n ba bb ia ib s) (hl:Lens n m s) (hS:SzG n s e) (hn:n≤4096) (hm:m≤4096) (he:4^(n+1)*(e+1)≤30000000) (hba:d≤ba∧d≤bb) (hlow:∀i,i<n→d≤ia i∧d≤ib i) :
    match redA n n s with
    | none=>∃M',Go.V.Call tab E 43 [.arr ba 0,.arr bb 0] M (.bool false) M'∧SameB d M M'
    | some t=>∃M' ia' ib',Go.V.Call tab E 43 [.arr ba 0,.arr bb 0] M (.bool true) M'∧SameB d M M'∧Two M' n ba bb ia' ib' (t.1,fun r=>dvR t m r m):=by
  obtain ⟨R,hR⟩:∃R,R=redA n n s:=⟨_,rfl⟩
  rw [←hR]
  suffices hh:Mach (Go.V.Call tab E) (fun x st=>∃r M',Go.V.Fin i43 M r M' x st∧SameB d M M'∧((R=none∧r=.bool false)∨∃t ia' ib',R=some t∧r=.bool true∧Two M' n ba bb ia' ib' (t.1,fun r=>dvR t m r m))) [.code c43] .nrm ⟨argsE 0 [.arr ba 0,.arr bb 0],M⟩ by
    obtain ⟨x,st,h1,h4⟩:=wp_exec hh
    rw [mNil] at h4
    obtain ⟨r,M',h2,hsm,h3⟩:=h4
    have hcall:Go.V.Call tab E 43 [.arr ba 0,.arr bb 0] M r M':=Go.V.Call.go i43 c43 rfl rfl rfl rfl (exec_wp h1 h2)
    rcases h3 with ⟨rfl,rfl⟩|⟨t,ia',ib',rfl,rfl,h5⟩
    · exact ⟨M',hcall,hsm⟩
    · exact ⟨M',ia',ib',hcall,hsm,h5⟩
  have hbA0:=h.bA
  simp only [c43,go_sem,hbA0]
  have hpos:∀k,1≤4^k:=fun k=>Nat.pow_pos (by omega)
  have hE:∀c,c≤n→4*(4^c*(e+1))≤30000000:=fun c hc=>by
    have h1:4^(c+1)≤4^(n+1):=Nat.pow_le_pow_right (by omega) (by omega)
    have h2:=Nat.mul_le_mul_right (e+1) h1
    rw [Nat.pow_succ,Nat.mul_comm (4^c) 4,Nat.mul_assoc] at h2
    omega
  refine mLoop (fun N st=>∃(c:Nat) (K:List AObj) (ja jb:Nat→Nat) (u:Gd × Gd),c≤n∧N=n - c∧SameB d M K∧(∀i,i<n→d≤ja i∧d≤jb i)∧redA n (n - c) u=R∧Two K n ba bb ja jb u∧Lens n m u∧SzG n u (4^c*(e+1) - 1)∧Cl n c (cmb n u)∧
    st=⟨[(0,.arr ba 0),(1,.arr bb 0),(13,.int .i64 n),(14,.int .i64 c)],K⟩) n ⟨_,rfl,0,M,ia,ib,s,by omega,by omega,SameB.refl,hlow,by rw [hR,Nat.sub_zero],h,hl,by simpa using hS,Cl.zero,by simp [getE]⟩ ?_
  clear hbA0 h hS hl hR hlow
  rintro N s0 ⟨c,K,ja,jb,u,hc,rfl,hsm,hlow,hR,hK,hl,hS,hcl,rfl⟩
  by_cases hcn:c<n
  · have hc':(c:Int)<(n:Int):=by omega
    have hc0:(0:Int)≤(c:Int):=by omega
    have hc1:IntKind.i64.wrap ((c:Int)+1)=((c+1:Nat):Int):=by rw [wrap_i64 (by omega) (by omega)];omega
    obtain ⟨p1,p2,p3,p4⟩:=pvt_spec (a:=u.1) (c:=c) (k:=n - c) (p:=c)
    have hred:redA n (n - c) u=if pvt u.1 c (n - c) c=n then none else redA n (n - (c+1)) (elA (swA u.1 c (pvt u.1 c (n - c) c)) (swA u.1 c (pvt u.1 c (n - c) c)) c,elA (swA u.1 c (pvt u.1 c (n - c) c)) (swA u.2 c (pvt u.1 c (n - c) c)) c):=by
      rw [show n - c=(n - (c+1))+1 by omega,redA,show n - (n - (c+1)+1)=c by omega]
    rw [hR] at hred
    simp only [b43_0,go_sem,hc']
    refine c43_piv hK hl hcn hn (by omega) rfl rfl rfl rfl rfl rfl ?_
    generalize hp:pvt u.1 c (n - c) c=p at *
    have hbA:=hK.bA
    have hbB:=hK.bB
    by_cases hpn:p=n
    · subst hpn
      rw [if_pos rfl] at hred
      have hq:((p:Int)==(p:Int))=true:=by simp
      simp only [k43_0,go_sem,hbA,hq]
      exact ⟨.bool false,K,⟨rfl,rfl⟩,hsm,.inl ⟨hred,rfl⟩⟩
    · have hpl:p<n:=by omega
      rw [if_neg hpn] at hred
      have hq:((p:Int)==(n:Int))=false:=by rw [beq_eq_false_iff_ne];omega
      have hp':(p:Int)<(n:Int):=by omega
      have hp0:(0:Int)≤(p:Int):=by omega
      have gAp:=sub_bx (n:=n) (f:=ja) hpl
      have gAc:=sub_bx (n:=n) (f:=ja) hcn
      have gBp:=sub_bx (n:=n) (f:=jb) hpl
      have gBc:=sub_bx (n:=n) (f:=jb) hcn
      have hla:=lt_of hbA
      have hlb:=lt_of hbB
      have k1:∀o:AObj,(K.set ba o)[ba]?=some o:=fun o=>by rw [List.getElem?_set_self hla]
      have k2:∀o:AObj,(K.set ba o)[bb]?=some ⟨true,29,1,0,n,bxC n jb,false⟩:=fun o=>by rw [List.getElem?_set_ne hK.bn];exact hbB
      have k3:∀o o':AObj,((K.set ba o).set bb o')[bb]?=some o':=fun o o'=>by rw [List.getElem?_set_self (by rw [List.length_set];exact hlb)]
      have hK2:=hK.swap hcn hpl
      have hl2:=hl.swap hcn hpl
      have hS2:=hS.swap hcn hpl
      have f1:=fill_one (cs:=bxC n ja) (i:=c) (v:=.arr (ja p) 0) (by rw [bxC_len];exact hcn)
      have f2:=fill_one (cs:=(bxC n ja).set c (.arr (ja p) 0)) (i:=p) (v:=.arr (ja c) 0) (by rw [List.length_set,bxC_len];exact hpl)
      have f3:=fill_one (cs:=bxC n jb) (i:=c) (v:=.arr (jb p) 0) (by rw [bxC_len];exact hcn)
      have f4:=fill_one (cs:=(bxC n jb).set c (.arr (jb p) 0)) (i:=p) (v:=.arr (jb c) 0) (by rw [List.length_set,bxC_len];exact hpl)
      rw [bxC_swap hcn hpl] at f2 f4
      have ll1:c*1+1≤(bxC n ja).length:=by rw [bxC_len];omega
      have ll2:p*1+1≤((bxC n ja).set c (.arr (ja p) 0)).length:=by rw [List.length_set,bxC_len];omega
      have ll3:c*1+1≤(bxC n jb).length:=by rw [bxC_len];omega
      have ll4:p*1+1≤((bxC n jb).set c (.arr (jb p) 0)).length:=by rw [List.length_set,bxC_len];omega
      have hpv:en (swA u.1 c p) c c≠0:=by
        have:swA u.1 c p c=u.1 p:=by unfold swA;rw [if_pos rfl]
        unfold en
        rw [this]
        exact p4 (by omega)
      have hEc:=hE c (by omega)
      have hEp:=Nat.mul_le_mul_right (e+1) (hpos c)
      have hS3:=(hS2.elim hl2 hcn hpv).mono (e':=4^(c+1)*(e+1) - 1) (by rw [Nat.pow_succ,Nat.mul_comm (4^c) 4,Nat.mul_assoc];omega)
      have hl3:=hl2.elim (a:=swA u.1 c p) (c:=c)
      have hcl2:Cl n c (cmb n (swA u.1 c p,swA u.2 c p)):=by rw [cmb_swap];exact hcl.swap p1 hpl
      obtain ⟨e1,e2⟩:=cmb_elim hl2 hcn
      have hcc:∀r,cmb n (swA u.1 c p,swA u.2 c p) r c=en (swA u.1 c p) r c:=fun r=>by unfold cmb;rw [if_pos hcn]
      have hcl3:=hcl2.elim (w:=n+m) hcn (by omega) (show (1:Rat)≠0 by decide) (by rw [hcc];exact hpv) e1 e2 (fun r _ _=>by rw [hcc,hcc];grind)
      simp only [k43_0,go_sem,hbA,hbB,hq,hp',hp0,hc',hc0,gAp,gAc,gBp,gBc,k1,k2,k3,Int.toNat_natCast,f1,f2,f3,f4,ll1,ll2,ll3,ll4,List.set_set]
      have hbA2:=hK2.bA
      simp only [go_sem,hbA2]
      have hlow2:∀i,i<n→d≤swI ja c p i∧d≤swI jb c p i:=fun i hi=>by
        obtain ⟨k,hk,e⟩:=swI_in (f:=ja) hcn hpl hi
        obtain ⟨k',hk',e'⟩:=swI_in (f:=jb) hcn hpl hi
        rw [e,e']
        exact ⟨(hlow k hk).1,(hlow k' hk').2⟩
      have hsm2:SameB d M ((K.set ba ⟨true,29,1,0,n,bxC n (swI ja c p),false⟩).set bb ⟨true,29,1,0,n,bxC n (swI jb c p),false⟩):=(hsm.set hba.1).set hba.2
      refine c43_elim (d:=d) hK2 hl2 hS2 hcn hn hm hpv (by omega) hlow2 rfl rfl rfl rfl rfl rfl rfl ?_
      intro M' hsm3 hM'
      simp only [k43_1,go_sem,hc1]
      exact loopQ_go rfl (n - (c+1)) (by omega) ⟨c+1,M',_,_,_,by omega,rfl,fun k hk=>(hsm3 k hk).trans (hsm2 k hk),hlow2,hred.symm,hM',hl3,hS3,hcl3,rfl⟩
  · obtain rfl:c=n:=by omega
    rw [Nat.sub_self,redA] at hR
    have hbA:=hK.bA
    have hd:∀i,i<c→en u.1 i i≠0:=fun i hi=>by
      have:=(hcl i hi).1
      unfold cmb at this
      rw [if_pos hi] at this
      exact this
    have hEc:=hE c (Nat.le_refl _)
    simp only [b43_0,k43_4,go_sem,Int.lt_irrefl,hbA]
    refine c43_div (d:=d) hK hl hS hn hm hd (by omega) (fun i hi=>(hlow i hi).2) rfl rfl rfl rfl ?_
    intro M' hsm3 hM'
    simp only [k43_3,go_sem]
    exact ⟨.bool true,M',⟨rfl,rfl⟩,fun k hk=>(hsm3 k hk).trans (hsm k hk),.inr ⟨u,ja,jb,hR.symm,rfl,hM'⟩⟩
end
def shortB (l:List Rat) (lim:Int):Bool:=l.all fun a=>decide ((rlimbs (rR a):Int)≤lim)
theorem flat_take {G:List (List Rat)} {i:Nat} (h:i<G.length):(G.take (i+1)).flatten=(G.take i).flatten++G.getD i []:=by
  rw [takeAt (d:=[]) h,List.flatten_append];simp
theorem all_take {l:List Rat} {lim:Int}:shortB l lim=true↔∀a∈l,(rlimbs (rR a):Int)≤lim:=by simp [shortB,List.all_eq_true]
theorem rts_snoc {l:List Rat} {a:Rat}:rtsC (l.map rR)++rtC (rR a)=rtsC ((l++[a]).map rR):=by rw [List.map_append];simp [rtsC]
set_option maxHeartbeats 1000000 in
theorem c44_ok {G:List (List Rat)} {s:List Int} {lim:Int} (hs:∀d∈s,In64 d) (hsl:s.length≤8) (hfit:fits s G.flatten.length=true) (hGl:G.length≤4096) (hrl:∀r∈G,r.length≤4096) (hfl:G.flatten.length≤100000) :
    Go.V.Call tab E 44 [gridG G,ints s,.int .i64 lim] [] (.tup [.agg (if shortB G.flatten lim then arrX s false [] (G.flatten.map rR) else noA),.int .i64 (if shortB G.flatten lim then 0 else 26)]) []:=by
  refine Go.V.Call.mach i44 c44 rfl rfl rfl rfl ?_
  have h52:=c88_X (s:=s) (l:=G.flatten.map rR) hs (by omega) (by rw [List.length_map];omega)
  rw [List.length_map,hfit,if_pos rfl] at h52
  have hpre:∀i,i<G.length→∀j,j<(G.getD i []).length→((G.take i).flatten++(G.getD i []).take j).length<G.flatten.length∧(G.getD i []).getD j 0∈G.flatten:=fun i hi j hj=>by
    have e:G.flatten=(G.take i).flatten++(G.getD i []++(G.drop (i+1)).flatten):=by
      have h1:G=G.take i++G.getD i []::G.drop (i+1):=by
        conv=>lhs;rw [←List.take_append_drop i G]
        congr 1
        rw [List.drop_eq_getElem_cons hi]
        simp [List.getD,hi]
      conv=>lhs;rw [h1]
      simp
    have hm:(G.getD i []).getD j 0∈G.getD i []:=by generalize G.getD i []=r at *;simp [List.getD,hj]
    refine ⟨?_,?_⟩
    · rw [e];simp only [List.length_append,List.length_take];omega
    · rw [e]
      exact List.mem_append_right _ (List.mem_append_left _ hm)
  simp only [c44,gridG,ints,go_sem,mapIA]
  refine mLoop (fun N st=>∃i:Nat,i≤G.length∧N=G.length - i∧(∀a∈(G.take i).flatten,(rlimbs (rR a):Int)≤lim)∧
    st=⟨[(1,ints s),(2,.int .i64 lim),(6,.loc 3 0 0),(8,.arr 4 (G.take i).flatten.length),(15,gridG G),(16,.int .i64 G.length),(17,.int .i64 i)],
      [⟨false,3,1,0,0,[],false⟩,⟨false,21,1,0,0,[],false⟩,⟨false,57,3,0,0,[],false⟩,⟨true,31,5,0,1,[.arr 0 0,.bool false,.arr 1 0,.arr 2 0,.bool false],false⟩,⟨false,57,3,(G.take i).flatten.length,(G.take i).flatten.length,rtsC ((G.take i).flatten.map rR),false⟩]⟩) G.length
    ⟨_,rfl,0,by omega,by omega,fun a ha=>by simp at ha,by simp [getE,ints,gridG,rtsC]⟩ ?_
  rintro N s0 ⟨i,hi,rfl,hok,rfl⟩
  by_cases hiG:i<G.length
  · have hi':(i:Int)<(G.length:Int):=by omega
    have hi0:(0:Int)≤(i:Int):=by omega
    have hi1:IntKind.i64.wrap ((i:Int)+1)=((i+1:Nat):Int):=by rw [wrap_i64 (by omega) (by omega)];omega
    have g1:=sub_grid hiG
    have hpi:=hpre i hiG
    have hrl1:=hrl (G.getD i []) (by simp [List.getD,hiG])
    have hft:=flat_take hiG
    simp only [b44_0,gridG,ints,go_sem,mapIA,hi',hi0,g1,Int.toNat_natCast]
    generalize hP:(G.take i).flatten=P at *
    generalize hr:G.getD i []=r at *
    refine mLoop (fun N st=>∃j:Nat,j≤r.length∧N=r.length - j∧(∀a∈P++r.take j,(rlimbs (rR a):Int)≤lim)∧
      st=⟨[(1,ints s),(2,.int .i64 lim),(6,.loc 3 0 0),(8,.arr 4 (P++r.take j).length),(15,gridG G),(16,.int .i64 G.length),(17,.int .i64 i),(21,.sl r.length 3 (rtsC (r.map rR))),(22,.int .i64 r.length),(23,.int .i64 j)],
        [⟨false,3,1,0,0,[],false⟩,⟨false,21,1,0,0,[],false⟩,⟨false,57,3,0,0,[],false⟩,⟨true,31,5,0,1,[.arr 0 0,.bool false,.arr 1 0,.arr 2 0,.bool false],false⟩,⟨false,57,3,(P++r.take j).length,(P++r.take j).length,rtsC ((P++r.take j).map rR),false⟩]⟩) r.length
      ⟨_,rfl,0,by omega,by omega,by simpa using hok,by simp [getE,ints,gridG]⟩ ?_
    rintro N s0 ⟨j,hj,rfl,hok2,rfl⟩
    by_cases hjr:j<r.length
    · have hj':(j:Int)<(r.length:Int):=by omega
      have hj0:(0:Int)≤(j:Int):=by omega
      have hj1:IntKind.i64.wrap ((j:Int)+1)=((j+1:Nat):Int):=by rw [wrap_i64 (by omega) (by omega)];omega
      have g2:=sub_rR hjr
      obtain ⟨hp1,hp2⟩:=hpi j hjr
      have htk:P++r.take (j+1)=(P++r.take j)++[r.getD j 0]:=by rw [takeAt (d:=0) hjr,List.append_assoc]
      have happ:=rts_snoc (l:=P++r.take j) (a:=r.getD j 0)
      rw [←htk] at happ
      have hlen:(P++r.take (j+1)).length=(P++r.take j).length+1:=by rw [htk,List.length_append];rfl
      have h48:=c87_ok (E:=I.E) (x:=rR (r.getD j 0))
      have hnz:sub true 3 (rtC (rR (r.getD j 0))) 0=some (.agg (rtC (rR (r.getD j 0)))):=rfl
      have hnew:(rlimbs (rR (r.getD j 0)):Int)≤lim→∀a∈P++r.take (j+1),(rlimbs (rR a):Int)≤lim:=fun hlm a ha=>by
        rw [htk] at ha
        rcases List.mem_append.1 ha with ha|ha
        · exact hok2 a ha
        · obtain rfl:=List.mem_singleton.1 ha;exact hlm
      have y1:((P++r.take j).length+1)*56≤140737488355328:=by omega
      have y2:(P++r.take j).length+1≤140737488355328:=by omega
      clear htk
      generalize P++r.take j=W at *
      generalize hz:rR (r.getD j 0)=z at *
      by_cases hlm:(rlimbs z:Int)≤lim
      · have hl':¬lim<((rlimbs z:Nat):Int):=by omega
        simp only [rtC3,us32] at g2 happ h48 hnz
        simp only [b44_1,gridG,ints,go_sem,FL,mapIA,hj',hj0,g2,hnz,Int.toNat_natCast,us32]
        refine goR h48 rfl ?_
        simp only [go_sem,FL,mapIA,hl',hnz,us32,List.flatten_cons,List.flatten_nil,Option.getD_some,y1,y2,happ,hj1]
        refine loopQ_go rfl (r.length - (j+1)) (by omega) ⟨j+1,by omega,rfl,hnew hlm,?_⟩
        rw [←hlen,List.length_append]
        rfl
      · have hl':lim<((rlimbs z:Nat):Int):=by omega
        have hsh:shortB G.flatten lim=false:=by
          rw [←Bool.not_eq_true,all_take]
          intro h
          have:=h _ hp2
          rw [hz] at this
          exact hlm this
        simp only [rtC3,us32] at g2 happ h48 hnz
        simp only [b44_1,gridG,ints,go_sem,FL,mapIA,hj',hj0,g2,hnz,Int.toNat_natCast,us32]
        refine goR h48 rfl ?_
        simp only [go_sem,FL,mapIA,hl',hnz,us32,hsh]
        simp only [i44,OT,reduceIte,Nat.reduceEqDiff,subA5,noA]
    · obtain rfl:j=r.length:=by omega
      simp only [b44_1,k44_0,gridG,ints,go_sem,Int.lt_irrefl,hi1]
      refine loopQ_go rfl (G.length - (i+1)) (by omega) ⟨i+1,by omega,rfl,?_,?_⟩
      · rw [hft];simpa using hok2
      · rw [hft,List.take_length];simp [getE,ints,gridG]
  · obtain rfl:i=G.length:=by omega
    rw [List.take_length] at hok
    have hsh:shortB G.flatten lim=true:=all_take.2 hok
    simp only [arrX,runes,ints] at h52
    rw [hsh,if_pos rfl,if_pos rfl]
    simp only [b44_0,k44_1,gridG,ints,List.take_length,go_sem,FL,Int.lt_irrefl]
    refine goF h52 ?_
    simp only [go_sem,FL,subA5]
    simp only [i44,OT,reduceIte,Nat.reduceEqDiff,subA5,arrX,runes]
    rfl
theorem goF_at {C:CallRel} {Q:X→St→Prop} {k:List Go.V.Item} {d:Option Nat} {os:List IOp} {f:Nat} {xs:List Opd} {env:Env} {M:List AObj} {vs:List AV} {r:AV} (ha:xs.mapM (fun x=>snap M 10 (ev env x))=some vs) (h:C f vs [] r [])
    (hk:Mach C Q (.ops os::k) .nrm ⟨putE env d r,Go.V.freeze (xs.flatMap fun x=>refs M 10 (ev env x)) M⟩):Mach C Q (.ops (⟨d,.callF f xs,none⟩::os)::k) .nrm ⟨env,M⟩:=by
  rw [mCallF]
  show MachA C Q .F f (xs.mapM fun x=>snap M 10 (ev env x)) _ d os k _
  rw [ha]
  exact goF h hk
section
variable {n:Nat} {L:Nat→List Rat}
theorem gridM_len:(gridM n L).length=n+1:=by simp [gridM]
theorem shift_rO {d:Nat} {l:List Rat}:shiftO d (rO l)=rO l:=by simp [shiftO,rO]
theorem gridM_row {d i:Nat} (h:i<n):((gridM n L).map (shiftO d))[i]?=some (rO (L i)):=by
  rw [List.getElem?_map,gridM,List.getElem?_append_left (by simp;exact h)]
  simp [h,shift_rO]
theorem gridM_box {d:Nat}:((gridM n L).map (shiftO d))[n]?=some ⟨true,29,1,0,n,bxC n fun i=>i+d,false⟩:=by
  rw [List.getElem?_map,gridM,List.getElem?_append_right (by simp)]
  simp only [List.length_map,List.length_range,Nat.sub_self,List.getElem?_cons_zero,Option.map_some,shiftO,if_true,List.map_map,bxC]
  rfl
theorem gridM_made:((gridM n L).all made)=true:=by
  rw [List.all_eq_true]
  intro o ho
  rcases List.mem_append.1 ho with h|h
  · obtain ⟨i,_,rfl⟩:=List.mem_map.1 h
    rfl
  · obtain rfl:=List.mem_singleton.1 h
    simp only [made,Bool.not_true,Bool.false_or,List.all_eq_true]
    intro c hc
    obtain ⟨i,_,rfl⟩:=List.mem_map.1 hc
    rfl
theorem two_of {Bs:List AObj} {LX LN:Nat→List Rat} {d:Nat} (hd:Bs.length=d) :
    Two (Bs++((gridM n LX).map (shiftO d)++(gridM n LN).map (shiftO (n+1+d)))) n (n+(n+1+d)) (n+d) (fun i=>i+(n+1+d)) (fun i=>i+d) (LN,LX):=by
  have h1:∀i,i≤n→(Bs++((gridM n LX).map (shiftO d)++(gridM n LN).map (shiftO (n+1+d))))[i+d]?=((gridM n LX).map (shiftO d))[i]?:=fun i hi=>by
    rw [List.getElem?_append_right (by omega),List.getElem?_append_left (by rw [List.length_map,gridM_len];omega)]
    congr 1;omega
  have h2:∀i,(Bs++((gridM n LX).map (shiftO d)++(gridM n LN).map (shiftO (n+1+d))))[i+(n+1+d)]?=((gridM n LN).map (shiftO (n+1+d)))[i]?:=fun i=>by
    rw [List.getElem?_append_right (by omega),List.getElem?_append_right (by rw [List.length_map,gridM_len];omega)]
    congr 1;rw [List.length_map,gridM_len];omega
  exact ⟨by rw [h2,gridM_box],by rw [h1 n (Nat.le_refl _),gridM_box],fun i hi=>by rw [h2,gridM_row hi],fun i hi=>by rw [h1 i (by omega),gridM_row hi],fun i j _ _ h=>by omega,fun i j _ _ h=>by omega,fun i j hi hj=>by omega,by omega⟩
theorem snap_two {M:List AObj} {ba bb:Nat} {ia ib:Nat→Nat} {s:Gd × Gd} (h:Two M n ba bb ia ib s):snap M 10 (.arr bb 0)=some (gridG ((List.range n).map s.2)):=by
  have e:∀i,i<n→snap M 8 (.arr (ib i) 0)=some (.sl (s.2 i).length 3 (rtsC ((s.2 i).map rR))):=fun i hi=>by
    rw [snap_arr (k:=7) (g:=0) (h.rB i hi) rfl]
    rfl
  rw [snap_arr (k:=9) h.bB rfl]
  have e2:snapL M 9 true (bxC n ib)=(bxC n ib).mapM (snap M 8):=rfl
  have e3:∀l:List Nat,(∀i∈l,i<n)→(l.map fun i=>AV.arr (ib i) 0).mapM (snap M 8)=some (l.map fun i=>AV.sl (s.2 i).length 3 (rtsC ((s.2 i).map rR))):=fun l=>by
    induction l with
    | nil=>intro _;rfl
    | cons a l ih=>
      intro hl
      rw [List.map_cons,List.mapM_cons,e a (hl a (by simp)),ih (fun i hi=>hl i (by simp [hi]))]
      rfl
  rw [e2,bxC,e3 _ (fun i hi=>List.mem_range.1 hi)]
  simp only [Option.map_some,gridG,List.length_map,List.length_range,List.map_map]
  rfl
end
def ansL (t:Gd × Gd) (n m:Nat):List Rat:=((List.range n).map fun r=>dvR t m r m).flatten
theorem ansL_len {t:Gd × Gd} {n m:Nat}:(ansL t n m).length=n*m:=by
  unfold ansL
  induction n with
  | zero=>simp
  | succ n ih=>rw [List.range_succ,List.map_append,List.flatten_append,List.length_append,ih];simp [dvR_len,Nat.add_mul]
theorem grid_row {A:List Rat} {R C:Nat}:∀r∈gridA A R C,r.length=C:=fun r hr=>by
  obtain ⟨i,_,rfl⟩:=List.mem_map.1 hr
  exact rowA_len
theorem grid_Sz {A:List Rat} {R C e:Nat} (he:1≤e) (h:∀a∈A,Sz e a):∀r∈gridA A R C,∀a∈r,Sz e a:=fun r hr a ha=>by
  obtain ⟨i,_,rfl⟩:=List.mem_map.1 hr
  obtain ⟨k,_,rfl⟩:=List.mem_map.1 ha
  by_cases hk:i*C+k<A.length
  · simp only [List.getD,List.getElem?_eq_getElem hk,Option.getD_some];exact h _ (List.getElem_mem hk)
  · simp only [List.getD,List.getElem?_eq_none (show A.length≤i*C+k by omega),Option.getD_none];exact Sz.zero' he
theorem nrm_Sz {G H:List (List Rat)} {i e m:Nat} (hG:∀r∈G,i<r.length) (hH:∀r∈H,m≤r.length) (hGH:H.length=G.length) (hGs:∀r∈G,∀a∈r,Sz e a) (hHs:∀r∈H,∀a∈r,Sz e a):∀a∈nrmR G H i m,Sz ((2*e+1)*G.length+1) a:=fun a ha=>by
  obtain ⟨j,hj,rfl⟩:=List.mem_map.1 ha
  have hj:=List.mem_range.1 hj
  refine Sz.sum (e:=2*e) fun k hk=>?_
  have sG:(G.getD k [])∈G:=by simp [List.getD,hk]
  have sH:(H.getD k [])∈H:=by simp [List.getD,hGH,hk]
  have m1:mxG G k i∈G.getD k []:=by have:=hG _ sG;unfold mxG;generalize G.getD k []=r at *;simp [List.getD,this]
  have m2:mxG H k j∈H.getD k []:=by have:=hH _ sH;unfold mxG;generalize H.getD k []=r at *;simp [List.getD,show j<r.length by omega]
  exact ((hGs _ sG _ m1).mul (hHs _ sH _ m2)).mono (by omega)
theorem nums_nilA {k:IntKind}:nums k []=[]:=rfl
theorem frz_get {M:List AObj} {ns:List Nat} {i:Nat} {o:AObj} (h:M[i]?=some o) (hn:ns.contains i=false):(Go.V.freeze ns M)[i]?=some o:=by
  unfold Go.V.freeze
  rw [List.getElem?_mapIdx,h]
  simp only [Option.map_some,hn]
  rfl
def divS (A B:List Rat) (R C C':Nat):Gd × Gd:=(fun r=>nrmR (gridA A R C) (gridA A R C) r C,fun r=>nrmR (gridA A R C) (gridA B R C') r C')
theorem divS_len {A B:List Rat} {R C C':Nat}:Lens C C' (divS A B R C C'):=fun r _=>⟨nrmR_len,nrmR_len⟩
def divSh (s s':List Int) (C C':Nat):List Int:=(if 1<s.length then [(C:Int)] else [])++if 1<s'.length then [(C':Int)] else []
theorem divSh_count {s s':List Int} {C C':Nat} (hC:C≤8) (hC':C'≤32) (h:s.length≤1→C=1) (h':s'.length≤1→C'=1):count (divSh s s' C C')=some ((C*C':Nat):Int):=by
  have hb:C*C'≤256:=Nat.le_trans (Nat.mul_le_mul hC hC') (by omega)
  have mp:mprd (divSh s s' C C')≤4096∧prd (divSh s s' C C')=((C*C':Nat):Int):=by
    have m1:∀k:Nat,k≤32→max 1 (k:Int)≤32∧1≤max 1 (k:Int):=fun k hk=>by rw [max1];split<;>omega
    obtain ⟨a1,a2⟩:=m1 C (by omega)
    obtain ⟨b1,b2⟩:=m1 C' hC'
    have hab:max 1 (C:Int)*max 1 (C':Int)≤32*32:=by
      have h1:=Int.mul_le_mul a1 b1 (by omega) (by omega)
      exact h1
    unfold divSh
    by_cases h1:1<s.length
    · by_cases h2:1<s'.length
      · rw [if_pos h1,if_pos h2]
        simp only [List.cons_append,List.nil_append,mprd,prd,Int.mul_one]
        exact ⟨by omega,by rw [Int.natCast_mul]⟩
      · rw [if_pos h1,if_neg h2]
        simp only [List.append_nil,mprd,prd,Int.mul_one]
        rw [h' (by omega)]
        exact ⟨by omega,by simp⟩
    · by_cases h2:1<s'.length
      · rw [if_neg h1,if_pos h2]
        simp only [List.nil_append,mprd,prd,Int.mul_one]
        rw [h (by omega)]
        exact ⟨by omega,by simp⟩
      · rw [if_neg h1,if_neg h2]
        simp only [List.nil_append,mprd,prd]
        rw [h (by omega),h' (by omega)]
        exact ⟨by omega,by simp⟩
  have hm:∀d∈divSh s s' C C',0≤d:=fun d hd=>by
    unfold divSh at hd
    rcases List.mem_append.1 hd with hd|hd
    · split at hd
      · obtain rfl:=List.mem_singleton.1 hd;omega
      · cases hd
    · split at hd
      · obtain rfl:=List.mem_singleton.1 hd;omega
      · cases hd
  rw [count_iff.1 ⟨by unfold divSh;split<;>split<;>simp,hm,mp.1⟩,mp.2]
theorem getA {M:List AObj} {k:Nat} {o:AObj} (h:M[k]?=some o) (Y:List AObj):(M++Y)[k]?=some o:=by rw [List.getElem?_append_left (lt_of h)];exact h
theorem getL {M Y:List AObj} {o:AObj}:(M++o::Y)[M.length]?=some o:=by simp
theorem getLk {M Y:List AObj} {k:Nat}:(M++Y)[M.length+k]?=Y[k]?:=by rw [List.getElem?_append_right (by omega)];congr 1;omega
theorem snap3 {M:List AObj} {env:Env} {x y z:Opd} {a b c:AV} (h1:snap M 10 (ev env x)=some a) (h2:snap M 10 (ev env y)=some b) (h3:snap M 10 (ev env z)=some c):[x,y,z].mapM (fun x=>snap M 10 (ev env x))=some [a,b,c]:=by
  simp only [List.mapM_cons,List.mapM_nil,h1,h2,h3]
  rfl
theorem refs_two {M:List AObj} {n ba bb:Nat} {ia ib:Nat→Nat} {s:Gd × Gd} (h:Two M n ba bb ia ib s) {o:AObj} {i:Nat} (hi:M[i]?=some o) (ho:o.box=true) (hb:bb≠i):i∉refs M 10 (.arr bb 0):=by
  have e:refs M 10 (.arr bb 0)=bb::(bxC n ib).flatMap (refs M 8):=by
    show bb::(match geto M bb 0 with|some o=>refsL M 9 o.box o.cs|none=>[])=_
    rw [geto,h.bB]
    rfl
  rw [e]
  intro hm
  rcases List.mem_cons.1 hm with rfl|hm
  · exact hb rfl
  obtain ⟨c,hc,hm⟩:=List.mem_flatMap.1 hm
  obtain ⟨r,hr,rfl⟩:=List.mem_map.1 hc
  have hr:=List.mem_range.1 hr
  have e2:refs M 8 (.arr (ib r) 0)=[ib r]:=by
    show ib r::(match geto M (ib r) 0 with|some o=>refsL M 7 o.box o.cs|none=>[])=_
    rw [geto,h.rB r hr]
    rfl
  rw [e2] at hm
  obtain rfl:=List.mem_singleton.1 hm
  rw [h.rB r hr] at hi
  obtain rfl:=Option.some.inj hi
  cases ho
theorem refs_row {M:List AObj} {i g j:Nat} {o:AObj} (h:M[i]?=some o) (ho:o.box=false) (hj:i≠j):j∉refs M 10 (.arr i g):=by
  show j∉i::(match geto M i g with|some o=>refsL M 9 o.box o.cs|none=>[])
  rw [geto,h]
  intro hm
  rcases List.mem_cons.1 hm with rfl|hm
  · exact hj rfl
  split at hm
  · rename_i o' ho'
    simp only at ho'
    split at ho'
    · obtain rfl:=Option.some.inj ho'
      rw [ho] at hm
      cases hm
    · cases ho'
  · cases hm
theorem notin3 {M:List AObj} {env:Env} {x y z:Opd} {i:Nat} (h1:i∉refs M 10 (ev env x)) (h2:i∉refs M 10 (ev env y)) (h3:i∉refs M 10 (ev env z)):([x,y,z].flatMap fun x=>refs M 10 (ev env x)).contains i=false:=by
  simp only [List.flatMap_cons,List.flatMap_nil,List.append_nil]
  rw [Bool.eq_false_iff]
  intro h
  have h:=List.contains_iff_mem.1 h
  rcases List.mem_append.1 h with h|h
  · exact h1 h
  rcases List.mem_append.1 h with h|h
  · exact h2 h
  · exact h3 h
theorem out_arr {fn:IFn} {p q i:Nat} {env:Env} {M:List AObj} {ob:AObj} {a c d:Nat} {x y z:List AV} {b f:Bool} {e:Int} (hres:fn.res=[.c p true 5,.t q]) (hmd:fn.md=.pure) (hp:getE env p=.loc i 0 0) (hq:getE env q=.int .i64 e) (hM:M[i]?=some ob) (hg:ob.g=0) (hcs:ob.cs=[.sl a 1 x,.bool b,.sl c 1 y,.sl d 3 z,.bool f]) :
    Out fn [] (.tup [.agg [.sl a 1 x,.bool b,.sl c 1 y,.sl d 3 z,.bool f],.int .i64 e]) [] ⟨env,M⟩:=by
  unfold Out
  have h1:resOf ⟨env,M⟩ (.c p true 5)=some (.agg [.sl a 1 x,.bool b,.sl c 1 y,.sl d 3 z,.bool f]):=by
    show (match getE env p with|.loc m g i=>(geto M m g).bind fun o=>sub true 5 o.cs i|_=>none)=_
    rw [hp]
    show (geto M i 0).bind _=_
    rw [geto,hM]
    simp only [hg,if_true,Option.bind_some,hcs]
    rfl
  have h2:resOf ⟨env,M⟩ (.t q)=some (.int .i64 e):=by
    show some (getE env q)=_
    rw [hq]
  have h3:resAll ⟨env,M⟩ fn.res=some (.tup [.agg [.sl a 1 x,.bool b,.sl c 1 y,.sl d 3 z,.bool f],.int .i64 e]):=by
    rw [hres]
    show ([Res.c p true 5,.t q].mapM (resOf ⟨env,M⟩)).map AV.tup=_
    simp only [List.mapM_cons,List.mapM_nil,h1,h2]
    rfl
  rw [h3,hmd]
  exact ⟨rfl,rfl,rfl⟩
theorem getS {M:List AObj} {i:Nat} {o o':AObj} (h:M[i]?=some o):(M.set i o')[i]?=some o':=by rw [List.getElem?_set_self (lt_of h)]
theorem goM_ex {C:CallRel} {Q:X→St→Prop} {P:List AObj→Prop} {f:Nat} {vs:List AV} {ns:List Nat} {d:Option Nat} {os:List IOp} {k:List Go.V.Item} {s:St} {r:AV} (h:∃m,C f vs s.mem r m∧P m) (hk:∀m,P m→Mach C Q (.ops os::k) .nrm ⟨putE s.env d r,m⟩):MachA C Q .M f (some vs) ns d os k s:=by
  obtain ⟨m,h1,h2⟩:=h
  exact goM h1 (hk m h2)
def rX (l:List Rt):AObj:=⟨false,57,3,0,l.length,rtsC l,false⟩
structure Grd (M:List AObj) (n b:Nat) (f:Nat→Nat) (L:Nat→List Rt):Prop where
  box:M[b]?=some ⟨true,29,1,0,n,bxC n f,false⟩
  row:∀i,i<n→M[f i]?=some (rX (L i))
def updF (f:Nat→Nat) (i v:Nat):Nat→Nat:=fun r=>if r=i then v else f r
def updX (L:Nat→List Rt) (i:Nat) (l:List Rt):Nat→List Rt:=fun r=>if r=i then l else L r
section
variable {M:List AObj} {n b:Nat} {f:Nat→Nat} {L:Nat→List Rt}
theorem Grd.congr {L':Nat→List Rt} (h:Grd M n b f L) (he:∀i,i<n→L i=L' i):Grd M n b f L':=⟨h.box,fun i hi=>by rw [h.row i hi,he i hi]⟩
theorem bxC_upd {i v:Nat}:(bxC n f).set i (.arr v 0)=bxC n (updF f i v):=by
  apply List.ext_getElem?
  intro r
  by_cases hr:r<n
  · by_cases hi:r=i
    · subst hi
      rw [List.getElem?_set_self (by simp [bxC];exact hr)]
      simp only [bxC,List.getElem?_map,List.getElem?_range hr,Option.map_some,updF,if_true]
    · rw [List.getElem?_set_ne (fun e=>hi e.symm)]
      simp only [bxC,List.getElem?_map,List.getElem?_range hr,Option.map_some,updF,if_neg hi]
  · rw [List.getElem?_eq_none (by simp [bxC];omega),List.getElem?_eq_none (by simp [bxC];omega)]
theorem snap_grd (h:Grd M n b f L):snap M 10 (.arr b 0)=some (gridX ((List.range n).map L)):=by
  have e:∀i,i<n→snap M 8 (.arr (f i) 0)=some (.sl (L i).length 3 (rtsC (L i))):=fun i hi=>by
    rw [snap_arr (k:=7) (g:=0) (h.row i hi) rfl]
    rfl
  rw [snap_arr (k:=9) h.box rfl]
  have e2:snapL M 9 true (bxC n f)=(bxC n f).mapM (snap M 8):=rfl
  have e3:∀l:List Nat,(∀i∈l,i<n)→(l.map fun i=>AV.arr (f i) 0).mapM (snap M 8)=some (l.map fun i=>AV.sl (L i).length 3 (rtsC (L i))):=fun l=>by
    induction l with
    | nil=>intro _;rfl
    | cons a l ih=>
      intro hl
      rw [List.map_cons,List.mapM_cons,e a (hl a (by simp)),ih (fun i hi=>hl i (by simp [hi]))]
      rfl
  rw [e2,bxC,e3 _ (fun i hi=>List.mem_range.1 hi)]
  simp only [Option.map_some,gridX,List.length_map,List.length_range,List.map_map]
  rfl
theorem refs_grd (h:Grd M n b f L) {o:AObj} {i:Nat} (hi:M[i]?=some o) (ho:o.box=true) (hb:b≠i):i∉refs M 10 (.arr b 0):=by
  have e:refs M 10 (.arr b 0)=b::(bxC n f).flatMap (refs M 8):=by
    show b::(match geto M b 0 with|some o=>refsL M 9 o.box o.cs|none=>[])=_
    rw [geto,h.box]
    rfl
  rw [e]
  intro hm
  rcases List.mem_cons.1 hm with rfl|hm
  · exact hb rfl
  obtain ⟨c,hc,hm⟩:=List.mem_flatMap.1 hm
  obtain ⟨r,hr,rfl⟩:=List.mem_map.1 hc
  have hr:=List.mem_range.1 hr
  have e2:refs M 8 (.arr (f r) 0)=[f r]:=by
    show f r::(match geto M (f r) 0 with|some o=>refsL M 7 o.box o.cs|none=>[])=_
    rw [geto,h.row r hr]
    rfl
  rw [e2] at hm
  obtain rfl:=List.mem_singleton.1 hm
  rw [h.row r hr] at hi
  obtain rfl:=Option.some.inj hi
  cases ho
theorem Grd.step (h:Grd M n b f L) {i:Nat} (hi:i<n) {o0:AObj} {l:List Rt}:Grd (((M++[o0]).set b ⟨true,29,1,0,n,bxC n (updF f i M.length),false⟩).set M.length (rX l)) n b (updF f i M.length) (updX L i l):=by
  have hb:=lt_of h.box
  refine ⟨?_,fun r hr=>?_⟩
  · rw [List.getElem?_set_ne (by omega),List.getElem?_set_self (by simp;omega)]
  · by_cases hri:r=i
    · subst hri
      simp only [updF,updX,if_true]
      rw [List.getElem?_set_self (by simp)]
    · have hf:=lt_of (h.row r hr)
      simp only [updF,updX,if_neg hri]
      have hne:b≠f r:=fun e=>by
        have h1:=h.row r hr
        rw [←e,h.box] at h1
        have:=congrArg AObj.box (Option.some.inj h1)
        simp [rX] at this
      rw [List.getElem?_set_ne (by omega),List.getElem?_set_ne hne,List.getElem?_append_left hf]
      exact h.row r hr
end
theorem flat_rts {n:Nat} {z:Rt}:(List.replicate n (rtC z)).flatten=rtsC (List.replicate n z):=by
  simp [rtsC,List.flatMap]
def uniX (n i:Nat):List Rt:=(List.replicate n (false,0,0)).set i (zR 1)
def uniR (n i:Nat):List Rat:=(List.replicate n 0).set i 1
def unitG (n:Nat):List (List Rat):=(List.range n).map (uniR n)
theorem unit_rep {n:Nat}:Rep ((List.range n).map (uniX n)) (unitG n):=by
  have e1:∀k,((List.range n).map (uniX n)).getD k []=if k<n then uniX n k else []:=fun k=>by
    by_cases h:k<n
    · simp [List.getD,h]
    · simp [List.getD,h]
  have e2:∀k,(unitG n).getD k []=if k<n then uniR n k else []:=fun k=>by
    by_cases h:k<n
    · simp [List.getD,unitG,h]
    · simp [List.getD,unitG,h]
  refine ⟨by simp [unitG],fun k=>?_,fun k j hj=>?_⟩
  · rw [e1,e2]
    split
    · simp [uniX,uniR]
    · rfl
  · rw [e2] at hj
    unfold mxG
    rw [e1,e2]
    by_cases h:k<n
    · rw [if_pos h] at hj ⊢
      rw [if_pos h]
      simp only [uniR,List.length_set,List.length_replicate] at hj
      unfold rtAt uniX uniR
      by_cases hk:k=j
      · subst hk
        simp only [List.getD,List.getElem?_set_self (show k<(List.replicate n ((false,0,0):Rt)).length by simpa using h),List.getElem?_set_self (show k<(List.replicate n (0:Rat)).length by simpa using h),Option.getD_some]
        exact ⟨rfl,rfl,rfl⟩
      · simp only [List.getD,List.getElem?_set_ne hk,List.getElem?_replicate,hj,if_true,Option.getD_some]
        exact RV.zero
    · rw [if_neg h] at hj
      simp at hj
theorem goO_at {C:CallRel} {Q:X→St→Prop} {k:List Go.V.Item} {d:Option Nat} {os:List IOp} {f:Nat} {xs:List Opd} {env:Env} {M m:List AObj} {vs:List AV} {r:AV} (ha:xs.mapM (fun x=>snap M 10 (ev env x))=some vs) (h:C f vs [] r m) (h1:(m.all made)=true) (h2:ownishR r=true)
    (hk:Mach C Q (.ops os::k) .nrm ⟨putE env d (shiftR M.length r),Go.V.freeze (xs.flatMap fun x=>refs M 10 (ev env x)) M++m.map (shiftO M.length)⟩):Mach C Q (.ops (⟨d,.callO f xs,none⟩::os)::k) .nrm ⟨env,M⟩:=by
  rw [mCallO]
  show MachA C Q .O f (xs.mapM fun x=>snap M 10 (ev env x)) _ d os k _
  rw [ha]
  exact goB h h1 h2 hk
theorem snap4 {M:List AObj} {env:Env} {x y z w:Opd} {a b c d:AV} (h1:snap M 10 (ev env x)=some a) (h2:snap M 10 (ev env y)=some b) (h3:snap M 10 (ev env z)=some c) (h4:snap M 10 (ev env w)=some d):[x,y,z,w].mapM (fun x=>snap M 10 (ev env x))=some [a,b,c,d]:=by
  simp only [List.mapM_cons,List.mapM_nil,h1,h2,h3,h4]
  rfl
theorem snap1 {M:List AObj} {env:Env} {x:Opd} {a:AV} (h1:snap M 10 (ev env x)=some a):[x].mapM (fun x=>snap M 10 (ev env x))=some [a]:=by
  simp only [List.mapM_cons,List.mapM_nil,h1]
  rfl
theorem notin1 {M:List AObj} {env:Env} {x:Opd} {i:Nat} (h1:i∉refs M 10 (ev env x)):([x].flatMap fun x=>refs M 10 (ev env x)).contains i=false:=by
  simp only [List.flatMap_cons,List.flatMap_nil,List.append_nil]
  rw [Bool.eq_false_iff]
  exact fun h=>h1 (List.contains_iff_mem.1 h)
theorem refs_rows {M:List AObj} {i j ty m a b c d:Nat} {l l':List AV} {fr:Bool} (h:M[i]?=some ⟨true,ty,1,0,m,[.sl a b l,.sl c d l'],fr⟩) (hj:i≠j):j∉refs M 10 (.arr i 0):=by
  have e:refs M 10 (.arr i 0)=[i]:=by
    show i::(match geto M i 0 with|some o=>refsL M 9 o.box o.cs|none=>[])=_
    rw [geto,h]
    rfl
  rw [e]
  intro hm
  exact hj (List.mem_singleton.1 hm).symm
theorem notin4 {M:List AObj} {env:Env} {x y z w:Opd} {i:Nat} (h1:i∉refs M 10 (ev env x)) (h2:i∉refs M 10 (ev env y)) (h3:i∉refs M 10 (ev env z)) (h4:i∉refs M 10 (ev env w)):([x,y,z,w].flatMap fun x=>refs M 10 (ev env x)).contains i=false:=by
  simp only [List.flatMap_cons,List.flatMap_nil,List.append_nil]
  rw [Bool.eq_false_iff]
  intro h
  have h:=List.contains_iff_mem.1 h
  rcases List.mem_append.1 h with h|h
  · exact h1 h
  rcases List.mem_append.1 h with h|h
  · exact h2 h
  rcases List.mem_append.1 h with h|h
  · exact h3 h
  · exact h4 h
theorem Two.frz {M Y:List AObj} {n ba bb:Nat} {ia ib:Nat→Nat} {s:Gd × Gd} {ns:List Nat} (h:Two M n ba bb ia ib s) (hn:∀i,i<M.length→ns.contains i=false):Two (Go.V.freeze ns (M++Y)) n ba bb ia ib s:=
  ⟨frz_get (getA h.bA _) (hn _ (lt_of h.bA)),frz_get (getA h.bB _) (hn _ (lt_of h.bB)),fun i hi=>frz_get (getA (h.rA i hi) _) (hn _ (lt_of (h.rA i hi))),fun i hi=>frz_get (getA (h.rB i hi) _) (hn _ (lt_of (h.rB i hi))),h.iA,h.iB,h.iAB,h.bn⟩
def lstU (n i:Nat):Nat→List Rt:=fun r=>if r<i then uniX n r else []
theorem c14_unit {n:Nat} {lim:Int} {M:List AObj} {b0 b4:AObj} {Q:X→St→Prop} {ks:List Go.V.Item} {env:Env} (hn:n≤4096) (hg:Grd M n (5+n) (fun i=>5+i) fun _=>[]) (h0:M[0]?=some b0) (h4:M[4]?=some b4)
    (e1:getE env 1=.int .i64 lim) (e2:getE env 2=.loc 0 0 0) (e4:getE env 4=.loc 4 0 0) (e7:getE env 7=.int .i64 n) (e8:getE env 8=.arr (5+n) 0) (e24:getE env 24=.int .i64 n) (e25:getE env 25=.int .i64 0)
    (hgo:∀(K:List AObj) (f:Nat→Nat),K[0]?=some b0→K[4]?=some b4→5+n<K.length→Grd K n (5+n) f (uniX n)→Mach (Go.V.Call tab E) Q ks .nrm ⟨[(1,.int .i64 lim),(2,.loc 0 0 0),(4,.loc 4 0 0),(7,.int .i64 n),(8,.arr (5+n) 0),(24,.int .i64 n),(25,.int .i64 n),(26,.bool false)],K⟩) :
    Mach (Go.V.Call tab E) Q (.code (.loop [1,2,4,7,8,24,25] none b14_0)::.endb 0::ks) .nrm ⟨env,M⟩:=by
  refine mLoop (fun N st=>∃(i:Nat) (K:List AObj) (f:Nat→Nat),i≤n∧N=n - i∧K[0]?=some b0∧K[4]?=some b4∧Grd K n (5+n) f (lstU n i)∧
    st=⟨[(1,.int .i64 lim),(2,.loc 0 0 0),(4,.loc 4 0 0),(7,.int .i64 n),(8,.arr (5+n) 0),(24,.int .i64 n),(25,.int .i64 i)],K⟩) n
    ⟨_,rfl,0,M,_,by omega,by omega,h0,h4,hg.congr (fun r _=>by simp [lstU]),by simp only [List.map_cons,List.map_nil,e1,e2,e4,e7,e8,e24,e25];rfl⟩ ?_
  rintro N s0 ⟨i,K,f,hi,rfl,hK0,hK4,hK,rfl⟩
  have hlt:=lt_of hK.box
  by_cases hin:i<n
  · have hi':(i:Int)<(n:Int):=by omega
    have hi0:(0:Int)≤(i:Int):=by omega
    have hi1:IntKind.i64.wrap ((i:Int)+1)=((i+1:Nat):Int):=by rw [wrap_i64 (by omega) (by omega)];omega
    have z0:(0:Int)≤(n:Int):=by omega
    have z1:56*n≤140737488355328:=by omega
    have z2:(n:Int)≤140737488355328:=by omega
    have hz0:rtC (false,0,0)=[AV.sl 0 1 [],AV.bool false,AV.sl 0 1 []]:=by simp only [rtC,ratG,limG_zero,us32];rfl
    have hfl:=flat_rts (n:=n) (z:=(false,0,0))
    rw [hz0] at hfl
    have hst:=hK.step hin (o0:=rX (List.replicate n (false,0,0))) (l:=uniX n i)
    have hst2:=hst.congr (L':=lstU n (i+1)) (fun r hr=>by
      unfold updX lstU
      by_cases hri:r=i
      · subst hri;rw [if_pos rfl,if_pos (by omega)]
      · rw [if_neg hri]
        by_cases h1:r<i
        · rw [if_pos h1,if_pos (by omega)]
        · rw [if_neg h1,if_neg (by omega)])
    have k1:=getA hK.box [rX (List.replicate n (false,0,0))]
    have f1:=fill_one (cs:=bxC n f) (i:=i) (v:=.arr K.length 0) (by rw [bxC_len];exact hin)
    rw [bxC_upd] at f1
    have ll1:i*1+1≤(bxC n f).length:=by rw [bxC_len];omega
    have k2:((K++[rX (List.replicate n (false,0,0))]).set (5+n) ⟨true,29,1,0,n,bxC n (updF f i K.length),false⟩)[5+n]?=some ⟨true,29,1,0,n,bxC n (updF f i K.length),false⟩:=by rw [List.getElem?_set_self (by simp;omega)]
    have k3:((K++[rX (List.replicate n (false,0,0))]).set (5+n) ⟨true,29,1,0,n,bxC n (updF f i K.length),false⟩)[K.length]?=some (rX (List.replicate n (false,0,0))):=by rw [List.getElem?_set_ne (by omega)];exact getL
    have s1:=sub_bx (f:=updF f i K.length) hin
    have s1':updF f i K.length i=K.length:=by simp [updF]
    rw [s1'] at s1
    have h53:=c52_ok (E:=I.E) (z:=1) ⟨by omega,by omega⟩
    rw [ratC_zR ⟨by omega,by omega⟩] at h53
    have f2:=fill_rtsA (L:=List.replicate n ((false,0,0):Rt)) (i:=i) (z:=zR 1) (by simpa using hin)
    have hln:(rtsC (List.replicate n ((false,0,0):Rt))).length=n*3:=by rw [show (rtsC (List.replicate n ((false,0,0):Rt))).length=(List.replicate n ((false,0,0):Rt)).length*3 from flat_len (fun _=>rfl),List.length_replicate]
    have ll2:i*3+3≤(rtsC (List.replicate n ((false,0,0):Rt))).length:=by rw [hln];omega
    have hu:(List.replicate n ((false,0,0):Rt)).set i (zR 1)=uniX n i:=rfl
    rw [hu] at f2
    have hul:(uniX n i).length=n:=by simp [uniX]
    have n0:(((K++[rX (List.replicate n (false,0,0))]).set (5+n) ⟨true,29,1,0,n,bxC n (updF f i K.length),false⟩).set K.length (rX (uniX n i)))[0]?=some b0:=by rw [List.getElem?_set_ne (by omega),List.getElem?_set_ne (by omega)];exact getA hK0 _
    have n4:(((K++[rX (List.replicate n (false,0,0))]).set (5+n) ⟨true,29,1,0,n,bxC n (updF f i K.length),false⟩).set K.length (rX (uniX n i)))[4]?=some b4:=by rw [List.getElem?_set_ne (by omega),List.getElem?_set_ne (by omega)];exact getA hK4 _
    clear hst hz0 hu
    have er:rX (List.replicate n ((false,0,0):Rt))=⟨false,57,3,0,n,rtsC (List.replicate n ((false,0,0):Rt)),false⟩:=by simp [rX]
    have eu:rX (uniX n i)=⟨false,57,3,0,n,rtsC (uniX n i),false⟩:=by simp [rX,hul]
    rw [er] at k1 k2 k3 hst2 n0 n4
    rw [eu] at hst2 n0 n4
    clear er eu
    generalize bxC n (updF f i K.length)=CS' at *
    generalize bxC n f=CS at *
    generalize rtsC (List.replicate n ((false,0,0):Rt))=ZZ at *
    generalize rtsC (uniX n i)=UU at *
    simp only [rtC3,us32] at h53 f2
    simp only [b14_0,go_sem,mapIA,hi',hi0,z0,z1,z2,Int.toNat_natCast,hfl,k1,k2,k3,s1,f1,ll1]
    refine goP h53 ?_
    simp only [go_sem,mapIA,hi',hi0,k3,Int.toNat_natCast,f2,ll2,us32,hi1,List.flatMap_cons,List.flatMap_nil,Option.getD_some]
    exact loopQ_go rfl (n - (i+1)) (by omega) ⟨i+1,_,_,by omega,rfl,n0,n4,hst2,rfl⟩
  · obtain rfl:i=n:=by omega
    have:=hgo K f hK0 hK4 hlt (hK.congr (fun r hr=>by simp [lstU,hr]))
    simp only [b14_0,go_sem,Int.lt_irrefl] at this ⊢
    exact this
def invS (A:List Rat) (R C:Nat):Gd × Gd:=(fun r=>nrmR (gridA A R C) (gridA A R C) r C,fun r=>nrmR (gridA A R C) (unitG R) r R)
theorem invS_len {A:List Rat} {R C:Nat}:Lens C R (invS A R C):=fun r _=>⟨nrmR_len,nrmR_len⟩
theorem unit_len {n:Nat}:(unitG n).length=n:=by simp [unitG]
theorem unit_row {n:Nat}:∀r∈unitG n,r.length=n:=fun r hr=>by
  obtain ⟨i,_,rfl⟩:=List.mem_map.1 hr
  simp [uniR]
theorem Sz.one' {e:Nat} (he:2≤e):Sz e 1:=⟨by rw [show (1:Rat).num=1 from rfl];exact Nat.one_lt_two_pow (by omega),Nat.one_lt_two_pow (by omega)⟩
theorem unit_Sz {n e:Nat} (he:2≤e):∀r∈unitG n,∀a∈r,Sz e a:=fun r hr a ha=>by
  obtain ⟨i,_,rfl⟩:=List.mem_map.1 hr
  unfold uniR at ha
  rcases List.mem_or_eq_of_mem_set ha with h|rfl
  · obtain ⟨_,rfl⟩:=List.mem_replicate.1 h
    exact Sz.zero' (by omega)
  · exact Sz.one' he
theorem c14_core {ch:Bool} {A:List Rat} {R C e:Nat} {lim:Int} (ha:ArrM [(R:Int),(C:Int)] [] ch A R C) (hchk:chkE [(R:Int),(C:Int)] [] ch A R C=0)
    (he:2≤e) (hA:∀a∈A,Sz e a) (hsz:4^(C+1)*((2*e+1)*(R+1)+2)≤30000000) :
    Go.V.Call tab E 14 [.agg (arrX [(R:Int),(C:Int)] ch [] (A.map rR)),.int .i64 lim] []
      (match redA C C (invS A R C) with
      | none=>.tup [.agg noA,.int .i64 22]
      | some u=>.tup [.agg (if shortB (ansL u C R) lim then arrX [(C:Int),(R:Int)] false [] ((ansL u C R).map rR) else noA),.int .i64 (if shortB (ansL u C R) lim then 0 else 26)]) []:=by
  refine Go.V.Call.mach i14 c14 rfl rfl rfl rfl ?_
  have hck:=hchk
  unfold chkE at hck
  rw [if_neg (by simp)] at hck
  by_cases hbb:(ch&&decide (0<([]:List Int).length+A.length))=true
  · rw [if_pos hbb] at hck;cases hck
  rw [if_neg hbb] at hck
  by_cases hRC:R<C
  · rw [if_pos hRC] at hck;cases hck
  rw [if_neg hRC] at hck
  by_cases h32:32<R∨8<C
  · rw [if_pos h32] at hck;cases hck
  clear hck
  obtain ⟨hAl,_⟩:=ha.ok (by simp) (by simpa using hbb)
  have hal:=ha.al
  have h95:=c37_ok ha
  rw [hchk] at h95
  have h96a:=c40_ok (s:=[(R:Int),(C:Int)]) (t:=[]) (A:=A) (ch:=ch) (R:=R) (C:=C) ha.s8 ha.r0 ha.c0 hAl ha.R4 ha.C4 hal
  have h97a:=c41_ok (s:=[(R:Int),(C:Int)]) (t:=[]) (l:=A.map rR) (ch:=ch) ha.s8
  rw [ha.c0] at h97a
  have h44:=c53_X (s:=[(R:Int),(C:Int)]) (t:=[]) (l:=A.map rR) (ch:=ch) (by simp)
  have h43:=c54_ok (L:=[[(C:Int)],[(R:Int)]]) (by simp) (by simp [lensum])
  have hrow:∀{Y:List Rat} {K:Nat},∀r∈gridA Y R K,r.length=K:=fun r hr=>grid_row r hr
  have hp4:1≤4^(C+1):=Nat.pow_pos (by omega)
  have hsz1:(2*e+1)*(R+1)+2≤30000000:=Nat.le_trans (Nat.le_mul_of_pos_left _ hp4) hsz
  have hn0:0<C→0<(gridA A R C).length:=fun h=>by rw [grid_len];omega
  have h98x:=c42_X (G:=gridA A R C) (H:=unitG R) (W:=(List.range R).map (uniX R)) (n:=C) (m:=R) (e:=e) unit_rep (by rw [grid_len,unit_len]) (fun r hr=>Nat.le_of_eq (hrow r hr).symm) (fun r hr=>Nat.le_of_eq (unit_row r hr).symm) (grid_Sz (by omega) hA) (unit_Sz he) (by rw [grid_len];omega) hn0 (by omega) (by omega) (by rw [grid_len];omega)
  have h98n:=c42_ok (G:=gridA A R C) (H:=gridA A R C) (n:=C) (m:=C) (e:=e) rfl (fun r hr=>Nat.le_of_eq (hrow r hr).symm) (fun r hr=>Nat.le_of_eq (hrow r hr).symm) (grid_Sz (by omega) hA) (grid_Sz (by omega) hA) (by rw [grid_len];omega) hn0 (by omega) (by omega) (by rw [grid_len];omega)
  have hS:SzG C (invS A R C) ((2*e+1)*R+1):=fun r hr=>by
    have q1:=nrm_Sz (G:=gridA A R C) (H:=gridA A R C) (i:=r) (m:=C) (fun x hx=>by rw [hrow x hx];exact hr) (fun x hx=>Nat.le_of_eq (hrow x hx).symm) rfl (grid_Sz (by omega) hA) (grid_Sz (by omega) hA)
    have q2:=nrm_Sz (G:=gridA A R C) (H:=unitG R) (i:=r) (m:=R) (fun x hx=>by rw [hrow x hx];exact hr) (fun x hx=>Nat.le_of_eq (unit_row x hx).symm) (by rw [grid_len,unit_len]) (grid_Sz (by omega) hA) (unit_Sz he)
    rw [grid_len] at q1 q2
    exact ⟨q1,q2⟩
  have h99:=fun (Bs:List AObj) (hd:5≤Bs.length)=>c43_ok (d:=5) (M:=Bs++((gridM C (invS A R C).2).map (shiftO Bs.length)++(gridM C (invS A R C).1).map (shiftO (C+1+Bs.length)))) (s:=invS A R C) (e:=(2*e+1)*R+1) (m:=R) (two_of rfl) invS_len hS (by omega) (by omega)
    (Nat.le_trans (Nat.mul_le_mul_left _ (by rw [Nat.mul_add];omega)) hsz) ⟨by omega,by omega⟩ (fun i _=>⟨by omega,by omega⟩)
  have h100:=fun (u:Gd × Gd)=>c44_ok (G:=(List.range C).map fun r=>dvR u R r R) (s:=[(C:Int),(R:Int)]) (lim:=lim) (fun d hd=>by
      rcases List.mem_cons.1 hd with rfl|hd
      · exact ⟨by omega,by omega⟩
      · obtain rfl:=List.mem_singleton.1 hd
        exact ⟨by omega,by omega⟩) (by simp) (by
      have:((List.range C).map fun r=>dvR u R r R).flatten.length=C*R:=ansL_len
      have hq:=divSh_count (s:=[0,0]) (s':=[0,0]) (C:=C) (C':=R) (by omega) (by omega) (by simp) (by simp)
      rw [show divSh [0,0] [0,0] C R=[(C:Int),(R:Int)] from rfl] at hq
      rw [this,fits,hq];simp) (by simp;omega) (fun r hr=>by obtain ⟨i,_,rfl⟩:=List.mem_map.1 hr;rw [dvR_len];omega) (by
      have:((List.range C).map fun r=>dvR u R r R).flatten.length=C*R:=ansL_len
      rw [this]
      exact Nat.le_trans (Nat.mul_le_mul (show C≤8 by omega) (show R≤32 by omega)) (by omega))
  have gml:(gridM C (invS A R C).2).all made=true:=gridM_made
  have gml':(gridM C (invS A R C).1).all made=true:=gridM_made
  have eX:gridM C (fun i=>nrmR (gridA A R C) (unitG R) i R)=gridM C (invS A R C).2:=rfl
  have eN:gridM C (fun i=>nrmR (gridA A R C) (gridA A R C) i C)=gridM C (invS A R C).1:=rfl
  rw [eX] at h98x
  rw [eN] at h98n
  have hgm:((gridM C (invS A R C).2).map (shiftO 6)).length=C+1:=by rw [List.length_map,gridM_len]
  have hGA:gridG (gridA A R C)=.sl R 1 ((gridA A R C).map fun r=>.sl r.length 3 (rtsC (r.map rR))):=by rw [gridG,grid_len]
  rw [hGA] at h96a h98x h98n
  generalize (gridA A R C).map (fun r=>AV.sl r.length 3 (rtsC (r.map rR)))=GA at *
  have had:∀M:List AObj,adopt (List.replicate R (.nilsl 57 3)) M=((List.range R).map fun i=>AV.arr (M.length+i) 0,M++List.replicate R ⟨false,57,3,0,0,[],false⟩):=fun M=>adopt_rep
  have z0:(0:Int)≤(R:Int):=by omega
  have z1:24*R≤140737488355328:=by omega
  have z2:(R:Int)≤140737488355328:=by omega
  simp only [arrX,runes,ints,nums,List.map_cons,List.map_nil,List.length_cons,List.length_nil,Nat.zero_add] at h95 h96a h97a h44
  simp only [c14,arrX,runes,ints,nums,List.map_cons,List.map_nil,List.length_cons,List.length_nil,Nat.zero_add,go_sem,subA5]
  refine goR h95 rfl ?_
  simp only [go_sem,subA5,bne_self_eq_false]
  refine goF h96a ?_
  have hlr:(List.replicate R (⟨false,57,3,0,0,[],false⟩:AObj)).length=R:=List.length_replicate
  have hbx:(List.replicate R (⟨false,57,3,0,0,[],false⟩:AObj)++[⟨true,29,1,0,R,(List.range R).map fun i=>AV.arr (5+i) 0,false⟩])[R]?=some ⟨true,29,1,0,R,(List.range R).map fun i=>AV.arr (5+i) 0,false⟩:=by
    rw [List.getElem?_append_right (by simp)]
    simp
  simp only [go_sem,subA5,mapIA,had,z0,z1,z2,Int.toNat_natCast,hlr,hbx]
  have hnew:=fun (x0 x1 x2 x3 x4:AObj)=>NSt.new (M:=[x0,x1,x2,x3,x4]) (n:=R)
  refine c14_unit (n:=R) (lim:=lim) (by omega) ⟨(hnew _ _ _ _ _).box,(hnew _ _ _ _ _).row⟩ rfl rfl rfl rfl rfl rfl (by show AV.arr _ 0=AV.arr _ 0;congr 1;omega) rfl rfl ?_
  intro K f hK0 hK4 hKl hK
  clear hnew hlr hbx had z0 z1 z2
  generalize hop:(⟨some 47,.callO 42 [.t 42,.t 43,.t 45,.t 46],none⟩:IOp)=op
  simp only [k14_0,hop,go_sem,subA5,mapIA,hK0]
  refine goF h96a ?_
  simp only [freeze_nil]
  simp only [go_sem,subA5,mapIA,hK0]
  refine goR h97a rfl ?_
  simp only [go_sem,subA5,mapIA,hK0]
  subst hop
  refine goO_at (snap4 ?_ ?_ ?_ ?_) h98x gml rfl ?_
  · rfl
  · exact snap_grd hK
  · rfl
  · rfl
  refine (fun (hk:∀Bs:List AObj,Bs[0]?=some _→Bs[4]?=some _→Bs.length=K.length→Mach _ _ _ _ ⟨_,Bs++_⟩)=>hk _ (frz_get hK0 (notin4 (fun h=>by cases h) (refs_grd hK hK0 rfl (by omega)) (fun h=>by cases h) (fun h=>by cases h))) (frz_get hK4 (notin4 (fun h=>by cases h) (refs_grd hK hK4 rfl (by omega)) (fun h=>by cases h) (fun h=>by cases h))) (by simp [Go.V.freeze])) fun Bs hB0 hB4 hBl=>?_
  rw [←hBl]
  have h5:=lt_of hB4
  clear hK hK0 hK4 hKl hBl
  have n0:=fun Y=>getA hB0 Y
  have hgm:((gridM C (invS A R C).2).map (shiftO Bs.length)).length=C+1:=by rw [List.length_map,gridM_len]
  simp only [go_sem,subA5,mapIA,n0]
  refine goF h96a ?_
  simp only [freeze_nil]
  simp only [go_sem,subA5,mapIA,n0]
  refine goF h96a ?_
  simp only [freeze_nil]
  simp only [go_sem,subA5,mapIA,n0]
  refine goR h97a rfl ?_
  simp only [go_sem,subA5,mapIA,n0]
  refine goR h97a rfl ?_
  simp only [go_sem,subA5,mapIA,n0]
  refine goB h98n gml' rfl ?_
  simp only [freeze_nil]
  simp only [go_sem,subA5,mapIA,n0,hgm,List.append_assoc]
  rw [Nat.add_comm Bs.length (C+1)]
  have sR:∀d,shiftR d (.arr C 0)=.arr (C+d) 0:=fun _=>rfl
  simp only [sR]
  have h99:=h99 Bs (by omega)
  have h95:=h95
  clear h98n h98x h96a
  have o0:=getA hB0 ((gridM C (invS A R C).2).map (shiftO Bs.length)++(gridM C (invS A R C).1).map (shiftO (C+1+Bs.length)))
  have o4:=getA hB4 ((gridM C (invS A R C).2).map (shiftO Bs.length)++(gridM C (invS A R C).1).map (shiftO (C+1+Bs.length)))
  cases hr:redA C C (invS A R C) with
  | none=>
    simp only [hr] at h99 ⊢
    refine goM_ex h99 fun M' hsm=>?_
    have m4:=(hsm 4 (by omega)).trans o4
    simp only [go_sem,FL,mapIA,subA5,m4]
    exact out_arr rfl rfl rfl rfl (getS m4) rfl rfl
  | some u=>
    simp only [hr] at h99 ⊢
    refine goM_ex (P:=fun M'=>SameB 5 _ M'∧∃ia ib,Two M' _ _ _ ia ib _) (let ⟨M',ia,ib,a,b,c⟩:=h99;⟨M',a,b,ia,ib,c⟩) fun M' hsm=>?_
    obtain ⟨hsm,ia,ib,hT⟩:=hsm
    have m0:=(hsm 0 (by omega)).trans o0
    have m4:=(hsm 4 (by omega)).trans o4
    generalize hop:(⟨some 71,.callF 54 [.t 70],none⟩:IOp)=op
    generalize hop2:(⟨some 75,.callF 44 [.t 72,.t 73,.t 74],none⟩:IOp)=op2
    simp only [go_sem,FL,mapIA,subA5,m0]
    refine goF h44 ?_
    simp only [freeze_nil]
    have h22:(((2:Nat):Int)==2)=true:=rfl
    have h12:(1:Int)≤((2:Nat):Int):=by omega
    have t1:Int.toNat 1=1:=rfl
    simp only [go_sem,FL,mapIA,subA5,m0,h22,h12,t1]
    subst hop
    refine goF_at (vs:=[rows [[(C:Int)],[(R:Int)]]]) (snap1 ?_) h43 ?_
    · exact (snap_arr (k:=9) getL rfl).trans rfl
    have m4':=getA m4
    have hM5:=lt_of m4
    refine (fun (hk:∀M3:List AObj,M3[4]?=some _→Two M3 _ _ _ ia ib _→Mach _ _ _ _ ⟨_,M3⟩)=>hk _ (frz_get (m4' _) ?_) (hT.frz ?_)) fun M3 q4 hT3=>?_
    · exact notin1 (refs_rows getL (by omega))
    · exact fun i hi=>notin1 (refs_rows getL (by omega))
    simp only [go_sem]
    subst hop2
    refine goF_at (vs:=[gridG ((List.range C).map fun r=>dvR u R r R),ints [(C:Int),(R:Int)],.int .i64 lim]) (snap3 ?_ ?_ ?_) (h100 u) ?_
    · exact snap_two hT3
    · rfl
    · rfl
    refine (fun (hk:∀M4:List AObj,M4[4]?=some _→Mach _ _ _ _ ⟨_,M4⟩)=>hk _ (frz_get q4 (notin3 (refs_two hT3 q4 rfl (by omega)) (fun h=>by cases h) (fun h=>by cases h)))) fun M4 e4=>?_
    have eA:((List.range C).map fun r=>dvR u R r R).flatten=ansL u C R:=rfl
    rw [eA]
    by_cases hsb:shortB (ansL u C R) lim=true<;>(
      simp only [hsb,if_true,if_false,Bool.false_eq_true,arrX,runes,ints,noA]
      simp only [go_sem,e4]
      exact out_arr rfl rfl rfl rfl (getS e4) rfl rfl)
section
variable {E:CallRel}
theorem wd_add {x y:Int} {k:Nat} (hx:(decL x.natAbs).length≤k) (hy:(decL y.natAbs).length≤k) (hk:k≤500000):Go.V.Call tab E 157 [.agg (wdI x),.agg (wdI y)] [] (.agg (wdI (x+y))) []:=by
  refine c157_ok (by omega) (by omega) ?_
  have h1:(decL (x.natAbs+y.natAbs)).length≤(decL (10*(max x.natAbs y.natAbs)+0)).length∨max x.natAbs y.natAbs=0:=by
    by_cases h:max x.natAbs y.natAbs=0
    · exact .inr h
    · exact .inl (decL_mono (by omega))
  rcases h1 with h1|h1
  · by_cases h:max x.natAbs y.natAbs=0
    · have:x.natAbs+y.natAbs=0:=by omega
      rw [this];have:=decL_digit (d:=0) (by omega);rw [this];simp
    · rw [decL_ten h (by omega),List.length_append] at h1
      have hm:(decL (max x.natAbs y.natAbs)).length≤k:=by
        rcases Nat.le_total x.natAbs y.natAbs with h|h
        · rw [Nat.max_eq_right h];exact hy
        · rw [Nat.max_eq_left h];exact hx
      simp at h1
      omega
  · have:x.natAbs+y.natAbs=0:=by omega
    rw [this];have:=decL_digit (d:=0) (by omega);rw [this];simp
end
def Sd (i j:Nat) (r:Rat):Prop:=r.num.natAbs<2^i∧r.den<2^j
section
variable {E:CallRel}
theorem lenD {n i:Nat} (h:n<2^i):(decL n).length≤i+1:=decL_two (Nat.lt_of_lt_of_le h (Nat.pow_le_pow_right (by omega) (by omega))) (by omega)
theorem mulD {a b:Int} {i j:Nat} (ha:a.natAbs<2^i) (hb:b.natAbs<2^j) (h:i+j≤100000):Go.V.Call tab E 133 [.agg (wdI a),.agg (wdI b)] [] (.agg (wdI (a*b))) []:=
  c133_ok (by have:=lenD ha;omega) (by have:=lenD hb;omega) (by have:=lenD (n:=(a*b).natAbs) (i:=i+j) (by rw [Int.natAbs_mul];exact lt_mul_pow ha hb);omega)
theorem denAbs {r:Rat} {j:Nat} (h:r.den<2^j):((r.den:Int)).natAbs<2^j:=by rw [Int.natAbs_natCast];exact h
theorem c131_ok {a b:Rat} {i j i' j':Nat} (ha:Sd i j a) (hb:Sd i' j' b) (hi:i+i'≤40000) (hj:j+j'≤9999):Go.V.Call tab E 131 [.agg (numR a),.agg (numR b)] [] (.agg (numR (a*b))) []:=by
  refine Go.V.Call.mach i131 c131 rfl rfl rfl rfl ?_
  have ta:=c134_R (E:=E) (r:=a) (by have:=lenD ha.1;omega)
  have tb:=c134_R (E:=E) (r:=b) (by have:=lenD hb.1;omega)
  have ba:=c135_ok (E:=E) (r:=a) (by have:=lenD ha.2;omega)
  have bb:=c135_ok (E:=E) (r:=b) (by have:=lenD hb.2;omega)
  have p1:=mulD (E:=E) ha.1 hb.1 (by omega)
  have p3:=mulD (E:=E) (denAbs ha.2) (denAbs hb.2) (by omega)
  have l1:(a.num*b.num).natAbs<2^(i+i'):=by rw [Int.natAbs_mul];exact lt_mul_pow ha.1 hb.1
  have l3:((a.den:Int)*(b.den:Int)).natAbs<2^(j+j'):=by rw [Int.natAbs_mul];exact lt_mul_pow (denAbs ha.2) (denAbs hb.2)
  have h48:=c132_ok (E:=E) (a:=a.num*b.num) (b:=(a.den:Int)*b.den) (m:=j+j') den_mul_ne (by omega) l3 (by have:=lenD l1;omega) (by have:=lenD l3;omega)
  rw [mul_divInt] at h48
  clear l1 l3
  generalize a.num*b.num=A1 at *
  generalize (a.den:Int)*(b.den:Int)=A3 at *
  simp only [numR,numG,wdI,wdC] at ta tb ba bb p1 p3 h48
  simp only [c131,numR,numG,go_sem,FL,subT3]
  refine goP ta ?_
  simp only [go_sem,FL,subT3]
  refine goP tb ?_
  simp only [go_sem,FL,subT3]
  refine goP p1 ?_
  simp only [go_sem,FL,subT3]
  refine goP ba ?_
  simp only [go_sem,FL,subT3]
  refine goP bb ?_
  simp only [go_sem,FL,subT3]
  refine goP p3 ?_
  simp only [go_sem,FL,subT3]
  refine goP h48 ?_
  simp only [go_sem,FL,subT3]
  simp only [i131,OT,reduceIte,Nat.reduceEqDiff,subT3,numR,numG]
theorem c93_ok {a b:Rat} {i j i' j':Nat} (ha:Sd i j a) (hb:Sd i' j' b) (h0:b≠0) (hi:i+j'≤40000) (hj:j+i'≤9999):Go.V.Call tab E 93 [.agg (numR a),.agg (numR b)] [] (.tup [.agg (numR (a/b)),.bool true]) []:=by
  refine Go.V.Call.mach i93 c93 rfl rfl rfl rfl ?_
  have ta:=c134_R (E:=E) (r:=a) (by have:=lenD ha.1;omega)
  have tb:=c134_R (E:=E) (r:=b) (by have:=lenD hb.1;omega)
  have ba:=c135_ok (E:=E) (r:=a) (by have:=lenD ha.2;omega)
  have bb:=c135_ok (E:=E) (r:=b) (by have:=lenD hb.2;omega)
  have p1:=mulD (E:=E) ha.1 (denAbs hb.2) (by omega)
  have p3:=mulD (E:=E) (denAbs ha.2) hb.1 (by omega)
  have l1:(a.num*(b.den:Int)).natAbs<2^(i+j'):=by rw [Int.natAbs_mul];exact lt_mul_pow ha.1 (denAbs hb.2)
  have l3:((a.den:Int)*b.num).natAbs<2^(j+i'):=by rw [Int.natAbs_mul];exact lt_mul_pow (denAbs ha.2) hb.1
  have h48:=c132_ok (E:=E) (a:=a.num*(b.den:Int)) (b:=(a.den:Int)*b.num) (m:=j+i') (Int.mul_ne_zero (by have:=a.den_nz;omega) (rnum_ne h0)) (by omega) l3 (by have:=lenD l1;omega) (by have:=lenD l3;omega)
  rw [div_divInt] at h48
  clear l1 l3
  generalize a.num*(b.den:Int)=A1 at *
  generalize (a.den:Int)*b.num=A3 at *
  simp only [numR,numG,wdI,wdC] at ta tb ba bb p1 p3 h48
  simp only [c93,numR,numG,go_sem,FL,subT3]
  refine goP ta ?_
  simp only [go_sem,FL,subT3]
  refine goP bb ?_
  simp only [go_sem,FL,subT3]
  refine goP p1 ?_
  simp only [go_sem,FL,subT3]
  refine goP ba ?_
  simp only [go_sem,FL,subT3]
  refine goP tb ?_
  simp only [go_sem,FL,subT3]
  refine goP p3 ?_
  simp only [go_sem,FL,subT3]
  refine goP h48 ?_
  simp only [go_sem,FL,subT3]
  simp only [i93,OT,reduceIte,Nat.reduceEqDiff,subT3,numR,numG]
end
section
variable {E:CallRel}
theorem c130_sd {a b:Rat} {i j i' j':Nat} (ha:Sd i j a) (hb:Sd i' j' b) (hi:i+j'≤40000) (hi':i'+j≤40000) (hj:j+j'≤9999):Go.V.Call tab E 130 [.agg (numR a),.agg (numR b)] [] (.agg (numR (a+b))) []:=by
  refine Go.V.Call.mach i130 c130 rfl rfl rfl rfl ?_
  have ta:=c134_R (E:=E) (r:=a) (by have:=lenD ha.1;omega)
  have tb:=c134_R (E:=E) (r:=b) (by have:=lenD hb.1;omega)
  have ba:=c135_ok (E:=E) (r:=a) (by have:=lenD ha.2;omega)
  have bb:=c135_ok (E:=E) (r:=b) (by have:=lenD hb.2;omega)
  have p1:=mulD (E:=E) ha.1 (denAbs hb.2) (by omega)
  have p2:=mulD (E:=E) hb.1 (denAbs ha.2) (by omega)
  have p3:=mulD (E:=E) (denAbs ha.2) (denAbs hb.2) (by omega)
  have l1:(a.num*(b.den:Int)).natAbs<2^(i+j'):=by rw [Int.natAbs_mul];exact lt_mul_pow ha.1 (denAbs hb.2)
  have l2:(b.num*(a.den:Int)).natAbs<2^(i'+j):=by rw [Int.natAbs_mul];exact lt_mul_pow hb.1 (denAbs ha.2)
  have l3:((a.den:Int)*(b.den:Int)).natAbs<2^(j+j'):=by rw [Int.natAbs_mul];exact lt_mul_pow (denAbs ha.2) (denAbs hb.2)
  obtain ⟨K,hK⟩:∃K,K=40000:=⟨_,rfl⟩
  have l4:(a.num*(b.den:Int)+b.num*(a.den:Int)).natAbs<2^(K+1):=by
    have p1:=Nat.pow_le_pow_right (n:=2) (by omega) (show i+j'≤K by omega)
    have p2:=Nat.pow_le_pow_right (n:=2) (by omega) (show i'+j≤K by omega)
    have:=Int.natAbs_add_le (a.num*(b.den:Int)) (b.num*(a.den:Int))
    rw [Nat.pow_succ]
    omega
  have s:=wd_add (E:=E) (x:=a.num*(b.den:Int)) (y:=b.num*(a.den:Int)) (k:=40001) (by have:=lenD l1;omega) (by have:=lenD l2;omega) (by omega)
  have h48:=c132_ok (E:=E) (a:=a.num*b.den+b.num*a.den) (b:=(a.den:Int)*b.den) (m:=j+j') den_mul_ne (by omega) l3 (by have:=lenD l4;omega) (by have:=lenD l3;omega)
  rw [add_divInt] at h48
  clear l1 l2 l3 l4
  generalize a.num*(b.den:Int)=A1 at *
  generalize b.num*(a.den:Int)=A2 at *
  generalize (a.den:Int)*(b.den:Int)=A3 at *
  simp only [numR,numG,wdI,wdC] at ta tb ba bb p1 p2 p3 s h48
  simp only [c130,numR,numG,go_sem,FL,subT3]
  refine goP ta ?_
  simp only [go_sem,FL,subT3]
  refine goP bb ?_
  simp only [go_sem,FL,subT3]
  refine goP p1 ?_
  simp only [go_sem,FL,subT3]
  refine goP tb ?_
  simp only [go_sem,FL,subT3]
  refine goP ba ?_
  simp only [go_sem,FL,subT3]
  refine goP p2 ?_
  simp only [go_sem,FL,subT3]
  refine goP s ?_
  simp only [go_sem,FL,subT3]
  refine goP ba ?_
  simp only [go_sem,FL,subT3]
  refine goP bb ?_
  simp only [go_sem,FL,subT3]
  refine goP p3 ?_
  simp only [go_sem,FL,subT3]
  refine goP h48 ?_
  simp only [go_sem,FL,subT3]
  simp only [i130,OT,reduceIte,Nat.reduceEqDiff,subT3,numR,numG]
theorem c96_ok {r:Rat}:Go.V.Call tab E 96 [.agg (numR r)] [] (.agg (numR (-r))) []:=by
  refine Go.V.Call.mach i96 c96 rfl rfl rfl rfl ?_
  have hne:=dec_ne (a:=r.num.natAbs) (b:=0)
  rw [dec_zero] at hne
  have hneg:numR (-r)=[.bool (decide (-r.num<0)),.str (dec r.num.natAbs),.str (dec r.den)]:=by
    simp only [numR,numG,Rat.neg_num,Rat.neg_den,Int.natAbs_neg]
  rw [hneg]
  have sN1:∀{a b c:AV},sub false 1 [a,b,c] 0=some a:=rfl
  have sN2:∀{a b c:AV},sub false 1 [a,b,c] 1=some b:=rfl
  by_cases h:r.num<0
  · have hd:decide (r.num<0)=true:=decide_eq_true h
    have hd2:decide (-r.num<0)=false:=decide_eq_false (by omega)
    simp only [c96,numR,numG,hd,hd2,go_sem,FL,subT3,sN1,sN2]
    simp only [i96,OT,reduceIte,Nat.reduceEqDiff,subT3]
  · have hd:decide (r.num<0)=false:=decide_eq_false h
    by_cases h0:r.num.natAbs=0
    · have hd2:decide (-r.num<0)=false:=decide_eq_false (by omega)
      rw [decide_eq_true h0] at hne
      simp only [c96,numR,numG,hd,hd2,hne,go_sem,FL,subT3,sN1,sN2]
      simp only [i96,OT,reduceIte,Nat.reduceEqDiff,subT3]
    · have hd2:decide (-r.num<0)=true:=decide_eq_true (by omega)
      rw [decide_eq_false h0] at hne
      simp only [c96,numR,numG,hd,hd2,hne,go_sem,FL,subT3,sN1,sN2]
      simp only [i96,OT,reduceIte,Nat.reduceEqDiff,subT3]
end
def dnP (g:Nat→Rat):Nat→Nat
  | 0=>1
  | k+1=>dnP g k*(g k).den
theorem dnP_pos {g:Nat→Rat}:∀{k:Nat},0<dnP g k
  | 0=>Nat.one_pos
  | k+1=>Nat.mul_pos dnP_pos (Nat.pos_of_ne_zero (g k).den_nz)
theorem dnP_le {g:Nat→Rat} {p q:Nat}:∀{k:Nat},(∀i,i<k→Sd p q (g i))→dnP g k≤2^(q*k)
  | 0,_=>by simp [dnP]
  | k+1,h=>by
    rw [dnP,Nat.mul_add,Nat.mul_one,Nat.pow_add]
    exact Nat.mul_le_mul (dnP_le fun i hi=>h i (by omega)) (Nat.le_of_lt (h k (by omega)).2)
theorem dnP_int {g:Nat→Rat} {p q:Nat}:∀{k:Nat},(∀i,i<k→Sd p q (g i))→∀i,i<k→∃z:Int,(dnP g k:Rat)*g i=z∧z.natAbs≤2^(p+q*k)
  | 0,_,i,hi=>by omega
  | k+1,h,i,hi=>by
    have hle:=dnP_le (k:=k) fun i hi=>h i (by omega)
    obtain ⟨h1,h2⟩:=h k (by omega)
    have e0:(dnP g (k+1):Rat)=(dnP g k:Rat)*((g k).den:Rat):=by rw [dnP,Rat.natCast_mul]
    by_cases hik:i=k
    · subst hik
      have e1:((g i).den:Rat)*g i=((g i).num:Rat):=by
        have h0:((g i).den:Rat)≠0:=nz_cast (Nat.pos_of_ne_zero (g i).den_nz)
        have h3:((g i).num:Rat)/(((g i).den:Int):Rat)=g i:=by rw [←Rat.divInt_eq_div];exact Rat.num_divInt_den (g i)
        rw [Rat.intCast_natCast] at h3
        generalize ((g i).den:Rat)=d at *
        generalize ((g i).num:Rat)=m at *
        generalize g i=x at *
        grind
      refine ⟨(dnP g i:Int)*(g i).num,?_,?_⟩
      · rw [e0,Rat.mul_assoc,e1,Rat.intCast_mul,Rat.intCast_natCast]
      · rw [Int.natAbs_mul,Int.natAbs_natCast,Nat.mul_add,Nat.mul_one,←Nat.add_assoc,Nat.pow_add,Nat.pow_add,Nat.mul_comm]
        refine Nat.le_trans (Nat.mul_le_mul (Nat.le_of_lt h1) hle) (Nat.le_mul_of_pos_right _ (Nat.pow_pos (by omega)))
    · obtain ⟨z,z1,z2⟩:=dnP_int (k:=k) (fun i hi=>h i (by omega)) i (by omega)
      refine ⟨z*((g k).den:Int),?_,?_⟩
      · rw [e0,Rat.intCast_mul,Rat.intCast_natCast,←z1];grind
      · rw [Int.natAbs_mul,Int.natAbs_natCast,Nat.mul_add,Nat.mul_one,←Nat.add_assoc,Nat.pow_add]
        exact Nat.mul_le_mul z2 (Nat.le_of_lt h2)
theorem gram_scl {F G:Mx} {p q R r j:Nat} (hF:∀k,k<R→Sd p q (F k r)) (hG:∀k,k<R→Sd p q (G k j)) :
    ∃z:Int,(dnP (fun k=>F k r) R:Rat)*(dnP (fun k=>G k j) R:Rat)*gram R F G r j=z∧z.natAbs≤R*(2^(p+q*R)*2^(p+q*R)):=by
  have e:(dnP (fun k=>F k r) R:Rat)*(dnP (fun k=>G k j) R:Rat)*gram R F G r j=sumN R fun k=>((dnP (fun k=>F k r) R:Rat)*F k r)*((dnP (fun k=>G k j) R:Rat)*G k j):=by
    unfold gram
    rw [←sumN_mul]
    exact sumN_congr fun k _=>by grind
  rw [e]
  refine sumN_int fun k hk=>?_
  obtain ⟨x,x1,x2⟩:=dnP_int hF k hk
  obtain ⟨y,y1,y2⟩:=dnP_int hG k hk
  exact ⟨x*y,by rw [x1,y1,Rat.intCast_mul],by rw [Int.natAbs_mul];exact Nat.mul_le_mul x2 y2⟩
theorem Sd.zero' {p q:Nat} (hq:1≤q):Sd p q 0:=⟨by rw [Rat.num_ofNat];exact Nat.pow_pos (by omega),Nat.one_lt_two_pow (by omega)⟩
theorem getD_Sd {A:List Rat} {p q i:Nat} (hq:1≤q) (h:∀a∈A,Sd p q a):Sd p q (A.getD i 0):=by
  by_cases hi:i<A.length
  · simp only [List.getD,List.getElem?_eq_getElem hi,Option.getD_some];exact h _ (List.getElem_mem hi)
  · simp only [List.getD,List.getElem?_eq_none (show A.length≤i by omega),Option.getD_none];exact Sd.zero' hq
theorem mxG_at {A:List Rat} {R C k j:Nat} (hk:k<R) (hj:j<C):mxG (gridA A R C) k j=A.getD (k*C+j) 0:=by
  have e:(gridA A R C).getD k []=rowA A C k C:=by simp [List.getD,gridA,hk]
  unfold mxG
  rw [e]
  simp [rowA,List.getD,hj]
def sysD (s:Gd × Gd):Gd:=fun r=>s.1 r++s.2 r
theorem sysD_mx {n m:Nat} {s:Gd × Gd} (h:Lens n m s) {r j:Nat} (hr:r<n):mxD (sysD s) r j=cmb n s r j:=by
  obtain ⟨h1,h2⟩:=h r hr
  unfold mxD sysD cmb en
  simp only [List.getD]
  by_cases hj:j<n
  · rw [if_pos hj,List.getElem?_append_left (by omega)]
  · rw [if_neg hj,List.getElem?_append_right (by omega),h1]
theorem sysD_len {n m:Nat} {s:Gd × Gd} (h:Lens n m s):LenD n (n+m) (sysD s):=fun r hr=>by
  obtain ⟨h1,h2⟩:=h r hr
  unfold sysD
  rw [List.length_append,h1,h2]
def sclB (A B:List Rat) (R C C':Nat):Nat→Nat:=fun j=>if j<C then dnP (fun k=>mxG (gridA A R C) k j) R else dnP (fun k=>mxG (gridA B R C') k (j - C)) R
theorem cmb_div1 {A B:List Rat} {R C C' r j:Nat} (hj:j<C):cmb C (divS A B R C C') r j=gram R (mxG (gridA A R C)) (mxG (gridA A R C)) r j:=by
  unfold cmb en
  rw [if_pos hj]
  simp only [divS,nrmR,List.getD,List.getElem?_map,List.getElem?_range hj,Option.map_some,Option.getD_some,grid_len]
theorem cmb_div2 {A B:List Rat} {R C C' r q:Nat} (hq:q<C'):cmb C (divS A B R C C') r (C+q)=gram R (mxG (gridA A R C)) (mxG (gridA B R C')) r q:=by
  unfold cmb en
  rw [if_neg (by omega),show C+q - C=q by omega]
  simp only [divS,nrmR,List.getD,List.getElem?_map,List.getElem?_range hq,Option.map_some,Option.getD_some,grid_len]
theorem div_scl {A B:List Rat} {p q R C C':Nat} (hq:1≤q) (hA:∀a∈A,Sd p q a) (hB:∀a∈B,Sd p q a) :
    Scl C (C+C') (cmb C (divS A B R C C')) (sclB A B R C C') (sclB A B R C C') ((R+1)*(2^(p+q*R)*2^(p+q*R))) (2^(q*R)) (2^(q*R)):=by
  have gA:∀k,k<R→∀j,j<C→Sd p q (mxG (gridA A R C) k j):=fun k hk j hj=>by rw [mxG_at hk hj];exact getD_Sd hq hA
  have gB:∀k,k<R→∀j,j<C'→Sd p q (mxG (gridA B R C') k j):=fun k hk j hj=>by rw [mxG_at hk hj];exact getD_Sd hq hB
  have b1:∀j,j<C+C'→0<sclB A B R C C' j∧sclB A B R C C' j≤2^(q*R):=fun j hj=>by
    unfold sclB
    by_cases h:j<C
    · rw [if_pos h]
      exact ⟨dnP_pos,dnP_le fun k hk=>gA k hk j h⟩
    · rw [if_neg h]
      exact ⟨dnP_pos,dnP_le fun k hk=>gB k hk _ (by omega)⟩
  have hM:2^(q*R)≤(R+1)*(2^(p+q*R)*2^(p+q*R)):=by
    have h1:2^(q*R)≤2^(p+q*R):=Nat.pow_le_pow_right (by omega) (by omega)
    have h2:0<2^(p+q*R):=Nat.pow_pos (by omega)
    have h3:2^(p+q*R)≤2^(p+q*R)*2^(p+q*R):=Nat.le_mul_of_pos_left _ h2
    exact Nat.le_trans (Nat.le_trans h1 h3) (Nat.le_mul_of_pos_left _ (by omega))
  refine ⟨fun r hr=>b1 r (by omega),fun j hj=>⟨(b1 j hj).1,(b1 j hj).2,Nat.le_trans (b1 j hj).2 hM⟩,fun r j hr hj=>?_⟩
  have er:sclB A B R C C' r=dnP (fun k=>mxG (gridA A R C) k r) R:=by unfold sclB;rw [if_pos hr]
  have hw:∀{z:Int},z.natAbs≤R*(2^(p+q*R)*2^(p+q*R))→z.natAbs≤(R+1)*(2^(p+q*R)*2^(p+q*R)):=fun h=>Nat.le_trans h (Nat.mul_le_mul_right _ (by omega))
  by_cases h:j<C
  · have ej:sclB A B R C C' j=dnP (fun k=>mxG (gridA A R C) k j) R:=by unfold sclB;rw [if_pos h]
    rw [er,ej,cmb_div1 h]
    obtain ⟨z,z1,z2⟩:=gram_scl (r:=r) (j:=j) (fun k hk=>gA k hk r hr) (fun k hk=>gA k hk j h)
    exact ⟨z,z1,hw z2⟩
  · obtain ⟨i,rfl⟩:∃i,j=C+i:=⟨j - C,by omega⟩
    have ej:sclB A B R C C' (C+i)=dnP (fun k=>mxG (gridA B R C') k i) R:=by unfold sclB;rw [if_neg h,show C+i - C=i by omega]
    rw [er,ej,cmb_div2 (by omega)]
    obtain ⟨z,z1,z2⟩:=gram_scl (r:=r) (j:=i) (fun k hk=>gA k hk r hr) (fun k hk=>gB k hk i (by omega))
    exact ⟨z,z1,hw z2⟩
theorem dB_le {M s:Nat} (hM:M≤2^s):∀{c:Nat},c≤8→dB M c≤2^(c*(s+3))
  | 0,_=>by simp [dB]
  | c+1,h=>by
    have ih:=dB_le hM (c:=c) (by omega)
    rw [dB,show (c+1)*(s+3)=3+(s+c*(s+3)) by rw [Nat.add_mul];omega,Nat.pow_add,Nat.pow_add 2 s]
    exact Nat.mul_le_mul (show c+1≤8 by omega) (Nat.mul_le_mul hM ih)
theorem size_exp {R C c:Nat} (hRC:R*C≤40) (hCR:C≤R) (hR:R≤32) (hc:c≤C) (hC:C≤8):3+(86+40*R)+c*(89+40*R)<3333∧c*(89+40*R)+40*R<3333:=by
  have h1:c*(89+40*R)≤C*(89+40*R):=Nat.mul_le_mul_right _ hc
  rw [Nat.mul_add,Nat.mul_add] at h1
  have h2:C*(40*R)=40*(R*C):=by rw [Nat.mul_comm C,Nat.mul_assoc]
  rw [Nat.mul_add]
  rcases (show C=0∨C=1∨C=2∨C=3∨C=4∨C=5∨C=6∨C=7∨C=8 by omega) with h|h|h|h|h|h|h|h|h<;>rw [h] at h1 h2 hRC<;>omega
theorem sys_size {R C K:Nat} (hRC:R*C≤40) (hCR:C≤R) (hR:R≤32) (hC:C≤8) (hK:K=3333):∀c,c≤C→
    (c+1)*(((R+1)*(2^(40+20*R)*2^(40+20*R)))*dB ((R+1)*(2^(40+20*R)*2^(40+20*R))) c)<2^K∧
    dB ((R+1)*(2^(40+20*R)*2^(40+20*R))) c*(2^(20*R)*2^(20*R))<2^K:=fun c hc=>by
  obtain ⟨k1,k2⟩:=size_exp hRC hCR hR hc hC
  have hM:(R+1)*(2^(40+20*R)*2^(40+20*R))≤2^(86+40*R):=by
    rw [←Nat.pow_add,show 86+40*R=6+(40+20*R+(40+20*R)) by omega,Nat.pow_add 2 6]
    exact Nat.mul_le_mul_right _ (show R+1≤2^6 by omega)
  have hC6:C≤6:=by
    rcases Nat.lt_or_ge 6 C with h|h
    · have:=Nat.mul_le_mul (show 7≤R by omega) (show 7≤C by omega)
      omega
    · exact h
  generalize (R+1)*(2^(40+20*R)*2^(40+20*R))=M at *
  have hd:=dB_le hM (c:=c) (by omega)
  rw [show 86+40*R+3=89+40*R by omega] at hd
  generalize dB M c=D at *
  constructor
  · refine Nat.lt_of_le_of_lt (m:=2^(3+(86+40*R)+c*(89+40*R))) ?_ (Nat.pow_lt_pow_right (by omega) (by omega))
    rw [Nat.pow_add,Nat.pow_add 2 3,Nat.mul_assoc]
    exact Nat.mul_le_mul (show c+1≤8 by omega) (Nat.mul_le_mul hM hd)
  · refine Nat.lt_of_le_of_lt (m:=2^(c*(89+40*R)+40*R)) ?_ (Nat.pow_lt_pow_right (by omega) (by omega))
    rw [←Nat.pow_add,show 20*R+20*R=40*R by omega,Nat.pow_add]
    exact Nat.mul_le_mul_right _ hd
theorem div_both {A B:List Rat} {R C C' K:Nat} (hRC:R*C≤40) (hCR:C≤R) (hR:R≤32) (hC:C≤8) (hK:K=3333) (hA:∀a∈A,Sd 40 20 a) (hB:∀a∈B,Sd 40 20 a) :
    Fine C (C+C') K C (sysD (divS A B R C C'))∧match redA C C (divS A B R C C') with
    | none=>redD C C (sysD (divS A B R C C'))=none
    | some u=>∃t,redD C C (sysD (divS A B R C C'))=some t∧LenD C (C+C') t∧∀r j,r<C→j<C'→en t r (C+j)=en u.2 r j/en u.1 r r:=by
  have hs:=div_scl (R:=R) (C:=C) (C':=C') (by omega) hA hB
  have he:∀r j,r<C→j<C+C'→mxD (sysD (divS A B R C C')) r j=cmb C (divS A B R C C') r j:=fun r j hr _=>sysD_mx divS_len hr
  refine redD_redA (Nat.pow_pos (by omega)) (sys_size hRC hCR hR hC hK) (sysD_len divS_len) divS_len (x:=sclB A B R C C') (y:=sclB A B R C C') ⟨hs.1,hs.2.1,fun r j hr hj=>?_⟩ he
  rw [he r j hr hj]
  exact hs.2.2 r j hr hj
def nrs (l:List Rat):List AV:=l.flatMap numR
theorem sub_nrs {l:List Rat} {i:Nat} (h:i<l.length):sub true 3 (nrs l) (i*3)=some (.agg (numR (l.getD i 0))):=sub_flat (fun _=>rfl) h
theorem sub_nrs1 {l:List Rat} {i:Nat} (h:i<l.length):sub false 1 (nrs l) (i*3+1)=some (.str (dec (l.getD i 0).num.natAbs)):=sub_flat1 (f:=numR) (d:=0) (k:=1) (fun _=>rfl) h (by omega)
theorem nrs_snoc {l:List Rat} {a:Rat}:nrs l++numR a=nrs (l++[a]):=by simp [nrs]
def mR (r:Rat):Nm:=toNm (rR r)
theorem nmC_mR {r:Rat}:nmC (mR r)=numR r:=numR_nm.symm
theorem nrs_nms {l:List Rat}:nmsC (l.map mR)=nrs l:=by
  simp only [nmsC,nrs,List.flatMap_map,nmC_mR]
theorem numR3 {r:Rat}:numR r=[.bool (decide (r.num<0)),.str (dec r.num.natAbs),.str (dec r.den)]:=rfl
theorem dec_zeroB {r:Rat}:strOp .eq (dec r.num.natAbs) ⟨#[48]⟩=some (.bool (decide (r=0))):=by
  have h:=dec_eqB (a:=r.num.natAbs) (b:=0)
  rw [dec_zero] at h
  rw [h]
  have e:(r.num.natAbs=0)=(r=0):=propext ⟨fun h=>Rat.num_eq_zero.1 (by omega),fun h=>by rw [h];rfl⟩
  congr 2
  exact decide_eq_decide.2 (iff_of_eq e)
theorem Sz.sd {k:Nat} {r:Rat} (h:Sz k r):Sd k k r:=h
def LightQ (s:List Int) (ch:Bool) (t:List Int) (l:List Nm):Prop:=(∀x∈l.take 40,x.2.1.length≤12∧x.2.2.length≤6)∧LightP s ch t l 40
theorem c8_ok {s t:List Int} {l:List Nm} {ch ok:Bool} (hs:∀d∈s,In64 d) (hu:∀x∈l,U8 x.2.1∧U8 x.2.2) (hok:ok=true↔LightQ s ch t l):Go.V.Call tab E 8 [.agg (plX s ch t l)] [] (.bool ok) []:=by
  refine Go.V.Call.mach i8 c8 rfl rfl rfl rfl ?_
  have hfalse:¬LightQ s ch t l→ok=false:=fun h=>by rw [←Bool.not_eq_true,hok];exact h
  simp only [c8,plX,runes,ints,go_sem,subP4,subP3,subP3',FL]
  refine mLoop (fun N st=>∃k:Nat,k≤l.length∧k≤40∧N=40 - k∧(∀x∈l.take k,x.2.1.length≤12∧x.2.2.length≤6)∧st=⟨[(1,.loc 0 0 0),(3,.int .i64 k)],[⟨true,26,4,0,1,plX s ch t l,false⟩]⟩) 40
    ⟨_,rfl,0,by omega,by omega,by omega,fun x hx=>by simp at hx,rfl⟩ ?_
  rintro N s0 ⟨k,hk,hk40,rfl,hr,rfl⟩
  by_cases hlt:k<l.length∧k<40
  · have hlt':(k:Int)<(l.length:Int):=by omega
    have hlt2:(k:Int)<40:=by omega
    have hk0:(0:Int)≤(k:Int):=by omega
    have hk1:IntKind.i64.wrap ((k:Int)+1)=((k+1:Nat):Int):=by rw [wrap_i64 (by omega) (by omega)];omega
    have hs1:=sub_nms1 hlt.1
    have hs2:=sub_nms2 hlt.1
    have htk:l.take (k+1)=l.take k++[nmAt l k]:=takeAt hlt.1
    have hmem:nmAt l k∈l.take 40:=by
      have h1:nmAt l k∈l.take (k+1):=by rw [htk];simp
      exact (List.take_subset_take_left l (show k+1≤40 by omega)) h1
    by_cases g1:(12:Int)<((nmAt l k).2.1.length:Int)
    · have:=hfalse (fun h=>by have:=(h.1 _ hmem).1;omega)
      subst this
      simp only [b8_0,plX,runes,ints,go_sem,subP3,subP3',hlt',hlt2,hk0,Int.toNat_natCast,hs1,hs2,bs_size,g1]
      simp only [i8,OT,reduceIte,Nat.reduceEqDiff]
    · by_cases g2:(6:Int)<((nmAt l k).2.2.length:Int)
      · have:=hfalse (fun h=>by have:=(h.1 _ hmem).2;omega)
        subst this
        simp only [b8_0,plX,runes,ints,go_sem,subP3,subP3',hlt',hlt2,hk0,Int.toNat_natCast,hs1,hs2,bs_size,g1,g2]
        simp only [i8,OT,reduceIte,Nat.reduceEqDiff]
      · simp only [b8_0,plX,runes,ints,go_sem,subP3,subP3',hlt',hlt2,hk0,Int.toNat_natCast,hs1,hs2,bs_size,g1,g2,hk1]
        refine loopQ_go rfl (40 - (k+1)) (by omega) ⟨k+1,by omega,by omega,rfl,?_,rfl⟩
        intro x hx
        rw [htk] at hx
        rcases List.mem_append.1 hx with hx|hx
        · exact hr x hx
        · simp at hx;subst hx;omega
  · have h32:=fun okk h=>c32_ok (s:=s) (t:=t) (l:=l) (ch:=ch) (ok:=okk) (most:=40) (by omega) hs hu h
    have hall:∀x∈l.take 40,x.2.1.length≤12∧x.2.2.length≤6:=fun x hx=>by
      by_cases h40:k=40
      · subst h40;exact hr x hx
      · exact hr x (by rw [List.take_of_length_le (by omega)];exact List.mem_of_mem_take hx)
    have h32:=h32 ok (by rw [hok];exact ⟨fun h=>h.2,fun h=>⟨hall,h⟩⟩)
    by_cases hlt1:k<l.length
    · have hlt':(k:Int)<(l.length:Int):=by omega
      have hlt2:¬(k:Int)<40:=by omega
      simp only [plX,runes,ints] at h32
      simp only [b8_0,k8_0,plX,runes,ints,go_sem,FL,subP4,subP3,subP3',hlt',hlt2]
      refine goP h32 ?_
      simp only [go_sem]
      simp only [i8,OT,reduceIte,Nat.reduceEqDiff]
    · have hlt':¬(k:Int)<(l.length:Int):=by omega
      simp only [plX,runes,ints] at h32
      simp only [b8_0,k8_0,plX,runes,ints,go_sem,FL,subP4,subP3,subP3',hlt']
      refine goP h32 ?_
      simp only [go_sem]
      simp only [i8,OT,reduceIte,Nat.reduceEqDiff]
structure PagM (s t:List Int) (ch:Bool) (A:List Rat) (R C:Nat):Prop where
  arr:ArrM s t ch A R C
  nz:ch=true→A=[]
section
variable {s t:List Int} {l:List Nm} {ch:Bool}
theorem c47_ok (hs:s.length≤8):Go.V.Call tab E 47 [.agg (plX s ch t l)] [] (.int .i64 (s.getD 0 1)) []:=by
  refine Go.V.Call.mach i47 c47 rfl rfl rfl rfl ?_
  by_cases hl:s.length=0
  · obtain rfl:=List.eq_nil_of_length_eq_zero hl
    have e:(((([]:List Int).length:Nat):Int)==0)=true:=rfl
    simp only [c47,plX,runes,ints,go_sem,FL,subP4a,e]
    simp only [i47,OT,reduceIte,Nat.reduceEqDiff]
    rfl
  · have h2:(((s.length:Nat):Int)==0)=false:=by rw [beq_eq_false_iff_ne];omega
    have h3:(0:Int)<((s.length:Nat):Int):=by omega
    have h4:=sub_nums (k:=.i64) (l:=s) (i:=0) (by omega)
    have e:s.getD 0 0=s.getD 0 1:=by simp [List.getD,show 0<s.length by omega]
    rw [e] at h4
    simp only [c47,plX,runes,ints,go_sem,FL,subP4a,h2,h3,Int.toNat_zero,h4]
    simp only [i47,OT,reduceIte,Nat.reduceEqDiff]
theorem c48_ok (hs:s.length≤8):Go.V.Call tab E 48 [.agg (plX s ch t l)] [] (.int .i64 (s.getD 1 1)) []:=by
  refine Go.V.Call.mach i48 c48 rfl rfl rfl rfl ?_
  by_cases hl:s.length<2
  · have h2:((s.length:Nat):Int)<2:=by omega
    have e:s.getD 1 1=1:=by simp [List.getD,show s[1]?=none from List.getElem?_eq_none (by omega)]
    rw [e]
    simp only [c48,plX,runes,ints,go_sem,FL,subP4a,h2]
    simp only [i48,OT,reduceIte,Nat.reduceEqDiff]
  · have h2:¬((s.length:Nat):Int)<2:=by omega
    have h3:(1:Int)<((s.length:Nat):Int):=by omega
    have h4:=sub_nums (k:=.i64) (l:=s) (i:=1) (by omega)
    have e:s.getD 1 0=s.getD 1 1:=by simp [List.getD,show 1<s.length by omega]
    rw [e] at h4
    have t1:Int.toNat 1=1:=rfl
    simp only [c48,plX,runes,ints,go_sem,FL,subP4a,h2,h3,t1,h4]
    simp only [i48,OT,reduceIte,Nat.reduceEqDiff]
theorem c46_ok {A:List Rat} {R C:Nat} (h:PagM s t ch A R C):Go.V.Call tab E 46 [.agg (plX s ch t (A.map mR))] [] (.int .i64 (chkE s t ch A R C)) []:=by
  refine Go.V.Call.mach i46 c46 rfl rfl rfl rfl ?_
  have hs8:=h.arr.s8
  have h47:=c47_ok (s:=s) (t:=t) (l:=A.map mR) (ch:=ch) hs8
  have h48:=c48_ok (s:=s) (t:=t) (l:=A.map mR) (ch:=ch) hs8
  rw [h.arr.r0] at h47
  rw [h.arr.c0] at h48
  have htb:(ch&&decide (0<t.length+A.length))=decide (0<t.length):=by
    cases hc:ch with
    | true=>rw [h.nz hc];simp
    | false=>rw [h.arr.tx hc];simp
  unfold chkE
  rw [htb]
  simp only [plX,runes,ints] at h47 h48
  by_cases h2:2<s.length
  · have h2':(2:Int)<(s.length:Int):=by omega
    simp only [c46,plX,runes,ints,go_sem,FL,subP4a,h2']
    simp only [i46,OT,reduceIte,Nat.reduceEqDiff,h2,if_true]
  have h2':¬(2:Int)<(s.length:Int):=by omega
  by_cases ht:0<t.length
  · have ht':(0:Int)<(t.length:Int):=by omega
    simp only [c46,plX,runes,ints,go_sem,FL,subP4a,subP4c,h2',ht']
    simp only [i46,OT,reduceIte,Nat.reduceEqDiff,h2,ht,if_true,if_false,decide_true]
  have ht':¬(0:Int)<(t.length:Int):=by omega
  by_cases hr:R<C
  · have hr':(R:Int)<(C:Int):=by omega
    simp only [c46,plX,runes,ints,go_sem,FL,subP4a,subP4c,subP4,h2',ht']
    refine goP h47 ?_
    simp only [go_sem,FL,subP4]
    refine goP h48 ?_
    simp only [go_sem,FL,subP4,hr']
    simp only [i46,OT,reduceIte,Nat.reduceEqDiff,h2,ht,hr,if_true,if_false,decide_false,Bool.false_eq_true]
  have hr':¬(R:Int)<(C:Int):=by omega
  by_cases h32:32<R
  · have h32':(32:Int)<(R:Int):=by omega
    simp only [c46,plX,runes,ints,go_sem,FL,subP4a,subP4c,subP4,h2',ht']
    refine goP h47 ?_
    simp only [go_sem,FL,subP4]
    refine goP h48 ?_
    simp only [go_sem,FL,subP4,hr']
    refine goP h47 ?_
    simp only [go_sem,FL,subP4,h32']
    simp only [i46,OT,reduceIte,Nat.reduceEqDiff,h2,ht,hr,h32,true_or,if_true,if_false,decide_false,Bool.false_eq_true]
  have h32':¬(32:Int)<(R:Int):=by omega
  by_cases h8:8<C
  · have h8':(8:Int)<(C:Int):=by omega
    simp only [c46,plX,runes,ints,go_sem,FL,subP4a,subP4c,subP4,h2',ht']
    refine goP h47 ?_
    simp only [go_sem,FL,subP4]
    refine goP h48 ?_
    simp only [go_sem,FL,subP4,hr']
    refine goP h47 ?_
    simp only [go_sem,FL,subP4,h32']
    refine goP h48 ?_
    simp only [go_sem,FL,subP4,h8']
    simp only [i46,OT,reduceIte,Nat.reduceEqDiff,h2,ht,hr,h32,h8,or_true,if_true,if_false,decide_false,Bool.false_eq_true]
  have h8':¬(8:Int)<(C:Int):=by omega
  simp only [c46,plX,runes,ints,go_sem,FL,subP4a,subP4c,subP4,h2',ht']
  refine goP h47 ?_
  simp only [go_sem,FL,subP4]
  refine goP h48 ?_
  simp only [go_sem,FL,subP4,hr']
  refine goP h47 ?_
  simp only [go_sem,FL,subP4,h32']
  refine goP h48 ?_
  simp only [go_sem,FL,subP4,h8']
  simp only [i46,OT,reduceIte,Nat.reduceEqDiff,h2,ht,hr,h32,h8,or_self,if_false,decide_false,Bool.false_eq_true]
end
theorem zeroN:nmC (false,[48],[49])=numR 0:=by
  have e1:(0:Rat).num=0:=rfl
  have e2:(0:Rat).den=1:=rfl
  simp only [numR,numG,nmC,e1,e2,show (0:Int).natAbs=0 from rfl,dec_zero,dec_one]
  rfl
theorem sub_nrsN {l:List Rat} {i:Nat} (h:i<l.length):sub true 3 (nmsC (l.map mR)) (i*3)=some (.agg (numR (l.getD i 0))):=by
  rw [nrs_nms];exact sub_nrs h
def dotR (A B:List Rat) (R C C' i j k:Nat):Rat:=sumN k fun k=>mxG (gridA A R C) k i*mxG (gridA B R C') k j
theorem c92_ok {s t s' t':List Int} {ch ch':Bool} {A B:List Rat} {R C C' i j e:Nat} (hs:s.length≤8) (hs':s'.length≤8) (r0:s.getD 0 1=(R:Int)) (c0:s.getD 1 1=(C:Int)) (c0':s'.getD 1 1=(C':Int)) (hA:A.length=R*C) (hB:B.length=R*C') (hR:R≤4096) (hC:C≤4096) (hC':C'≤4096)
    (hi:i<C) (hj:j<C') (he:1≤e) (hAs:∀a∈A,Sz e a) (hBs:∀a∈B,Sz e a) (hsz:(2*e+1)*(R+1)≤9999) :
    Go.V.Call tab E 92 [.agg (plX s ch t (A.map mR)),.int .i64 i,.agg (plX s' ch' t' (B.map mR)),.int .i64 j] [] (.agg (numR (gram R (mxG (gridA A R C)) (mxG (gridA B R C')) i j))) []:=by
  refine Go.V.Call.mach i92 c92 rfl rfl rfl rfl ?_
  have h47:=c47_ok (s:=s) (t:=t) (l:=A.map mR) (ch:=ch) hs
  have h48:=c48_ok (s:=s) (t:=t) (l:=A.map mR) (ch:=ch) hs
  have h48':=c48_ok (s:=s') (t:=t') (l:=B.map mR) (ch:=ch') hs'
  rw [r0] at h47
  rw [c0] at h48
  rw [c0'] at h48'
  have h129:=c129_ok
  rw [zeroN] at h129
  have gA:∀k,k<R→Sz e (mxG (gridA A R C) k i):=fun k hk=>by
    rw [mxG_at hk hi];exact getD_Sd (p:=e) (q:=e) he hAs
  have gB:∀k,k<R→Sz e (mxG (gridA B R C') k j):=fun k hk=>by
    rw [mxG_at hk hj];exact getD_Sd (p:=e) (q:=e) he hBs
  have hlA:(A.map mR).length=R*C:=by rw [List.length_map,hA]
  have hlB:(B.map mR).length=R*C':=by rw [List.length_map,hB]
  have hbA:R*C≤4096*4096:=Nat.mul_le_mul hR hC
  have hbB:R*C'≤4096*4096:=Nat.mul_le_mul hR hC'
  have hz:numR (dotR A B R C C' i j 0)=numR 0:=rfl
  simp only [plX,runes,ints,hlA,hlB] at h47 h48 h48'
  simp only [numR3] at h129
  simp only [c92,plX,runes,ints,hlA,hlB,go_sem,FL]
  refine goP h129 ?_
  simp only [go_sem,FL]
  refine mLoop (fun N st=>∃k:Nat,k≤R∧N=R - k∧st=⟨[(1,.int .i64 i),(3,.int .i64 j),(4,.loc 0 0 0),(6,.loc 1 0 0),(8,.loc 2 0 0),(9,.loc 3 0 0),(10,.int .i64 k)],
      [⟨true,26,4,0,1,plX s ch t (A.map mR),false⟩,⟨true,26,4,0,1,plX s' ch' t' (B.map mR),false⟩,⟨true,66,3,0,1,[.bool false,.str ⟨#[]⟩,.str ⟨#[]⟩],false⟩,⟨true,66,3,0,1,numR (dotR A B R C C' i j k),false⟩]⟩) R
    ⟨_,rfl,0,by omega,by omega,by simp [getE,plX,runes,ints,hlA,hlB,hz,numR3]⟩ ?_
  rintro N s0 ⟨k,hk,rfl,rfl⟩
  by_cases hlt:k<R
  · have hlt':(k:Int)<(R:Int):=by omega
    have hk1:IntKind.i64.wrap ((k:Int)+1)=((k+1:Nat):Int):=by rw [wrap_i64 (by omega) (by omega)];omega
    have mA:k*C≤R*C:=Nat.mul_le_mul_right _ hk
    have mB:k*C'≤R*C':=Nat.mul_le_mul_right _ hk
    have qA:k*C+i<R*C:=by
      have:(k+1)*C≤R*C:=Nat.mul_le_mul_right _ hlt
      rw [Nat.add_mul,Nat.one_mul] at this
      omega
    have qB:k*C'+j<R*C':=by
      have:(k+1)*C'≤R*C':=Nat.mul_le_mul_right _ hlt
      rw [Nat.add_mul,Nat.one_mul] at this
      omega
    have w1:IntKind.i64.wrap ((k:Int)*(C:Int))=((k*C:Nat):Int):=by rw [←Int.natCast_mul,wrap_i64 (by omega) (by omega)]
    have w2:IntKind.i64.wrap (((k*C:Nat):Int)+(i:Int))=((k*C+i:Nat):Int):=by rw [wrap_i64 (by omega) (by omega)];omega
    have w3:IntKind.i64.wrap ((k:Int)*(C':Int))=((k*C':Nat):Int):=by rw [←Int.natCast_mul,wrap_i64 (by omega) (by omega)]
    have w4:IntKind.i64.wrap (((k*C':Nat):Int)+(j:Int))=((k*C'+j:Nat):Int):=by rw [wrap_i64 (by omega) (by omega)];omega
    have i1:(0:Int)≤((k*C+i:Nat):Int):=by omega
    have i2:((k*C+i:Nat):Int)<((R*C:Nat):Int):=by omega
    have i3:(0:Int)≤((k*C'+j:Nat):Int):=by omega
    have i4:((k*C'+j:Nat):Int)<((R*C':Nat):Int):=by omega
    have s1:=sub_nrsN (l:=A) (i:=k*C+i) (by omega)
    have s2:=sub_nrsN (l:=B) (i:=k*C'+j) (by omega)
    rw [←mxG_at hlt hi] at s1
    rw [←mxG_at hlt hj] at s2
    have hm:=(gA k hlt).mul (gB k hlt)
    have hsum:=Sz.sum (k:=k) (f:=fun k=>mxG (gridA A R C) k i*mxG (gridA B R C') k j) (e:=2*e) (fun q hq=>((gA q (by omega)).mul (gB q (by omega))).mono (by omega))
    have hkb:(2*e+1)*k+(2*e+1)≤(2*e+1)*(R+1):=by
      have:=Nat.mul_le_mul_left (2*e+1) (show k+1≤R+1 by omega)
      rw [Nat.mul_add] at this
      omega
    have h131:=c131_ok (E:=I.E) (a:=mxG (gridA A R C) k i) (b:=mxG (gridA B R C') k j) (gA k hlt).sd (gB k hlt).sd (by omega) (by omega)
    have h130:=c130_sd (E:=I.E) (a:=dotR A B R C C' i j k) (b:=mxG (gridA A R C) k i*mxG (gridA B R C') k j) hsum.sd hm.sd (by omega) (by omega) (by omega)
    have hsucc:dotR A B R C C' i j k+mxG (gridA A R C) k i*mxG (gridA B R C') k j=dotR A B R C C' i j (k+1):=rfl
    rw [hsucc] at h130
    clear hsum hm hsucc gA gB
    generalize dotR A B R C C' i j k=x at *
    generalize mxG (gridA A R C) k i*mxG (gridA B R C') k j=p at *
    generalize mxG (gridA A R C) k i=a at *
    generalize mxG (gridA B R C') k j=b at *
    have hst:∀y z:Rat,fillIn (numR y) 0 (numR z)=numR z:=fun y z=>rfl
    simp only [numR3] at h131 h130 s1 s2 hst
    simp only [b92_0,plX,runes,ints,hlA,hlB,numR3,go_sem,FL,subP4]
    refine goP h47 ?_
    simp only [go_sem,FL,subP4,subP3,subP3',subT3,hlt']
    refine goP h48 ?_
    simp only [go_sem,FL,subP4,subP3,subP3',subT3,w1,w2,i1,i2,Int.toNat_natCast,s1]
    refine goP h48' ?_
    simp only [go_sem,FL,subP4,subP3,subP3',subT3,w3,w4,i3,i4,Int.toNat_natCast,s2]
    refine goP h131 ?_
    simp only [go_sem,FL]
    refine goP h130 ?_
    simp only [go_sem,FL,hst,hk1]
    exact loopQ_go rfl (R - (k+1)) (by omega) ⟨k+1,by omega,rfl,rfl⟩
  · obtain rfl:k=R:=by omega
    have hst:∀y z:Rat,fillIn (numR y) 0 (numR z)=numR z:=fun y z=>rfl
    have e:gram k (mxG (gridA A k C)) (mxG (gridA B k C')) i j=dotR A B k C C' i j k:=rfl
    rw [e]
    generalize dotR A B k C C' i j k=x at *
    simp only [numR3] at hst
    simp only [b92_0,k92_0,plX,runes,ints,hlA,hlB,numR3,go_sem,FL,subP4]
    refine goP h47 ?_
    simp only [go_sem,FL,subT3,Int.lt_irrefl]
    simp only [i92,OT,reduceIte,Nat.reduceEqDiff,subT3]
theorem own_one {M:List AObj} {n g:Nat} {o:AObj} (h:M[n]?=some o) (hg:o.g=g) (hb:o.box=false) (hf:o.fr=false):ownOut M (.arr n g)=some (.arr 0 0,[{ o with g:=0 }]):=by
  have hgo:geto M n g=some o:=by rw [geto,h];simp [hg]
  show (ownV M (.arr n g) [] []).map _=_
  unfold ownV
  simp only [hgo,hb,hf]
  rfl
def nO (l:List Rat):AObj:=⟨false,66,3,0,l.length,nrs l,false⟩
theorem rowT_take {x:List Rat} {q:Rat} {i:Nat} (h:i<x.length):rowT (x.take (i+1)) q=rowT (x.take i) q++[x.getD i 0*q]:=by
  rw [takeAt (d:=0) h,rowT,List.map_append];rfl
theorem c94_ok {x:List Rat} {q:Rat} {i j:Nat} (hx:∀a∈x,Sz i a) (hq:Sz j q) (hij:i+j≤9999) (hl:x.length≤100000):Go.V.Call tab E 94 [.sl x.length 3 (nrs x),.agg (numR q)] [] (.arr 0 0) [nO (rowT x q)]:=by
  refine Go.V.Call.mach i94 c94 rfl rfl rfl rfl ?_
  have hn0:nrs (rowT (x.take 0) q)=[]:=rfl
  have eX:rowT x q=rowT (x.take x.length) q:=by rw [List.take_length]
  have hl0:(rowT (x.take 0) q).length=0:=rfl
  simp only [c94,numR3,go_sem,FL]
  refine mLoop (fun N st=>∃k:Nat,k≤x.length∧N=x.length - k∧st=⟨[(0,.sl x.length 3 (nrs x)),(3,.loc 0 0 0),(5,.arr 2 k),(6,.int .i64 k)],
      [⟨true,66,3,0,1,numR q,false⟩,⟨false,66,3,0,0,[],false⟩,⟨false,66,3,k,k,nrs (rowT (x.take k) q),false⟩]⟩) x.length
    ⟨_,rfl,0,by omega,by omega,by simp [getE,numR3,nrs,rowT]⟩ ?_
  rintro N s0 ⟨k,hk,rfl,rfl⟩
  by_cases hlt:k<x.length
  · have hlt':(k:Int)<(x.length:Int):=by omega
    have hk0:(0:Int)≤(k:Int):=by omega
    have hk1:IntKind.i64.wrap ((k:Int)+1)=((k+1:Nat):Int):=by rw [wrap_i64 (by omega) (by omega)];omega
    have s1:=sub_nrs hlt
    have hm:Sz i (x.getD k 0):=by
      simp only [List.getD,List.getElem?_eq_getElem hlt,Option.getD_some];exact hx _ (List.getElem_mem hlt)
    have h131:=c131_ok (E:=I.E) hm.sd hq.sd (by omega) (by omega)
    have happ:=nrs_snoc (l:=rowT (x.take k) q) (a:=x.getD k 0*q)
    rw [←rowT_take hlt] at happ
    have y1:(k+1)*40≤140737488355328:=by omega
    have y2:k+1≤140737488355328:=by omega
    generalize x.getD k 0*q=p at *
    generalize x.getD k 0=a at *
    simp only [numR3] at h131 s1 happ
    simp only [b94_0,numR3,go_sem,FL,hlt',hk0,Int.toNat_natCast,s1,subT3]
    refine goP h131 ?_
    simp only [go_sem,FL,List.flatten_cons,List.flatten_nil,Option.getD_some,y1,y2,happ,hk1]
    exact loopQ_go rfl (x.length - (k+1)) (by omega) ⟨k+1,by omega,rfl,rfl⟩
  · obtain rfl:k=x.length:=by omega
    rw [eX]
    simp only [b94_0,k94_0,numR3,go_sem,FL,Int.lt_irrefl]
    simp only [i94,OT,reduceIte,Nat.reduceEqDiff,nO,rowT_len,List.take_length]
    exact own_one (o:=⟨false,66,3,x.length,x.length,nrs (rowT x q),false⟩) rfl rfl rfl rfl
def sumT (x y:List Rat) (k:Nat):List Rat:=(List.range k).map fun i=>x.getD i 0+y.getD i 0
theorem sumT_succ {x y:List Rat} {i:Nat}:sumT x y (i+1)=sumT x y i++[x.getD i 0+y.getD i 0]:=by unfold sumT;rw [List.range_succ,List.map_append];rfl
theorem sumT_len {x y:List Rat} {i:Nat}:(sumT x y i).length=i:=by simp [sumT]
theorem c95_ok {x y:List Rat} {i j:Nat} (hx:∀a∈x,Sz i a) (hy:∀a∈y,Sz j a) (hxy:y.length=x.length) (hij:i+j≤9999) (hl:x.length≤100000):Go.V.Call tab E 95 [.sl x.length 3 (nrs x),.sl y.length 3 (nrs y)] [] (.arr 0 0) [nO (rowS x y)]:=by
  refine Go.V.Call.mach i95 c95 rfl rfl rfl rfl ?_
  simp only [c95,go_sem,FL]
  refine mLoop (fun N st=>∃k:Nat,k≤x.length∧N=x.length - k∧st=⟨[(0,.sl x.length 3 (nrs x)),(1,.sl y.length 3 (nrs y)),(5,.arr 1 k),(6,.int .i64 k)],
      [⟨false,66,3,0,0,[],false⟩,⟨false,66,3,k,k,nrs (sumT x y k),false⟩]⟩) x.length
    ⟨_,rfl,0,by omega,by omega,by simp [getE,nrs,sumT]⟩ ?_
  rintro N s0 ⟨k,hk,rfl,rfl⟩
  by_cases hlt:k<x.length
  · have hlt':(k:Int)<(x.length:Int):=by omega
    have hlt2:(k:Int)<(y.length:Int):=by omega
    have hk0:(0:Int)≤(k:Int):=by omega
    have hk1:IntKind.i64.wrap ((k:Int)+1)=((k+1:Nat):Int):=by rw [wrap_i64 (by omega) (by omega)];omega
    have s1:=sub_nrs hlt
    have s2:=sub_nrs (l:=y) (i:=k) (by omega)
    have hm:Sz i (x.getD k 0):=by
      simp only [List.getD,List.getElem?_eq_getElem hlt,Option.getD_some];exact hx _ (List.getElem_mem hlt)
    have hm2:Sz j (y.getD k 0):=by
      simp only [List.getD,List.getElem?_eq_getElem (show k<y.length by omega),Option.getD_some];exact hy _ (List.getElem_mem (by omega))
    have h130:=c130_sd (E:=I.E) hm.sd hm2.sd (by omega) (by omega) (by omega)
    have happ:=nrs_snoc (l:=sumT x y k) (a:=x.getD k 0+y.getD k 0)
    rw [←sumT_succ] at happ
    have y1:(k+1)*40≤140737488355328:=by omega
    have y2:k+1≤140737488355328:=by omega
    generalize hp:x.getD k 0+y.getD k 0=p at *
    generalize x.getD k 0=a at *
    generalize y.getD k 0=b at *
    clear hp
    simp only [numR3] at h130 s1 s2 happ
    simp only [b95_0,numR3,go_sem,FL,hlt',hlt2,hk0,Int.toNat_natCast,s1,s2,subT3]
    refine goP h130 ?_
    simp only [go_sem,FL,List.flatten_cons,List.flatten_nil,Option.getD_some,y1,y2,happ,hk1]
    exact loopQ_go rfl (x.length - (k+1)) (by omega) ⟨k+1,by omega,rfl,rfl⟩
  · obtain rfl:k=x.length:=by omega
    have hr:rowS x y=sumT x y x.length:=rfl
    rw [hr]
    have hZl:(sumT x y x.length).length=x.length:=sumT_len
    generalize sumT x y x.length=Z at *
    simp only [b95_0,k95_0,go_sem,FL,Int.lt_irrefl]
    simp only [i95,OT,reduceIte,Nat.reduceEqDiff,nO,hZl]
    exact own_one (o:=⟨false,66,3,x.length,x.length,nrs Z,false⟩) rfl rfl rfl rfl
def gO (l:List Rat):AObj:=⟨false,66,3,l.length,l.length,nrs l,false⟩
theorem gO_eq {l:List Rat}:gO l=⟨false,66,3,l.length,l.length,nrs l,false⟩:=rfl
structure SysM (K:List AObj) (P Q:AObj) (i:Nat) (f:Nat→Nat) (L:Nat→List Rat):Prop where
  p0:K[0]?=some P
  p1:K[1]?=some Q
  box:K[3]?=some ⟨true,24,1,i,i,(List.range i).map fun r=>.arr (f r) (L r).length,false⟩
  row:∀r,r<i→K[f r]?=some (gO (L r))
  inj:∀r s,r<i→s<i→f r=f s→r=s
section
variable {K:List AObj} {P Q:AObj} {i:Nat} {f:Nat→Nat} {L:Nat→List Rat}
theorem SysM.app (h:SysM K P Q i f L) (Y:List AObj):SysM (K++Y) P Q i f L:=⟨getA h.p0 Y,getA h.p1 Y,getA h.box Y,fun r hr=>getA (h.row r hr) Y,h.inj⟩
theorem SysM.put (h:SysM K P Q i f L) {n:Nat} {o:AObj} (hn:3<n) (hf:∀r,r<i→f r<n):SysM (K.set n o) P Q i f L:=
  ⟨by rw [List.getElem?_set_ne (by omega)];exact h.p0,by rw [List.getElem?_set_ne (by omega)];exact h.p1,by rw [List.getElem?_set_ne (by omega)];exact h.box,fun r hr=>by rw [List.getElem?_set_ne (by have:=hf r hr;omega)];exact h.row r hr,h.inj⟩
theorem SysM.three (h:SysM K P Q i f L) {r:Nat} (hr:r<i):f r≠3:=fun e=>by
  have h1:=h.row r hr
  rw [e,h.box] at h1
  have:=congrArg AObj.box (Option.some.inj h1)
  simp [gO] at this
theorem SysM.congr {L':Nat→List Rat} (h:SysM K P Q i f L) (he:∀r,r<i→L r=L' r):SysM K P Q i f L':=by
  refine ⟨h.p0,h.p1,?_,fun r hr=>by rw [←he r hr];exact h.row r hr,h.inj⟩
  rw [h.box]
  congr 2
  refine List.map_congr_left fun r hr=>?_
  rw [he r (List.mem_range.1 hr)]
theorem SysM.add (h:SysM K P Q i f L) {n:Nat} {l:List Rat} (hn:3<n) (hf:∀r,r<i→f r<n) (hrow:K[n]?=some (gO l)) {P0 Q0:AObj} (h0:P0=P) :
    SysM (K.set 3 ⟨true,24,1,i+1,i+1,((List.range i).map fun r=>.arr (f r) (L r).length)++[.arr n l.length],false⟩) P Q (i+1) (fun r=>if r<i then f r else n) (fun r=>if r<i then L r else l):=by
  have h3:=lt_of h.box
  refine ⟨by rw [List.getElem?_set_ne (by omega)];exact h.p0,by rw [List.getElem?_set_ne (by omega)];exact h.p1,?_,fun r hr=>?_,fun r s hr hs he=>?_⟩
  · have e1:(List.range i).map (fun r=>AV.arr (f r) (L r).length)=(List.range i).map fun r=>AV.arr (if r<i then f r else n) (if r<i then L r else l).length:=List.map_congr_left fun r hr=>by
      have:=List.mem_range.1 hr
      simp only [if_pos this]
    rw [List.getElem?_set_self h3,List.range_succ,List.map_append,e1]
    simp
  · by_cases hri:r<i
    · simp only [if_pos hri]
      rw [List.getElem?_set_ne (h.three hri).symm]
      exact h.row r hri
    · simp only [if_neg hri]
      rw [List.getElem?_set_ne (by omega)]
      exact hrow
  · by_cases h1:r<i
    · by_cases h2:s<i
      · simp only [if_pos h1,if_pos h2] at he
        exact h.inj r s h1 h2 he
      · simp only [if_pos h1,if_neg h2] at he
        have:=hf r h1
        omega
    · by_cases h2:s<i
      · simp only [if_neg h1,if_pos h2] at he
        have:=hf s h2
        omega
      · omega
def sysO (n:Nat) (L:Nat→List Rat):List AObj:=(List.range n).map (fun i=>nO (L i))++[⟨true,24,1,0,n,(List.range n).map fun i=>.arr i 0,false⟩]
theorem SysM.own (h:SysM K P Q i f L):∀{k a:Nat} {acc:List AObj} {ns:List Nat},a+k≤i→(∀r,a≤r→r<i→ns.contains (f r)=false)→
    ∃ns',ownL K ((List.range' a k).map fun r=>AV.arr (f r) (L r).length) acc ns=some ((List.range' a k).map fun r=>AV.arr (acc.length+(r - a)) 0,acc++(List.range' a k).map fun r=>nO (L r),ns')
  | 0,a,acc,ns,_,_=>⟨ns,by simp [ownL]⟩
  | k+1,a,acc,ns,hk,hn=>by
    have hr:=h.row a (by omega)
    have e:ownV K (.arr (f a) (L a).length) acc ns=some (.arr acc.length 0,acc++[nO (L a)],f a::ns):=by
      have hg:geto K (f a) (L a).length=some (gO (L a)):=by rw [geto,hr];simp [gO]
      unfold ownV
      simp only [hg,gO]
      rw [if_pos ⟨trivial,trivial,hn a (Nat.le_refl _) (by omega)⟩]
      rfl
    obtain ⟨ns',ih⟩:=h.own (k:=k) (a:=a+1) (acc:=acc++[nO (L a)]) (ns:=f a::ns) (by omega) (fun r h1 h2=>by
      rw [List.contains_cons,hn r (by omega) h2]
      have:f r≠f a:=fun e=>by have:=h.inj r a h2 (by omega) e;omega
      simp [this])
    refine ⟨ns',?_⟩
    rw [List.range'_succ,List.map_cons,ownL,e,Option.bind_some,ih]
    simp only [Option.map_some,Nat.sub_self,Nat.add_zero,List.length_append,List.length_cons,List.length_nil,List.map_cons,List.append_assoc,List.cons_append,List.nil_append]
    congr 3
    apply List.map_congr_left
    intro r hr
    have:=List.mem_range'_1.1 hr
    congr 1
    omega
theorem SysM.out (h:SysM K P Q i f L):ownOutB K (.arr 3 i)=some (.arr i 0,sysO i L):=by
  have hg:geto K 3 i=some ⟨true,24,1,i,i,(List.range i).map fun r=>.arr (f r) (L r).length,false⟩:=by rw [geto,h.box];simp
  obtain ⟨ns',h2⟩:=h.own (k:=i) (a:=0) (acc:=[]) (ns:=[]) (by omega) (fun r _ _=>rfl)
  rw [←List.range_eq_range'] at h2
  simp only [List.length_nil,Nat.zero_add,Nat.sub_zero,List.nil_append] at h2
  unfold ownOutB
  simp only [hg]
  rw [if_pos ⟨trivial,trivial⟩,h2]
  simp [sysO]
end
section
variable {s t s' t':List Int} {ch ch':Bool} {A B:List Rat} {R C C' e:Nat}
def boxP (s:List Int) (ch:Bool) (t:List Int) (A:List Rat):AObj:=⟨true,26,4,0,1,plX s ch t (A.map mR),false⟩
theorem c49_row1 (hs:s.length≤8) (r0:s.getD 0 1=(R:Int)) (c0:s.getD 1 1=(C:Int)) (hA:A.length=R*C) (hR:R≤4096) (hC:C≤4096) (he:1≤e) (hAs:∀a∈A,Sz e a) (hsz:(2*e+1)*(R+1)≤9999)
    {M:List AObj} {env:Env} {Qx:X→St→Prop} {ks:List Go.V.Item} {i nw:Nat} {Q:AObj} {f:Nat→Nat} {L:Nat→List Rat} (hi:i<C) (hM:SysM M (boxP s ch t A) Q i f L) (hnw:3<nw) (hf:∀r,r<i→f r<nw) (hrow:M[nw]?=some (gO []))
    (e2:getE env 2=.loc 0 0 0) (e3:getE env 3=.loc 1 0 0) (e5:getE env 5=.arr 3 i) (e6:getE env 6=.int .i64 i) (e7:getE env 7=.arr nw 0) (e8:getE env 8=.int .i64 0)
    (hgo:∀K,SysM K (boxP s ch t A) Q i f L→K[nw]?=some (gO (nrmR (gridA A R C) (gridA A R C) i C))→Mach (Go.V.Call tab E) Qx ks .nrm ⟨[(2,.loc 0 0 0),(3,.loc 1 0 0),(5,.arr 3 i),(6,.int .i64 i),(7,.arr nw C),(8,.int .i64 C),(19,.bool false)],K⟩) :
    Mach (Go.V.Call tab E) Qx (.code (.loop [2,3,5,6,7,8] none b49_1)::.endb 2::ks) .nrm ⟨env,M⟩:=by
  have h48:=c48_ok (s:=s) (t:=t) (l:=A.map mR) (ch:=ch) hs
  rw [c0] at h48
  have h92:=fun (j:Nat) (hj:j<C)=>c92_ok (s:=s) (s':=s) (t:=t) (t':=t) (ch:=ch) (ch':=ch) (A:=A) (B:=A) (i:=i) (j:=j) (e:=e) hs hs r0 c0 c0 hA hA hR hC hC hi hj he hAs hAs hsz
  refine mLoop (fun N st=>∃(k:Nat) (K:List AObj),k≤C∧N=C - k∧SysM K (boxP s ch t A) Q i f L∧K[nw]?=some (gO (nrmR (gridA A R C) (gridA A R C) i k))∧
    st=⟨[(2,.loc 0 0 0),(3,.loc 1 0 0),(5,.arr 3 i),(6,.int .i64 i),(7,.arr nw k),(8,.int .i64 k)],K⟩) C
    ⟨_,rfl,0,M,by omega,by omega,hM,hrow,by simp only [List.map_cons,List.map_nil,e2,e3,e5,e6,e7,e8];rfl⟩ ?_
  rintro N s0 ⟨k,K,hk,rfl,hK,hKr,rfl⟩
  have k0:=hK.p0
  have hnl:=lt_of hKr
  simp only [plX,runes,ints,List.length_map] at h48 h92
  simp only [boxP,plX,runes,ints,List.length_map] at k0
  by_cases hlt:k<C
  · have hlt':(k:Int)<(C:Int):=by omega
    have hk1:IntKind.i64.wrap ((k:Int)+1)=((k+1:Nat):Int):=by rw [wrap_i64 (by omega) (by omega)];omega
    have g92:=h92 k hlt
    have hs1:nrmR (gridA A R C) (gridA A R C) i (k+1)=nrmR (gridA A R C) (gridA A R C) i k++[gram R (mxG (gridA A R C)) (mxG (gridA A R C)) i k]:=by
      rw [nrmR_succ,grid_len]
    have happ:=nrs_snoc (l:=nrmR (gridA A R C) (gridA A R C) i k) (a:=gram R (mxG (gridA A R C)) (mxG (gridA A R C)) i k)
    rw [←hs1] at happ
    have hKr2:=hKr
    rw [gO_eq,nrmR_len] at hKr2
    have hnx:=fun o:AObj=>getA hKr2 [o]
    have hlx:=fun o:AObj=>x_last (K:=K) o
    have hst:∀o:AObj,SysM ((K++[o]).set nw (gO (nrmR (gridA A R C) (gridA A R C) i (k+1)))) (boxP s ch t A) Q i f L:=fun o=>(hK.app [o]).put hnw hf
    have hst2:∀o:AObj,((K++[o]).set nw (gO (nrmR (gridA A R C) (gridA A R C) i (k+1))))[nw]?=some (gO (nrmR (gridA A R C) (gridA A R C) i (k+1))):=fun o=>by rw [List.getElem?_set_self (by simp;omega)]
    have eg:gO (nrmR (gridA A R C) (gridA A R C) i (k+1))=⟨false,66,3,k+1,k+1,nrs (nrmR (gridA A R C) (gridA A R C) i (k+1)),false⟩:=by rw [gO_eq,nrmR_len]
    have y1:(k+1)*40≤140737488355328:=by omega
    have y2:k+1≤140737488355328:=by omega
    generalize gram R (mxG (gridA A R C)) (mxG (gridA A R C)) i k=g at *
    clear hs1
    simp only [numR3] at g92 happ
    simp only [b49_1,go_sem,FL,mapIA,k0,subP4]
    refine goR h48 rfl ?_
    simp only [go_sem,FL,mapIA,k0,subP4,hlt']
    refine goR g92 rfl ?_
    simp only [go_sem,FL,mapIA,hnx,hlx,List.flatten_cons,List.flatten_nil,Option.getD_some,y1,y2,happ,hk1]
    rw [←eg]
    exact loopQ_go rfl (C - (k+1)) (by omega) ⟨k+1,_,by omega,rfl,hst _,hst2 _,rfl⟩
  · obtain rfl:k=C:=by omega
    have:=hgo K hK hKr
    simp only [b49_1,go_sem,FL,mapIA,k0,subP4]
    refine goR h48 rfl ?_
    simp only [go_sem,FL,mapIA,Int.lt_irrefl]
    exact this
theorem c49_row2 (hs:s.length≤8) (hs':s'.length≤8) (r0:s.getD 0 1=(R:Int)) (c0:s.getD 1 1=(C:Int)) (c0':s'.getD 1 1=(C':Int)) (hA:A.length=R*C) (hB:B.length=R*C') (hR:R≤4096) (hC:C≤4096) (hC':C'≤4096) (he:1≤e) (hAs:∀a∈A,Sz e a) (hBs:∀a∈B,Sz e a) (hsz:(2*e+1)*(R+1)≤9999)
    {M:List AObj} {env:Env} {Qx:X→St→Prop} {ks:List Go.V.Item} {i nw:Nat} {f:Nat→Nat} {L:Nat→List Rat} {l:List Rat} (hl:l.length=C) (hi:i<C) (hM:SysM M (boxP s ch t A) (boxP s' ch' t' B) i f L) (hnw:3<nw) (hf:∀r,r<i→f r<nw) (hrow:M[nw]?=some (gO l))
    (e2:getE env 2=.loc 0 0 0) (e3:getE env 3=.loc 1 0 0) (e5:getE env 5=.arr 3 i) (e6:getE env 6=.int .i64 i) (e7:getE env 7=.arr nw C) (e9:getE env 9=.int .i64 0)
    (hgo:∀K,SysM K (boxP s ch t A) (boxP s' ch' t' B) i f L→K[nw]?=some (gO (l++nrmR (gridA A R C) (gridA B R C') i C'))→Mach (Go.V.Call tab E) Qx ks .nrm ⟨[(2,.loc 0 0 0),(3,.loc 1 0 0),(5,.arr 3 i),(6,.int .i64 i),(7,.arr nw (C+C')),(9,.int .i64 C'),(33,.bool false)],K⟩) :
    Mach (Go.V.Call tab E) Qx (.code (.loop [2,3,5,6,7,9] none b49_2)::.endb 4::ks) .nrm ⟨env,M⟩:=by
  have h48:=c48_ok (s:=s') (t:=t') (l:=B.map mR) (ch:=ch') hs'
  rw [c0'] at h48
  have h92:=fun (j:Nat) (hj:j<C')=>c92_ok (s:=s) (s':=s') (t:=t) (t':=t') (ch:=ch) (ch':=ch') (A:=A) (B:=B) (i:=i) (j:=j) (e:=e) hs hs' r0 c0 c0' hA hB hR hC hC' hi hj he hAs hBs hsz
  refine mLoop (fun N st=>∃(k:Nat) (K:List AObj),k≤C'∧N=C' - k∧SysM K (boxP s ch t A) (boxP s' ch' t' B) i f L∧K[nw]?=some (gO (l++nrmR (gridA A R C) (gridA B R C') i k))∧
    st=⟨[(2,.loc 0 0 0),(3,.loc 1 0 0),(5,.arr 3 i),(6,.int .i64 i),(7,.arr nw (C+k)),(9,.int .i64 k)],K⟩) C'
    ⟨_,rfl,0,M,by omega,by omega,hM,by rw [hrow];simp [nrmR],by simp only [List.map_cons,List.map_nil,e2,e3,e5,e6,e7,e9];rfl⟩ ?_
  rintro N s0 ⟨k,K,hk,rfl,hK,hKr,rfl⟩
  have k0:=hK.p0
  have k1:=hK.p1
  have hnl:=lt_of hKr
  simp only [plX,runes,ints,List.length_map] at h48 h92
  simp only [boxP,plX,runes,ints,List.length_map] at k0 k1
  by_cases hlt:k<C'
  · have hlt':(k:Int)<(C':Int):=by omega
    have hk1:IntKind.i64.wrap ((k:Int)+1)=((k+1:Nat):Int):=by rw [wrap_i64 (by omega) (by omega)];omega
    have g92:=h92 k hlt
    have hs1:nrmR (gridA A R C) (gridA B R C') i (k+1)=nrmR (gridA A R C) (gridA B R C') i k++[gram R (mxG (gridA A R C)) (mxG (gridA B R C')) i k]:=by
      rw [nrmR_succ,grid_len]
    have happ:=nrs_snoc (l:=l++nrmR (gridA A R C) (gridA B R C') i k) (a:=gram R (mxG (gridA A R C)) (mxG (gridA B R C')) i k)
    rw [List.append_assoc,←hs1] at happ
    have hln:∀k,(l++nrmR (gridA A R C) (gridA B R C') i k).length=C+k:=fun k=>by rw [List.length_append,hl,nrmR_len]
    have hKr2:=hKr
    rw [gO_eq,hln] at hKr2
    have hnx:=fun o:AObj=>getA hKr2 [o]
    have hlx:=fun o:AObj=>x_last (K:=K) o
    have hst:∀o:AObj,SysM ((K++[o]).set nw (gO (l++nrmR (gridA A R C) (gridA B R C') i (k+1)))) (boxP s ch t A) (boxP s' ch' t' B) i f L:=fun o=>(hK.app [o]).put hnw hf
    have hst2:∀o:AObj,((K++[o]).set nw (gO (l++nrmR (gridA A R C) (gridA B R C') i (k+1))))[nw]?=some (gO (l++nrmR (gridA A R C) (gridA B R C') i (k+1))):=fun o=>by rw [List.getElem?_set_self (by simp;omega)]
    have eg:gO (l++nrmR (gridA A R C) (gridA B R C') i (k+1))=⟨false,66,3,C+k+1,C+k+1,nrs (l++nrmR (gridA A R C) (gridA B R C') i (k+1)),false⟩:=by rw [gO_eq,hln];rfl
    have y1:(C+k+1)*40≤140737488355328:=by omega
    have y2:C+k+1≤140737488355328:=by omega
    generalize gram R (mxG (gridA A R C)) (mxG (gridA B R C')) i k=g at *
    clear hs1 hln
    simp only [numR3] at g92 happ
    simp only [b49_2,go_sem,FL,mapIA,k0,k1,subP4]
    refine goR h48 rfl ?_
    simp only [go_sem,FL,mapIA,k0,k1,subP4,hlt']
    refine goR g92 rfl ?_
    simp only [go_sem,FL,mapIA,hnx,hlx,List.flatten_cons,List.flatten_nil,Option.getD_some,y1,y2,happ,hk1]
    rw [←eg]
    exact loopQ_go rfl (C' - (k+1)) (by omega) ⟨k+1,_,by omega,rfl,hst _,hst2 _,rfl⟩
  · obtain rfl:k=C':=by omega
    have:=hgo K hK hKr
    simp only [b49_2,go_sem,FL,mapIA,k0,k1,subP4]
    refine goR h48 rfl ?_
    simp only [go_sem,FL,mapIA,Int.lt_irrefl]
    exact this
theorem c49_ok (hs:s.length≤8) (hs':s'.length≤8) (r0:s.getD 0 1=(R:Int)) (c0:s.getD 1 1=(C:Int)) (c0':s'.getD 1 1=(C':Int)) (hA:A.length=R*C) (hB:B.length=R*C') (hR:R≤4096) (hC:C≤4096) (hC':C'≤4096) (he:1≤e) (hAs:∀a∈A,Sz e a) (hBs:∀a∈B,Sz e a) (hsz:(2*e+1)*(R+1)≤9999) :
    Go.V.Call tab E 49 [.agg (plX s ch t (A.map mR)),.agg (plX s' ch' t' (B.map mR))] [] (.arr C 0) (sysO C (sysD (divS A B R C C'))):=by
  refine Go.V.Call.mach i49 c49 rfl rfl rfl rfl ?_
  have h48:=c48_ok (s:=s) (t:=t) (l:=A.map mR) (ch:=ch) hs
  rw [c0] at h48
  have hsys:∀i,nrmR (gridA A R C) (gridA A R C) i C++nrmR (gridA A R C) (gridA B R C') i C'=sysD (divS A B R C C') i:=fun i=>rfl
  have key:∀(env:Env) (M:List AObj),SysM M (boxP s ch t A) (boxP s' ch' t' B) 0 (fun _=>0) (sysD (divS A B R C C'))→getE env 2=.loc 0 0 0→getE env 3=.loc 1 0 0→getE env 5=.arr 3 0→getE env 6=.int .i64 0→
      Mach (Go.V.Call tab E) (Go.V.Fin i49 [] (.arr C 0) (sysO C (sysD (divS A B R C C')))) [.code (.loop [2,3,5,6] none b49_0),.endb 0,.code k49_3] .nrm ⟨env,M⟩:=fun env M hM e2 e3 e5 e6=>by
    refine mLoop (fun N st=>∃(i:Nat) (K:List AObj) (f:Nat→Nat),i≤C∧N=C - i∧SysM K (boxP s ch t A) (boxP s' ch' t' B) i f (sysD (divS A B R C C'))∧
      st=⟨[(2,.loc 0 0 0),(3,.loc 1 0 0),(5,.arr 3 i),(6,.int .i64 i)],K⟩) C
      ⟨_,rfl,0,M,_,by omega,by omega,hM,by simp only [List.map_cons,List.map_nil,e2,e3,e5,e6];rfl⟩ ?_
    rintro N s0 ⟨i,K,f,hi,rfl,hK,rfl⟩
    have k0:=hK.p0
    have k3:=lt_of hK.box
    simp only [plX,runes,ints,List.length_map] at h48
    simp only [boxP,plX,runes,ints,List.length_map] at k0
    by_cases hlt:i<C
    · have hlt':(i:Int)<(C:Int):=by omega
      have hi1:IntKind.i64.wrap ((i:Int)+1)=((i+1:Nat):Int):=by rw [wrap_i64 (by omega) (by omega)];omega
      have hf:∀r,r<i→f r<K.length:=fun r hr=>lt_of (hK.row r hr)
      simp only [b49_0,go_sem,FL,mapIA,k0,subP4]
      refine goR h48 rfl ?_
      simp only [go_sem,FL,mapIA,hlt']
      refine c49_row1 (t:=t) (ch:=ch) (e:=e) hs r0 c0 hA hR hC he hAs hsz hlt (hK.app _) (show 3<K.length by omega) hf (x_last _) rfl rfl rfl rfl rfl rfl ?_
      intro K1 hK1 hr1
      simp only [k49_1,go_sem,FL,mapIA]
      refine c49_row2 (t:=t) (ch:=ch) (t':=t') (ch':=ch') (e:=e) hs hs' r0 c0 c0' hA hB hR hC hC' he hAs hBs hsz nrmR_len hlt hK1 (show 3<K.length by omega) hf hr1 rfl rfl rfl rfl rfl rfl ?_
      intro K2 hK2 hr2
      have hw:(nrmR (gridA A R C) (gridA A R C) i C++nrmR (gridA A R C) (gridA B R C') i C').length=C+C':=by rw [List.length_append,nrmR_len,nrmR_len]
      have hadd:=fun Y=>((hK2.app Y).add (l:=nrmR (gridA A R C) (gridA A R C) i C++nrmR (gridA A R C) (gridA B R C') i C') (show 3<K.length by omega) hf (getA hr2 Y) rfl (Q0:=boxP s ch t A)).congr (L':=sysD (divS A B R C C')) (fun r hr=>by
        by_cases h:r<i
        · simp only [if_pos h]
        · obtain rfl:r=i:=by omega
          simp only [if_neg h]
          exact hsys r)
      rw [hw] at hadd
      have b3:=fun Y=>getA hK2.box Y
      have bl:=fun o:AObj=>x_last (K:=K2) o
      have y1:(i+1)*24≤140737488355328:=by omega
      have y2:i+1≤140737488355328:=by omega
      simp only [k49_0,go_sem,FL,mapIA,List.flatten_cons,List.flatten_nil,b3,bl,y1,y2]
      simp only [k49_2,go_sem,FL,mapIA,hi1]
      exact loopQ_go rfl (C - (i+1)) (by omega) ⟨i+1,_,_,by omega,rfl,hadd _,rfl⟩
    · obtain rfl:i=C:=by omega
      have ho:=hK.out
      simp only [b49_0,go_sem,FL,mapIA,k0,subP4]
      refine goR h48 rfl ?_
      simp only [k49_3,go_sem,FL,mapIA,Int.lt_irrefl]
      exact ⟨rfl,ho⟩
  have k0:SysM [boxP s ch t A,boxP s' ch' t' B,⟨true,24,1,0,0,[],false⟩,⟨true,24,1,0,0,[],false⟩] (boxP s ch t A) (boxP s' ch' t' B) 0 (fun _=>0) (sysD (divS A B R C C')):=⟨rfl,rfl,rfl,fun r hr=>by omega,fun r s hr=>by omega⟩
  have key:=fun env=>key env _ k0
  simp only [boxP,plX,runes,ints] at key
  simp only [c49,plX,runes,ints,go_sem,FL,mapIA]
  exact key _ rfl rfl rfl rfl
end
structure GrN (M:List AObj) (n b:Nat) (f:Nat→Nat) (L:Nat→List Rat):Prop where
  box:M[b]?=some ⟨true,24,1,0,n,bxC n f,false⟩
  row:∀i,i<n→∃fr,M[f i]?=some ⟨false,66,3,0,(L i).length,nrs (L i),fr⟩
theorem frz_ex {M:List AObj} {ns:List Nat} {i:Nat} {a:Bool} {ty sz g n:Nat} {cs:List AV} {fr:Bool} (h:M[i]?=some ⟨a,ty,sz,g,n,cs,fr⟩):∃fr',(Go.V.freeze ns M)[i]?=some ⟨a,ty,sz,g,n,cs,fr'⟩:=by
  unfold Go.V.freeze
  rw [List.getElem?_mapIdx,h]
  simp only [Option.map_some]
  by_cases hc:ns.contains i=true
  · rw [if_pos hc];exact ⟨_,rfl⟩
  · rw [if_neg hc];exact ⟨_,rfl⟩
theorem frz_len {M:List AObj} {ns:List Nat}:(Go.V.freeze ns M).length=M.length:=by simp [Go.V.freeze]
section
variable {M:List AObj} {n b:Nat} {f:Nat→Nat} {L:Nat→List Rat}
theorem GrN.frz (h:GrN M n b f L) {ns:List Nat} (hb:ns.contains b=false) (Y:List AObj):GrN (Go.V.freeze ns M++Y) n b f L:=
  ⟨getA (frz_get h.box hb) Y,fun i hi=>by
    obtain ⟨fr,hr⟩:=h.row i hi
    obtain ⟨fr',hr'⟩:=frz_ex (ns:=ns) hr
    exact ⟨fr',getA hr' Y⟩⟩
theorem GrN.app (h:GrN M n b f L) (Y:List AObj):GrN (M++Y) n b f L:=⟨getA h.box Y,fun i hi=>by obtain ⟨fr,hr⟩:=h.row i hi;exact ⟨fr,getA hr Y⟩⟩
theorem GrN.ne (h:GrN M n b f L) {i:Nat} (hi:i<n):f i≠b:=fun e=>by
  obtain ⟨fr,hr⟩:=h.row i hi
  rw [e,h.box] at hr
  have:=congrArg AObj.box (Option.some.inj hr)
  simp at this
theorem GrN.put (h:GrN M n b f L) {c v:Nat} {l:List Rat} {fr:Bool} (hv:M[v]?=some ⟨false,66,3,0,l.length,nrs l,fr⟩):GrN (M.set b ⟨true,24,1,0,n,bxC n (updF f c v),false⟩) n b (updF f c v) (updL L c l):=by
  have hne:v≠b:=fun e=>by
    rw [e,h.box] at hv
    have:=congrArg AObj.box (Option.some.inj hv)
    simp at this
  refine ⟨by rw [List.getElem?_set_self (lt_of h.box)],fun i hi=>?_⟩
  by_cases hic:i=c
  · subst hic
    simp only [updF,updL,if_true]
    rw [List.getElem?_set_ne hne.symm]
    exact ⟨fr,hv⟩
  · simp only [updF,updL,if_neg hic]
    rw [List.getElem?_set_ne (h.ne hi).symm]
    exact h.row i hi
theorem GrN.swap (h:GrN M n b f L) {c p:Nat} (hc:c<n) (hp:p<n):GrN (M.set b ⟨true,24,1,0,n,bxC n (swI f c p),false⟩) n b (swI f c p) (swA L c p):=by
  refine ⟨by rw [List.getElem?_set_self (lt_of h.box)],fun i hi=>?_⟩
  obtain ⟨k,hk,e⟩:=swI_in (f:=f) hc hp hi
  rw [List.getElem?_set_ne (by rw [e];exact (h.ne hk).symm)]
  unfold swI swA
  split
  · exact h.row p hp
  · split
    · exact h.row c hc
    · exact h.row i hi
theorem snap_rowN (h:GrN M n b f L) {i:Nat} (hi:i<n):snap M 10 (.arr (f i) 0)=some (.sl (L i).length 3 (nrs (L i))):=by
  obtain ⟨fr,hr⟩:=h.row i hi
  exact (snap_arr (k:=9) hr rfl).trans rfl
theorem refs_rowN (h:GrN M n b f L) {i:Nat} (hi:i<n):refs M 10 (.arr (f i) 0)=[f i]:=by
  obtain ⟨fr,hr⟩:=h.row i hi
  show f i::(match geto M (f i) 0 with|some o=>refsL M 9 o.box o.cs|none=>[])=_
  rw [geto,hr]
  rfl
theorem snap_nO {i:Nat} {l:List Rat} {fr:Bool} (h:M[i]?=some ⟨false,66,3,0,l.length,nrs l,fr⟩):snap M 10 (.arr i 0)=some (.sl l.length 3 (nrs l)):=(snap_arr (k:=9) h rfl).trans rfl
theorem refs_nO {i:Nat} {l:List Rat} {fr:Bool} (h:M[i]?=some ⟨false,66,3,0,l.length,nrs l,fr⟩):refs M 10 (.arr i 0)=[i]:=by
  show i::(match geto M i 0 with|some o=>refsL M 9 o.box o.cs|none=>[])=_
  rw [geto,h]
  rfl
theorem snap2 {env:Env} {x y:Opd} {a c:AV} (h1:snap M 10 (ev env x)=some a) (h2:snap M 10 (ev env y)=some c):[x,y].mapM (fun x=>snap M 10 (ev env x))=some [a,c]:=by
  simp only [List.mapM_cons,List.mapM_nil,h1,h2]
  rfl
theorem notin2 {env:Env} {x y:Opd} {i:Nat} (h1:i∉refs M 10 (ev env x)) (h2:i∉refs M 10 (ev env y)):([x,y].flatMap fun x=>refs M 10 (ev env x)).contains i=false:=by
  simp only [List.flatMap_cons,List.flatMap_nil,List.append_nil]
  rw [Bool.eq_false_iff]
  intro h
  have h:=List.contains_iff_mem.1 h
  rcases List.mem_append.1 h with h|h
  · exact h1 h
  · exact h2 h
theorem one_in {i j:Nat} {l:List Nat} (hl:l=[j]) (h:i≠j):i∉l:=by rw [hl];exact fun hm=>h (List.mem_singleton.1 hm)
theorem SameB.frz {d:Nat} {M0:List AObj} (h:SameB d M0 M) {ns:List Nat} (hn:∀k,k<d→ns.contains k=false) (hd:d≤M.length) (Y:List AObj):SameB d M0 (Go.V.freeze ns M++Y):=fun k hk=>by
  rw [←h k hk,List.getElem?_append_left (by rw [frz_len];omega)]
  have hkl:k<M.length:=by omega
  rw [List.getElem?_eq_getElem hkl]
  exact frz_get (List.getElem?_eq_getElem hkl) (hn k hk)
theorem c50_piv {w c k0:Nat} {env:Env} {Q:X→St→Prop} {ks:List Go.V.Item} (h:GrN M n b f L) (hl:LenD n w L) (hcw:c<w) (hc:c+k0≤n) (hn:n≤4096)
    (e0:getE env 0=.arr b 0) (e3:getE env 3=.int .i64 n) (e4:getE env 4=.int .i64 c) (e5:getE env 5=.int .i64 ((c:Int)+(k0:Int) - 1))
    (hgo:∀p:Int,(match pvD L c k0 with|none=>p=(c:Int) - 1|some q=>p=(q:Int))→Mach (Go.V.Call tab E) Q ks .nrm ⟨[(0,.arr b 0),(3,.int .i64 n),(4,.int .i64 c),(5,.int .i64 p),(32,.bool false)],M⟩) :
    Mach (Go.V.Call tab E) Q (.code (.loop [0,3,4,5] none b50_1)::.endb 2::ks) .nrm ⟨env,M⟩:=by
  have hbx:=h.box
  refine mLoop (fun N st=>∃(k:Nat) (p:Int),k≤k0∧N=k∧pvD L c k=pvD L c k0∧p=(c:Int)+(k:Int) - 1∧st=⟨[(0,.arr b 0),(3,.int .i64 n),(4,.int .i64 c),(5,.int .i64 p)],M⟩) k0
    ⟨_,rfl,k0,_,by omega,rfl,rfl,rfl,by simp only [List.map_cons,List.map_nil,e0,e3,e4,e5]⟩ ?_
  rintro k s0 ⟨_,p,hk,rfl,hpv,hp,rfl⟩
  rcases k with _|k
  · have hge:¬(c:Int)≤p:=by omega
    have:=hgo p (by rw [←hpv,pvD];show p=_;omega)
    simp only [b50_1,go_sem,hge]
    exact this
  · obtain ⟨q,hq⟩:∃q,q=c+k:=⟨_,rfl⟩
    obtain rfl:p=(q:Int):=by omega
    have hge:(c:Int)≤(q:Int):=by omega
    have hqn:(q:Int)<(n:Int):=by omega
    have hq0:(0:Int)≤(q:Int):=by omega
    have hc0:(0:Int)≤(c:Int):=by omega
    have hqn':q<n:=by omega
    obtain ⟨fr,hrow⟩:=h.row q hqn'
    have hlen:=hl q hqn'
    have hcl:(c:Int)<((L q).length:Int):=by omega
    have g1:=sub_bx (n:=n) (f:=f) hqn'
    have g2:=sub_nrs1 (l:=L q) (i:=c) (by omega)
    have eE:(L q).getD c 0=en L q c:=rfl
    rw [eE] at g2
    have hz:=dec_zeroB (r:=en L q c)
    have hstep:pvD L c (k+1)=if en L q c=0 then pvD L c k else some q:=by rw [pvD,←hq]
    by_cases h0:en L q c=0
    · rw [decide_eq_true h0] at hz
      rw [if_pos h0] at hstep
      have hp1:IntKind.i64.wrap ((q:Int) - 1)=(c:Int)+(k:Int) - 1:=by rw [wrap_i64 (by omega) (by omega)];omega
      simp only [b50_1,go_sem,FL,hbx,hge,hqn,hq0,hc0,g1,hrow,hcl,g2,hz,Int.toNat_natCast,hp1]
      exact loopQ_go rfl k (by omega) ⟨k,_,by omega,rfl,by rw [←hpv,hstep],rfl,rfl⟩
    · rw [decide_eq_false h0] at hz
      rw [if_neg h0] at hstep
      have:=hgo (q:Int) (by rw [←hpv,hstep])
      simp only [b50_1,go_sem,FL,hbx,hge,hqn,hq0,hc0,g1,hrow,hcl,g2,hz,Int.toNat_natCast]
      exact this
end
theorem numC_R {z:Int}:numC z=numR (z:Rat):=by
  simp only [numC,numR,numG,Rat.num_intCast,Rat.den_intCast,dec_one]
  rfl
theorem getFrz {M:List AObj} {ns:List Nat} {o:AObj}:(Go.V.freeze ns M++[o])[M.length]?=some o:=by
  have:=x_last (K:=Go.V.freeze ns M) o
  rwa [frz_len] at this
theorem shiftR0 {d:Nat}:shiftR d (.arr 0 0)=.arr d 0:=by simp [shiftR,shiftV]
theorem stepP_zero {a:Gd} {x:List Rat} {c:Nat}:stepP a x c 0=updL a c x:=by
  funext r
  unfold stepP updL
  by_cases h:r=c
  · rw [if_pos h,if_pos h]
  · rw [if_neg h,if_neg h,if_neg (by omega)]
theorem stepP_c {a:Gd} {x:List Rat} {c q:Nat}:stepP a x c q c=x:=by unfold stepP;rw [if_pos rfl]
theorem stepP_r {a:Gd} {x:List Rat} {c q r:Nat} (h:r≠c) (hq:q≤r):stepP a x c q r=a r:=by unfold stepP;rw [if_neg h,if_neg (by omega)]
theorem stepP_skip {a:Gd} {x:List Rat} {c:Nat}:stepP a x c (c+1)=stepP a x c c:=by
  funext r
  unfold stepP
  by_cases h:r=c
  · rw [if_pos h,if_pos h]
  · rw [if_neg h,if_neg h]
    by_cases h2:r<c
    · rw [if_pos h2,if_pos (by omega)]
    · rw [if_neg h2,if_neg (by omega)]
theorem stepP_succ {a:Gd} {x:List Rat} {c q:Nat} (h:q≠c):updL (stepP a x c q) q (rowS (a q) (rowT x (-(en a q c))))=stepP a x c (q+1):=by
  funext r
  unfold updL stepP
  by_cases h1:r=q
  · subst h1;rw [if_pos rfl,if_neg h,if_pos (by omega)]
  · rw [if_neg h1]
    by_cases h2:r=c
    · rw [if_pos h2,if_pos h2]
    · rw [if_neg h2,if_neg h2]
      by_cases h3:r<q
      · rw [if_pos h3,if_pos (by omega)]
      · rw [if_neg h3,if_neg (by omega)]
theorem rowT_Sz {x:List Rat} {q:Rat} {i j:Nat} (hx:∀a∈x,Sz i a) (hq:Sz j q):∀a∈rowT x q,Sz (i+j) a:=fun a ha=>by
  obtain ⟨y,hy,rfl⟩:=List.mem_map.1 ha
  exact (hx y hy).mul hq
section
variable {n b w:Nat}
theorem c50_elim {a:Gd} {x:List Rat} {c d Kk:Nat} {M:List AObj} {f:Nat→Nat} {env:Env} {Q:X→St→Prop} {ks:List Go.V.Item} (h:GrN M n b f (updL a c x)) (hl:LenD n w a) (hxl:x.length=w) (hc:c<n) (hcw:c<w) (hn:n≤4096) (hw4:w≤100000)
    (hx:∀v∈x,Sz Kk v) (ha:∀r,r<n→∀v∈a r,Sz Kk v) (hK:3*Kk≤9999) (hb:d≤b) (hlow:∀i,i<n→d≤f i)
    (e0:getE env 0=.arr b 0) (e3:getE env 3=.int .i64 n) (e4:getE env 4=.int .i64 c) (e9:getE env 9=.int .i64 0)
    (hgo:∀M' f',SameB d M M'→(∀i,i<n→d≤f' i)→GrN M' n b f' (stepP a x c n)→Mach (Go.V.Call tab E) Q ks .nrm ⟨[(0,.arr b 0),(3,.int .i64 n),(4,.int .i64 c),(9,.int .i64 n),(76,.bool false)],M'⟩) :
    Mach (Go.V.Call tab E) Q (.code (.loop [0,3,4,9] none b50_2)::.endb 4::ks) .nrm ⟨env,M⟩:=by
  refine mLoop (fun N st=>∃(r:Nat) (K:List AObj) (g:Nat→Nat),r≤n∧N=n - r∧SameB d M K∧(∀i,i<n→d≤g i)∧GrN K n b g (stepP a x c r)∧st=⟨[(0,.arr b 0),(3,.int .i64 n),(4,.int .i64 c),(9,.int .i64 r)],K⟩) n
    ⟨_,rfl,0,M,f,by omega,by omega,SameB.refl,hlow,by rw [stepP_zero];exact h,by simp only [List.map_cons,List.map_nil,e0,e3,e4,e9];rfl⟩ ?_
  clear h hlow
  rintro N s0 ⟨r,K,g,hr,rfl,hsm,hlow,hG,rfl⟩
  by_cases hrn:r<n
  · have hr':(r:Int)<(n:Int):=by omega
    have hr0:(0:Int)≤(r:Int):=by omega
    have hc':(c:Int)<(n:Int):=by omega
    have hc0:(0:Int)≤(c:Int):=by omega
    have hr1:IntKind.i64.wrap ((r:Int)+1)=((r+1:Nat):Int):=by rw [wrap_i64 (by omega) (by omega)];omega
    by_cases hrc:r=c
    · subst hrc
      have hne:((r:Int) != (r:Int))=false:=by simp
      simp only [b50_2,go_sem,hr',hne,hr1]
      exact loopQ_go rfl (n - (r+1)) (by omega) ⟨r+1,K,g,by omega,rfl,hsm,hlow,by rw [stepP_skip];exact hG,rfl⟩
    · have hne:((r:Int) != (c:Int))=true:=by rw [bne_iff_ne];omega
      have hbx:=hG.box
      have hbl:=lt_of hbx
      obtain ⟨fr,hrow⟩:=hG.row r hrn
      rw [stepP_r hrc (Nat.le_refl _)] at hrow
      have hlr:=hl r hrn
      have hcl:(c:Int)<((a r).length:Int):=by omega
      have g1:=sub_bx (n:=n) (f:=g) hrn
      have g2:=sub_bx (n:=n) (f:=g) hc
      have g3:=sub_nrs (l:=a r) (i:=c) (by omega)
      have eE:(a r).getD c 0=en a r c:=rfl
      rw [eE] at g3
      have hse:Sz Kk (en a r c):=ha r hrn _ (en_mem hl hrn hcw)
      have h96:=c96_ok (E:=I.E) (r:=en a r c)
      have h94:=c94_ok (x:=x) (q:=-(en a r c)) hx hse.neg (by omega) (by omega)
      have hyl:(rowT x (-(en a r c))).length=(a r).length:=by rw [rowT_len];omega
      have h95:=c95_ok (x:=a r) (y:=rowT x (-(en a r c))) (ha r hrn) (rowT_Sz hx hse.neg) hyl (by omega) (by omega)
      generalize hop1:(⟨some 100,.callO 94 [.t 91,.t 99],none⟩:IOp)=op1
      generalize hop2:(⟨some 101,.callO 95 [.t 87,.t 100],none⟩:IOp)=op2
      have sc:=snap_rowN hG hc
      rw [stepP_c] at sc
      have rc:=refs_rowN hG hc
      simp only [numR3] at h96 g3
      simp only [b50_2,hop1,hop2,go_sem,FL,hr',hr0,hc',hc0,hne,hbx,g1,g2,g3,hrow,hcl,Int.toNat_natCast,mapIA]
      refine goR h96 rfl ?_
      simp only [go_sem,FL,mapIA]
      subst hop1
      refine goO_at (vs:=[.sl x.length 3 (nrs x),.agg (numR (-(en a r c)))]) (snap2 ?_ ?_) h94 rfl rfl ?_
      · exact sc
      · rfl
      rw [shiftR0]
      have nb:∀(i:Nat),i≠g c→i∉refs K 10 (.arr (g c) 0):=fun i hi=>one_in rc hi
      refine (fun (hk:∀M2:List AObj,GrN M2 n b g (stepP a x c r)→M2.length=K.length+1→M2[K.length]?=some (nO (rowT x (-(en a r c))))→SameB d M M2→Mach _ _ _ _ ⟨_,M2⟩)=>hk _ (hG.frz (notin2 ?_ ?_) _) ?_ ?_ (hsm.frz (fun k hk=>notin2 ?_ ?_) (by omega) _)) fun M2 hG2 hl2 hy2 hs2=>?_
      · exact nb b (hG.ne hc).symm
      · exact fun h=>by cases h
      · rw [List.length_append,frz_len];rfl
      · exact getFrz
      · exact nb k (by have:=hlow c hc;omega)
      · exact fun h=>by cases h
      have sr:=snap_rowN hG2 hrn
      rw [stepP_r hrc (Nat.le_refl _)] at sr
      have rr:=refs_rowN hG2 hrn
      have sy:=snap_nO hy2
      have ry:=refs_nO hy2
      subst hop2
      refine goO_at (vs:=[.sl (a r).length 3 (nrs (a r)),.sl (rowT x (-(en a r c))).length 3 (nrs (rowT x (-(en a r c))))]) (snap2 ?_ ?_) h95 rfl rfl ?_
      · exact sr
      · exact sy
      rw [shiftR0]
      have hKb:K.length≠b:=by omega
      refine (fun (hk:∀M3:List AObj,GrN M3 n b g (stepP a x c r)→M3[M2.length]?=some (nO (rowS (a r) (rowT x (-(en a r c)))))→SameB d M M3→Mach _ _ _ _ ⟨_,M3⟩)=>hk _ (hG2.frz (notin2 ?_ ?_) _) ?_ (hs2.frz (fun k hk=>notin2 ?_ ?_) (by omega) _)) fun M3 hG3 hz3 hs3=>?_
      · exact one_in rr (hG2.ne hrn).symm
      · exact one_in ry hKb.symm
      · exact getFrz
      · exact one_in rr (by have:=hlow r hrn;omega)
      · exact one_in ry (by omega)
      have hbx3:=hG3.box
      have f1:=fill_one (cs:=bxC n g) (i:=r) (v:=.arr M2.length 0) (by rw [bxC_len];exact hrn)
      rw [bxC_upd] at f1
      have ll:r*1+1≤(bxC n g).length:=by rw [bxC_len];omega
      have hput:=hG3.put (c:=r) hz3
      rw [stepP_succ hrc] at hput
      simp only [go_sem,mapIA,hbx3,hr',hr0,Int.toNat_natCast,f1,ll,hr1]
      exact loopQ_go rfl (n - (r+1)) (by omega) ⟨r+1,_,_,by omega,rfl,hs3.set hb,fun i hi=>by
        unfold updF
        split
        · omega
        · exact hlow i hi,hput,rfl⟩
  · obtain rfl:r=n:=by omega
    have:=hgo K g hsm hlow hG
    simp only [b50_2,go_sem,Int.lt_irrefl]
    exact this
theorem c50_ok {d Kk:Nat} {M:List AObj} {f:Nat→Nat} {L:Gd} (h:GrN M n b f L) (hF:Fine n w Kk n L) (hw:n≤w) (hn:n≤4096) (hw4:w≤100000) (hK1:2≤Kk) (hK:3*Kk≤9999) (hb:d≤b) (hlow:∀i,i<n→d≤f i) :
    match redD n n L with
    | none=>∃M',Go.V.Call tab E 50 [.arr b 0] M (.bool false) M'∧SameB d M M'
    | some t=>∃M' f',Go.V.Call tab E 50 [.arr b 0] M (.bool true) M'∧SameB d M M'∧GrN M' n b f' t:=by
  obtain ⟨R,hR⟩:∃R,R=redD n n L:=⟨_,rfl⟩
  rw [←hR]
  suffices hh:Mach (Go.V.Call tab E) (fun x st=>∃r M',Go.V.Fin i50 M r M' x st∧SameB d M M'∧((R=none∧r=.bool false)∨∃t f',R=some t∧r=.bool true∧GrN M' n b f' t)) [.code c50] .nrm ⟨argsE 0 [.arr b 0],M⟩ by
    obtain ⟨x,st,h1,h4⟩:=wp_exec hh
    rw [mNil] at h4
    obtain ⟨r,M',h2,hsm,h3⟩:=h4
    have hcall:Go.V.Call tab E 50 [.arr b 0] M r M':=Go.V.Call.go i50 c50 rfl rfl rfl rfl (exec_wp h1 h2)
    rcases h3 with ⟨rfl,rfl⟩|⟨t,f',rfl,rfl,h5⟩
    · exact ⟨M',hcall,hsm⟩
    · exact ⟨M',f',hcall,hsm,h5⟩
  have hbx0:=h.box
  simp only [c50,go_sem,hbx0]
  refine mLoop (fun N st=>∃(c:Nat) (K:List AObj) (g:Nat→Nat) (a:Gd),c≤n∧N=n - c∧SameB d M K∧(∀i,i<n→d≤g i)∧redD n (n - c) a=R∧GrN K n b g a∧Fine n w Kk (n - c) a∧st=⟨[(0,.arr b 0),(3,.int .i64 n),(4,.int .i64 c)],K⟩) n
    ⟨_,rfl,0,M,f,L,by omega,by omega,SameB.refl,hlow,by rw [hR,Nat.sub_zero],h,by rw [Nat.sub_zero];exact hF,by simp [getE]⟩ ?_
  clear hbx0 h hR hlow hF
  rintro N s0 ⟨c,K,g,a,hc,rfl,hsm,hlow,hR,hG,hF,rfl⟩
  by_cases hcn:c<n
  · have hc':(c:Int)<(n:Int):=by omega
    have hc0:(0:Int)≤(c:Int):=by omega
    have hc1:IntKind.i64.wrap ((c:Int)+1)=((c+1:Nat):Int):=by rw [wrap_i64 (by omega) (by omega)];omega
    have hn1:IntKind.i64.wrap ((n:Int) - 1)=(c:Int)+((n - c:Nat):Int) - 1:=by rw [wrap_i64 (by omega) (by omega)];omega
    have hl:=hF.len
    have hsz:=hF.sz
    have hk:n - c=(n - (c+1))+1:=by omega
    have hcc:n - ((n - (c+1))+1)=c:=by omega
    rw [hk,redD,hcc] at hR
    rw [hk,Fine,hcc] at hF
    rw [←hk] at hR hF
    have hF2:=hF.2
    have hpd:=pvD_spec (a:=a) (c:=c) (k:=n - c)
    simp only [b50_0,go_sem,hc',hn1]
    refine c50_piv hG hl (show c<w by omega) (by omega) hn rfl rfl rfl rfl ?_
    intro p hp
    cases hq:pvD a c (n - c) with
    | none=>
      rw [hq] at hp hR
      have hpl:p<(c:Int):=by omega
      simp only [k50_0,go_sem,hpl]
      exact ⟨.bool false,K,⟨rfl,rfl⟩,hsm,.inl ⟨hR.symm,rfl⟩⟩
    | some q=>
      rw [hq] at hp hR hpd
      obtain rfl:p=(q:Int):=hp
      obtain ⟨q1,q2,q3⟩:=hpd
      have hqn:q<n:=by omega
      have hF3:=hF2 q hq
      have hR:redD n (n - (c+1)) (stepD n (swA a c q) c)=R:=hR
      have hpl:¬(q:Int)<(c:Int):=by omega
      have hq':(q:Int)<(n:Int):=by omega
      have hq0:(0:Int)≤(q:Int):=by omega
      have hbx:=hG.box
      have hbl:=lt_of hbx
      have gq:=sub_bx (n:=n) (f:=g) hqn
      have gc:=sub_bx (n:=n) (f:=g) hcn
      have k1:∀o:AObj,(K.set b o)[b]?=some o:=fun o=>by rw [List.getElem?_set_self hbl]
      have f1:=fill_one (cs:=bxC n g) (i:=c) (v:=.arr (g q) 0) (by rw [bxC_len];exact hcn)
      have f2:=fill_one (cs:=(bxC n g).set c (.arr (g q) 0)) (i:=q) (v:=.arr (g c) 0) (by rw [List.length_set,bxC_len];exact hqn)
      rw [bxC_swap hcn hqn] at f2
      have ll1:c*1+1≤(bxC n g).length:=by rw [bxC_len];omega
      have ll2:q*1+1≤((bxC n g).set c (.arr (g q) 0)).length:=by rw [List.length_set,bxC_len];omega
      have h36:=c36_ok (E:=I.E) (z:=1) ⟨by omega,by omega⟩
      rw [numC_R] at h36
      have e1:((1:Int):Rat)=1:=rfl
      rw [e1] at h36
      have hG2:=hG.swap hcn hqn
      have hl2:=hl.swap hcn hqn
      have hsz2:∀r,r<n→∀v∈swA a c q r,Sz Kk v:=fun r hr=>by
        unfold swA
        split
        · exact hsz q hqn
        · split
          · exact hsz c hcn
          · exact hsz r hr
      have hlow2:∀i,i<n→d≤swI g c q i:=fun i hi=>by
        obtain ⟨k,hk,e⟩:=swI_in (f:=g) hcn hqn hi
        rw [e]
        exact hlow k hk
      have hpv:en (swA a c q) c c≠0:=by
        have:swA a c q c=a q:=by unfold swA;rw [if_pos rfl]
        unfold en
        rw [this]
        exact q3
      have hstd:stepD n (swA a c q) c=stepP (swA a c q) (rowT (swA a c q c) (1/en (swA a c q) c c)) c n:=rfl
      have hx:∀v∈rowT (swA a c q c) (1/en (swA a c q) c c),Sz Kk v:=by
        have:=hF3.sz c hcn
        rw [hstd,stepP_c] at this
        exact this
      generalize swA a c q=A at *
      generalize swI g c q=G at *
      simp only [k50_0,go_sem,hpl,hbx,hc',hc0,hq',hq0,gq,gc,k1,Int.toNat_natCast,f1,f2,ll1,ll2,List.set_set]
      refine goP h36 ?_
      refine (fun (hk:∀K2:List AObj,GrN K2 n b G A→SameB d M K2→Mach _ _ _ _ ⟨_,K2⟩)=>hk _ hG2 (hsm.set hb)) fun K2 hG2 hs2=>?_
      have hbx2:=hG2.box
      have hbl2:=lt_of hbx2
      obtain ⟨fr,hrow⟩:=hG2.row c hcn
      have hlc:=hl2 c hcn
      have hcl:(c:Int)<((A c).length:Int):=by omega
      have gc2:=sub_bx (n:=n) (f:=G) hcn
      have g3:=sub_nrs (l:=A c) (i:=c) (by omega)
      have eE:(A c).getD c 0=en A c c:=rfl
      rw [eE] at g3
      have hse:Sz Kk (en A c c):=hsz2 c hcn _ (en_mem hl2 hcn (by omega))
      have s1:Sz 2 (1:Rat):=Sz.one' (Nat.le_refl _)
      have h93:=c93_ok (E:=I.E) (a:=1) (b:=en A c c) s1.sd hse.sd hpv (by omega) (by omega)
      have hso:Sz (2+Kk) (1/en A c c):=s1.div hse (fun h=>hpv (Rat.num_eq_zero.1 h))
      have h94:=c94_ok (x:=A c) (q:=1/en A c c) (hsz2 c hcn) hso (by omega) (by omega)
      generalize hop:(⟨some 72,.callO 94 [.t 70,.t 71],none⟩:IOp)=op
      have bxA:=fun Y=>getA hbx2 Y
      have x1:=fun o:AObj=>x_last (K:=K2) o
      have x2:=fun o o':AObj=>x_put (K:=K2) o o'
      simp only [numR3] at h93 g3
      simp only [numR3,hop,go_sem,FL,mapIA,hbx2,hc',hc0,gc2,hrow,hcl,g3,Int.toNat_natCast]
      refine goR h93 rfl ?_
      have hst:∀y z:Rat,fillIn (numR y) 0 (numR z)=numR z:=fun y z=>rfl
      simp only [go_sem,FL,mapIA,bxA,hc',hc0,gc2,x1,x2,Int.toNat_natCast,subT3]
      subst hop
      have hG3:=hG2.app [⟨true,66,3,0,1,numR (1/en A c c),false⟩]
      have hs3:=hs2.app (G:=[⟨true,66,3,0,1,numR (1/en A c c),false⟩]) (by omega)
      have hl3:(K2++[⟨true,66,3,0,1,numR (1/en A c c),false⟩]:List AObj).length=K2.length+1:=by simp
      simp only [numR3] at hG3 hs3 hl3
      generalize (K2++[(⟨true,66,3,0,1,[AV.bool (decide ((1/en A c c).num<0)),AV.str (dec (1/en A c c).num.natAbs),AV.str (dec (1/en A c c).den)],false⟩:AObj)])=K3 at *
      have sc:=snap_rowN hG3 hcn
      have rc:=refs_rowN hG3 hcn
      have nb:∀(i:Nat),i≠G c→i∉refs K3 10 (.arr (G c) 0):=fun i hi=>one_in rc hi
      refine goO_at (vs:=[.sl (A c).length 3 (nrs (A c)),.agg (numR (1/en A c c))]) (snap2 ?_ ?_) h94 rfl rfl ?_
      · exact sc
      · rfl
      rw [shiftR0]
      refine (fun (hk:∀M4:List AObj,GrN M4 n b G A→M4[K3.length]?=some (nO (rowT (A c) (1/en A c c)))→SameB d M M4→Mach _ _ _ _ ⟨_,M4⟩)=>hk _ (hG3.frz (notin2 ?_ ?_) _) ?_ (hs3.frz (fun k hk=>notin2 ?_ ?_) (by omega) _)) fun M4 hG4 hz4 hs4=>?_
      · exact nb b (hG3.ne hcn).symm
      · exact fun h=>by cases h
      · exact getFrz
      · exact nb k (by have:=hlow2 c hcn;omega)
      · exact fun h=>by cases h
      have hbx4:=hG4.box
      have f4:=fill_one (cs:=bxC n G) (i:=c) (v:=.arr K3.length 0) (by rw [bxC_len];exact hcn)
      rw [bxC_upd] at f4
      have ll4:c*1+1≤(bxC n G).length:=by rw [bxC_len];omega
      have hput:=hG4.put (c:=c) hz4
      simp only [go_sem,mapIA,hbx4,hc',hc0,Int.toNat_natCast,f4,ll4]
      have hlow5:∀i,i<n→d≤updF G c K3.length i:=fun i hi=>by
        unfold updF
        split
        · omega
        · exact hlow2 i hi
      refine c50_elim (d:=d) (Kk:=Kk) hput hl2 (by rw [rowT_len];exact hlc) hcn (by omega) hn hw4 hx hsz2 hK hb hlow5 rfl rfl rfl rfl ?_
      intro M5 f5 hs5 hlow6 hG5
      simp only [k50_1,go_sem,hc1]
      exact loopQ_go rfl (n - (c+1)) (by omega) ⟨c+1,M5,f5,_,by omega,rfl,fun k hk=>(hs5 k hk).trans ((hs4.set hb) k hk),hlow6,hR,hG5,hF3,rfl⟩
  · obtain rfl:c=n:=by omega
    rw [Nat.sub_self,redD] at hR
    simp only [b50_0,k50_2,go_sem,Int.lt_irrefl]
    exact ⟨.bool true,K,⟨rfl,rfl⟩,hsm,.inr ⟨a,g,hR.symm,rfl,hG⟩⟩
end
end Go.Proofs.YtlejgleocnemoabGreat.I
