/- The texts L18y L18z L18q L19a L19b L19c L18k L08d L18l L18m L18w L18x L18n L18r L19d, one behind the other. Conditions: each text's own. -/
import Derived.Test.YtlejgleocnemoabGreatG09
import Derived.Test.YtlejgleocnemoabGreatG08
import Derived.Test.YtlejgleocnemoabGreatG07
set_option linter.unusedSimpArgs false
set_option linter.unusedVariables false
namespace Go.Proofs.YtlejgleocnemoabGreat.I
open Go Go.V
attribute [local go_sem_proc ↓] reduceIte
attribute [local go_sem_proc] Nat.reduceEqDiff Nat.reduceAdd Nat.reduceMul Nat.reduceLeDiff Nat.reduceLT Int.reduceToNat Int.reduceLT Int.reduceLE reduceCtorEq Nat.reduceBEq
attribute [local go_sem] mNil nat0 beq_self_eq_true mSkip mRet mExit mReg mSeq mCond mTrue mFalse mBlock mLv mCodeE mCodeR mEndN mEndR mEndE mOps mSome mGuard mGtt mGff mGtf mGft mGu mCallP mCallR mCallF mCallO mCallZ mCallG mCallM mCallV loopQ_exit loopQ_ret mO_mov mO_newnil mO_pick mO_alloc mO_box mO_build mO_bsl mO_bslF mO_newnilB mO_bslB mO_lenB mO_appB mO_allocA mO_bslA mO_appA mO_ldb mO_faddrb mRsv mO_ldf mO_ld mO_st mO_sta mO_nilchk mO_bin mO_binb mO_binp mO_bins mO_neg mO_com mO_not mO_conv mO_mk mO_mk0 mO_mkB mO_s2b mO_b2s mO_cpy mO_cut mO_faddr mO_fld mO_iaddr mO_iaddrf mO_sidx mO_len mO_lenf mO_slen mO_scut mO_app mO_ext mO_mx mO_mn mO_mkfn evalOp cutOp argsE ev getE putE cellsOf adopt rowOf binV boolV nilV ar_add ar_sub ar_mul ar_quo ar_rem ar_eq ar_ne ar_lt ar_le ar_gt ar_ge ar_and ar_or ar_xor geto bound finRet finNrm ints List.length_cons List.length_nil List.length_append List.getElem?_cons_zero List.getElem?_cons_succ List.nil_append List.cons_append List.map_cons List.map_nil List.mapM_cons List.mapM_nil Option.map_some Option.map_none Option.bind_some Option.pure_def Option.bind_eq_bind List.drop_zero or_self or_false false_or or_true true_or true_and and_true and_self decide_true decide_false Bool.false_eq_true Bool.true_eq_false Bool.not_true Bool.not_false Nat.le_refl eq_self gt_iff_lt ge_iff_le ne_eq not_true_eq_false not_false_eq_true storeOp apartOf freeze_nil refsL refs List.flatMap_cons List.flatMap_nil List.append_nil List.contains_nil List.set_cons_zero List.set_cons_succ snap snapL fill_nums flat_nums nums_length Go.V.freeze List.mapIdx_cons List.mapIdx_nil List.contains_cons Bool.or_false Bool.false_or Bool.or_true Bool.true_or
theorem numC_R {z:Int}:numC z=numR (z:Rat):=by
  simp only [numC,numR,numG,Rat.num_intCast,Rat.den_intCast,dec_one]
  rfl
theorem getFrz {M:List AObj} {ns:List Nat} {o:AObj}:(Go.V.freeze ns M++[o])[M.length]?=some o:=by
  have:=x_last (K:=Go.V.freeze ns M) o
  rwa [frz_len] at this
theorem shiftR0 {d:Nat}:shiftR d (.arr 0 0)=.arr d 0:=by simp [shiftR,shiftV]
theorem stepP_zero {a:Gd} {x:List Rat} {c:Nat}:stepP a x c 0=updL a c x:=by
  funext r
  unfold stepP updL
  by_cases h:r=c
  · rw [if_pos h,if_pos h]
  · rw [if_neg h,if_neg h,if_neg (by omega)]
theorem stepP_c {a:Gd} {x:List Rat} {c q:Nat}:stepP a x c q c=x:=by unfold stepP;rw [if_pos rfl]
theorem stepP_r {a:Gd} {x:List Rat} {c q r:Nat} (h:r≠c) (hq:q≤r):stepP a x c q r=a r:=by unfold stepP;rw [if_neg h,if_neg (by omega)]
theorem stepP_skip {a:Gd} {x:List Rat} {c:Nat}:stepP a x c (c+1)=stepP a x c c:=by
  funext r
  unfold stepP
  by_cases h:r=c
  · rw [if_pos h,if_pos h]
  · rw [if_neg h,if_neg h]
    by_cases h2:r<c
    · rw [if_pos h2,if_pos (by omega)]
    · rw [if_neg h2,if_neg (by omega)]
theorem stepP_succ {a:Gd} {x:List Rat} {c q:Nat} (h:q≠c):updL (stepP a x c q) q (rowS (a q) (rowT x (-(en a q c))))=stepP a x c (q+1):=by
  funext r
  unfold updL stepP
  by_cases h1:r=q
  · subst h1;rw [if_pos rfl,if_neg h,if_pos (by omega)]
  · rw [if_neg h1]
    by_cases h2:r=c
    · rw [if_pos h2,if_pos h2]
    · rw [if_neg h2,if_neg h2]
      by_cases h3:r<q
      · rw [if_pos h3,if_pos (by omega)]
      · rw [if_neg h3,if_neg (by omega)]
theorem rowT_Sz {x:List Rat} {q:Rat} {i j:Nat} (hx:∀a∈x,Sz i a) (hq:Sz j q):∀a∈rowT x q,Sz (i+j) a:=fun a ha=>by
  obtain ⟨y,hy,rfl⟩:=List.mem_map.1 ha
  exact (hx y hy).mul hq
section
variable {n b w:Nat}
theorem c50_elim {a:Gd} {x:List Rat} {c d Kk:Nat} {M:List AObj} {f:Nat→Nat} {env:Env} {Q:X→St→Prop} {ks:List Go.V.Item} (h:GrN M n b f (updL a c x)) (hl:LenD n w a) (hxl:x.length=w) (hc:c<n) (hcw:c<w) (hn:n≤4096) (hw4:w≤100000)
    (hx:∀v∈x,Sz Kk v) (ha:∀r,r<n→∀v∈a r,Sz Kk v) (hK:3*Kk≤9999) (hb:d≤b) (hlow:∀i,i<n→d≤f i)
    (e0:getE env 0=.arr b 0) (e3:getE env 3=.int .i64 n) (e4:getE env 4=.int .i64 c) (e9:getE env 9=.int .i64 0)
    (hgo:∀M' f',SameB d M M'→(∀i,i<n→d≤f' i)→GrN M' n b f' (stepP a x c n)→Mach (Go.V.Call tab E) Q ks .nrm ⟨[(0,.arr b 0),(3,.int .i64 n),(4,.int .i64 c),(9,.int .i64 n),(76,.bool false)],M'⟩) :
    Mach (Go.V.Call tab E) Q (.code (.loop [0,3,4,9] none b50_2)::.endb 4::ks) .nrm ⟨env,M⟩:=by
  refine mLoop (fun N st=>∃(r:Nat) (K:List AObj) (g:Nat→Nat),r≤n∧N=n - r∧SameB d M K∧(∀i,i<n→d≤g i)∧GrN K n b g (stepP a x c r)∧st=⟨[(0,.arr b 0),(3,.int .i64 n),(4,.int .i64 c),(9,.int .i64 r)],K⟩) n
    ⟨_,rfl,0,M,f,by omega,by omega,SameB.refl,hlow,by rw [stepP_zero];exact h,by simp only [List.map_cons,List.map_nil,e0,e3,e4,e9];rfl⟩ ?_
  clear h hlow
  rintro N s0 ⟨r,K,g,hr,rfl,hsm,hlow,hG,rfl⟩
  by_cases hrn:r<n
  · have hr':(r:Int)<(n:Int):=by omega
    have hr0:(0:Int)≤(r:Int):=by omega
    have hc':(c:Int)<(n:Int):=by omega
    have hc0:(0:Int)≤(c:Int):=by omega
    have hr1:IntKind.i64.wrap ((r:Int)+1)=((r+1:Nat):Int):=by rw [wrap_i64 (by omega) (by omega)];omega
    by_cases hrc:r=c
    · subst hrc
      have hne:((r:Int) != (r:Int))=false:=by simp
      simp only [b50_2,go_sem,hr',hne,hr1]
      exact loopQ_go rfl (n - (r+1)) (by omega) ⟨r+1,K,g,by omega,rfl,hsm,hlow,by rw [stepP_skip];exact hG,rfl⟩
    · have hne:((r:Int) != (c:Int))=true:=by rw [bne_iff_ne];omega
      have hbx:=hG.box
      have hbl:=lt_of hbx
      obtain ⟨fr,hrow⟩:=hG.row r hrn
      rw [stepP_r hrc (Nat.le_refl _)] at hrow
      have hlr:=hl r hrn
      have hcl:(c:Int)<((a r).length:Int):=by omega
      have g1:=sub_bx (n:=n) (f:=g) hrn
      have g2:=sub_bx (n:=n) (f:=g) hc
      have g3:=sub_nrs (l:=a r) (i:=c) (by omega)
      have eE:(a r).getD c 0=en a r c:=rfl
      rw [eE] at g3
      have hse:Sz Kk (en a r c):=ha r hrn _ (en_mem hl hrn hcw)
      have h96:=c96_ok (E:=I.E) (r:=en a r c)
      have h94:=c94_ok (x:=x) (q:=-(en a r c)) hx hse.neg (by omega) (by omega)
      have hyl:(rowT x (-(en a r c))).length=(a r).length:=by rw [rowT_len];omega
      have h95:=c95_ok (x:=a r) (y:=rowT x (-(en a r c))) (ha r hrn) (rowT_Sz hx hse.neg) hyl (by omega) (by omega)
      generalize hop1:(⟨some 100,.callO 94 [.t 91,.t 99],none⟩:IOp)=op1
      generalize hop2:(⟨some 101,.callO 95 [.t 87,.t 100],none⟩:IOp)=op2
      have sc:=snap_rowN hG hc
      rw [stepP_c] at sc
      have rc:=refs_rowN hG hc
      simp only [numR3] at h96 g3
      simp only [b50_2,hop1,hop2,go_sem,FL,hr',hr0,hc',hc0,hne,hbx,g1,g2,g3,hrow,hcl,Int.toNat_natCast,mapIA]
      refine goR h96 rfl ?_
      simp only [go_sem,FL,mapIA]
      subst hop1
      refine goO_at (vs:=[.sl x.length 3 (nrs x),.agg (numR (-(en a r c)))]) (snap2 ?_ ?_) h94 rfl rfl ?_
      · exact sc
      · rfl
      rw [shiftR0]
      have nb:∀(i:Nat),i≠g c→i∉refs K 10 (.arr (g c) 0):=fun i hi=>one_in rc hi
      refine (fun (hk:∀M2:List AObj,GrN M2 n b g (stepP a x c r)→M2.length=K.length+1→M2[K.length]?=some (nO (rowT x (-(en a r c))))→SameB d M M2→Mach _ _ _ _ ⟨_,M2⟩)=>hk _ (hG.frz (notin2 ?_ ?_) _) ?_ ?_ (hsm.frz (fun k hk=>notin2 ?_ ?_) (by omega) _)) fun M2 hG2 hl2 hy2 hs2=>?_
      · exact nb b (hG.ne hc).symm
      · exact fun h=>by cases h
      · rw [List.length_append,frz_len];rfl
      · exact getFrz
      · exact nb k (by have:=hlow c hc;omega)
      · exact fun h=>by cases h
      have sr:=snap_rowN hG2 hrn
      rw [stepP_r hrc (Nat.le_refl _)] at sr
      have rr:=refs_rowN hG2 hrn
      have sy:=snap_nO hy2
      have ry:=refs_nO hy2
      subst hop2
      refine goO_at (vs:=[.sl (a r).length 3 (nrs (a r)),.sl (rowT x (-(en a r c))).length 3 (nrs (rowT x (-(en a r c))))]) (snap2 ?_ ?_) h95 rfl rfl ?_
      · exact sr
      · exact sy
      rw [shiftR0]
      have hKb:K.length≠b:=by omega
      refine (fun (hk:∀M3:List AObj,GrN M3 n b g (stepP a x c r)→M3[M2.length]?=some (nO (rowS (a r) (rowT x (-(en a r c)))))→SameB d M M3→Mach _ _ _ _ ⟨_,M3⟩)=>hk _ (hG2.frz (notin2 ?_ ?_) _) ?_ (hs2.frz (fun k hk=>notin2 ?_ ?_) (by omega) _)) fun M3 hG3 hz3 hs3=>?_
      · exact one_in rr (hG2.ne hrn).symm
      · exact one_in ry hKb.symm
      · exact getFrz
      · exact one_in rr (by have:=hlow r hrn;omega)
      · exact one_in ry (by omega)
      have hbx3:=hG3.box
      have f1:=fill_one (cs:=bxC n g) (i:=r) (v:=.arr M2.length 0) (by rw [bxC_len];exact hrn)
      rw [bxC_upd] at f1
      have ll:r*1+1≤(bxC n g).length:=by rw [bxC_len];omega
      have hput:=hG3.put (c:=r) hz3
      rw [stepP_succ hrc] at hput
      simp only [go_sem,mapIA,hbx3,hr',hr0,Int.toNat_natCast,f1,ll,hr1]
      exact loopQ_go rfl (n - (r+1)) (by omega) ⟨r+1,_,_,by omega,rfl,hs3.set hb,fun i hi=>by
        unfold updF
        split
        · omega
        · exact hlow i hi,hput,rfl⟩
  · obtain rfl:r=n:=by omega
    have:=hgo K g hsm hlow hG
    simp only [b50_2,go_sem,Int.lt_irrefl]
    exact this
theorem c50_ok {d Kk:Nat} {M:List AObj} {f:Nat→Nat} {L:Gd} (h:GrN M n b f L) (hF:Fine n w Kk n L) (hw:n≤w) (hn:n≤4096) (hw4:w≤100000) (hK1:2≤Kk) (hK:3*Kk≤9999) (hb:d≤b) (hlow:∀i,i<n→d≤f i) :
    match redD n n L with
    | none=>∃M',Go.V.Call tab E 50 [.arr b 0] M (.bool false) M'∧SameB d M M'
    | some t=>∃M' f',Go.V.Call tab E 50 [.arr b 0] M (.bool true) M'∧SameB d M M'∧GrN M' n b f' t:=by
  obtain ⟨R,hR⟩:∃R,R=redD n n L:=⟨_,rfl⟩
  rw [←hR]
  suffices hh:Mach (Go.V.Call tab E) (fun x st=>∃r M',Go.V.Fin i50 M r M' x st∧SameB d M M'∧((R=none∧r=.bool false)∨∃t f',R=some t∧r=.bool true∧GrN M' n b f' t)) [.code c50] .nrm ⟨argsE 0 [.arr b 0],M⟩ by
    obtain ⟨x,st,h1,h4⟩:=wp_exec hh
    rw [mNil] at h4
    obtain ⟨r,M',h2,hsm,h3⟩:=h4
    have hcall:Go.V.Call tab E 50 [.arr b 0] M r M':=Go.V.Call.go i50 c50 rfl rfl rfl rfl (exec_wp h1 h2)
    rcases h3 with ⟨rfl,rfl⟩|⟨t,f',rfl,rfl,h5⟩
    · exact ⟨M',hcall,hsm⟩
    · exact ⟨M',f',hcall,hsm,h5⟩
  have hbx0:=h.box
  simp only [c50,go_sem,hbx0]
  refine mLoop (fun N st=>∃(c:Nat) (K:List AObj) (g:Nat→Nat) (a:Gd),c≤n∧N=n - c∧SameB d M K∧(∀i,i<n→d≤g i)∧redD n (n - c) a=R∧GrN K n b g a∧Fine n w Kk (n - c) a∧st=⟨[(0,.arr b 0),(3,.int .i64 n),(4,.int .i64 c)],K⟩) n
    ⟨_,rfl,0,M,f,L,by omega,by omega,SameB.refl,hlow,by rw [hR,Nat.sub_zero],h,by rw [Nat.sub_zero];exact hF,by simp [getE]⟩ ?_
  clear hbx0 h hR hlow hF
  rintro N s0 ⟨c,K,g,a,hc,rfl,hsm,hlow,hR,hG,hF,rfl⟩
  by_cases hcn:c<n
  · have hc':(c:Int)<(n:Int):=by omega
    have hc0:(0:Int)≤(c:Int):=by omega
    have hc1:IntKind.i64.wrap ((c:Int)+1)=((c+1:Nat):Int):=by rw [wrap_i64 (by omega) (by omega)];omega
    have hn1:IntKind.i64.wrap ((n:Int) - 1)=(c:Int)+((n - c:Nat):Int) - 1:=by rw [wrap_i64 (by omega) (by omega)];omega
    have hl:=hF.len
    have hsz:=hF.sz
    have hk:n - c=(n - (c+1))+1:=by omega
    have hcc:n - ((n - (c+1))+1)=c:=by omega
    rw [hk,redD,hcc] at hR
    rw [hk,Fine,hcc] at hF
    rw [←hk] at hR hF
    have hF2:=hF.2
    have hpd:=pvD_spec (a:=a) (c:=c) (k:=n - c)
    simp only [b50_0,go_sem,hc',hn1]
    refine c50_piv hG hl (show c<w by omega) (by omega) hn rfl rfl rfl rfl ?_
    intro p hp
    cases hq:pvD a c (n - c) with
    | none=>
      rw [hq] at hp hR
      have hpl:p<(c:Int):=by omega
      simp only [k50_0,go_sem,hpl]
      exact ⟨.bool false,K,⟨rfl,rfl⟩,hsm,.inl ⟨hR.symm,rfl⟩⟩
    | some q=>
      rw [hq] at hp hR hpd
      obtain rfl:p=(q:Int):=hp
      obtain ⟨q1,q2,q3⟩:=hpd
      have hqn:q<n:=by omega
      have hF3:=hF2 q hq
      have hR:redD n (n - (c+1)) (stepD n (swA a c q) c)=R:=hR
      have hpl:¬(q:Int)<(c:Int):=by omega
      have hq':(q:Int)<(n:Int):=by omega
      have hq0:(0:Int)≤(q:Int):=by omega
      have hbx:=hG.box
      have hbl:=lt_of hbx
      have gq:=sub_bx (n:=n) (f:=g) hqn
      have gc:=sub_bx (n:=n) (f:=g) hcn
      have k1:∀o:AObj,(K.set b o)[b]?=some o:=fun o=>by rw [List.getElem?_set_self hbl]
      have f1:=fill_one (cs:=bxC n g) (i:=c) (v:=.arr (g q) 0) (by rw [bxC_len];exact hcn)
      have f2:=fill_one (cs:=(bxC n g).set c (.arr (g q) 0)) (i:=q) (v:=.arr (g c) 0) (by rw [List.length_set,bxC_len];exact hqn)
      rw [bxC_swap hcn hqn] at f2
      have ll1:c*1+1≤(bxC n g).length:=by rw [bxC_len];omega
      have ll2:q*1+1≤((bxC n g).set c (.arr (g q) 0)).length:=by rw [List.length_set,bxC_len];omega
      have h36:=c36_ok (E:=I.E) (z:=1) ⟨by omega,by omega⟩
      rw [numC_R] at h36
      have e1:((1:Int):Rat)=1:=rfl
      rw [e1] at h36
      have hG2:=hG.swap hcn hqn
      have hl2:=hl.swap hcn hqn
      have hsz2:∀r,r<n→∀v∈swA a c q r,Sz Kk v:=fun r hr=>by
        unfold swA
        split
        · exact hsz q hqn
        · split
          · exact hsz c hcn
          · exact hsz r hr
      have hlow2:∀i,i<n→d≤swI g c q i:=fun i hi=>by
        obtain ⟨k,hk,e⟩:=swI_in (f:=g) hcn hqn hi
        rw [e]
        exact hlow k hk
      have hpv:en (swA a c q) c c≠0:=by
        have:swA a c q c=a q:=by unfold swA;rw [if_pos rfl]
        unfold en
        rw [this]
        exact q3
      have hstd:stepD n (swA a c q) c=stepP (swA a c q) (rowT (swA a c q c) (1/en (swA a c q) c c)) c n:=rfl
      have hx:∀v∈rowT (swA a c q c) (1/en (swA a c q) c c),Sz Kk v:=by
        have:=hF3.sz c hcn
        rw [hstd,stepP_c] at this
        exact this
      generalize swA a c q=A at *
      generalize swI g c q=G at *
      simp only [k50_0,go_sem,hpl,hbx,hc',hc0,hq',hq0,gq,gc,k1,Int.toNat_natCast,f1,f2,ll1,ll2,List.set_set]
      refine goP h36 ?_
      refine (fun (hk:∀K2:List AObj,GrN K2 n b G A→SameB d M K2→Mach _ _ _ _ ⟨_,K2⟩)=>hk _ hG2 (hsm.set hb)) fun K2 hG2 hs2=>?_
      have hbx2:=hG2.box
      have hbl2:=lt_of hbx2
      obtain ⟨fr,hrow⟩:=hG2.row c hcn
      have hlc:=hl2 c hcn
      have hcl:(c:Int)<((A c).length:Int):=by omega
      have gc2:=sub_bx (n:=n) (f:=G) hcn
      have g3:=sub_nrs (l:=A c) (i:=c) (by omega)
      have eE:(A c).getD c 0=en A c c:=rfl
      rw [eE] at g3
      have hse:Sz Kk (en A c c):=hsz2 c hcn _ (en_mem hl2 hcn (by omega))
      have s1:Sz 2 (1:Rat):=Sz.one' (Nat.le_refl _)
      have h93:=c93_ok (E:=I.E) (a:=1) (b:=en A c c) s1.sd hse.sd hpv (by omega) (by omega)
      have hso:Sz (2+Kk) (1/en A c c):=s1.div hse (fun h=>hpv (Rat.num_eq_zero.1 h))
      have h94:=c94_ok (x:=A c) (q:=1/en A c c) (hsz2 c hcn) hso (by omega) (by omega)
      generalize hop:(⟨some 72,.callO 94 [.t 70,.t 71],none⟩:IOp)=op
      have bxA:=fun Y=>getA hbx2 Y
      have x1:=fun o:AObj=>x_last (K:=K2) o
      have x2:=fun o o':AObj=>x_put (K:=K2) o o'
      simp only [numR3] at h93 g3
      simp only [numR3,hop,go_sem,FL,mapIA,hbx2,hc',hc0,gc2,hrow,hcl,g3,Int.toNat_natCast]
      refine goR h93 rfl ?_
      have hst:∀y z:Rat,fillIn (numR y) 0 (numR z)=numR z:=fun y z=>rfl
      simp only [go_sem,FL,mapIA,bxA,hc',hc0,gc2,x1,x2,Int.toNat_natCast,subT3]
      subst hop
      have hG3:=hG2.app [⟨true,66,3,0,1,numR (1/en A c c),false⟩]
      have hs3:=hs2.app (G:=[⟨true,66,3,0,1,numR (1/en A c c),false⟩]) (by omega)
      have hl3:(K2++[⟨true,66,3,0,1,numR (1/en A c c),false⟩]:List AObj).length=K2.length+1:=by simp
      simp only [numR3] at hG3 hs3 hl3
      generalize (K2++[(⟨true,66,3,0,1,[AV.bool (decide ((1/en A c c).num<0)),AV.str (dec (1/en A c c).num.natAbs),AV.str (dec (1/en A c c).den)],false⟩:AObj)])=K3 at *
      have sc:=snap_rowN hG3 hcn
      have rc:=refs_rowN hG3 hcn
      have nb:∀(i:Nat),i≠G c→i∉refs K3 10 (.arr (G c) 0):=fun i hi=>one_in rc hi
      refine goO_at (vs:=[.sl (A c).length 3 (nrs (A c)),.agg (numR (1/en A c c))]) (snap2 ?_ ?_) h94 rfl rfl ?_
      · exact sc
      · rfl
      rw [shiftR0]
      refine (fun (hk:∀M4:List AObj,GrN M4 n b G A→M4[K3.length]?=some (nO (rowT (A c) (1/en A c c)))→SameB d M M4→Mach _ _ _ _ ⟨_,M4⟩)=>hk _ (hG3.frz (notin2 ?_ ?_) _) ?_ (hs3.frz (fun k hk=>notin2 ?_ ?_) (by omega) _)) fun M4 hG4 hz4 hs4=>?_
      · exact nb b (hG3.ne hcn).symm
      · exact fun h=>by cases h
      · exact getFrz
      · exact nb k (by have:=hlow2 c hcn;omega)
      · exact fun h=>by cases h
      have hbx4:=hG4.box
      have f4:=fill_one (cs:=bxC n G) (i:=c) (v:=.arr K3.length 0) (by rw [bxC_len];exact hcn)
      rw [bxC_upd] at f4
      have ll4:c*1+1≤(bxC n G).length:=by rw [bxC_len];omega
      have hput:=hG4.put (c:=c) hz4
      simp only [go_sem,mapIA,hbx4,hc',hc0,Int.toNat_natCast,f4,ll4]
      have hlow5:∀i,i<n→d≤updF G c K3.length i:=fun i hi=>by
        unfold updF
        split
        · omega
        · exact hlow2 i hi
      refine c50_elim (d:=d) (Kk:=Kk) hput hl2 (by rw [rowT_len];exact hlc) hcn (by omega) hn hw4 hx hsz2 hK hb hlow5 rfl rfl rfl rfl ?_
      intro M5 f5 hs5 hlow6 hG5
      simp only [k50_1,go_sem,hc1]
      exact loopQ_go rfl (n - (c+1)) (by omega) ⟨c+1,M5,f5,_,by omega,rfl,fun k hk=>(hs5 k hk).trans ((hs4.set hb) k hk),hlow6,hR,hG5,hF3,rfl⟩
  · obtain rfl:c=n:=by omega
    rw [Nat.sub_self,redD] at hR
    simp only [b50_0,k50_2,go_sem,Int.lt_irrefl]
    exact ⟨.bool true,K,⟨rfl,rfl⟩,hsm,.inr ⟨a,g,hR.symm,rfl,hG⟩⟩
end
theorem limbN {d:Rat} {K:Nat} (h:Sz K d) (h1:1≤K) (hK:K≤8640):Go.V.Call tab E 97 [.agg (numR d)] [] (.int .i64 ((rlimbs (rR d):Nat):Int)) []:=by
  have hdn:dn (rR d).2.2=d.den:=if_neg d.den_nz
  have h16:(65536:Nat)=2^16:=by decide
  obtain ⟨m,hm⟩:∃m,m=540:=⟨_,rfl⟩
  have e1:∀{k:Nat},k<2^K→k<65536^m:=fun h=>by
    rw [h16,←Nat.pow_mul];exact Nat.lt_of_lt_of_le h (Nat.pow_le_pow_right (by omega) (by omega))
  have e2:∀{k:Nat},k<2^K→(decL k).length≤1000000000:=fun h=>Nat.le_trans (decL_two h h1) (by omega)
  have:=c97_ok (E:=I.E) (x:=rR d) (m:=m) (by omega) (by omega) (e2 h.1) (by rw [hdn];exact e2 h.2) (e1 h.1) (by rw [hdn];exact e1 h.2)
  rw [hdn] at this
  exact this
def gridD (G:List (List Rat)):AV:=.sl G.length 1 (G.map fun r=>.sl r.length 3 (nrs r))
theorem sub_gridD {G:List (List Rat)} {k:Nat} (h:k<G.length):sub false 1 (G.map fun r=>AV.sl r.length 3 (nrs r)) (k*1)=some (.sl (G.getD k []).length 3 (nrs (G.getD k []))):=by
  simp only [sub,List.length_map,Nat.mul_one,Bool.false_eq_true,if_false,if_true]
  rw [if_pos (by omega),List.getElem?_map,List.getElem?_eq_getElem h]
  simp [List.getD,h]
def ansP (G:List (List Rat)) (n i:Nat):List Rat:=((G.take i).map fun r=>r.drop n).flatten
theorem ansP_succ {G:List (List Rat)} {n i:Nat} (h:i<G.length):ansP G n (i+1)=ansP G n i++(G.getD i []).drop n:=by
  unfold ansP
  rw [takeAt (d:=[]) h,List.map_append,List.flatten_append];simp
def shortD (l:List Rat) (lim:Int):Bool:=l.all fun a=>decide ((rlimbs (rR a):Int)≤lim)
theorem shortD_all {l:List Rat} {lim:Int}:shortD l lim=true↔∀a∈l,(rlimbs (rR a):Int)≤lim:=by simp [shortD,List.all_eq_true]
theorem ansP_mem {G:List (List Rat)} {n i j:Nat} (hi:i<G.length) (hj:j<((G.getD i []).drop n).length):((G.getD i []).drop n).getD j 0∈ansP G n G.length:=by
  unfold ansP
  rw [List.take_length]
  refine List.mem_flatten.2 ⟨(G.getD i []).drop n,List.mem_map.2 ⟨G.getD i [],by simp [List.getD,hi],rfl⟩,?_⟩
  generalize (G.getD i []).drop n=l at *
  simp [List.getD,hj]
theorem ansP_len {G:List (List Rat)} {n i:Nat} (hr:∀r∈G,r.length≤4096):(ansP G n i).length≤i*4096:=by
  induction i with
  | zero=>simp [ansP]
  | succ i ih=>
    by_cases h:i<G.length
    · rw [ansP_succ h,List.length_append,List.length_drop,Nat.add_mul]
      have:=hr (G.getD i []) (by simp [List.getD,h])
      omega
    · have e:ansP G n (i+1)=ansP G n i:=by unfold ansP;rw [List.take_of_length_le (by omega),List.take_of_length_le (by omega)]
      rw [e];exact Nat.le_trans ih (Nat.mul_le_mul_right _ (Nat.le_succ i))
def laidM (s:List Int) (P:List Rat):List AObj:=
  [⟨false,3,1,0,0,[],false⟩,⟨false,21,1,0,0,[],false⟩,⟨false,66,3,0,0,[],false⟩,⟨true,26,4,0,1,[.arr 0 0,.bool false,.arr 1 0,.arr 2 0],false⟩,
    ⟨false,3,1,0,0,[],false⟩,⟨false,21,1,0,0,[],false⟩,⟨false,66,3,0,0,[],false⟩,⟨true,26,4,0,1,[ints s,.bool false,.arr 8 0,.arr 9 P.length],false⟩,
    ⟨false,21,1,0,0,[],false⟩,⟨false,66,3,P.length,P.length,nrs P,false⟩]
set_option maxHeartbeats 1000000 in
theorem c51_ok {G:List (List Rat)} {s:List Int} {lim:Int} {n Kk:Nat} (hG:∀r∈G,n≤r.length∧r.length≤4096) (hS:∀r∈G,∀x∈r,Sz Kk x) (hK1:1≤Kk) (hK:Kk≤8640) (hGl:G.length≤4096) :
    Go.V.Call tab E 51 [gridD G,.int .i64 n,ints s,.int .i64 lim] [] (.tup [.agg (if shortD (ansP G n G.length) lim then plX s false [] ((ansP G n G.length).map mR) else noP),.int .i64 (if shortD (ansP G n G.length) lim then 0 else 26)]) []:=by
  refine Go.V.Call.mach i51 c51 rfl rfl rfl rfl ?_
  have h0:nrs (ansP G n 0)=[]:=rfl
  have h0l:(ansP G n 0).length=0:=rfl
  have hPl:=fun i=>ansP_len (n:=n) (i:=i) (fun r hr=>(hG r hr).2)
  simp only [c51,gridD,ints,go_sem,FL,mapIA]
  refine mLoop (fun N st=>∃i:Nat,i≤G.length∧N=G.length - i∧(∀a∈ansP G n i,(rlimbs (rR a):Int)≤lim)∧
    st=⟨[(0,gridD G),(1,.int .i64 n),(3,.int .i64 lim),(8,.loc 3 0 0),(10,.loc 7 0 0),(11,.int .i64 i)],laidM s (ansP G n i)⟩) G.length
    ⟨_,rfl,0,by omega,by omega,fun a ha=>by simp [ansP] at ha,by simp [getE,laidM,gridD,ints,h0,h0l]⟩ ?_
  rintro N s0 ⟨i,hi,rfl,hok,rfl⟩
  by_cases hiG:i<G.length
  · have hi':(i:Int)<(G.length:Int):=by omega
    have hi0:(0:Int)≤(i:Int):=by omega
    have hi1:IntKind.i64.wrap ((i:Int)+1)=((i+1:Nat):Int):=by rw [wrap_i64 (by omega) (by omega)];omega
    have g1:=sub_gridD hiG
    have hmem:G.getD i []∈G:=by simp [List.getD,hiG]
    obtain ⟨hr1,hr2⟩:=hG _ hmem
    have hrs:=hS _ hmem
    have hsu:=ansP_succ (n:=n) hiG
    have hPi:=hPl i
    have hin:=fun j hj=>ansP_mem (n:=n) (j:=j) hiG hj
    simp only [b51_0,gridD,ints,laidM,go_sem,mapIA,hi']
    generalize hr:G.getD i []=r at *
    generalize hP:ansP G n i=P at *
    have hdl:(r.drop n).length=r.length - n:=by rw [List.length_drop]
    refine mLoop (fun N st=>∃j:Nat,j≤r.length - n∧N=r.length - n - j∧(∀a∈P++(r.drop n).take j,(rlimbs (rR a):Int)≤lim)∧
      st=⟨[(0,gridD G),(1,.int .i64 n),(3,.int .i64 lim),(8,.loc 3 0 0),(10,.loc 7 0 0),(11,.int .i64 i),(12,.int .i64 ((n+j:Nat):Int))],laidM s (P++(r.drop n).take j)⟩) (r.length - n)
      ⟨_,rfl,0,by omega,by omega,by simpa using hok,by simp [getE,ints,gridD,laidM]⟩ ?_
    rintro N s0 ⟨j,hj,rfl,hok2,rfl⟩
    by_cases hjr:j<r.length - n
    · have hj':((n+j:Nat):Int)<(r.length:Int):=by omega
      have hj0:(0:Int)≤((n+j:Nat):Int):=by omega
      have hj1:IntKind.i64.wrap (((n+j:Nat):Int)+1)=((n+(j+1):Nat):Int):=by rw [wrap_i64 (by omega) (by omega)];omega
      have g2:=sub_nrs (l:=r) (i:=n+j) (by omega)
      have eD:(r.drop n).getD j 0=r.getD (n+j) 0:=by simp [List.getD]
      have htk:P++(r.drop n).take (j+1)=(P++(r.drop n).take j)++[r.getD (n+j) 0]:=by rw [takeAt (d:=0) (by rw [hdl];exact hjr),eD,List.append_assoc]
      have happ:=nrs_snoc (l:=P++(r.drop n).take j) (a:=r.getD (n+j) 0)
      rw [←htk] at happ
      have hlen:(P++(r.drop n).take (j+1)).length=(P++(r.drop n).take j).length+1:=by rw [htk,List.length_append];rfl
      have hlen2:P.length+((r.drop n).take (j+1)).length=(P++(r.drop n).take j).length+1:=by rw [←List.length_append,hlen]
      have hsz:Sz Kk (r.getD (n+j) 0):=by
        have:r.getD (n+j) 0∈r:=by simp [List.getD,show n+j<r.length by omega]
        exact hrs _ this
      have h97:=limbN hsz hK1 hK
      have hmm:=hin j (by rw [hdl];exact hjr)
      rw [eD] at hmm
      have hnew:(rlimbs (rR (r.getD (n+j) 0)):Int)≤lim→∀a∈P++(r.drop n).take (j+1),(rlimbs (rR a):Int)≤lim:=fun hlm a ha=>by
        rw [htk] at ha
        rcases List.mem_append.1 ha with ha|ha
        · exact hok2 a ha
        · obtain rfl:=List.mem_singleton.1 ha;exact hlm
      have hWl:(P++(r.drop n).take j).length≤4096*4096+4096:=by
        rw [List.length_append,List.length_take]
        have:i*4096≤4096*4096:=Nat.mul_le_mul_right _ (by omega)
        omega
      have y1:((P++(r.drop n).take j).length+1)*40≤140737488355328:=by omega
      have y2:(P++(r.drop n).take j).length+1≤140737488355328:=by omega
      clear htk
      generalize hW2:P++(r.drop n).take (j+1)=W2 at *
      generalize hW:P++(r.drop n).take j=W at *
      generalize hz:r.getD (n+j) 0=z at *
      by_cases hlm:(rlimbs (rR z):Int)≤lim
      · have hl':¬lim<((rlimbs (rR z):Nat):Int):=by omega
        have hnew:=hnew hlm
        simp only [numR3] at g2 happ h97
        simp only [b51_1,gridD,ints,laidM,go_sem,FL,mapIA,hi',hi0,g1,hj',hj0,g2,Int.toNat_natCast]
        refine goP h97 ?_
        simp only [go_sem,FL,mapIA,subP3,subP3',hi',hi0,g1,hj',hj0,g2,Int.toNat_natCast,hl',List.flatten_cons,List.flatten_nil,Option.getD_some,y1,y2,happ,hj1]
        refine loopQ_go rfl (r.length - n - (j+1)) (by omega) ⟨j+1,by omega,rfl,by rw [hW2];exact hnew,?_⟩
        rw [hW2,hlen2]
        rfl
      · have hl':lim<((rlimbs (rR z):Nat):Int):=by omega
        have hsh:shortD (ansP G n G.length) lim=false:=by
          rw [←Bool.not_eq_true,shortD_all]
          intro h
          exact hlm (h _ hmm)
        simp only [numR3] at g2 happ h97
        simp only [b51_1,gridD,ints,laidM,go_sem,FL,mapIA,hi',hi0,g1,hj',hj0,g2,Int.toNat_natCast]
        refine goP h97 ?_
        simp only [go_sem,FL,mapIA,hl',hsh]
        simp only [i51,OT,reduceIte,Nat.reduceEqDiff,subP4,noP,plX,runes]
        rfl
    · obtain rfl:j=r.length - n:=by omega
      have e1:((n+(r.length - n):Nat):Int)=(r.length:Int):=by omega
      have e2:(r.drop n).take (r.length - n)=r.drop n:=List.take_of_length_le (by rw [hdl];omega)
      rw [e2] at hok2
      simp only [b51_1,k51_0,gridD,ints,laidM,go_sem,hi',hi0,g1,Int.toNat_natCast,e1,e2,Int.lt_irrefl,hi1]
      refine loopQ_go rfl (G.length - (i+1)) (by omega) ⟨i+1,by omega,rfl,?_,?_⟩
      · rw [hsu];exact hok2
      · rw [hsu];simp [getE,ints,gridD,laidM]
  · obtain rfl:i=G.length:=by omega
    have hsh:shortD (ansP G n G.length) lim=true:=shortD_all.2 hok
    rw [hsh,if_pos rfl,if_pos rfl]
    generalize ansP G n G.length=P at *
    have e3:nmsC (P.map mR)=nrs P:=nrs_nms
    have e4:(P.map mR).length=P.length:=by rw [List.length_map]
    simp only [b51_0,k51_1,gridD,ints,laidM,go_sem,FL,subP4,Int.lt_irrefl]
    simp only [i51,OT,reduceIte,Nat.reduceEqDiff,subP4,plX,runes,e3,e4]
    rfl
theorem c13_yes {s t:List Int} {ch:Bool} {L:List Rt} (hs:(s.length:Int)≤1000000000) (ht:(t.length:Int)≤1000000000) (hl:(L.length:Int)≤1000000000) (hlk:∀x∈L,RtOk x) :
    Go.V.Call tab E 13 [.agg (arrX s ch t L),.int .i64 0,.agg (plX s ch t (L.map toNm)),.int .i64 0] [] (.bool true) []:=by
  refine Go.V.Call.mach i13 c13 rfl rfl rfl rfl ?_
  have hlm:(L.map toNm).length=L.length:=by simp
  have hu:∀x∈L.map toNm,NmU x:=fun z hz=>by
    obtain ⟨x,hx,rfl⟩:=List.mem_map.1 hz
    exact ⟨(decL_dig _).u8,(decL_dig _).u8,(hlk x hx).len.1,(hlk x hx).len.2⟩
  have h31:=c30_X (s:=s) (t:=t) (l:=L) (ch:=ch) (by omega) (by omega) (by omega) hlk
  have h29:=c28_gen (s:=s) (s':=s) (t:=t) (t':=t) (l:=L.map toNm) (l':=L.map toNm) (ch:=ch) (ch':=ch) (by omega) (by omega) (by omega) (by omega) (by omega) (by omega) hu hu
  rw [decide_eq_true ⟨rfl,rfl,rfl,rfl⟩] at h29
  simp only [plX,arrX,runes,ints] at h31 h29
  simp only [c13,plX,arrX,runes,ints,go_sem,FL,subA5,subP4,bne_self_eq_false]
  refine goP h31 ?_
  simp only [go_sem,FL,subA5,subP4]
  refine goP h29 ?_
  simp only [go_sem]
  simp only [i13,OT,reduceIte,Nat.reduceEqDiff]
theorem c13_err {e:Int} (he:e≠0):Go.V.Call tab E 13 [.agg noA,.int .i64 e,.agg noP,.int .i64 e] [] (.bool true) []:=by
  refine Go.V.Call.mach i13 c13 rfl rfl rfl rfl ?_
  have h55:=noA_len
  have hne:(e != 0)=true:=by rw [bne_iff_ne];exact he
  simp only [noA] at h55
  simp only [c13,noP,plX,noA,runes,ints,nums,nmsC,List.flatMap_nil,go_sem,FL,subA5,subP4,bne_self_eq_false,hne]
  refine goP h55 ?_
  simp only [go_sem,beq_self_eq_true]
  simp only [i13,OT,reduceIte,Nat.reduceEqDiff]
def chkB (s' t':List Int) (ch':Bool) (B:List Rat) (R R' C':Nat):Int:=
  if 2<s'.length then 23 else if (ch'&&decide (0<t'.length+B.length))=true then 22 else if R'≠R then 24 else if 32<C' then 26 else 0
theorem c10_bad {s s' t t':List Int} {ch ch':Bool} {A B:List Rat} {R C:Nat} {lim:Int} (ha:ArrM s t ch A R C) (hchk:chkE s t ch A R C≠0) :
    Go.V.Call tab E 10 [.agg (arrX s' ch' t' (B.map rR)),.agg (arrX s ch t (A.map rR)),.int .i64 lim] [] (.tup [.agg noA,.int .i64 (chkE s t ch A R C)]) []:=by
  refine Go.V.Call.mach i10 c10 rfl rfl rfl rfl ?_
  have h95:=c37_ok ha
  have hne:(chkE s t ch A R C != 0)=true:=by simpa using hchk
  generalize chkE s t ch A R C=e at *
  simp only [arrX,runes,ints] at h95
  simp only [c10,arrX,runes,ints,go_sem,FL,subA5]
  refine goP h95 ?_
  simp only [go_sem,FL,subA5,hne]
  simp only [i10,OT,reduceIte,Nat.reduceEqDiff,noA,subA5]
theorem c10_barB {s s' t t':List Int} {ch ch':Bool} {A B:List Rat} {R C R' C':Nat} {lim:Int} (ha:ArrM s t ch A R C) (hb:ArrM s' t' ch' B R' C') (hchk:chkE s t ch A R C=0) (hbar:chkB s' t' ch' B R R' C'≠0) :
    Go.V.Call tab E 10 [.agg (arrX s' ch' t' (B.map rR)),.agg (arrX s ch t (A.map rR)),.int .i64 lim] [] (.tup [.agg noA,.int .i64 (chkB s' t' ch' B R R' C')]) []:=by
  refine Go.V.Call.mach i10 c10 rfl rfl rfl rfl ?_
  have hck:=hchk
  unfold chkE at hck
  by_cases h2:2<s.length
  · rw [if_pos h2] at hck;cases hck
  rw [if_neg h2] at hck
  by_cases hbb:(ch&&decide (0<t.length+A.length))=true
  · rw [if_pos hbb] at hck;cases hck
  rw [if_neg hbb] at hck
  clear hck
  obtain ⟨hAl,rfl⟩:=ha.ok (by omega) (by simpa using hbb)
  have hal:=ha.al
  have hbl:=hb.al
  have htl:=hb.tl
  have h95:=c37_ok ha
  rw [hchk] at h95
  have h66:=c38_X (s:=s') (t:=t') (l:=B.map rR) (ch:=ch') (by have:=hb.s8;omega)
  have h68:=c39_ok (s:=s') (t:=t') (l:=B.map rR) (ch:=ch')
  have h23:=c23_X (s:=s') (t:=t') (l:=B.map rR) (ch:=ch') (by omega) (by rw [List.length_map];omega)
  have h96a:=c40_ok (s:=s) (t:=[]) (A:=A) (ch:=ch) (R:=R) (C:=C) ha.s8 ha.r0 ha.c0 hAl ha.R4 ha.C4 hal
  have hGA:gridG (gridA A R C)=.sl R 1 ((gridA A R C).map fun r=>.sl r.length 3 (rtsC (r.map rR))):=by rw [gridG,grid_len]
  rw [hGA] at h96a
  rw [List.length_map] at h23
  generalize (gridA A R C).map (fun r=>AV.sl r.length 3 (rtsC (r.map rR)))=GA at *
  by_cases k2:2<s'.length
  · have e:chkB s' t' ch' B R R' C'=23:=by unfold chkB;rw [if_pos k2]
    rw [e]
    have k2':(2:Int)<(s'.length:Int):=by omega
    simp only [arrX,runes,ints] at h95 h66
    simp only [c10,arrX,runes,ints,go_sem,FL,subA5]
    refine goP h95 ?_
    simp only [go_sem,FL,subA5,bne_self_eq_false]
    refine goP h66 ?_
    simp only [go_sem,FL,subA5,k2']
    simp only [i10,OT,reduceIte,Nat.reduceEqDiff,noA,subA5]
  have k2':¬(2:Int)<(s'.length:Int):=by omega
  by_cases kb:(ch'&&decide (0<t'.length+B.length))=true
  · have e:chkB s' t' ch' B R R' C'=22:=by unfold chkB;rw [if_neg k2,if_pos kb]
    rw [e]
    simp only [Bool.and_eq_true,decide_eq_true_eq] at kb
    obtain ⟨rfl,kb⟩:=kb
    have kb':(0:Int)<((t'.length+B.length:Nat):Int):=by omega
    simp only [arrX,runes,ints] at h95 h66 h68 h23
    simp only [c10,arrX,runes,ints,go_sem,FL,subA5]
    refine goP h95 ?_
    simp only [go_sem,FL,subA5,bne_self_eq_false]
    refine goP h66 ?_
    simp only [go_sem,FL,subA5,k2']
    refine goP h68 ?_
    simp only [go_sem,FL,subA5]
    refine goP h23 ?_
    simp only [go_sem,FL,subA5,kb']
    simp only [i10,OT,reduceIte,Nat.reduceEqDiff,noA,subA5]
  obtain ⟨hBl,rfl⟩:=hb.ok (by omega) (by simpa using kb)
  have h96b:=c40_ok (s:=s') (t:=[]) (A:=B) (ch:=ch') (R:=R') (C:=C') hb.s8 hb.r0 hb.c0 hBl hb.R4 hb.C4 hbl
  have h97b:=c41_ok (s:=s') (t:=[]) (l:=B.map rR) (ch:=ch') hb.s8
  rw [hb.c0] at h97b
  have hGB:gridG (gridA B R' C')=.sl R' 1 ((gridA B R' C').map fun r=>.sl r.length 3 (rtsC (r.map rR))):=by rw [gridG,grid_len]
  rw [hGB] at h96b
  generalize (gridA B R' C').map (fun r=>AV.sl r.length 3 (rtsC (r.map rR)))=GB at *
  have hz0:¬(ch'=true∧(0:Int)<((B.length:Nat):Int)):=fun ⟨h1,h2⟩=>kb (by rw [h1];simp;omega)
  simp only [arrX,runes,ints,List.length_nil] at h95 h66 h68 h23 h96a h96b h97b
  by_cases kr:R'=R
  · subst kr
    have k32:32<C':=by
      unfold chkB at hbar
      rw [if_neg k2,if_neg kb,if_neg (by simp)] at hbar
      by_cases h:32<C'
      · exact h
      · rw [if_neg h] at hbar;exact absurd rfl hbar
    have e:chkB s' [] ch' B R' R' C'=26:=by unfold chkB;rw [if_neg k2,if_neg kb,if_neg (by simp),if_pos k32]
    rw [e]
    have k32':(32:Int)<(C':Int):=by omega
    have hRR:((R':Int) != (R':Int))=false:=by simp
    cases ch'<;>(
      simp only [c10,arrX,runes,ints,List.length_nil,go_sem,FL,subA5]
      refine goP h95 ?_
      simp only [go_sem,FL,subA5,bne_self_eq_false]
      refine goP h66 ?_
      simp only [go_sem,FL,subA5,k2']
      refine goP h68 ?_
      simp only [go_sem,FL,subA5]
      try (refine goP h23 ?_;have hz1:¬(0:Int)<((B.length:Nat):Int):=fun h=>hz0 ⟨rfl,h⟩;simp only [go_sem,FL,subA5,hz1])
      refine goP h96b ?_
      simp only [go_sem,FL,subA5]
      refine goP h96a ?_
      simp only [go_sem,FL,subA5,hRR]
      refine goP h97b ?_
      simp only [go_sem,FL,subA5,k32']
      simp only [i10,OT,reduceIte,Nat.reduceEqDiff,noA,subA5])
  · have e:chkB s' [] ch' B R R' C'=24:=by unfold chkB;rw [if_neg k2,if_neg kb,if_pos kr]
    rw [e]
    have hRR:((R':Int) != (R:Int))=true:=by rw [bne_iff_ne];omega
    cases ch'<;>(
      simp only [c10,arrX,runes,ints,List.length_nil,go_sem,FL,subA5]
      refine goP h95 ?_
      simp only [go_sem,FL,subA5,bne_self_eq_false]
      refine goP h66 ?_
      simp only [go_sem,FL,subA5,k2']
      refine goP h68 ?_
      simp only [go_sem,FL,subA5]
      try (refine goP h23 ?_;have hz1:¬(0:Int)<((B.length:Nat):Int):=fun h=>hz0 ⟨rfl,h⟩;simp only [go_sem,FL,subA5,hz1])
      refine goP h96b ?_
      simp only [go_sem,FL,subA5]
      refine goP h96a ?_
      simp only [go_sem,FL,subA5,hRR]
      simp only [i10,OT,reduceIte,Nat.reduceEqDiff,noA,subA5])
theorem Fine.last {n w K:Nat}:∀{k:Nat} {a t:Gd},k≤n→Fine n w K k a→redD n k a=some t→LenD n w t∧∀r,r<n→∀x∈t r,Sz K x
  | 0,a,t,_,h,he=>by rw [redD] at he;cases he;exact h
  | k+1,a,t,hk,h,he=>by
    rw [redD] at he
    rw [Fine] at h
    cases hq:pvD a (n - (k+1)) (k+1) with
    | none=>rw [hq] at he;cases he
    | some p=>rw [hq] at he;exact Fine.last (by omega) (h.2 p hq) he
theorem shift_nO {d:Nat} {l:List Rat}:shiftO d (nO l)=nO l:=by simp [shiftO,nO]
theorem sysO_made {n:Nat} {L:Nat→List Rat}:((sysO n L).all made)=true:=by
  rw [List.all_eq_true]
  intro o ho
  rcases List.mem_append.1 ho with h|h
  · obtain ⟨i,_,rfl⟩:=List.mem_map.1 h
    rfl
  · obtain rfl:=List.mem_singleton.1 h
    simp only [made,Bool.not_true,Bool.false_or,List.all_eq_true]
    intro c hc
    obtain ⟨i,_,rfl⟩:=List.mem_map.1 hc
    rfl
theorem sysO_grn {Bs:List AObj} {n:Nat} {L:Nat→List Rat}:GrN (Bs++(sysO n L).map (shiftO Bs.length)) n (n+Bs.length) (fun i=>i+Bs.length) L:=by
  have h1:∀i,(Bs++(sysO n L).map (shiftO Bs.length))[i+Bs.length]?=((sysO n L).map (shiftO Bs.length))[i]?:=fun i=>by
    rw [List.getElem?_append_right (by omega)];congr 1;omega
  refine ⟨?_,fun i hi=>⟨false,?_⟩⟩
  · rw [h1,List.getElem?_map,sysO,List.getElem?_append_right (by simp)]
    simp only [List.length_map,List.length_range,Nat.sub_self,List.getElem?_cons_zero,Option.map_some,shiftO,if_true,List.map_map,bxC]
    rfl
  · rw [h1,List.getElem?_map,sysO,List.getElem?_append_left (by simp;exact hi)]
    simp [hi,shift_nO]
    rfl
section
variable {M:List AObj} {n b:Nat} {f:Nat→Nat} {L:Nat→List Rat}
theorem snap_grN (h:GrN M n b f L):snap M 10 (.arr b 0)=some (gridD ((List.range n).map L)):=by
  have e:∀i,i<n→snap M 8 (.arr (f i) 0)=some (.sl (L i).length 3 (nrs (L i))):=fun i hi=>by
    obtain ⟨fr,hr⟩:=h.row i hi
    exact (snap_arr (k:=7) hr rfl).trans rfl
  rw [snap_arr (k:=9) h.box rfl]
  have e2:snapL M 9 true (bxC n f)=(bxC n f).mapM (snap M 8):=rfl
  have e3:∀l:List Nat,(∀i∈l,i<n)→(l.map fun i=>AV.arr (f i) 0).mapM (snap M 8)=some (l.map fun i=>AV.sl (L i).length 3 (nrs (L i))):=fun l=>by
    induction l with
    | nil=>intro _;rfl
    | cons a l ih=>
      intro hl
      rw [List.map_cons,List.mapM_cons,e a (hl a (by simp)),ih (fun i hi=>hl i (by simp [hi]))]
      rfl
  rw [e2,bxC,e3 _ (fun i hi=>List.mem_range.1 hi)]
  simp only [Option.map_some,gridD,List.length_map,List.length_range,List.map_map]
  rfl
theorem refs_grN (h:GrN M n b f L) {o:AObj} {i:Nat} (hi:M[i]?=some o) (ho:o.box=true) (hb:b≠i):i∉refs M 10 (.arr b 0):=by
  have e:refs M 10 (.arr b 0)=b::(bxC n f).flatMap (refs M 8):=by
    show b::(match geto M b 0 with|some o=>refsL M 9 o.box o.cs|none=>[])=_
    rw [geto,h.box]
    rfl
  rw [e]
  intro hm
  rcases List.mem_cons.1 hm with rfl|hm
  · exact hb rfl
  obtain ⟨c,hc,hm⟩:=List.mem_flatMap.1 hm
  obtain ⟨r,hr,rfl⟩:=List.mem_map.1 hc
  have hr:=List.mem_range.1 hr
  obtain ⟨fr,hrow⟩:=h.row r hr
  have e2:refs M 8 (.arr (f r) 0)=[f r]:=by
    show f r::(match geto M (f r) 0 with|some o=>refsL M 7 o.box o.cs|none=>[])=_
    rw [geto,hrow]
    rfl
  rw [e2] at hm
  obtain rfl:=List.mem_singleton.1 hm
  rw [hrow] at hi
  obtain rfl:=Option.some.inj hi
  cases ho
end
theorem out_pag {fn:IFn} {p q i:Nat} {env:Env} {M:List AObj} {ob:AObj} {a c d:Nat} {x y z:List AV} {b:Bool} {e:Int} (hres:fn.res=[.c p true 4,.t q]) (hmd:fn.md=.pure) (hp:getE env p=.loc i 0 0) (hq:getE env q=.int .i64 e) (hM:M[i]?=some ob) (hg:ob.g=0) (hcs:ob.cs=[.sl a 1 x,.bool b,.sl c 1 y,.sl d 3 z]) :
    Out fn [] (.tup [.agg [.sl a 1 x,.bool b,.sl c 1 y,.sl d 3 z],.int .i64 e]) [] ⟨env,M⟩:=by
  unfold Out
  have h1:resOf ⟨env,M⟩ (.c p true 4)=some (.agg [.sl a 1 x,.bool b,.sl c 1 y,.sl d 3 z]):=by
    show (match getE env p with|.loc m g i=>(geto M m g).bind fun o=>sub true 4 o.cs i|_=>none)=_
    rw [hp]
    show (geto M i 0).bind _=_
    rw [geto,hM]
    simp only [hg,if_true,Option.bind_some,hcs]
    rfl
  have h2:resOf ⟨env,M⟩ (.t q)=some (.int .i64 e):=by
    show some (getE env q)=_
    rw [hq]
  have h3:resAll ⟨env,M⟩ fn.res=some (.tup [.agg [.sl a 1 x,.bool b,.sl c 1 y,.sl d 3 z],.int .i64 e]):=by
    rw [hres]
    show ([Res.c p true 4,.t q].mapM (resOf ⟨env,M⟩)).map AV.tup=_
    simp only [List.mapM_cons,List.mapM_nil,h1,h2]
    rfl
  rw [h3,hmd]
  exact ⟨rfl,rfl,rfl⟩
theorem out_noP {fn:IFn} {p q i u v w:Nat} {env:Env} {M:List AObj} {ob ou ov ow:AObj} {b:Bool} {e:Int} (hres:fn.res=[.c p true 4,.t q]) (hmd:fn.md=.pure) (hp:getE env p=.loc i 0 0) (hq:getE env q=.int .i64 e) (hM:M[i]?=some ob) (hg:ob.g=0) (hcs:ob.cs=[.arr u 0,.bool b,.arr v 0,.arr w 0])
    (hu:M[u]?=some ou) (hv:M[v]?=some ov) (hw:M[w]?=some ow) {a1 a2 a3:Nat} (eu:ou=⟨false,a1,1,0,0,[],false⟩) (ev:ov=⟨false,a2,1,0,0,[],false⟩) (ew:ow=⟨false,a3,3,0,0,[],false⟩) :
    Out fn [] (.tup [.agg [.sl 0 1 [],.bool b,.sl 0 1 [],.sl 0 3 []],.int .i64 e]) [] ⟨env,M⟩:=by
  subst eu ev ew
  unfold Out
  have h1:resOf ⟨env,M⟩ (.c p true 4)=some (.agg [.arr u 0,.bool b,.arr v 0,.arr w 0]):=by
    show (match getE env p with|.loc m g i=>(geto M m g).bind fun o=>sub true 4 o.cs i|_=>none)=_
    rw [hp]
    show (geto M i 0).bind _=_
    rw [geto,hM]
    simp only [hg,if_true,Option.bind_some,hcs]
    rfl
  have h2:resOf ⟨env,M⟩ (.t q)=some (.int .i64 e):=by
    show some (getE env q)=_
    rw [hq]
  have h3:resAll ⟨env,M⟩ fn.res=some (.tup [.agg [.arr u 0,.bool b,.arr v 0,.arr w 0],.int .i64 e]):=by
    rw [hres]
    show ([Res.c p true 4,.t q].mapM (resOf ⟨env,M⟩)).map AV.tup=_
    simp only [List.mapM_cons,List.mapM_nil,h1,h2]
    rfl
  rw [h3,hmd]
  refine ⟨rfl,rfl,?_⟩
  have s1:∀k,snap M (k+2) (.arr u 0)=some (.sl 0 1 []):=fun k=>(snap_arr (k:=k+1) hu rfl).trans rfl
  have s2:∀k,snap M (k+2) (.arr v 0)=some (.sl 0 1 []):=fun k=>(snap_arr (k:=k+1) hv rfl).trans rfl
  have s3:∀k,snap M (k+2) (.arr w 0)=some (.sl 0 3 []):=fun k=>(snap_arr (k:=k+1) hw rfl).trans rfl
  show (([AV.agg [.arr u 0,.bool b,.arr v 0,.arr w 0],.int .i64 e].mapM (snap M 8)).map AV.tup)=_
  have s4:snap M 8 (.agg [.arr u 0,.bool b,.arr v 0,.arr w 0])=some (.agg [.sl 0 1 [],.bool b,.sl 0 1 [],.sl 0 3 []]):=by
    show (([AV.arr u 0,.bool b,.arr v 0,.arr w 0].mapM (snap M 6)).map AV.agg)=_
    simp only [List.mapM_cons,List.mapM_nil,s1 4,s2 4,s3 4]
    rfl
  simp only [List.mapM_cons,List.mapM_nil,s4]
  rfl
section
variable {s s' t t':List Int} {ch ch':Bool} {A B:List Rat} {R C R' C':Nat} {lim:Int}
theorem c12_bad {l':List Nm} (ha:PagM s t ch A R C) (hchk:chkE s t ch A R C≠0) :
    Go.V.Call tab E 12 [.agg (plX s' ch' t' l'),.agg (plX s ch t (A.map mR)),.int .i64 lim] [] (.tup [.agg noP,.int .i64 (chkE s t ch A R C)]) []:=by
  refine Go.V.Call.mach i12 c12 rfl rfl rfl rfl ?_
  have h46:=c46_ok ha
  have hne:(chkE s t ch A R C != 0)=true:=by simpa using hchk
  generalize chkE s t ch A R C=e at *
  simp only [plX,runes,ints] at h46
  simp only [c12,plX,runes,ints,go_sem,FL,subP4]
  refine goP h46 ?_
  simp only [go_sem,FL,subP4,hne]
  simp only [i12,OT,reduceIte,Nat.reduceEqDiff,noP,plX,runes,subP4]
  rfl
theorem c12_barB (ha:PagM s t ch A R C) (hb:PagM s' t' ch' B R' C') (hchk:chkE s t ch A R C=0) (hbar:chkB s' t' ch' B R R' C'≠0) :
    Go.V.Call tab E 12 [.agg (plX s' ch' t' (B.map mR)),.agg (plX s ch t (A.map mR)),.int .i64 lim] [] (.tup [.agg noP,.int .i64 (chkB s' t' ch' B R R' C')]) []:=by
  refine Go.V.Call.mach i12 c12 rfl rfl rfl rfl ?_
  have h46:=c46_ok ha
  rw [hchk] at h46
  have h47:=c47_ok (s:=s) (t:=t) (l:=A.map mR) (ch:=ch) ha.arr.s8
  have h47':=c47_ok (s:=s') (t:=t') (l:=B.map mR) (ch:=ch') hb.arr.s8
  have h48':=c48_ok (s:=s') (t:=t') (l:=B.map mR) (ch:=ch') hb.arr.s8
  rw [ha.arr.r0] at h47
  rw [hb.arr.r0] at h47'
  rw [hb.arr.c0] at h48'
  have htb:(ch'&&decide (0<t'.length+B.length))=decide (0<t'.length):=by
    cases hc:ch' with
    | true=>rw [hb.nz hc];simp
    | false=>rw [hb.arr.tx hc];simp
  unfold chkB at hbar ⊢
  rw [htb] at hbar ⊢
  simp only [plX,runes,ints] at h46 h47 h47' h48'
  by_cases k2:2<s'.length
  · have k2':(2:Int)<(s'.length:Int):=by omega
    simp only [c12,plX,runes,ints,go_sem,FL,subP4]
    refine goP h46 ?_
    simp only [go_sem,FL,subP4,subP4a,bne_self_eq_false,k2']
    simp only [i12,OT,reduceIte,Nat.reduceEqDiff,noP,plX,runes,subP4,if_pos k2]
    rfl
  have k2':¬(2:Int)<(s'.length:Int):=by omega
  rw [if_neg k2] at hbar ⊢
  by_cases ht:0<t'.length
  · have ht':(0:Int)<(t'.length:Int):=by omega
    have e:(if decide (0<t'.length)=true then (22:Int) else if R'≠R then 24 else if 32<C' then 26 else 0)=22:=if_pos (by simpa using ht)
    rw [e]
    simp only [c12,plX,runes,ints,go_sem,FL,subP4]
    refine goP h46 ?_
    simp only [go_sem,FL,subP4,subP4a,subP4c,bne_self_eq_false,k2',ht']
    simp only [i12,OT,reduceIte,Nat.reduceEqDiff,noP,plX,runes,subP4]
    rfl
  have ht':¬(0:Int)<(t'.length:Int):=by omega
  rw [if_neg (by simpa using ht)] at hbar ⊢
  by_cases hr:R'≠R
  · have hr':((R':Int) != (R:Int))=true:=by rw [bne_iff_ne];omega
    rw [if_pos hr]
    simp only [c12,plX,runes,ints,go_sem,FL,subP4]
    refine goP h46 ?_
    simp only [go_sem,FL,subP4,subP4a,subP4c,bne_self_eq_false,k2',ht']
    refine goP h47' ?_
    simp only [go_sem,FL,subP4]
    refine goP h47 ?_
    simp only [go_sem,FL,subP4,hr']
    simp only [i12,OT,reduceIte,Nat.reduceEqDiff,noP,plX,runes,subP4]
    rfl
  have hr':((R':Int) != (R:Int))=false:=by rw [bne_eq_false_iff_eq];omega
  rw [if_neg hr] at hbar ⊢
  by_cases hc:32<C'
  · have hc':(32:Int)<(C':Int):=by omega
    rw [if_pos hc]
    simp only [c12,plX,runes,ints,go_sem,FL,subP4]
    refine goP h46 ?_
    simp only [go_sem,FL,subP4,subP4a,subP4c,bne_self_eq_false,k2',ht']
    refine goP h47' ?_
    simp only [go_sem,FL,subP4]
    refine goP h47 ?_
    simp only [go_sem,FL,subP4,hr']
    refine goP h48' ?_
    simp only [go_sem,FL,subP4,hc']
    simp only [i12,OT,reduceIte,Nat.reduceEqDiff,noP,plX,runes,subP4]
    rfl
  · rw [if_neg hc] at hbar
    exact absurd rfl hbar
end
def ansD (t:Gd) (C:Nat):List Rat:=ansP ((List.range C).map t) C C
theorem set5 {M Y:List AObj} {o:AObj} (h:5<M.length):((M++Y).set 5 o)[5]?=some o:=by rw [List.getElem?_set_self (by simp;omega)]
theorem set5n {M Y:List AObj} {o:AObj} {k:Nat} (h:5<M.length):((M++Y).set 5 o)[M.length+k]?=Y[k]?:=by rw [List.getElem?_set_ne (by omega)];exact getLk
set_option maxHeartbeats 2000000 in
theorem c12_core {s s' t':List Int} {ch ch':Bool} {A B:List Rat} {R C C' K:Nat} {lim:Int} (ha:PagM s [] ch A R C) (hb:PagM s' t' ch' B R C') (hchk:chkE s [] ch A R C=0) (h2':s'.length≤2) (ht':t'=[]) (hC':C'≤32) (hR:R≤32)
    (hA:∀a∈A,Sz 40 a) (hB:∀a∈B,Sz 40 a) (hK:K=3333) (hF:Fine C (C+C') K C (sysD (divS A B R C C'))) :
    Go.V.Call tab E 12 [.agg (plX s' ch' t' (B.map mR)),.agg (plX s ch [] (A.map mR)),.int .i64 lim] []
      (match redD C C (sysD (divS A B R C C')) with
      | none=>.tup [.agg noP,.int .i64 22]
      | some t=>.tup [.agg (if shortD (ansD t C) lim then plX (divSh s s' C C') false [] ((ansD t C).map mR) else noP),.int .i64 (if shortD (ansD t C) lim then 0 else 26)]) []:=by
  subst ht'
  refine Go.V.Call.mach i12 c12 rfl rfl rfl rfl ?_
  have hck:=hchk
  unfold chkE at hck
  by_cases h2:2<s.length
  · rw [if_pos h2] at hck;cases hck
  rw [if_neg h2] at hck
  by_cases hbb:(ch&&decide (0<([]:List Int).length+A.length))=true
  · rw [if_pos hbb] at hck;cases hck
  rw [if_neg hbb] at hck
  by_cases hRC:R<C
  · rw [if_pos hRC] at hck;cases hck
  clear hck
  obtain ⟨hAl,_⟩:=ha.arr.ok (by omega) (by simpa using hbb)
  have hBl:B.length=R*C':=by have:=hb.arr.len h2';simpa using this
  have h46:=c46_ok ha
  rw [hchk] at h46
  have h47:=c47_ok (s:=s) (t:=[]) (l:=A.map mR) (ch:=ch) ha.arr.s8
  have h47':=c47_ok (s:=s') (t:=[]) (l:=B.map mR) (ch:=ch') hb.arr.s8
  have h48:=c48_ok (s:=s) (t:=[]) (l:=A.map mR) (ch:=ch) ha.arr.s8
  have h48':=c48_ok (s:=s') (t:=[]) (l:=B.map mR) (ch:=ch') hb.arr.s8
  rw [ha.arr.r0] at h47
  rw [hb.arr.r0] at h47'
  rw [ha.arr.c0] at h48
  rw [hb.arr.c0] at h48'
  have hsz:(2*40+1)*(R+1)≤9999:=by omega
  have h49:=c49_ok (s:=s) (s':=s') (t:=[]) (t':=[]) (ch:=ch) (ch':=ch') (e:=40) ha.arr.s8 hb.arr.s8 ha.arr.r0 ha.arr.c0 hb.arr.c0 hAl hBl (by omega) (by omega) (by omega) (by omega) hA hB hsz
  have h50:=fun (Bs:List AObj) (hd:Bs.length=6)=>c50_ok (d:=6) (Kk:=K) (b:=C+Bs.length) (sysO_grn (Bs:=Bs) (n:=C) (L:=sysD (divS A B R C C'))) hF (by omega) (by omega) (by omega) (by omega) (by omega) (by omega) (fun i _=>by omega)
  have h51:=fun (t:Gd) (he:redD C C (sysD (divS A B R C C'))=some t)=>c51_ok (G:=(List.range C).map t) (s:=divSh s s' C C') (lim:=lim) (n:=C) (Kk:=K) (fun r hr=>by
    obtain ⟨i,hi,rfl⟩:=List.mem_map.1 hr
    have:=(hF.last (Nat.le_refl _) he).1 i (List.mem_range.1 hi)
    omega) (fun r hr=>by
    obtain ⟨i,hi,rfl⟩:=List.mem_map.1 hr
    exact (hF.last (Nat.le_refl _) he).2 i (List.mem_range.1 hi)) (by omega) (by omega) (by simp;omega)
  have hgl:∀t:Gd,ansP ((List.range C).map t) C ((List.range C).map t).length=ansD t C:=fun t=>by rw [List.length_map,List.length_range];rfl
  have k2:¬(2:Int)<(s'.length:Int):=by omega
  have hRR:((R:Int) != (R:Int))=false:=by simp
  have h32c:¬(32:Int)<(C':Int):=by omega
  have h0:¬(0:Int)<((0:Nat):Int):=by omega
  simp only [plX,runes,ints,List.length_nil,nums_nilA] at h46 h47 h47' h48 h48' h49
  have hsm6:∀{a b:List AObj},SameB 6 a b→5<a.length→5<b.length:=fun h hl=>by
    have:=h 5 (by omega)
    rw [List.getElem?_eq_getElem hl] at this
    exact lt_of this
  have step:∀(Q:X→St→Prop) (hq:Q=Go.V.Fin i12 [] (match redD C C (sysD (divS A B R C C')) with
      | none=>.tup [.agg noP,.int .i64 22]
      | some t=>.tup [.agg (if shortD (ansD t C) lim then plX (divSh s s' C C') false [] ((ansD t C).map mR) else noP),.int .i64 (if shortD (ansD t C) lim then 0 else 26)]) []),Mach (Go.V.Call tab E) Q [.code c12] .nrm ⟨argsE 0 [.agg (plX s' ch' [] (B.map mR)),.agg (plX s ch [] (A.map mR)),.int .i64 lim],[]⟩:=fun Q hQ=>by
    simp only [c12,plX,runes,ints,List.length_nil,nums_nilA,go_sem,FL,subP4]
    refine goP h46 ?_
    simp only [go_sem,FL,subP4,subP4a,subP4c,bne_self_eq_false,k2,h0]
    refine goP h47' ?_
    simp only [go_sem,FL,subP4]
    refine goP h47 ?_
    simp only [go_sem,FL,subP4,hRR]
    refine goP h48' ?_
    simp only [go_sem,FL,subP4,h32c]
    refine goB h49 sysO_made rfl ?_
    simp only [go_sem,FL,mapIA,subP4]
    subst hQ
    cases hr:redD C C (sysD (divS A B R C C')) with
    | none=>
      simp only [hr] at h50 ⊢
      refine goM_ex (h50 [_,_,_,_,_,_] rfl) fun M' hsm=>?_
      have h5:=hsm6 hsm (by simp)
      have m5:=hsm 5 (by omega)
      simp only [List.cons_append,List.nil_append,List.getElem?_cons_succ,List.getElem?_cons_zero,storeOp,apartOf,freeze_nil,refsL,refs,List.flatMap_cons,List.flatMap_nil,List.append_nil,List.contains_nil,List.set_cons_zero,List.set_cons_succ,snap,snapL,fill_nums,flat_nums,nums_length] at m5
      simp only [go_sem,FL,mapIA,m5,List.append_assoc]
      exact out_noP (u:=M'.length) (v:=M'.length+1) (w:=M'.length+2) rfl rfl rfl rfl (set5 h5) rfl rfl (set5n (k:=0) h5) (set5n (k:=1) h5) (set5n (k:=2) h5) rfl rfl rfl
    | some t=>
      simp only [hr] at h50 ⊢
      have h51:=h51 t hr
      rw [hgl] at h51
      have h50s:=fun (Bs:List AObj) (hd:Bs.length=6)=>(let ⟨M',f',a,b,c⟩:=h50 Bs hd;(⟨M',a,b,f',c⟩:∃M',_∧SameB 6 _ M'∧∃f',GrN M' _ _ f' _))
      refine goM_ex (h50s [_,_,_,_,_,_] rfl) fun M' hsm=>?_
      obtain ⟨hsm,f',hG⟩:=hsm
      have h5:=hsm6 hsm (by simp)
      have m0:=hsm 0 (by omega)
      have m1:=hsm 1 (by omega)
      have m5:=hsm 5 (by omega)
      simp only [List.cons_append,List.nil_append,List.getElem?_cons_succ,List.getElem?_cons_zero,storeOp,apartOf,freeze_nil,refsL,refs,List.flatMap_cons,List.flatMap_nil,List.append_nil,List.contains_nil,List.set_cons_zero,List.set_cons_succ,snap,snapL,fill_nums,flat_nums,nums_length] at m0 m1 m5
      have n0:=fun Y=>getA m0 Y
      have n1:=fun Y=>getA m1 Y
      have n5:=fun Y=>getA m5 Y
      generalize hop:(⟨some 67,.callF 51 [.t 62,.t 64,.t 65,.t 66],none⟩:IOp)=op
      have eD:divSh s s' C C'=(if ((s.length:Int)==2)=true then [(C:Int)] else [])++if ((s'.length:Int)==2)=true then [(C':Int)] else []:=by
        have q:∀(l:List Int) (x:Int),l.length≤2→(if 1<l.length then [x] else [])=if ((l.length:Int)==2)=true then [x] else []:=fun l x hl=>by
          by_cases h:1<l.length
          · rw [if_pos h,if_pos (by rw [beq_iff_eq];omega)]
          · rw [if_neg h,if_neg (by rw [beq_iff_eq];omega)]
        rw [divSh,q s _ (by omega),q s' _ h2']
      have hb1:((s.length:Int)==2)=true∨((s.length:Int)==2)=false:=by cases ((s.length:Int)==2)<;>simp
      have hb2:((s'.length:Int)==2)=true∨((s'.length:Int)==2)=false:=by cases ((s'.length:Int)==2)<;>simp
      rcases hb1 with hl1|hl1<;>rcases hb2 with hl2|hl2<;>(
        simp only [go_sem,FL,mapIA,subP4,subP4a,m0,m1,n0,n1,hl1]
        try (refine goP h48 ?_;refine goBsl rfl ?_;simp only [go_sem,FL,mapIA,subP4,subP4a,n0,n1,getL,getLk,setL,List.append_assoc,hl2])
        try (refine goP h48' ?_;refine goBsl rfl ?_;simp only [go_sem,FL,mapIA,subP4,subP4a,n0,n1,getL,getLk,setL,List.append_assoc])
        try simp only [go_sem,FL,mapIA,subP4,subP4a,n0,n1,hl2]
        try (refine goP h48' ?_;refine goBsl rfl ?_;simp only [go_sem,FL,mapIA,subP4,subP4a,n0,n1,getL,getLk,setL,List.append_assoc])
        refine goP h48 ?_
        simp only [go_sem]
        subst hop
        refine goF_at (vs:=[gridD ((List.range C).map t),.int .i64 C,ints (divSh s s' C C'),.int .i64 lim]) (snap4 ?_ ?_ ?_ ?_) h51 ?_
        · exact snap_grN (hG.app _)
        · rfl
        · refine (snap_arr (k:=9) getL rfl).trans ?_
          rw [eD]
          simp only [hl1,hl2,if_true,if_false,Bool.false_eq_true]
          rfl
        · rfl
        refine (fun (hk:∀M3:List AObj,M3[5]?=_→Mach _ _ _ _ ⟨_,M3⟩)=>hk _ (frz_get (n5 _) (notin4 (refs_grN (hG.app _) (n5 _) rfl (by simp)) (fun h=>by cases h) (refs_row getL rfl (by omega)) (fun h=>by cases h)))) fun M3 e5=>?_
        by_cases hsb:shortD (ansD t C) lim=true<;>(
          simp only [hsb,if_true,if_false,Bool.false_eq_true,noP,plX,runes,ints,nums_nilA,nmsC,List.flatMap_nil,List.length_nil]
          simp only [go_sem,e5]
          exact out_pag rfl rfl rfl rfl (getS e5) rfl rfl))
  exact step _ rfl
section
variable {s t:List Int} {ch:Bool} {A:List Rat} {R C:Nat} {lim:Int}
end
def mA (A:List Rat) (n:Nat):Mx:=fun k i=>A.getD (k*n+i) 0
section
variable {A:List Rat} {n:Nat}
end
theorem sq_arr {A:List Rat} {n:Nat} (hn:n≤4) (hA:A.length=n*n):ArrM [(n:Int),(n:Int)] [] false A n n∧chkE [(n:Int),(n:Int)] [] false A n n=0:=by
  have hb:n*n≤16:=Nat.mul_le_mul hn hn
  refine ⟨⟨by simp,rfl,rfl,by omega,by omega,by omega,by simp,fun _=>by simp [hA],fun _=>rfl⟩,?_⟩
  unfold chkE
  rw [if_neg (by simp),if_neg (by simp),if_neg (by omega),if_neg (by omega)]
theorem sz_sq {n:Nat} (hn:n≤4):4^(n+1)*((2*200+1)*(n+1)+2)≤30000000:=by
  rcases (show n=0∨n=1∨n=2∨n=3∨n=4 by omega) with rfl|rfl|rfl|rfl|rfl<;>decide
def fr18 (neg:Bool) (n d:Int):List AV:=[.sl 1 1 [.int .u32 n],.bool neg,.sl 1 1 [.int .u32 d]]
def ar18 (s:List Int) (l:List (Bool × Int × Int)):AV:=.agg [.sl s.length 1 (s.map (.int .i64)),.bool false,.sl 0 1 [],.sl l.length 3 (l.flatMap fun x=>fr18 x.1 x.2.1 x.2.2),.bool true]
set_option maxRecDepth 100000 in
theorem aw18b:Go.V.Call tab E 10 [ar18 [] [(false,4,1)],ar18 [] [(false,8,1)],.int .i64 4] [] (.tup [ar18 [] [(false,1,2)],.int .i64 0]) []:=Go.V.Call.run (ext:=ext) (fun h=>h) (fuel:=400) (n:=40) (by kernel_rfl)
def pg18 (s:List Int) (l:List (Bool × UInt8 × UInt8)):AV:=.agg [.sl s.length 1 (s.map (.int .i64)),.bool false,.sl 0 1 [],.sl l.length 3 (l.flatMap fun x=>[AV.bool x.1,.str ⟨#[x.2.1]⟩,.str ⟨#[x.2.2]⟩])]
def fs18 (neg:Bool) (n d:Int):List AV:=[.sl 1 1 [.int .u32 n],.bool neg,.sl 1 1 [.int .u32 d]]
def as18 (s:List Int) (l:List (Bool × Int × Int)):AV:=.agg [.sl s.length 1 (s.map (.int .i64)),.bool false,.sl 0 1 [],.sl l.length 3 (l.flatMap fun x=>fs18 x.1 x.2.1 x.2.2),.bool true]
set_option maxRecDepth 100000 in
theorem aw18d:Go.V.Call tab E 13 [as18 [] [(false,1,2)],.int .i64 0,pg18 [] [(false,49,50)],.int .i64 0] [] (.bool true) []:=Go.V.Call.run (ext:=ext) (fun h=>h) (fuel:=400) (n:=40) (by kernel_rfl)
set_option maxRecDepth 100000 in
theorem aw18c:Go.V.Call tab E 13 [as18 [2,2] [(true,2,1),(false,1,1),(false,3,2),(true,1,2)],.int .i64 0,pg18 [2,2] [(true,50,49),(false,49,49),(false,51,50),(true,49,50)],.int .i64 0] [] (.bool true) []:=Go.V.Call.run (ext:=ext) (fun h=>h) (fuel:=400) (n:=40) (by kernel_rfl)
theorem ax11:Go.V.Call tab E 34 [.sl 2 1 [.int .i64 2,.int .i64 2]] [] (as18 [2] [(false,2,1),(false,2,1)]) []:=Go.V.Call.run (ext:=ext) (fun h=>h) (fuel:=400) (n:=40) (by kernel_rfl)
theorem ax11b:Go.V.Call tab E 34 [.sl 4 1 [.int .i64 1,.int .i64 2,.int .i64 3,.int .i64 4]] [] (as18 [4] [(false,1,1),(false,2,1),(false,3,1),(false,4,1)]) []:=Go.V.Call.run (ext:=ext) (fun h=>h) (fuel:=400) (n:=40) (by kernel_rfl)
theorem ax29:Go.V.Call tab E 33 [as18 [2] [(false,2,1),(false,2,1)],as18 [4] [(false,1,1),(false,2,1),(false,3,1),(false,4,1)]] [] (.tup [as18 [2,2] [(false,1,1),(false,2,1),(false,3,1),(false,4,1)],.int .i64 0]) []:=Go.V.Call.run (ext:=ext) (fun h=>h) (fuel:=400) (n:=40) (by kernel_rfl)
theorem ax12:Go.V.Call tab E 35 [.int .i64 4] [] (as18 [] [(false,4,1)]) []:=Go.V.Call.run (ext:=ext) (fun h=>h) (fuel:=400) (n:=40) (by kernel_rfl)
theorem ax12b:Go.V.Call tab E 35 [.int .i64 8] [] (as18 [] [(false,8,1)]) []:=Go.V.Call.run (ext:=ext) (fun h=>h) (fuel:=400) (n:=40) (by kernel_rfl)
theorem ax58:Go.V.Call tab E 36 [.int .i64 (-2)] [] (.agg [.bool true,.str ⟨#[50]⟩,.str ⟨#[49]⟩]) []:=Go.V.Call.run (ext:=ext) (fun h=>h) (fuel:=400) (n:=40) (by kernel_rfl)
theorem ax58b:Go.V.Call tab E 36 [.int .i64 1] [] (.agg [.bool false,.str ⟨#[49]⟩,.str ⟨#[49]⟩]) []:=Go.V.Call.run (ext:=ext) (fun h=>h) (fuel:=400) (n:=40) (by kernel_rfl)
theorem ax_red:(redA 2 2 (invS [1,2,3,4] 2 2)).map (fun u=>ansL u 2 2)=some [-2,1,3/2,-1/2]:=by decide +kernel
theorem ax40:Go.V.Call tab E 14 [as18 [2,2] [(false,1,1),(false,2,1),(false,3,1),(false,4,1)],.int .i64 4] [] (.tup [as18 [2,2] [(true,2,1),(false,1,1),(false,3,2),(true,1,2)],.int .i64 0]) []:=by
  have l1:limG 1=[1]:=limG_one (d:=1) (by omega) (by omega)
  have l2:limG 2=[2]:=limG_one (d:=2) (by omega) (by omega)
  have l3:limG 3=[3]:=limG_one (d:=3) (by omega) (by omega)
  have l4:limG 4=[4]:=limG_one (d:=4) (by omega) (by omega)
  have h:=c14_core (lim:=4) (sq_arr (A:=[1,2,3,4]) (n:=2) (by omega) rfl).1 (sq_arr (A:=[1,2,3,4]) (n:=2) (by omega) rfl).2 (e:=200) (by omega) (fun a ha=>?_) (sz_sq (by omega))
  · have hm:=ax_red
    cases hr:redA 2 2 (invS [1,2,3,4] 2 2) with
    | none=>rw [hr] at hm;cases hm
    | some u=>
      rw [hr] at hm h
      have hu:ansL u 2 2=[-2,1,3/2,-1/2]:=Option.some.inj hm
      have hs:shortB [-2,1,3/2,-1/2] 4=true:=all_take.2 fun a ha=>by
        have hz:Sz 3 a:=by
          have:∀a∈([-2,1,3/2,-1/2]:List Rat),a.num.natAbs<2^3∧a.den<2^3:=by decide +kernel
          exact this a ha
        rw [rlimbs]
        have h1:(limG (rR a).2.1).length≤1:=limG_szB 1 hz.1 (by omega)
        have h2:(limG (dn (rR a).2.2)).length≤1:=by
          rw [(RV.self (r:=a)).2.2]
          exact limG_szB 1 hz.2 (by omega)
        omega
      have q1:([1,2,3,4]:List Rat).map rR=[(false,1,1),(false,2,1),(false,3,1),(false,4,1)]:=by decide +kernel
      have q2:([-2,1,3/2,-1/2]:List Rat).map rR=[(true,2,1),(false,1,1),(false,3,2),(true,1,2)]:=by decide +kernel
      simp only [hu,hs,if_true,q1,q2] at h
      simp only [arrX,ints,nums,runes,rtsC,rtC,ratG,us32,l1,l2,l3,l4,List.flatMap_cons,List.flatMap_nil] at h
      exact h
  · have:∀a∈([1,2,3,4]:List Rat),a.num.natAbs<2^3∧a.den<2^3:=by decide +kernel
    exact Sz.mono (this a ha) (by omega)
theorem c9_awake:Go.V.Call tab E 9 [] [] (.bool true) []:=by
  refine Go.V.Call.mach i9 c9 rfl rfl rfl rfl ?_
  have a1:=ax11
  have a2:=ax11b
  have a3:=ax29
  have a4:=ax12
  have a5:=ax12b
  have a6:=ax58
  have a7:=ax58b
  have a8:=ax40
  have a9:=aw18b
  have b1:=aw18c
  have b2:=aw18d
  simp only [as18,fs18,ar18,fr18,pg18,List.map_cons,List.map_nil,List.length_cons,List.length_nil,Nat.zero_add,List.flatMap_cons,List.flatMap_nil,List.cons_append,List.nil_append,List.append_nil] at a1 a2 a3 a4 a5 a8 a9 b1 b2
  simp only [Nat.reduceAdd] at a1 a2 a3 a4 a5 a8 a9 b1 b2
  simp only [c9,go_sem,FL,subA5,subP4,List.flatten_cons,List.flatten_nil,Option.getD_some,List.append_nil]
  refine goF a1 ?_
  simp only [go_sem,FL,subA5,subP4,List.flatten_cons,List.flatten_nil,Option.getD_some,List.append_nil]
  refine goF a2 ?_
  simp only [go_sem,FL,subA5,subP4,List.flatten_cons,List.flatten_nil,Option.getD_some,List.append_nil]
  refine goP a3 ?_
  simp only [go_sem,FL,subA5,subP4,List.flatten_cons,List.flatten_nil,Option.getD_some,List.append_nil]
  refine goF a8 ?_
  simp only [go_sem,FL,subA5,subP4,List.flatten_cons,List.flatten_nil,Option.getD_some,List.append_nil]
  refine goP a4 ?_
  simp only [go_sem,FL,subA5]
  refine goP a5 ?_
  simp only [go_sem,FL,subA5]
  refine goP a9 ?_
  simp only [go_sem,FL,subA5,subP4,List.flatten_cons,List.flatten_nil,Option.getD_some,List.append_nil]
  refine goP a6 ?_
  simp only [go_sem,FL,subA5]
  refine goP a7 ?_
  simp only [go_sem,FL,subA5,subP4,List.flatten_cons,List.flatten_nil,Option.getD_some,List.append_nil]
  refine goR b1 rfl ?_
  simp only [go_sem,FL,subA5,subP4,List.flatten_cons,List.flatten_nil,Option.getD_some,List.append_nil]
  refine goR b2 rfl ?_
  simp only [go_sem,FL,subA5]
  simp only [i9,OT,reduceIte,Nat.reduceEqDiff]
theorem dig_lt {l:List Int} {k m:Nat} (h:Dig l) (hl:l.length≤k) (hk:10^k≤2^m):sval l<2^m:=
  Nat.lt_of_lt_of_le (sval_lt h) (Nat.le_trans (Nat.pow_le_pow_right (by omega) hl) hk)
theorem light_pag {s t:List Int} {ch:Bool} {l:List Nm} (h:LightQ s ch t l):∃(R C:Nat) (A:List Rat),PagM s t ch A R C∧l.map toRt=A.map rR∧l=A.map mR∧(∀a∈A,Sd 40 20 a)∧(s.length≤2→R*C≤40):=by
  obtain ⟨h1,l1,l2,l3,l4,hS,hR⟩:=h
  have hc:∃n:Int,count s=some n∧n=((t.length+l.length:Nat):Int):=by
    unfold Shapes at hS
    split at hS
    · exact ⟨_,hS.1,by rw [hS.2];simp⟩
    · exact ⟨_,hS.1,by rw [hS.2];simp⟩
  obtain ⟨n,hc,hn⟩:=hc
  obtain ⟨b1,b2,b3⟩:=count_bound hc
  have hp:=count_prd hc
  have hr:∀x∈l,rR (ofN (toRt x))=toRt x:=fun x hx=>by
    have:=right_red (hR x hx)
    exact ofN_rR this.2.1 this.2.2.1 this.2.2.2
  have hg:∀i,0≤s.getD i 1∧s.getD i 1≤4096:=fun i=>by
    by_cases hi:i<s.length
    · have:=b2 (s.getD i 1) (by simp [List.getD,hi])
      exact this
    · rw [show s.getD i 1=1 by simp [List.getD,show s[i]?=none from List.getElem?_eq_none (by omega)]]
      exact ⟨by omega,by omega⟩
  obtain ⟨R,hR0⟩:=Int.eq_ofNat_of_zero_le (hg 0).1
  obtain ⟨C,hC0⟩:=Int.eq_ofNat_of_zero_le (hg 1).1
  have hR4:=(hg 0).2
  have hC4:=(hg 1).2
  have hlen:s.length≤2→t.length+l.length=R*C:=fun h2=>by
    have e:prd s=(R:Int)*(C:Int):=by
      rcases s with _|⟨a,_|⟨b,_|⟨c,s⟩⟩⟩
      · simp [List.getD] at hR0 hC0
        rw [←hR0,←hC0]
        rfl
      · simp [List.getD] at hR0 hC0
        rw [←hR0,←hC0]
        rfl
      · simp [List.getD] at hR0 hC0
        rw [←hR0,←hC0]
        simp [prd]
      · simp at h2
    rw [e,hn,←Int.natCast_mul] at hp
    omega
  have hall:∀x∈l,x.2.1.length≤12∧x.2.2.length≤6:=fun x hx=>h1 x (by rw [List.take_of_length_le (by omega)];exact hx)
  refine ⟨R,C,l.map fun x=>ofN (toRt x),⟨⟨b1,hR0,hC0,by omega,by omega,by rw [List.length_map];omega,by omega,fun h2=>by rw [List.length_map];exact hlen h2,fun hf=>?_⟩,fun ht=>?_⟩,?_,?_,fun a ha=>?_,fun h2=>?_⟩
  · subst hf;exact hS.2
  · subst ht
    have:l=[]:=List.eq_nil_of_length_eq_zero hS.2
    rw [this];rfl
  · rw [List.map_map]
    exact List.map_congr_left fun x hx=>(hr x hx).symm
  · rw [List.map_map]
    conv=>lhs;rw [←List.map_id l]
    exact List.map_congr_left fun x hx=>by
      show x=toNm (rR (ofN (toRt x)))
      rw [hr x hx,back_nm (hR x hx)]
  · obtain ⟨x,hx,rfl⟩:=List.mem_map.1 ha
    have e:=hr x hx
    have k1:(ofN (toRt x)).num.natAbs=sval x.2.1:=congrArg (fun z:Rt=>z.2.1) e
    have k2:(ofN (toRt x)).den=sval x.2.2:=congrArg (fun z:Rt=>z.2.2) e
    unfold Sd
    rw [k1,k2]
    obtain ⟨g1,g2,_⟩:=hR x hx
    exact ⟨dig_lt g1.1 (hall x hx).1 (by decide),dig_lt g2.1 (hall x hx).2 (by decide)⟩
  · have:=hlen h2
    rcases s with _|_
    all_goals
      unfold Shapes at hS
      split at hS
      · have h3:=hS.2;omega
      · have h3:=hS.2;rw [h3] at this;simp at this;omega
theorem Sd.sz {r:Rat} (h:Sd 40 20 r):Sz 40 r:=⟨h.1,Nat.lt_trans h.2 (by decide)⟩
theorem sz_prog {R C:Nat} (hRC:R*C≤40) (hCR:C≤R) (hR:R≤32) (hC:C≤8):4^(C+1)*((2*40+1)*(R+1)+2)≤30000000:=by
  rcases (show C=0∨C=1∨C=2∨C=3∨C=4∨C=5∨C=6∨C=7∨C=8 by omega) with h|h|h|h|h|h|h|h|h<;>subst h<;>(have:∀a b c:Nat,a≤c→b*a≤b*c:=fun a b c h=>Nat.mul_le_mul_left b h)<;>first
    | (refine Nat.le_trans (this _ _ ((2*40+1)*33+2) (by omega)) (by decide))
    | (refine Nat.le_trans (this _ _ ((2*40+1)*21+2) (by omega)) (by decide))
    | (refine Nat.le_trans (this _ _ ((2*40+1)*9+2) (by omega)) (by decide))
    | omega
theorem pow_K {K:Nat} (h:K≤6000):2^K≤lim2000:=by
  obtain ⟨m,hm⟩:∃m,m=2000:=⟨_,rfl⟩
  have e:lim2000=10^m:=by rw [hm];rfl
  rw [e]
  have h1:2^K≤2^(3*m):=Nat.pow_le_pow_right (by omega) (by omega)
  rw [Nat.pow_mul] at h1
  exact Nat.le_trans h1 (Nat.pow_le_pow_left (by decide) m)
theorem Sz.rtok {K:Nat} {a:Rat} (h:Sz K a) (hK:K≤6000):RtOk (rR a):=⟨Nat.lt_of_lt_of_le h.1 (pow_K hK),by rw [(RV.self (r:=a)).2.2];exact Nat.lt_of_lt_of_le h.2 (pow_K hK)⟩
theorem ans_eq {t:Gd} {u:Gd × Gd} {C m:Nat} (hl:LenD C (C+m) t) (h:∀r j,r<C→j<m→en t r (C+j)=en u.2 r j/en u.1 r r):ansD t C=ansL u C m:=by
  unfold ansD ansP ansL
  congr 1
  rw [List.take_of_length_le (by simp),List.map_map]
  refine List.map_congr_left fun r hr=>?_
  have hr:=List.mem_range.1 hr
  have h1:=hl r hr
  show (t r).drop C=dvR u m r m
  refine List.ext_getElem (by rw [List.length_drop,dvR_len];omega) fun j k1 k2=>?_
  have hj:j<m:=by rw [dvR_len] at k2;exact k2
  have e1:((t r).drop C)[j]=en t r (C+j):=by
    rw [List.getElem_drop]
    unfold en
    simp [List.getD,show C+j<(t r).length by omega]
  rw [e1,h r j hr hj]
  simp [dvR,hj]
theorem ansD_Sz {t:Gd} {C m K:Nat} (hS:∀r,r<C→∀x∈t r,Sz K x):∀a∈ansD t C,Sz K a:=fun a ha=>by
  unfold ansD ansP at ha
  obtain ⟨l,hl,ha⟩:=List.mem_flatten.1 ha
  obtain ⟨r,hr,rfl⟩:=List.mem_map.1 hl
  obtain ⟨i,hi,rfl⟩:=List.mem_map.1 (List.mem_of_mem_take hr)
  exact hS i (List.mem_range.1 hi) a (List.mem_of_mem_drop ha)
theorem chk_zero {s t:List Int} {ch:Bool} {A:List Rat} {R C:Nat} (h:chkE s t ch A R C=0):s.length≤2∧(ch&&decide (0<t.length+A.length))=false∧C≤R∧R≤32∧C≤8:=by
  unfold chkE at h
  by_cases h2:2<s.length
  · rw [if_pos h2] at h;cases h
  rw [if_neg h2] at h
  by_cases hb:(ch&&decide (0<t.length+A.length))=true
  · rw [if_pos hb] at h;cases h
  rw [if_neg hb] at h
  by_cases hr:R<C
  · rw [if_pos hr] at h;cases h
  rw [if_neg hr] at h
  by_cases h3:32<R∨8<C
  · rw [if_pos h3] at h;cases h
  exact ⟨by omega,by simpa using hb,by omega,by omega,by omega⟩
theorem chkB_zero {s t:List Int} {ch:Bool} {B:List Rat} {R R' C':Nat} (h:chkB s t ch B R R' C'=0):s.length≤2∧(ch&&decide (0<t.length+B.length))=false∧R'=R∧C'≤32:=by
  unfold chkB at h
  by_cases h2:2<s.length
  · rw [if_pos h2] at h;cases h
  rw [if_neg h2] at h
  by_cases hb:(ch&&decide (0<t.length+B.length))=true
  · rw [if_pos hb] at h;cases h
  rw [if_neg hb] at h
  by_cases hr:R'≠R
  · rw [if_pos hr] at h;cases h
  rw [if_neg hr] at h
  by_cases h3:32<C'
  · rw [if_pos h3] at h;cases h
  exact ⟨by omega,by simpa using hb,by omega,by omega⟩
def ArrG (o:List AV):Prop:=∃a x b c y d z w,o=[.sl a 1 x,.bool b,.sl c 1 y,.sl d 3 z,.bool w]
def PagG (o:List AV):Prop:=∃a x b c y d z,o=[.sl a 1 x,.bool b,.sl c 1 y,.sl d 3 z]
theorem div_shows {s t s' t':List Int} {ch ch':Bool} {A B:List Rat} {R C R' C':Nat} {lim:Int} (ha:PagM s t ch A R C) (hb:PagM s' t' ch' B R' C') (hA:∀a∈A,Sd 40 20 a) (hB:∀a∈B,Sd 40 20 a) (hRC:s.length≤2→R*C≤40) :
    ∃ (o:List AV) (g:List AV) (f:Int),Go.V.Call tab E 10 [.agg (arrX s' ch' t' (B.map rR)),.agg (arrX s ch t (A.map rR)),.int .i64 lim] [] (.tup [.agg o,.int .i64 f]) []∧
      Go.V.Call tab E 12 [.agg (plX s' ch' t' (B.map mR)),.agg (plX s ch t (A.map mR)),.int .i64 lim] [] (.tup [.agg g,.int .i64 f]) []∧Go.V.Call tab E 13 [.agg o,.int .i64 f,.agg g,.int .i64 f] [] (.bool true) []∧ArrG o∧PagG g:=by
  have hno:∀e:Int,e≠0→Go.V.Call tab E 13 [.agg noA,.int .i64 e,.agg noP,.int .i64 e] [] (.bool true) []:=fun e he=>c13_err he
  by_cases hchk:chkE s t ch A R C=0
  · obtain ⟨k1,k2,k3,k4,k5⟩:=chk_zero hchk
    by_cases hbar:chkB s' t' ch' B R R' C'=0
    · obtain ⟨j1,j2,rfl,j4⟩:=chkB_zero hbar
      obtain ⟨hAl,rfl⟩:=ha.arr.ok k1 k2
      obtain ⟨hBl,rfl⟩:=hb.arr.ok j1 j2
      obtain ⟨K,hK⟩:∃K,K=3333:=⟨_,rfl⟩
      have hRC:=hRC k1
      obtain ⟨hF,hred⟩:=div_both (C':=C') hRC k3 k4 k5 hK hA hB
      have hin:∀d∈divSh s s' C C',In64 d:=fun d hd=>by
        unfold divSh at hd
        rcases List.mem_append.1 hd with hd|hd
        · split at hd
          · obtain rfl:=List.mem_singleton.1 hd;exact ⟨by omega,by omega⟩
          · cases hd
        · split at hd
          · obtain rfl:=List.mem_singleton.1 hd;exact ⟨by omega,by omega⟩
          · cases hd
      have h10:=c10_core (lim:=lim) ha.arr hb.arr hchk j1 j2 j4 (show 1≤40 by omega) (fun a h=>(hA a h).sz) (fun a h=>(hB a h).sz) (sz_prog hRC k3 k4 k5) hin
      have h12:=c12_core (lim:=lim) ha hb hchk j1 rfl j4 k4 (fun a h=>(hA a h).sz) (fun a h=>(hB a h).sz) hK hF
      cases hr:redA C C (divS A B R' C C') with
      | none=>
        rw [hr] at hred h10
        rw [hred] at h12
        exact ⟨noA,noP,22,h10,h12,hno _ (by omega),⟨_,_,_,_,_,_,_,_,rfl⟩,⟨_,_,_,_,_,_,_,rfl⟩⟩
      | some u=>
        rw [hr] at hred h10
        obtain ⟨v,hv,hl,hen⟩:=hred
        rw [hv] at h12
        dsimp only at h12
        have hl2:=hF.last (Nat.le_refl _) hv
        have e:=ans_eq hl hen
        have hsz:=ansD_Sz (m:=C') hl2.2
        rw [e] at h12 hsz
        have esd:shortD (ansL u C C') lim=shortB (ansL u C C') lim:=rfl
        rw [esd] at h12
        by_cases hsb:shortB (ansL u C C') lim=true
        · simp only [hsb,if_true] at h10 h12
          refine ⟨_,_,0,h10,h12,?_,⟨_,_,_,_,_,_,_,_,rfl⟩,⟨_,_,_,_,_,_,_,rfl⟩⟩
          have hal:(ansL u C C').length≤8*32:=by rw [ansL_len];exact Nat.mul_le_mul k5 j4
          have hy:=c13_yes (s:=divSh s s' C C') (t:=[]) (ch:=false) (L:=(ansL u C C').map rR) (by unfold divSh;split<;>split<;>simp) (by simp) (by rw [List.length_map];omega) (fun x hx=>by
            obtain ⟨a,ha,rfl⟩:=List.mem_map.1 hx
            exact (hsz a ha).rtok (by omega))
          rw [List.map_map] at hy
          exact hy
        · simp only [hsb,if_false,Bool.false_eq_true] at h10 h12
          exact ⟨noA,noP,26,h10,h12,hno _ (by omega),⟨_,_,_,_,_,_,_,_,rfl⟩,⟨_,_,_,_,_,_,_,rfl⟩⟩
    · exact ⟨noA,noP,_,c10_barB ha.arr hb.arr hchk hbar,c12_barB ha hb hchk hbar,hno _ hbar,⟨_,_,_,_,_,_,_,_,rfl⟩,⟨_,_,_,_,_,_,_,rfl⟩⟩
  · exact ⟨noA,noP,_,c10_bad ha.arr hchk,c12_bad ha hchk,hno _ hchk,⟨_,_,_,_,_,_,_,_,rfl⟩,⟨_,_,_,_,_,_,_,rfl⟩⟩
section
variable {s t s' t':List Int} {ch ch':Bool} {l l':List Nm} {z:Int}
theorem light_of (hs:∀d∈s,In64 d) (hu:∀x∈l,U8 x.2.1∧U8 x.2.2) (h:LightQ s ch t l):Go.V.Call tab E 11 [.agg (plX s ch t l)] [] (.agg (arrX s ch t (l.map toRt))) []:=by
  obtain ⟨_,l1,l2,l3,l4,hR⟩:=h
  have hU:∀x∈l,NmU x:=fun x hx=>⟨(hu x hx).1,(hu x hx).2,by have:=(l4 x hx).1;omega,by have:=(l4 x hx).2;omega⟩
  exact c11_ok hs (by omega) (by omega) (by omega) hU hR
theorem c3_ok (hs:∀d∈s,In64 d) (hu:∀x∈l,U8 x.2.1∧U8 x.2.2) (hs':∀d∈s',In64 d) (hu':∀x∈l',U8 x.2.1∧U8 x.2.2) (hz:0≤z∧z≤255):Go.V.Call tab E 3 [.agg (plX s' ch' t' l'),.agg (plX s ch t l),.int .u8 z] [] (.bool true) []:=by
  refine Go.V.Call.mach i3 c3 rfl rfl rfl rfl ?_
  have haw:=c9_awake
  have h8:=fun ok h=>c8_ok (s:=s) (t:=t) (l:=l) (ch:=ch) (ok:=ok) hs hu h
  have h8':=fun ok h=>c8_ok (s:=s') (t:=t') (l:=l') (ch:=ch') (ok:=ok) hs' hu' h
  by_cases hL:LightQ s ch t l
  · have g8:=h8 true ⟨fun _=>hL,fun _=>rfl⟩
    by_cases hL':LightQ s' ch' t' l'
    · have g8':=h8' true ⟨fun _=>hL',fun _=>rfl⟩
      have h11:=light_of hs hu hL
      have h11':=light_of hs' hu' hL'
      obtain ⟨R,C,A,ha,e1,e2,hA,hRC⟩:=light_pag hL
      obtain ⟨R',C',B,hb,e1',e2',hB,_⟩:=light_pag hL'
      obtain ⟨n,hn⟩:∃n:Nat,(n:Int)=z % 8:=⟨(z % 8).toNat,by omega⟩
      have f1:z.tmod 8=(n:Int):=by rw [Int.tmod_eq_emod_of_nonneg hz.1];omega
      have f2:IntKind.i64.wrap (n:Int)=(n:Int):=wrap_i64 (by omega) (by omega)
      have f3:IntKind.i64.wrap (1+(n:Int))=1+(n:Int):=wrap_i64 (by omega) (by omega)
      have f5:((8:Int)=0)=False:=by simp
      obtain ⟨o,g,f,p1,p2,p3,⟨_,_,_,_,_,_,_,_,rfl⟩,⟨_,_,_,_,_,_,_,rfl⟩⟩:=div_shows (lim:=1+(n:Int)) ha hb hA hB hRC
      rw [e1] at h11
      rw [e1'] at h11'
      rw [←e2,←e2'] at p2
      generalize A.map rR=LA at *
      generalize B.map rR=LB at *
      simp only [plX,arrX,runes,ints] at g8 g8' h11 h11' p1 p2
      simp only [c3,plX,runes,ints,go_sem,FL,subP4]
      refine goP g8 ?_
      simp only [go_sem,FL,subP4]
      refine goP g8' ?_
      simp only [go_sem,FL,subP4,f1,f2,f3,f5]
      refine goP h11' ?_
      simp only [go_sem,FL,subP4]
      refine goP h11 ?_
      simp only [go_sem,FL,subP4]
      refine goP p1 ?_
      simp only [go_sem,FL,subP4,subA5]
      refine goP p2 ?_
      simp only [go_sem,FL,subP4,subA5]
      refine goR p3 rfl ?_
      simp only [go_sem,FL]
      refine goP haw ?_
      simp only [go_sem]
      simp only [i3,OT,reduceIte,Nat.reduceEqDiff]
    · have g8':=h8' false ⟨fun h=>(by cases h),fun h=>absurd h hL'⟩
      simp only [plX,runes,ints] at g8 g8'
      simp only [c3,plX,runes,ints,go_sem,FL,subP4]
      refine goP g8 ?_
      simp only [go_sem,FL,subP4]
      refine goP g8' ?_
      simp only [go_sem,FL,subP4]
      refine goP haw ?_
      simp only [go_sem]
      simp only [i3,OT,reduceIte,Nat.reduceEqDiff]
  · have g8:=h8 false ⟨fun h=>(by cases h),fun h=>absurd h hL⟩
    simp only [plX,runes,ints] at g8
    simp only [c3,plX,runes,ints,go_sem,FL,subP4]
    refine goP g8 ?_
    simp only [go_sem,FL,subP4]
    refine goP haw ?_
    simp only [go_sem]
    simp only [i3,OT,reduceIte,Nat.reduceEqDiff]
end
end Go.Proofs.YtlejgleocnemoabGreat.I
