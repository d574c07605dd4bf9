/- The texts L01h L01i L01j L01k L01l L01m L01n L01o L01p L01q L01r, one behind the other. Conditions: each text's own. -/
import Derived.Test.YtlejgleocnemoaaG04
import Derived.Lib.Strings
set_option linter.unusedSimpArgs false
set_option linter.unusedVariables false
namespace Go.Proofs.Ytlejgleocnemoaa.I
open Go Go.V
attribute [local go_sem_proc ↓] reduceIte
attribute [local go_sem_proc] Nat.reduceEqDiff Nat.reduceAdd Nat.reduceMul Nat.reduceLeDiff Nat.reduceLT Int.reduceToNat Int.reduceLT Int.reduceLE reduceCtorEq Nat.reduceBEq
attribute [local go_sem] mNil nat0 beq_self_eq_true mSkip mRet mExit mReg mSeq mCond mTrue mFalse mBlock mLv mCodeE mCodeR mEndN mEndR mEndE mOps mSome mGuard mGtt mGff mGtf mGft mGu mCallP mCallR mCallF mCallO mCallZ mCallG mCallM mCallV loopQ_exit loopQ_ret mO_mov mO_newnil mO_pick mO_alloc mO_box mO_build mO_bsl mO_bslF mO_newnilB mO_bslB mO_lenB mO_appB mO_allocA mO_bslA mO_appA mO_ldb mO_faddrb mRsv mO_ldf mO_ld mO_st mO_sta mO_nilchk mO_bin mO_binb mO_binp mO_bins mO_neg mO_com mO_not mO_conv mO_mk mO_mk0 mO_mkB mO_s2b mO_b2s mO_cpy mO_cut mO_faddr mO_fld mO_iaddr mO_iaddrf mO_sidx mO_len mO_lenf mO_slen mO_scut mO_app mO_ext mO_mx mO_mn mO_mkfn evalOp cutOp argsE ev getE putE cellsOf adopt rowOf binV boolV nilV ar_add ar_sub ar_mul ar_quo ar_rem ar_eq ar_ne ar_lt ar_le ar_gt ar_ge geto bound finRet finNrm ints List.length_cons List.length_nil List.length_append List.getElem?_cons_zero List.getElem?_cons_succ List.nil_append List.cons_append List.map_cons List.map_nil List.mapM_cons List.mapM_nil Option.map_some Option.map_none Option.bind_some Option.pure_def Option.bind_eq_bind List.drop_zero or_self or_false false_or or_true true_or true_and and_true and_self decide_true decide_false Bool.false_eq_true Bool.true_eq_false Bool.not_true Bool.not_false Nat.le_refl eq_self gt_iff_lt ge_iff_le ne_eq not_true_eq_false not_false_eq_true storeOp apartOf freeze_nil refsL refs List.flatMap_cons List.flatMap_nil List.append_nil List.contains_nil List.set_cons_zero List.set_cons_succ snap snapL fill_nums flat_nums nums_length Go.V.freeze List.mapIdx_cons List.mapIdx_nil List.contains_cons Bool.or_false Bool.false_or Bool.or_true Bool.true_or
def natC (n:Nat):AV:=.agg [us32 (limG n)]
def cmpZ (a b:Nat):Int:=if a<b then -1 else if a=b then 0 else 1
theorem nval_less {A C:List Int} {k:Nat} (hA:R32 A) (hC:R32 C) (hl:A.length=C.length) (hk:k<A.length) (hd:A.drop (k+1)=C.drop (k+1)) (hx:A.getD k 0<C.getD k 0):nval A<nval C:=by
  have h1:=nval_split (l:=A) k (by omega)
  have h2:=nval_split (l:=C) k (by omega)
  have h3:=nval_lt (R32_take hA k)
  rw [List.length_take,Nat.min_eq_left (by omega)] at h3
  have hx0:=(R32_get hA k).1
  rw [getD_drop hk,nval] at h1
  rw [getD_drop (s:=C) (by omega),nval,←hd] at h2
  have h4:(A.getD k 0).toNat+4294967296*nval (A.drop (k+1))+1≤(C.getD k 0).toNat+4294967296*nval (A.drop (k+1)):=by omega
  have h5:=Nat.mul_le_mul_left (4294967296^k) h4
  rw [Nat.mul_add,Nat.mul_one] at h5
  omega
theorem zeros_get {n j:Nat}:(List.replicate n (0:Int)).getD j 0=0:=by
  rw [List.getD_eq_getElem?_getD,List.getElem?_replicate]
  split<;>rfl
section
variable {E:CallRel}
theorem c145_ok {a b:Nat} (ha:(limG a).length≤1000000) (hb:(limG b).length≤1000000):Go.V.Call tab E 145 [natC a,natC b] [] (.int .i64 (cmpZ a b)) []:=by
  refine Go.V.Call.mach i145 c145 rfl rfl rfl rfl ?_
  have hRa:=R32_limG (n:=a)
  have hRb:=R32_limG (n:=b)
  have ea:=nval_limG (n:=a)
  have eb:=nval_limG (n:=b)
  have mono1:(limG a).length<(limG b).length→a<b:=fun h=>by
    rcases Nat.lt_or_ge a b with h1|h1
    · exact h1
    · have:=limG_mono h1;omega
  have mono2:(limG b).length<(limG a).length→b<a:=fun h=>by
    rcases Nat.lt_or_ge b a with h1|h1
    · exact h1
    · have:=limG_mono h1;omega
  simp only [natC]
  generalize limG a=A at *
  generalize limG b=C at *
  by_cases hl:A.length=C.length
  · have hl1:((A.length:Int) != (C.length:Int))=false:=by rw [bne_eq_false_iff_eq];omega
    have w0:IntKind.i64.wrap ((A.length:Int) - 1)=(A.length:Int) - 1:=wrap_i64 (by omega) (by omega)
    simp only [c145,us32,go_sem,sub,FL,hl1,w0]
    refine mLoop (fun N st=>∃(j:Nat) (jj:Int),j≤A.length∧N=j∧jj=(j:Int) - 1∧A.drop j=C.drop j∧
      st=⟨[(2,.loc 0 0 0),(3,.loc 1 0 0),(5,.int .i64 jj)],[⟨true,55,1,0,1,[us32 A],false⟩,⟨true,55,1,0,1,[us32 C],false⟩]⟩) A.length
      ⟨_,rfl,A.length,_,by omega,rfl,rfl,by rw [List.drop_length,hl,List.drop_length],by simp [getE,us32]⟩ ?_
    rintro N s0 ⟨j,jj,hj,rfl,hjj,hd,rfl⟩
    cases N with
    | zero=>
      have hn:¬0≤jj:=by omega
      rw [List.drop_zero,List.drop_zero] at hd
      subst hd
      have:a=b:=by omega
      simp only [b145_0,k145_0,us32,go_sem,hn]
      simp only [i145,OT,reduceIte,Nat.reduceEqDiff,cmpZ,this,Nat.lt_irrefl]
    | succ k=>
      obtain rfl:jj=(k:Int):=by omega
      have hlt:k<A.length:=by omega
      have hlt':(k:Int)<(A.length:Int):=by omega
      have hlt2:(k:Int)<(C.length:Int):=by omega
      have hk0:(0:Int)≤(k:Int):=by omega
      have hk1:IntKind.i64.wrap ((k:Int) - 1)=(k:Int) - 1:=wrap_i64 (by omega) (by omega)
      have hs1:=sub_nums (k:=.u32) hlt
      have hs2:=sub_nums (k:=.u32) (l:=C) (i:=k) (by omega)
      have hl3:=fun h=>nval_less (k:=k) hRa hRb hl hlt hd h
      have hl4:=fun h=>nval_less (k:=k) hRb hRa hl.symm (by omega) hd.symm h
      have hd1:=getD_drop hlt
      have hd2:=getD_drop (s:=C) (k:=k) (by omega)
      generalize A.getD k 0=x at *
      generalize C.getD k 0=y at *
      by_cases hxy:x=y
      · have q1:(x != y)=false:=by rw [bne_eq_false_iff_eq];exact hxy
        simp only [b145_0,us32,go_sem,subB1,hk0,hlt',hlt2,Int.toNat_natCast,hs1,hs2,q1,hk1]
        exact loopQ_go rfl k (by omega) ⟨k,_,by omega,rfl,rfl,by rw [hd1,hd2,hxy,hd],rfl⟩
      · have q1:(x != y)=true:=by rw [bne_iff_ne];exact hxy
        by_cases q2:x<y
        · have:a<b:=by have:=hl3 q2;omega
          simp only [b145_0,us32,go_sem,subB1,hk0,hlt',hlt2,Int.toNat_natCast,hs1,hs2,q1,q2]
          simp only [i145,OT,reduceIte,Nat.reduceEqDiff,cmpZ,this]
        · have h5:b<a:=by have:=hl4 (by omega);omega
          have h6:¬a<b:=by omega
          have h7:¬a=b:=by omega
          simp only [b145_0,us32,go_sem,subB1,hk0,hlt',hlt2,Int.toNat_natCast,hs1,hs2,q1,q2]
          simp only [i145,OT,reduceIte,Nat.reduceEqDiff,cmpZ,h6,h7]
  · have hl1:((A.length:Int) != (C.length:Int))=true:=by rw [bne_iff_ne];omega
    by_cases hl2:A.length<C.length
    · have hl3:(A.length:Int)<(C.length:Int):=by omega
      have:=mono1 hl2
      simp only [c145,us32,go_sem,sub,FL,hl1,hl3]
      simp only [i145,OT,reduceIte,Nat.reduceEqDiff,cmpZ,this]
    · have hl3:¬(A.length:Int)<(C.length:Int):=by omega
      have h5:=mono2 (by omega)
      have h6:¬a<b:=by omega
      have h7:¬a=b:=by omega
      simp only [c145,us32,go_sem,sub,FL,hl1,hl3]
      simp only [i145,OT,reduceIte,Nat.reduceEqDiff,cmpZ,h6,h7]
theorem c152_big {n:Nat} (h:18446744073709551616≤n):Go.V.Call tab E 152 [natC n] [] (.tup [.int .u64 0,.bool false]) []:=by
  refine Go.V.Call.mach i152 c152 rfl rfl rfl rfl ?_
  have h3:3≤(limG n).length:=by
    have h1:=limG_mono h
    have h2:(limG 18446744073709551616).length=3:=by
      rw [limG_pos (by omega),limG_pos (by omega),limG_pos (by omega),limG_zero];rfl
    omega
  have q0:(((limG n).length:Int)==0)=false:=by rw [beq_eq_false_iff_ne];omega
  have q1:(((limG n).length:Int)==1)=false:=by rw [beq_eq_false_iff_ne];omega
  have q2:(((limG n).length:Int)==2)=false:=by rw [beq_eq_false_iff_ne];omega
  simp only [c152,natC,us32,go_sem,subB1,q0,q1,q2]
  simp only [i152,OT,reduceIte,Nat.reduceEqDiff]
theorem c160_ok {n s:Nat} (hs:s<32) (hn:(limG n).length≤1000000):Go.V.Call tab E 160 [natC n,.int .i64 s] [] (natC (n*2^s)) []:=by
  refine Go.V.Call.mach i160 c160 rfl rfl rfl rfl ?_
  by_cases hs0:s=0
  · subst hs0
    have q:((0:Nat):Int)≤0:=by omega
    simp only [c160,natC,us32,go_sem,subB1,subT1,FL,q]
    simp only [i160,OT,reduceIte,Nat.reduceEqDiff,sub,FL,us32,Nat.pow_zero,Nat.mul_one,List.length_cons,List.length_nil,Nat.le_refl]
  by_cases hn0:n=0
  · subst hn0
    have q:¬(s:Int)≤0:=by omega
    simp only [c160,natC,us32,limG_zero,go_sem,subB1,subT1,FL,q,show ((0:Int)==0)=true from rfl]
    simp only [i160,OT,reduceIte,Nat.reduceEqDiff,sub,FL,us32,Nat.zero_mul,limG_zero,List.length_cons,List.length_nil,Nat.le_refl]
  have hR:=R32_limG (n:=n)
  have en:=nval_limG (n:=n)
  have hl0:(limG n).length≠0:=by rw [limG_pos hn0];simp
  simp only [natC]
  generalize limG n=A at *
  have q:¬(s:Int)≤0:=by omega
  have q1:((A.length:Int)==0)=false:=by rw [beq_eq_false_iff_ne];omega
  have q2:Int.tdiv (s:Int) 32=0:=Int.tdiv_eq_zero_of_lt (by omega) (by omega)
  have q3:Int.tmod (s:Int) 32=(s:Int):=by rw [Int.tmod_eq_emod_of_nonneg (by omega)];omega
  have q4:IntKind.i64.wrap 0=0:=wrap_i64 (by omega) (by omega)
  have q5:IntKind.u64.wrap (s:Int)=(s:Int):=wrap_u64 (by omega) (by omega)
  have q6:IntKind.i64.wrap ((A.length:Int)+0)=(A.length:Int):=by rw [wrap_i64 (by omega) (by omega)];omega
  have q7:IntKind.i64.wrap ((A.length:Int)+1)=((A.length+1:Nat):Int):=by rw [wrap_i64 (by omega) (by omega)];omega
  have b0:¬(32:Int)=0:=by omega
  have b1:(0:Int)≤((A.length+1:Nat):Int):=by omega
  have b2:4*(A.length+1)≤140737488355328:=by omega
  have b3:((A.length+1:Nat):Int)≤140737488355328:=by omega
  simp only [c160,us32,go_sem,subB1,subT1,FL,q,q1,q2,q3,q4,q5,q6,q7,b0,b1,b2,b3,Int.toNat_natCast,flat_nums]
  refine mLoop (fun N st=>∃(i:Nat) (L:List Int) (c:Nat),i≤A.length∧N=A.length - i∧L.length=A.length+1∧R32 L∧L.getD i 0=(c:Int)∧c<2^s∧(∀j,i<j→L.getD j 0=0)∧nval L=nval (A.take i)*2^s∧
    st=⟨[(4,.loc 2 0 0),(5,.int .i64 0),(6,.int .u64 s),(7,.arr 3 0),(33,us32 A),(34,.int .i64 A.length),(35,.int .i64 i)],
      [⟨true,55,1,0,1,[us32 A],false⟩,⟨false,154,1,0,0,[],false⟩,⟨true,55,1,0,1,[.arr 1 0],false⟩,⟨false,154,1,0,A.length+1,nums .u32 L,false⟩]⟩) A.length
    ⟨_,rfl,0,List.replicate (A.length+1) 0,0,by omega,by omega,by simp,R32_zeros,by simp,Nat.pow_pos (by omega),fun j _=>zeros_get,by rw [nval_zeros];simp [nval],by simp [getE,us32]⟩ ?_
  rintro N s0 ⟨i,L,c,hi,rfl,hL,hR',hc,hcl,hz,hv,rfl⟩
  by_cases hiA:i<A.length
  · have hi':(i:Int)<(A.length:Int):=by omega
    have hi0:(0:Int)≤(i:Int):=by omega
    have hi1:IntKind.i64.wrap ((i:Int)+1)=((i+1:Nat):Int):=by rw [wrap_i64 (by omega) (by omega)];omega
    have hia:IntKind.i64.wrap ((i:Int)+0)=(i:Int):=by rw [wrap_i64 (by omega) (by omega)];omega
    have hi2:(i:Int)<((A.length+1:Nat):Int):=by omega
    have hi3:((i+1:Nat):Int)<((A.length+1:Nat):Int):=by omega
    have hi4:(0:Int)≤((i+1:Nat):Int):=by omega
    have hsa:=sub_nums (k:=.u32) hiA
    have hsl:=sub_nums (k:=.u32) (l:=L) (i:=i) (by omega)
    have hxr:=R32_get hR i
    have htk:=nval_take_succ hiA
    obtain ⟨x,hx⟩:=Int.eq_ofNat_of_zero_le hxr.1
    rw [hx] at hsa hxr htk
    rw [hc] at hsl
    have hxl:x<4294967296:=by omega
    have hpp:2^s*2^(32 - s)=4294967296:=by rw [←Nat.pow_add,show s+(32 - s)=32 by omega]
    have hps:0<2^s:=Nat.pow_pos (by omega)
    have hp31:2^s≤2^31:=Nat.pow_le_pow_right (by omega) (by omega)
    have hxs:x*2^s<4294967296*2^s:=(Nat.mul_lt_mul_right hps).2 hxl
    have hsh:=shl_u64 (x:=x) (s:=s) (by omega) (by omega)
    have hlow:x*2^s % 4294967296=(x % 2^(32 - s))*2^s:=by
      rw [←hpp,Nat.mul_comm x,Nat.mul_mod_mul_left,Nat.mul_comm]
    have hhi:x*2^s/4294967296<2^s:=(Nat.div_lt_iff_lt_mul (by omega)).2 (by rw [Nat.mul_comm (2^s)];exact hxs)
    have hdm:=Nat.div_add_mod (x*2^s) 4294967296
    have hml:=Nat.mod_lt (x*2^s) (show 0<4294967296 by omega)
    have hcm:c+x*2^s % 4294967296<4294967296:=by
      rw [hlow]
      have h1:x % 2^(32 - s)+1≤2^(32 - s):=Nat.mod_lt _ (Nat.pow_pos (by omega))
      have h2:=Nat.mul_le_mul_right (2^s) h1
      rw [Nat.mul_comm (2^(32 - s)),hpp,Nat.add_mul] at h2
      omega
    have hor:=or_u32 (a:=c) (b:=x % 2^(32 - s)) (k:=s) hcl (by rw [←hlow];exact hcm)
    rw [←hlow] at hor
    rw [show ((x:Nat):Int).toNat=x from Int.toNat_natCast x] at htk
    have w1:IntKind.u64.wrap (x:Int)=(x:Int):=wrap_u64 (by omega) (by omega)
    have hv2:nval (A.take (i+1))*2^s=nval L+4294967296^i*(x*2^s):=by rw [htk,Nat.add_mul,hv,Nat.mul_assoc]
    generalize x*2^s=T at *
    have w2:IntKind.u32.wrap (T:Int)=((T % 4294967296:Nat):Int):=by rw [wrap_u32];omega
    have w3:=shr32 (x:=T)
    generalize T % 4294967296=lo at *
    generalize T/4294967296=hh at *
    have w4:IntKind.u32.wrap (hh:Int)=(hh:Int):=by rw [wrap_u32];omega
    have hor':arith .or .u32 (c:Int) (lo:Int)=some (.int .u32 ((c+lo:Nat):Int)):=congrArg (fun z=>some (AV.int .u32 z)) hor
    have t1:i*1+1≤L.length:=by omega
    have t2:(i+1)*1+1≤(L.take i).length+((L.drop (i+1)).length+1):=by simp;omega
    simp only [b160_0,us32,go_sem,hi',hi0,hia,hi1,hi2,hi3,hi4,Int.toNat_natCast,hsa,w1,hsh,hsl,w2,hor',t1,t2,w3,w4]
    refine loopQ_go rfl (A.length - (i+1)) (by omega) ⟨i+1,put (put L i ((c+lo:Nat):Int)) (i+1) (hh:Int),hh,by omega,rfl,?_,?_,?_,hhi,?_,?_,rfl⟩
    · rw [put_len (by rw [put_len (by omega)];omega),put_len (by omega),hL]
    · exact put_R32 (put_R32 hR' (by omega)) (by omega)
    · rw [put_get (by rw [put_len (by omega)];omega),if_pos rfl]
    · intro j hj
      rw [put_get (by rw [put_len (by omega)];omega),if_neg (by omega),put_get (by omega),if_neg (by omega)]
      exact hz j (by omega)
    · have p1:=put_nval (l:=L) (k:=i) (v:=((c+lo:Nat):Int)) (by omega)
      have p2:=put_nval (l:=put L i ((c+lo:Nat):Int)) (k:=i+1) (v:=(hh:Int)) (by rw [put_len (by omega)];omega)
      rw [put_get (by omega),if_neg (by omega),hz (i+1) (by omega)] at p2
      rw [hc] at p1
      rw [Int.toNat_natCast,Int.toNat_natCast] at p1
      rw [Int.toNat_natCast,Int.toNat_zero,Nat.mul_zero,Nat.add_zero] at p2
      have e1:4294967296^(i+1)*hh=4294967296^i*(4294967296*hh):=by rw [Nat.pow_succ,Nat.mul_assoc]
      have e2:4294967296^i*T=4294967296^i*(4294967296*hh)+4294967296^i*lo:=by rw [←Nat.mul_add,hdm]
      rw [p2,hv2,e1,e2]
      generalize 4294967296^i*(4294967296*hh)=Z1 at *
      have e3:4294967296^i*(c+lo)=4294967296^i*c+4294967296^i*lo:=Nat.mul_add _ _ _
      rw [e3] at p1
      generalize 4294967296^i*c=Z2 at *
      generalize 4294967296^i*lo=Z3 at *
      omega
  · have hn:¬(i:Int)<(A.length:Int):=by omega
    obtain rfl:i=A.length:=by omega
    have h114:=c139_ok (E:=E) (l:=L) (by omega)
    rw [List.take_length,en] at hv
    rw [trimL_limG hR',hv] at h114
    have hLl:A.length+1=L.length:=hL.symm
    simp only [b160_0,k160_0,us32,go_sem,FL,hn,hLl]
    refine goF h114 ?_
    simp only [us32,go_sem,FL]
    simp only [i160,OT,reduceIte,Nat.reduceEqDiff,sub,FL,List.length_cons,List.length_nil,Nat.le_refl,us32]
theorem c163_ok {n s:Nat} (hs:s<32) (hn:(limG n).length≤1000000):Go.V.Call tab E 163 [natC n,.int .i64 s] [] (natC (n/2^s)) []:=by
  refine Go.V.Call.mach i163 c163 rfl rfl rfl rfl ?_
  by_cases hs0:s=0
  · subst hs0
    have q:((0:Nat):Int)≤0:=by omega
    simp only [c163,natC,us32,go_sem,subB1,subT1,FL,q]
    simp only [i163,OT,reduceIte,Nat.reduceEqDiff,sub,FL,us32,Nat.pow_zero,Nat.div_one,List.length_cons,List.length_nil,Nat.le_refl]
  have q:¬(s:Int)≤0:=by omega
  have q2:Int.tdiv (s:Int) 32=0:=Int.tdiv_eq_zero_of_lt (by omega) (by omega)
  have q3:Int.tmod (s:Int) 32=(s:Int):=by rw [Int.tmod_eq_emod_of_nonneg (by omega)];omega
  have q4:IntKind.i64.wrap 0=0:=wrap_i64 (by omega) (by omega)
  have q5:IntKind.u64.wrap (s:Int)=(s:Int):=wrap_u64 (by omega) (by omega)
  have b0:¬(32:Int)=0:=by omega
  by_cases hn0:n=0
  · subst hn0
    simp only [c163,natC,us32,limG_zero,go_sem,subB1,subT1,FL,q,q2,q3,q4,q5,b0]
    simp only [i163,OT,reduceIte,Nat.reduceEqDiff,sub,FL,us32,Nat.zero_div,limG_zero,List.length_cons,List.length_nil,Nat.le_refl]
    rfl
  have hR:=R32_limG (n:=n)
  have en:=nval_limG (n:=n)
  have hl0:(limG n).length≠0:=by rw [limG_pos hn0];simp
  simp only [natC]
  generalize limG n=A at *
  have q1:¬((A.length:Int)≤0):=by omega
  have q6:IntKind.i64.wrap ((A.length:Int) - 0)=(A.length:Int):=by rw [wrap_i64 (by omega) (by omega)];omega
  have b1:(0:Int)≤(A.length:Int):=by omega
  have b2:4*A.length≤140737488355328:=by omega
  have b3:(A.length:Int)≤140737488355328:=by omega
  simp only [c163,us32,go_sem,subB1,subT1,FL,q,q1,q2,q3,q4,q5,q6,b0,b1,b2,b3,Int.toNat_natCast,flat_nums]
  refine mLoop (fun N st=>∃(i:Nat) (L:List Int),i≤A.length∧N=A.length - i∧L.length=A.length∧R32 L∧(∀j,i≤j→L.getD j 0=0)∧nval L=nval A/2^s % 4294967296^i∧
    st=⟨[(2,.loc 0 0 0),(4,.loc 2 0 0),(5,.int .i64 0),(6,.int .u64 s),(7,.arr 3 0),(31,.int .i64 A.length),(32,.int .i64 i)],
      [⟨true,55,1,0,1,[us32 A],false⟩,⟨false,154,1,0,0,[],false⟩,⟨true,55,1,0,1,[.arr 1 0],false⟩,⟨false,154,1,0,A.length,nums .u32 L,false⟩]⟩) A.length
    ⟨_,rfl,0,List.replicate A.length 0,by omega,by omega,by simp,R32_zeros,fun j _=>zeros_get,by rw [nval_zeros];simp [Nat.mod_one],by simp [getE,us32]⟩ ?_
  rintro N s0 ⟨i,L,hi,rfl,hL,hR',hz,hv,rfl⟩
  by_cases hiA:i<A.length
  · have hi':(i:Int)<(A.length:Int):=by omega
    have hi0:(0:Int)≤(i:Int):=by omega
    have hi1:IntKind.i64.wrap ((i:Int)+1)=((i+1:Nat):Int):=by rw [wrap_i64 (by omega) (by omega)];omega
    have hia:IntKind.i64.wrap ((i:Int)+0)=(i:Int):=by rw [wrap_i64 (by omega) (by omega)];omega
    have hi4:(0:Int)≤((i+1:Nat):Int):=by omega
    have hsa:=sub_nums (k:=.u32) hiA
    have hxr:=R32_get hR i
    have hdr:=getD_drop hiA
    have hnd:=nval_drop hR i
    obtain ⟨x,hx⟩:=Int.eq_ofNat_of_zero_le hxr.1
    rw [hx] at hsa hxr hdr
    rw [hdr,nval,show ((x:Nat):Int).toNat=x from Int.toNat_natCast x] at hnd
    have hxl:x<4294967296:=by omega
    have hpp:2^s*2^(32 - s)=4294967296:=by rw [←Nat.pow_add,show s+(32 - s)=32 by omega]
    have hps:0<2^s:=Nat.pow_pos (by omega)
    have w1:IntKind.u64.wrap (x:Int)=(x:Int):=wrap_u64 (by omega) (by omega)
    have t1:i*1+1≤L.length:=by omega
    have hcong:∀Y Z:Nat,nval (A.drop (i+1))=Y+4294967296*Z→nval A/2^s/4294967296^i % 4294967296=(x+Y*4294967296)/2^s % 4294967296:=fun Y Z hYZ=>by
      have e1:nval A/2^s/4294967296^i=nval A/4294967296^i/2^s:=by rw [Nat.div_div_eq_div_mul,Nat.div_div_eq_div_mul,Nat.mul_comm]
      rw [e1,←hnd,hYZ]
      have e2:x+4294967296*(Y+4294967296*Z)=(x+Y*4294967296)+2^s*(2^(32 - s)*(4294967296*Z)):=by
        rw [←Nat.mul_assoc (2^s),hpp]
        omega
      rw [e2,Nat.add_mul_div_left _ _ hps]
      have e3:2^(32 - s)*(4294967296*Z)=4294967296*(2^(32 - s)*Z):=by rw [Nat.mul_left_comm]
      rw [e3,Nat.add_mul_mod_self_left]
    have fin:∀v:Nat,v<4294967296→v=nval A/2^s/4294967296^i % 4294967296→(put L i (v:Int)).length=A.length∧R32 (put L i (v:Int))∧(∀j,i+1≤j→(put L i (v:Int)).getD j 0=0)∧nval (put L i (v:Int))=nval A/2^s % 4294967296^(i+1):=fun v hvl hve=>by
      refine ⟨by rw [put_len (by omega),hL],put_R32 hR' (by omega),fun j hj=>?_,?_⟩
      · rw [put_get (by omega),if_neg (by omega)]
        exact hz j (by omega)
      · have p1:=put_nval (l:=L) (k:=i) (v:=(v:Int)) (by omega)
        rw [hz i (by omega)] at p1
        simp only [Int.toNat_natCast,Int.toNat_zero,Nat.mul_zero,Nat.add_zero] at p1
        rw [p1,hv,Nat.mod_pow_succ,←hve]
    by_cases hlast:i+1<A.length
    · have hl':((i+1:Nat):Int)<(A.length:Int):=by omega
      have hsb:=sub_nums (k:=.u32) hlast
      have hyr:=R32_get hR (i+1)
      have hdr2:=getD_drop hlast
      obtain ⟨y,hy⟩:=Int.eq_ofNat_of_zero_le hyr.1
      rw [hy] at hsb hyr hdr2
      have hyl:y<4294967296:=by omega
      have w2:IntKind.u64.wrap (y:Int)=(y:Int):=wrap_u64 (by omega) (by omega)
      have hsh:=shl32 hyl
      have hor:=or_shl hxl hyl
      have hor2:IntKind.u64.wrap (((BitVec.ofInt IntKind.u64.bits (x:Int) ||| BitVec.ofInt IntKind.u64.bits ((y:Int)*4294967296)).toNat:Nat):Int)=(y:Int)*4294967296+x:=hor
      have et:(y:Int)*4294967296+(x:Int)=((x+y*4294967296:Nat):Int):=by omega
      rw [et] at hor2
      have hor':arith .or .u64 (x:Int) ((y:Int)*4294967296)=some (.int .u64 ((x+y*4294967296:Nat):Int)):=congrArg (fun z=>some (AV.int .u64 z)) hor2
      have hc:=hcong y (nval (A.drop (i+1+1))) (by rw [hdr2,nval,Int.toNat_natCast])
      generalize x+y*4294967296=T at *
      have hs3:=shr_u64 (x:=T) (s:=s) (by omega)
      generalize T/2^s=q' at *
      have w3:IntKind.u32.wrap (q':Int)=((q' % 4294967296:Nat):Int):=by rw [wrap_u32];omega
      obtain ⟨f1,f2,f3,f4⟩:=fin (q' % 4294967296) (Nat.mod_lt _ (by omega)) hc.symm
      simp only [b163_0,us32,go_sem,subB1,hi',hi0,hia,hi1,hi4,hl',Int.toNat_natCast,hsa,hsb,w1,w2,hsh,hor',hs3,w3,t1]
      exact loopQ_go rfl (A.length - (i+1)) (by omega) ⟨i+1,put L i ((q' % 4294967296:Nat):Int),by omega,rfl,f1,f2,f3,f4,rfl⟩
    · have hl':¬((i+1:Nat):Int)<(A.length:Int):=by omega
      have hc:=hcong 0 0 (by rw [List.drop_eq_nil_of_le (by omega)];rfl)
      have hs3:=shr_u64 (x:=x) (s:=s) (by omega)
      rw [Nat.zero_mul,Nat.add_zero] at hc
      generalize x/2^s=q' at *
      have w3:IntKind.u32.wrap (q':Int)=((q' % 4294967296:Nat):Int):=by rw [wrap_u32];omega
      obtain ⟨f1,f2,f3,f4⟩:=fin (q' % 4294967296) (Nat.mod_lt _ (by omega)) hc.symm
      simp only [b163_0,us32,go_sem,subB1,hi',hi0,hia,hi1,hi4,hl',Int.toNat_natCast,hsa,w1,hs3,w3,t1]
      exact loopQ_go rfl (A.length - (i+1)) (by omega) ⟨i+1,put L i ((q' % 4294967296:Nat):Int),by omega,rfl,f1,f2,f3,f4,rfl⟩
  · have hn':¬(i:Int)<(A.length:Int):=by omega
    obtain rfl:i=A.length:=by omega
    have h114:=c139_ok (E:=E) (l:=L) (by omega)
    have hlt:=nval_lt hR
    have hle:nval A/2^s≤nval A:=Nat.div_le_self _ _
    have hlt2:nval A/2^s<4294967296^A.length:=Nat.lt_of_le_of_lt hle hlt
    rw [Nat.mod_eq_of_lt hlt2,en] at hv
    rw [trimL_limG hR',hv] at h114
    have hLl:A.length=L.length:=hL.symm
    simp only [b163_0,k163_0,us32,go_sem,FL,hLl,Int.lt_irrefl]
    refine goF h114 ?_
    simp only [us32,go_sem,FL]
    simp only [i163,OT,reduceIte,Nat.reduceEqDiff,sub,FL,List.length_cons,List.length_nil,Nat.le_refl,us32]
end
end Go.Proofs.Ytlejgleocnemoaa.I

namespace Go.Proofs.Ytlejgleocnemoaa.I
open Go Go.V
attribute [local go_sem_proc ↓] reduceIte
attribute [local go_sem_proc] Nat.reduceEqDiff Nat.reduceAdd Nat.reduceMul Nat.reduceLeDiff Nat.reduceLT Int.reduceToNat Int.reduceLT Int.reduceLE reduceCtorEq Nat.reduceBEq
attribute [local go_sem] mNil nat0 beq_self_eq_true mSkip mRet mExit mReg mSeq mCond mTrue mFalse mBlock mLv mCodeE mCodeR mEndN mEndR mEndE mOps mSome mGuard mGtt mGff mGtf mGft mGu mCallP mCallR mCallF mCallO mCallZ mCallG mCallM mCallV loopQ_exit loopQ_ret mO_mov mO_newnil mO_pick mO_alloc mO_box mO_build mO_bsl mO_bslF mO_newnilB mO_bslB mO_lenB mO_appB mO_allocA mO_bslA mO_appA mO_ldb mO_faddrb mRsv mO_ldf mO_ld mO_st mO_sta mO_nilchk mO_bin mO_binb mO_binp mO_bins mO_neg mO_com mO_not mO_conv mO_mk mO_mk0 mO_mkB mO_s2b mO_b2s mO_cpy mO_cut mO_faddr mO_fld mO_iaddr mO_iaddrf mO_sidx mO_len mO_lenf mO_slen mO_scut mO_app mO_ext mO_mx mO_mn mO_mkfn evalOp cutOp argsE ev getE putE cellsOf adopt rowOf binV boolV nilV ar_add ar_sub ar_mul ar_quo ar_rem ar_eq ar_ne ar_lt ar_le ar_gt ar_ge ar_and ar_or ar_xor geto bound finRet finNrm ints List.length_cons List.length_nil List.length_append List.getElem?_cons_zero List.getElem?_cons_succ List.nil_append List.cons_append List.map_cons List.map_nil List.mapM_cons List.mapM_nil Option.map_some Option.map_none Option.bind_some Option.pure_def Option.bind_eq_bind List.drop_zero or_self or_false false_or or_true true_or true_and and_true and_self decide_true decide_false Bool.false_eq_true Bool.true_eq_false Bool.not_true Bool.not_false Nat.le_refl eq_self gt_iff_lt ge_iff_le ne_eq not_true_eq_false not_false_eq_true storeOp apartOf freeze_nil refsL refs List.flatMap_cons List.flatMap_nil List.append_nil List.contains_nil List.set_cons_zero List.set_cons_succ snap snapL fill_nums flat_nums nums_length Go.V.freeze List.mapIdx_cons List.mapIdx_nil List.contains_cons Bool.or_false Bool.false_or Bool.or_true Bool.true_or
theorem getD_big {l:List Int} {k:Nat} (h:l.length≤k):l.getD k 0=0:=by
  rw [List.getD_eq_getElem?_getD,List.getElem?_eq_none h];rfl
theorem nval_take_succ' {l:List Int} {k:Nat}:nval (l.take (k+1))=nval (l.take k)+4294967296^k*(l.getD k 0).toNat:=by
  by_cases h:k<l.length
  · exact nval_take_succ h
  · rw [getD_big (by omega),List.take_of_length_le (by omega),List.take_of_length_le (by omega)];simp
theorem limG_mul_len {a b:Nat}:(limG (a*b)).length≤(limG a).length+(limG b).length:=by
  refine limG_len ?_
  rw [Nat.pow_add]
  exact Nat.mul_lt_mul'' (limG_lt a) (limG_lt b)
section
variable {E:CallRel}
theorem c151_ok {a b:Nat} (ha:(limG a).length≤1000000) (hb:(limG b).length≤1000000):Go.V.Call tab E 151 [natC a,natC b] [] (natC (a+b)) []:=by
  refine Go.V.Call.mach i151 c151 rfl rfl rfl rfl ?_
  have hRa:=R32_limG (n:=a)
  have hRb:=R32_limG (n:=b)
  have ea:=nval_limG (n:=a)
  have eb:=nval_limG (n:=b)
  simp only [natC]
  generalize limG a=A at *
  generalize limG b=C at *
  have hsw:∃X Y:List Int,Y.length≤X.length∧X.length≤1000000∧R32 X∧R32 Y∧nval X+nval Y=a+b∧((A.length<C.length∧X=C∧Y=A)∨(¬A.length<C.length∧X=A∧Y=C)):=by
    by_cases h:A.length<C.length
    · exact ⟨C,A,by omega,hb,hRb,hRa,by omega,.inl ⟨h,rfl,rfl⟩⟩
    · exact ⟨A,C,by omega,ha,hRa,hRb,by omega,.inr ⟨h,rfl,rfl⟩⟩
  obtain ⟨X,Y,hYX,hXl,hRX,hRY,hsum,hsw⟩:=hsw
  obtain ⟨m,hm⟩:∃m,m=X.length+1:=⟨_,rfl⟩
  have w0:IntKind.i64.wrap ((X.length:Int)+1)=(m:Int):=by rw [wrap_i64 (by omega) (by omega)];omega
  have b1:(0:Int)≤(m:Int):=by omega
  have b2:4*m≤140737488355328:=by omega
  have b3:(m:Int)≤140737488355328:=by omega
  rcases hsw with ⟨h,hX,hY⟩|⟨h,hX,hY⟩
  all_goals
    first|(have h':(A.length:Int)<(C.length:Int):=by omega)|(have h':¬(A.length:Int)<(C.length:Int):=by omega)
    rw [hX] at w0
    simp only [c151,us32,go_sem,subB1,subT1,FL,h',w0,b1,b2,b3,Int.toNat_natCast,flat_nums]
    refine mLoop (fun N st=>∃(i:Nat) (L:List Int) (c:Nat),i≤X.length∧N=X.length - i∧L.length=m∧R32 L∧c≤1∧(∀j,i≤j→L.getD j 0=0)∧nval L+4294967296^i*c=nval (X.take i)+nval (Y.take i)∧
      st=⟨[(4,.loc 3 0 0),(5,us32 X),(6,us32 Y),(7,.arr 4 0),(8,.int .u32 c),(27,.int .i64 X.length),(28,.int .i64 i)],
        [⟨true,55,1,0,1,[us32 A],false⟩,⟨true,55,1,0,1,[us32 C],false⟩,⟨false,154,1,0,0,[],false⟩,⟨true,55,1,0,1,[.arr 2 0],false⟩,⟨false,154,1,0,m,nums .u32 L,false⟩]⟩) X.length
      ⟨_,rfl,0,List.replicate m 0,0,by omega,by omega,by simp,R32_zeros,by omega,fun j _=>zeros_get,by rw [nval_zeros];simp [nval],by rw [hX,hY];simp [getE,us32]⟩ ?_
    rintro N s0 ⟨i,L,c,hi,rfl,hL,hR',hc,hz,hv,rfl⟩
    by_cases hiX:i<X.length
    · have hi':(i:Int)<(X.length:Int):=by omega
      have hi0:(0:Int)≤(i:Int):=by omega
      have him:(i:Int)<(m:Int):=by omega
      have hi1:IntKind.i64.wrap ((i:Int)+1)=((i+1:Nat):Int):=by rw [wrap_i64 (by omega) (by omega)];omega
      have hsx:=sub_nums (k:=.u32) hiX
      have hxr:=R32_get hRX i
      have hyr:=R32_get hRY i
      have htx:=nval_take_succ' (l:=X) (k:=i)
      have hty:=nval_take_succ' (l:=Y) (k:=i)
      obtain ⟨x,hx⟩:=Int.eq_ofNat_of_zero_le hxr.1
      obtain ⟨y,hy⟩:=Int.eq_ofNat_of_zero_le hyr.1
      rw [hx] at hsx hxr htx
      rw [hy] at hyr hty
      simp only [Int.toNat_natCast] at htx hty
      have h144:=c158_ok (E:=E) (x:=x) (y:=y) (c:=c) (by omega) (by omega) hc
      have hdm:=Nat.div_add_mod (x+y+c) 4294967296
      have hml:=Nat.mod_lt (x+y+c) (show 0<4294967296 by omega)
      have hq:(x+y+c)/4294967296≤1:=by omega
      have hst:x+y+c=4294967296*((x+y+c)/4294967296)+(x+y+c) % 4294967296:=hdm.symm
      generalize (x+y+c)/4294967296=c' at *
      generalize (x+y+c) % 4294967296=lo at *
      have t1:i*1+1≤L.length:=by omega
      have p1:=put_nval (l:=L) (k:=i) (v:=(lo:Int)) (by omega)
      rw [hz i (by omega)] at p1
      simp only [Int.toNat_natCast,Int.toNat_zero,Nat.mul_zero,Nat.add_zero] at p1
      have inv:nval (put L i (lo:Int))+4294967296^(i+1)*c'=nval (X.take (i+1))+nval (Y.take (i+1)):=by
        rw [p1,htx,hty,Nat.pow_succ,Nat.mul_assoc]
        generalize 4294967296^i=P at *
        have e1:P*(x+y+c)=P*(4294967296*c'+lo):=by rw [hst]
        simp only [Nat.mul_add] at e1
        omega
      have fin:(put L i (lo:Int)).length=m∧R32 (put L i (lo:Int))∧(∀j,i+1≤j→(put L i (lo:Int)).getD j 0=0):=by
        refine ⟨by rw [put_len (by omega),hL],put_R32 hR' (by omega),fun j hj=>?_⟩
        rw [put_get (by omega),if_neg (by omega)]
        exact hz j (by omega)
      obtain ⟨f1,f2,f3⟩:=fin
      by_cases hiY:i<Y.length
      · have hiY':(i:Int)<(Y.length:Int):=by omega
        have hsy:=sub_nums (k:=.u32) hiY
        rw [hy] at hsy
        simp only [b151_0,us32,go_sem,subB1,hi',hi0,hiY',hsx,hsy,Int.toNat_natCast]
        refine goP h144 ?_
        simp only [us32,go_sem,hi0,him,Int.toNat_natCast,t1,hi1]
        exact loopQ_go rfl (X.length - (i+1)) (by omega) ⟨i+1,put L i (lo:Int),c',by omega,rfl,f1,f2,hq,f3,inv,rfl⟩
      · have hiY':¬(i:Int)<(Y.length:Int):=by omega
        have hy0:y=0:=by
          have:=getD_big (l:=Y) (k:=i) (by omega)
          omega
        subst hy0
        simp only [b151_0,us32,go_sem,subB1,hi',hi0,hiY',hsx,Int.toNat_natCast]
        refine goP h144 ?_
        simp only [us32,go_sem,hi0,him,Int.toNat_natCast,t1,hi1]
        exact loopQ_go rfl (X.length - (i+1)) (by omega) ⟨i+1,put L i (lo:Int),c',by omega,rfl,f1,f2,hq,f3,inv,rfl⟩
    · have hn':¬(i:Int)<(X.length:Int):=by omega
      obtain rfl:i=X.length:=by omega
      have hn0:(0:Int)≤(X.length:Int):=by omega
      have him:(X.length:Int)<(m:Int):=by omega
      have t1:X.length*1+1≤L.length:=by omega
      have p1:=put_nval (l:=L) (k:=X.length) (v:=(c:Int)) (by omega)
      rw [hz X.length (by omega)] at p1
      simp only [Int.toNat_natCast,Int.toNat_zero,Nat.mul_zero,Nat.add_zero] at p1
      rw [List.take_length,List.take_of_length_le hYX,hsum] at hv
      have hR2:=put_R32 (l:=L) (k:=X.length) (v:=(c:Int)) hR' (by omega)
      have hl2:m=(put L X.length (c:Int)).length:=by rw [put_len (by omega),hL]
      have h114:=c139_ok (E:=E) (l:=put L X.length (c:Int)) (by omega)
      rw [trimL_limG hR2,p1,hv] at h114
      simp only [b151_0,k151_0,us32,go_sem,hn',hn0,him,t1,Int.toNat_natCast]
      rw [hl2]
      refine goF h114 ?_
      simp only [us32,go_sem,FL]
      simp only [i151,OT,reduceIte,Nat.reduceEqDiff,sub,FL,List.length_cons,List.length_nil,Nat.le_refl,us32]
theorem c137_ok {a b:Nat} (ha:(limG a).length≤1000000) (hb:(limG b).length≤1000000):Go.V.Call tab E 137 [natC a,natC b] [] (natC (a*b)) []:=by
  refine Go.V.Call.mach i137 c137 rfl rfl rfl rfl ?_
  have hRa:=R32_limG (n:=a)
  have hRb:=R32_limG (n:=b)
  have ea:=nval_limG (n:=a)
  have eb:=nval_limG (n:=b)
  simp only [natC]
  generalize limG a=A at *
  generalize limG b=C at *
  obtain ⟨m,hm⟩:∃m,m=A.length+C.length:=⟨_,rfl⟩
  have w0:IntKind.i64.wrap ((A.length:Int)+(C.length:Int))=(m:Int):=by rw [wrap_i64 (by omega) (by omega)];omega
  have b1:(0:Int)≤(m:Int):=by omega
  have b2:4*m≤140737488355328:=by omega
  have b3:(m:Int)≤140737488355328:=by omega
  simp only [c137,us32,go_sem,subB1,subT1,FL,w0,b1,b2,b3,Int.toNat_natCast,flat_nums]
  refine mLoop (fun N st=>∃(i:Nat) (L:List Int),i≤A.length∧N=A.length - i∧L.length=m∧R32 L∧(∀j,i+C.length≤j→L.getD j 0=0)∧nval L=nval (A.take i)*b∧
    st=⟨[(3,.loc 1 0 0),(4,.loc 3 0 0),(5,.arr 4 0),(21,us32 A),(22,.int .i64 A.length),(23,.int .i64 i)],
      [⟨true,55,1,0,1,[us32 A],false⟩,⟨true,55,1,0,1,[us32 C],false⟩,⟨false,154,1,0,0,[],false⟩,⟨true,55,1,0,1,[.arr 2 0],false⟩,⟨false,154,1,0,m,nums .u32 L,false⟩]⟩) A.length
    ⟨_,rfl,0,List.replicate m 0,by omega,by omega,by simp,R32_zeros,fun j _=>zeros_get,by rw [nval_zeros];simp [nval],by simp [getE,us32]⟩ ?_
  rintro N s0 ⟨i,L,hi,rfl,hL,hR',hz,hv,rfl⟩
  by_cases hiA:i<A.length
  · have hi':(i:Int)<(A.length:Int):=by omega
    have hi0:(0:Int)≤(i:Int):=by omega
    have hi1:IntKind.i64.wrap ((i:Int)+1)=((i+1:Nat):Int):=by rw [wrap_i64 (by omega) (by omega)];omega
    have hsx:=sub_nums (k:=.u32) hiA
    have hxr:=R32_get hRa i
    have htx:=nval_take_succ' (l:=A) (k:=i)
    obtain ⟨x,hx⟩:=Int.eq_ofNat_of_zero_le hxr.1
    rw [hx] at hsx hxr htx
    rw [Int.toNat_natCast] at htx
    have hxl:x<4294967296:=by omega
    have wx:IntKind.u64.wrap (x:Int)=(x:Int):=wrap_u64 (by omega) (by omega)
    simp only [b137_0,us32,go_sem,subB1,hi',hi0,hsx,Int.toNat_natCast]
    refine mLoop (fun N st=>∃(j:Nat) (L':List Int) (c:Nat),j≤C.length∧N=C.length - j∧L'.length=m∧R32 L'∧c<4294967296∧(∀p,i+C.length≤p→L'.getD p 0=0)∧nval L'+4294967296^(i+j)*c=nval L+4294967296^i*(x*nval (C.take j))∧
      st=⟨[(3,.loc 1 0 0),(4,.loc 3 0 0),(5,.arr 4 0),(6,.int .i64 i),(7,.int .u32 x),(8,.int .u64 c),(21,us32 A),(22,.int .i64 A.length),(23,.int .i64 i),(29,us32 C),(30,.int .i64 C.length),(31,.int .i64 j)],
        [⟨true,55,1,0,1,[us32 A],false⟩,⟨true,55,1,0,1,[us32 C],false⟩,⟨false,154,1,0,0,[],false⟩,⟨true,55,1,0,1,[.arr 2 0],false⟩,⟨false,154,1,0,m,nums .u32 L',false⟩]⟩) C.length
      ⟨_,rfl,0,L,0,by omega,by omega,hL,hR',by omega,hz,by simp [nval],by simp [getE,us32]⟩ ?_
    rintro N s0 ⟨j,L',c,hj,rfl,hL',hR2,hc,hz',hv',rfl⟩
    by_cases hjC:j<C.length
    · have hj':(j:Int)<(C.length:Int):=by omega
      have hj0:(0:Int)≤(j:Int):=by omega
      have hj1:IntKind.i64.wrap ((j:Int)+1)=((j+1:Nat):Int):=by rw [wrap_i64 (by omega) (by omega)];omega
      have hij:IntKind.i64.wrap ((i:Int)+(j:Int))=((i+j:Nat):Int):=by rw [wrap_i64 (by omega) (by omega)];omega
      have hij0:(0:Int)≤((i+j:Nat):Int):=by omega
      have hijm:((i+j:Nat):Int)<(m:Int):=by omega
      have hsy:=sub_nums (k:=.u32) hjC
      have hso:=sub_nums (k:=.u32) (l:=L') (i:=i+j) (by omega)
      have hyr:=R32_get hRb j
      have hor:=R32_get hR2 (i+j)
      have hty:=nval_take_succ' (l:=C) (k:=j)
      have p1:=fun v=>put_nval (l:=L') (k:=i+j) (v:=v) (by omega)
      obtain ⟨y,hy⟩:=Int.eq_ofNat_of_zero_le hyr.1
      obtain ⟨o,ho⟩:=Int.eq_ofNat_of_zero_le hor.1
      rw [hy] at hsy hyr hty
      rw [ho] at hso hor p1
      rw [Int.toNat_natCast] at hty
      have hyl:y<4294967296:=by omega
      have hol:o<4294967296:=by omega
      have wy:IntKind.u64.wrap (y:Int)=(y:Int):=wrap_u64 (by omega) (by omega)
      have wo:IntKind.u64.wrap (o:Int)=(o:Int):=wrap_u64 (by omega) (by omega)
      have hxy:x*y≤4294967295*4294967295:=Nat.mul_le_mul (by omega) (by omega)
      have u1:IntKind.u64.wrap ((x:Int)*(y:Int))=((x*y:Nat):Int):=by
        rw [←Int.natCast_mul]
        exact wrap_u64 (by omega) (by omega)
      have u2:IntKind.u64.wrap (((x*y:Nat):Int)+(o:Int))=((x*y+o:Nat):Int):=by rw [wrap_u64 (by omega) (by omega)];omega
      have u3:IntKind.u64.wrap (((x*y+o:Nat):Int)+(c:Int))=((x*y+o+c:Nat):Int):=by rw [wrap_u64 (by omega) (by omega)];omega
      have hT:∀P:Nat,P*(x*y+o+c)=P*(x*y)+P*o+P*c:=fun P=>by rw [Nat.mul_add,Nat.mul_add]
      have hTl:x*y+o+c<4294967296*4294967296:=by omega
      have hcc:4294967296^i*(x*nval (C.take (j+1)))=4294967296^i*(x*nval (C.take j))+4294967296^(i+j)*(x*y):=by
        rw [hty,Nat.mul_add,Nat.mul_add,Nat.pow_add]
        congr 1
        rw [Nat.mul_left_comm x,Nat.mul_assoc]
      generalize x*y+o+c=T at *
      have w2:IntKind.u32.wrap (T:Int)=((T % 4294967296:Nat):Int):=by rw [wrap_u32];omega
      have w3:=shr32 (x:=T)
      have hdm:=Nat.div_add_mod T 4294967296
      have hq:T/4294967296<4294967296:=by omega
      have hml:T % 4294967296<4294967296:=by omega
      generalize T/4294967296=c' at *
      generalize T % 4294967296=lo at *
      have t1:(i+j)*1+1≤L'.length:=by omega
      have p2:=p1 (lo:Int)
      rw [Int.toNat_natCast,Int.toNat_natCast] at p2
      have inv:nval (put L' (i+j) (lo:Int))+4294967296^(i+(j+1))*c'=nval L+4294967296^i*(x*nval (C.take (j+1))):=by
        have e0:4294967296^(i+(j+1))*c'=4294967296^(i+j)*(4294967296*c'):=by rw [←Nat.add_assoc,Nat.pow_succ,Nat.mul_assoc]
        rw [e0,hcc]
        have e1:=hT (4294967296^(i+j))
        rw [←hdm,Nat.mul_add] at e1
        clear hT hcc hty htx p1
        generalize 4294967296^(i+j)*(4294967296*c')=Z1 at *
        generalize 4294967296^(i+j)*lo=Z2 at *
        generalize 4294967296^(i+j)*o=Z3 at *
        generalize 4294967296^(i+j)*c=Z4 at *
        generalize 4294967296^(i+j)*(x*y)=Z5 at *
        omega
      simp only [b137_1,us32,go_sem,subB1,hj',hj0,hj1,hij,hij0,hijm,hsy,hso,wx,wy,wo,u1,u2,u3,w2,w3,t1,Int.toNat_natCast]
      refine loopQ_go rfl (C.length - (j+1)) (by omega) ⟨j+1,put L' (i+j) (lo:Int),c',by omega,rfl,?_,put_R32 hR2 (by omega),hq,?_,inv,rfl⟩
      · rw [put_len (by omega),hL']
      · intro p hp
        rw [put_get (by omega),if_neg (by omega)]
        exact hz' p hp
    · have hj':¬(j:Int)<(C.length:Int):=by omega
      obtain rfl:j=C.length:=by omega
      have hij:IntKind.i64.wrap ((i:Int)+(C.length:Int))=((i+C.length:Nat):Int):=by rw [wrap_i64 (by omega) (by omega)];omega
      have hij0:(0:Int)≤((i+C.length:Nat):Int):=by omega
      have hijm:((i+C.length:Nat):Int)<(m:Int):=by omega
      have w2:IntKind.u32.wrap (c:Int)=(c:Int):=by rw [wrap_u32];omega
      have t1:(i+C.length)*1+1≤L'.length:=by omega
      have p1:=put_nval (l:=L') (k:=i+C.length) (v:=(c:Int)) (by omega)
      rw [hz' _ (Nat.le_refl _),Int.toNat_zero,Int.toNat_natCast,Nat.mul_zero,Nat.add_zero] at p1
      rw [List.take_length,eb] at hv'
      have inv:nval (put L' (i+C.length) (c:Int))=nval (A.take (i+1))*b:=by
        rw [p1,hv',htx,Nat.add_mul,hv,Nat.mul_assoc]
      simp only [b137_1,k137_0,k137_1,us32,go_sem,subB1,hj',hi1,hij,hij0,hijm,w2,t1,Int.toNat_natCast]
      refine loopQ_go rfl (A.length - (i+1)) (by omega) ⟨i+1,put L' (i+C.length) (c:Int),by omega,rfl,?_,put_R32 hR2 (by omega),?_,inv,rfl⟩
      · rw [put_len (by omega),hL']
      · intro p hp
        rw [put_get (by omega),if_neg (by omega)]
        exact hz' p (by omega)
  · have hn':¬(i:Int)<(A.length:Int):=by omega
    obtain rfl:i=A.length:=by omega
    have h114:=c139_ok (E:=E) (l:=L) (by omega)
    rw [List.take_length,ea] at hv
    rw [trimL_limG hR',hv] at h114
    have hm2:m=L.length:=hL.symm
    simp only [b137_0,k137_2,us32,go_sem,hn',hm2]
    refine goF h114 ?_
    simp only [us32,go_sem,FL]
    simp only [i137,OT,reduceIte,Nat.reduceEqDiff,sub,FL,List.length_cons,List.length_nil,Nat.le_refl,us32]
end
theorem put_drop {l:List Int} {j i:Nat} {v:Int} (h:j+i≤l.length):(put l (j+i) v).drop j=put (l.drop j) i v:=by
  simp only [put]
  rw [List.drop_append_of_le_length (by rw [List.length_take];omega),List.drop_take,List.drop_drop,Nat.add_sub_cancel_left,Nat.add_assoc]
theorem getD_dropD {l:List Int} {j i:Nat}:(l.drop j).getD i 0=l.getD (j+i) 0:=by
  rw [List.getD_eq_getElem?_getD,List.getD_eq_getElem?_getD,List.getElem?_drop]
theorem nval_allzero:∀{l:List Int},(∀p,l.getD p 0=0)→nval l=0
  | [],_=>rfl
  | x::l,h=>by
    have h0:x=0:=h 0
    rw [nval,nval_allzero (l:=l) (fun p=>h (p+1)),h0];rfl
theorem nval_short {l:List Int} {k:Nat} (hR:R32 l) (h:∀p,k≤p→l.getD p 0=0):nval l<4294967296^k:=by
  have h2:=nval_lt (R32_take hR k)
  by_cases hk:k≤l.length
  · have h1:=nval_split k hk
    rw [nval_allzero (l:=l.drop k) (fun p=>by rw [getD_dropD];exact h _ (by omega)),Nat.mul_zero,Nat.add_zero] at h1
    rw [List.length_take,Nat.min_eq_left hk] at h2
    omega
  · have h1:=nval_lt hR
    exact Nat.lt_of_lt_of_le h1 (Nat.pow_le_pow_right (by omega) (by omega))
theorem short_nval {l:List Int} {k:Nat} (hR:R32 l) (h:nval l<4294967296^k):∀p,k≤p→l.getD p 0=0:=by
  intro p hp
  by_cases hpl:p<l.length
  · have h1:=nval_drop hR p
    have h2:4294967296^k≤4294967296^p:=Nat.pow_le_pow_right (by omega) hp
    rw [Nat.div_eq_of_lt (by omega),getD_drop hpl,nval] at h1
    have:=(R32_get hR p).1
    omega
  · exact getD_big (by omega)
theorem sub_nums2 {k:IntKind} {l:List Int} {j i:Nat} (h:j+i<l.length):sub false 1 (nums k l) (j*1+i*1)=some (.int k (l.getD (j+i) 0)):=by
  have:=sub_nums (k:=k) h
  rwa [Nat.add_mul] at this
theorem fill_nums2 {k:IntKind} {l:List Int} {j i:Nat} {v:Int}:fillIn (nums k l) (j*1+i*1) [.int k v]=nums k (put l (j+i) v):=by
  have:=fill_nums (k:=k) (l:=l) (i:=j+i) (v:=v)
  rw [Nat.add_mul] at this
  exact this
def longM (A C:List Int) (nu nq:Nat) (U Q:List Int):List AObj:=
  [⟨true,55,1,0,1,[us32 A],false⟩,⟨true,55,1,0,1,[us32 C],false⟩,⟨false,154,1,0,0,[],false⟩,⟨true,55,1,0,1,[.arr 2 0],false⟩,⟨false,154,1,0,0,[],false⟩,⟨true,55,1,0,1,[.arr 4 0],false⟩,
    ⟨false,154,1,0,nu,nums .u32 U,false⟩,⟨false,154,1,0,nq,nums .u32 Q,false⟩]
section
variable {E:CallRel}
theorem c161_ok {A C U Q V:List Int} {nu nq j g:Nat} (hU:R32 U) (hV:R32 V) (hg:g<4294967296) (hj:j+V.length<U.length) (hl:U.length≤10000000) :
    ∃ (U':List Int) (b:Nat),U'.length=U.length∧R32 U'∧b≤1∧(∀p,p<j∨j+V.length<p→U'.getD p 0=U.getD p 0)∧
      nval (U'.drop j)+g*nval V=nval (U.drop j)+4294967296^(V.length+1)*b∧
      Go.V.Call tab E 161 [.msl 6 0 j (V.length+1),us32 V,.int .u64 g] (longM A C nu nq U Q) (.bool ((b:Int)==1)) (longM A C nu nq U' Q):=by
  suffices h:Mach (Go.V.Call tab E) (fun x st=>∃(U':List Int) (b:Nat),(U'.length=U.length∧R32 U'∧b≤1∧(∀p,p<j∨j+V.length<p→U'.getD p 0=U.getD p 0)∧
      nval (U'.drop j)+g*nval V=nval (U.drop j)+4294967296^(V.length+1)*b)∧Fin i161 (longM A C nu nq U Q) (.bool ((b:Int)==1)) (longM A C nu nq U' Q) x st)
      [.code c161] .nrm ⟨argsE 0 [.msl 6 0 j (V.length+1),us32 V,.int .u64 g],longM A C nu nq U Q⟩ by
    obtain ⟨x,st,h1,h4⟩:=wp_exec h
    rw [mNil] at h4
    obtain ⟨U',b,⟨h5,h6,h7,h8,h9⟩,h10⟩:=h4
    exact ⟨U',b,h5,h6,h7,h8,h9,Go.V.Call.go i161 c161 rfl rfl rfl rfl (exec_wp h1 h10)⟩
  simp only [c161,us32,longM,go_sem]
  refine mLoop (fun N st=>∃(i:Nat) (U':List Int) (c b:Nat),i≤V.length∧N=V.length - i∧U'.length=U.length∧R32 U'∧c<4294967296∧b≤1∧(∀p,p<j∨j+i≤p→U'.getD p 0=U.getD p 0)∧
      nval (U'.drop j)+g*nval (V.take i)=nval (U.drop j)+4294967296^i*(c+b)∧
      st=⟨[(0,.msl 6 0 j (V.length+1)),(1,us32 V),(2,.int .u64 g),(7,.int .u64 c),(8,.int .u32 b),(12,us32 V),(13,.int .i64 V.length),(14,.int .i64 i)],longM A C nu nq U' Q⟩) V.length
    ⟨_,rfl,0,U,0,0,by omega,by omega,rfl,hU,by omega,by omega,fun p _=>rfl,by simp [nval],by simp [getE,us32,longM]⟩ ?_
  rintro N s0 ⟨i,U',c,b,hi,rfl,hL,hR,hc,hb,hk,hv,rfl⟩
  have cin:∀q:Nat,q≤V.length→IntKind.i64.wrap ((q:Int))=(q:Int):=fun q hq=>wrap_i64 (by omega) (by omega)
  by_cases hiV:i<V.length
  · have hi':(i:Int)<(V.length:Int):=by omega
    have hi2:(i:Int)<((V.length+1:Nat):Int):=by omega
    have hi0:(0:Int)≤(i:Int):=by omega
    have hi1:IntKind.i64.wrap ((i:Int)+1)=((i+1:Nat):Int):=by rw [wrap_i64 (by omega) (by omega)];omega
    have hsv:=sub_nums (k:=.u32) hiV
    have hsu:=sub_nums2 (k:=.u32) (l:=U') (j:=j) (i:=i) (by omega)
    have hxr:=R32_get hV i
    have hur:=R32_get hR (j+i)
    have htv:=nval_take_succ' (l:=V) (k:=i)
    have p1:=fun v=>put_nval (l:=U'.drop j) (k:=i) (v:=v) (by rw [List.length_drop];omega)
    have pd:=fun v=>put_drop (l:=U') (j:=j) (i:=i) (v:=v) (by omega)
    have gd:(U'.drop j).getD i 0=U'.getD (j+i) 0:=getD_dropD
    obtain ⟨x,hx⟩:=Int.eq_ofNat_of_zero_le hxr.1
    obtain ⟨u,hu⟩:=Int.eq_ofNat_of_zero_le hur.1
    rw [hx] at hsv hxr htv
    rw [hu] at hsu hur gd
    rw [Int.toNat_natCast] at htv
    rw [gd] at p1
    have hxl:x<4294967296:=by omega
    have hul:u<4294967296:=by omega
    have hgx:g*x≤4294967295*4294967295:=Nat.mul_le_mul (by omega) (by omega)
    have wx:IntKind.u64.wrap (x:Int)=(x:Int):=wrap_u64 (by omega) (by omega)
    have u1:IntKind.u64.wrap ((g:Int)*(x:Int))=((g*x:Nat):Int):=by
      rw [←Int.natCast_mul]
      exact wrap_u64 (by omega) (by omega)
    have u2:IntKind.u64.wrap (((g*x:Nat):Int)+(c:Int))=((g*x+c:Nat):Int):=by rw [wrap_u64 (by omega) (by omega)];omega
    have hT:4294967296^i*(g*x+c)=4294967296^i*(g*x)+4294967296^i*c:=Nat.mul_add _ _ _
    have hg2:g*nval (V.take (i+1))=g*nval (V.take i)+4294967296^i*(g*x):=by
      rw [htv,Nat.mul_add,Nat.mul_left_comm]
    have hTl:g*x+c<4294967296*4294967296:=by omega
    generalize g*x+c=T at *
    have w2:IntKind.u32.wrap (T:Int)=((T % 4294967296:Nat):Int):=by rw [wrap_u32];omega
    have w3:=shr32 (x:=T)
    have hdm:=Nat.div_add_mod T 4294967296
    have hq:T/4294967296<4294967296:=by omega
    have hml:T % 4294967296<4294967296:=by omega
    generalize T/4294967296=c' at *
    generalize T % 4294967296=lo at *
    have h155:=c157_ok (E:=E) hul hml hb
    have hbr:(u+4294967296 - lo+4294967296 - b) % 4294967296+lo+b=u+4294967296*(if u<lo+b then 1 else 0):=by split<;>omega
    have hrl:(u+4294967296 - lo+4294967296 - b) % 4294967296<4294967296:=Nat.mod_lt _ (by omega)
    have hb':(if u<lo+b then 1 else 0:Nat)≤1:=by split<;>omega
    generalize (u+4294967296 - lo+4294967296 - b) % 4294967296=r at *
    generalize (if u<lo+b then 1 else 0:Nat)=b' at *
    have p2:=p1 (r:Int)
    rw [←pd,Int.toNat_natCast,Int.toNat_natCast] at p2
    have t1:j*1+i*1+1≤U'.length:=by omega
    have inv:nval ((put U' (j+i) (r:Int)).drop j)+g*nval (V.take (i+1))=nval (U.drop j)+4294967296^(i+1)*(c'+b'):=by
      have e0:4294967296^(i+1)*(c'+b')=4294967296^i*(4294967296*c')+4294967296^i*(4294967296*b'):=by rw [Nat.pow_succ,Nat.mul_assoc,Nat.mul_add,Nat.mul_add]
      have e1:4294967296^i*(r+lo+b)=4294967296^i*(u+4294967296*b'):=by rw [hbr]
      have e2:4294967296^i*T=4294967296^i*(4294967296*c')+4294967296^i*lo:=by rw [←Nat.mul_add,hdm]
      rw [Nat.mul_add,Nat.mul_add,Nat.mul_add] at e1
      rw [Nat.mul_add] at hv
      rw [e0,hg2]
      rw [e2] at hT
      clear e0 e2 p1 pd hg2 htv hbr hdm
      generalize 4294967296^i*(4294967296*c')=Z1 at *
      generalize 4294967296^i*(4294967296*b')=Z2 at *
      generalize 4294967296^i*(g*x)=Z3 at *
      generalize 4294967296^i*u=Z4 at *
      generalize 4294967296^i*r=Z5 at *
      generalize 4294967296^i*lo=Z6 at *
      generalize 4294967296^i*b=Z7 at *
      generalize 4294967296^i*c=Z8 at *
      omega
    simp only [b161_0,us32,longM,go_sem,hi',hi0,hi2,hsv,hsu,wx,u1,u2,w2,w3,Int.toNat_natCast]
    refine goR h155 rfl ?_
    simp only [us32,go_sem,hi0,hi2,hi1,fill_nums2,t1,Int.toNat_natCast]
    refine loopQ_go rfl (V.length - (i+1)) (by omega) ⟨i+1,put U' (j+i) (r:Int),c',b',by omega,rfl,?_,put_R32 hR (by omega),hq,hb',?_,inv,rfl⟩
    · rw [put_len (by omega),hL]
    · intro p hp
      rw [put_get (by omega),if_neg (by omega)]
      exact hk p (by omega)
  · have hi':¬(i:Int)<(V.length:Int):=by omega
    obtain rfl:i=V.length:=by omega
    have hi2:(V.length:Int)<((V.length+1:Nat):Int):=by omega
    have hi0:(0:Int)≤(V.length:Int):=by omega
    have hsu:=sub_nums2 (k:=.u32) (l:=U') (j:=j) (i:=V.length) (by omega)
    have hur:=R32_get hR (j+V.length)
    have p1:=fun v=>put_nval (l:=U'.drop j) (k:=V.length) (v:=v) (by rw [List.length_drop];omega)
    have pd:=fun v=>put_drop (l:=U') (j:=j) (i:=V.length) (v:=v) (by omega)
    have gd:(U'.drop j).getD V.length 0=U'.getD (j+V.length) 0:=getD_dropD
    obtain ⟨u,hu⟩:=Int.eq_ofNat_of_zero_le hur.1
    rw [hu] at hsu hur gd
    rw [gd] at p1
    rw [List.take_length] at hv
    have hul:u<4294967296:=by omega
    have w2:IntKind.u32.wrap (c:Int)=(c:Int):=by rw [wrap_u32];omega
    have h155:=c157_ok (E:=E) hul hc hb
    have hbr:(u+4294967296 - c+4294967296 - b) % 4294967296+c+b=u+4294967296*(if u<c+b then 1 else 0):=by split<;>omega
    have hrl:(u+4294967296 - c+4294967296 - b) % 4294967296<4294967296:=Nat.mod_lt _ (by omega)
    have hb':(if u<c+b then 1 else 0:Nat)≤1:=by split<;>omega
    generalize (u+4294967296 - c+4294967296 - b) % 4294967296=r at *
    generalize (if u<c+b then 1 else 0:Nat)=b' at *
    have p2:=p1 (r:Int)
    rw [←pd,Int.toNat_natCast,Int.toNat_natCast] at p2
    have t1:j*1+V.length*1+1≤U'.length:=by omega
    have inv:nval ((put U' (j+V.length) (r:Int)).drop j)+g*nval V=nval (U.drop j)+4294967296^(V.length+1)*b':=by
      have e0:4294967296^(V.length+1)*b'=4294967296^V.length*(4294967296*b'):=by rw [Nat.pow_succ,Nat.mul_assoc]
      have e1:4294967296^V.length*(r+c+b)=4294967296^V.length*(u+4294967296*b'):=by rw [hbr]
      rw [Nat.mul_add,Nat.mul_add,Nat.mul_add] at e1
      rw [Nat.mul_add] at hv
      rw [e0]
      clear e0 p1 pd hbr
      generalize 4294967296^V.length*(4294967296*b')=Z2 at *
      generalize 4294967296^V.length*u=Z4 at *
      generalize 4294967296^V.length*r=Z5 at *
      generalize 4294967296^V.length*b=Z7 at *
      generalize 4294967296^V.length*c=Z8 at *
      omega
    simp only [b161_0,k161_0,us32,longM,go_sem,hi',hi0,hi2,hsu,w2,Int.toNat_natCast]
    refine goR h155 rfl ?_
    simp only [us32,go_sem,hi0,hi2,fill_nums2,t1,Int.toNat_natCast]
    refine ⟨put U' (j+V.length) (r:Int),b',⟨?_,put_R32 hR (by omega),hb',?_,inv⟩,?_⟩
    · rw [put_len (by omega),hL]
    · intro p hp
      rw [put_get (by omega),if_neg (by omega)]
      exact hk p (by omega)
    · simp only [i161,OT,reduceIte,Nat.reduceEqDiff]
theorem c162_ok {A C U Q V:List Int} {nu nq j:Nat} (hU:R32 U) (hV:R32 V) (hj:j+V.length<U.length) (hl:U.length≤10000000) :
    ∃ (U':List Int) (k:Nat),U'.length=U.length∧R32 U'∧k≤1∧(∀p,p<j∨j+V.length<p→U'.getD p 0=U.getD p 0)∧
      nval (U'.drop j)+4294967296^(V.length+1)*k=nval (U.drop j)+nval V∧
      Go.V.Call tab E 162 [.msl 6 0 j (V.length+1),us32 V] (longM A C nu nq U Q) (.tup []) (longM A C nu nq U' Q):=by
  suffices h:Mach (Go.V.Call tab E) (fun x st=>∃(U':List Int) (k:Nat),(U'.length=U.length∧R32 U'∧k≤1∧(∀p,p<j∨j+V.length<p→U'.getD p 0=U.getD p 0)∧
      nval (U'.drop j)+4294967296^(V.length+1)*k=nval (U.drop j)+nval V)∧Fin i162 (longM A C nu nq U Q) (.tup []) (longM A C nu nq U' Q) x st)
      [.code c162] .nrm ⟨argsE 0 [.msl 6 0 j (V.length+1),us32 V],longM A C nu nq U Q⟩ by
    obtain ⟨x,st,h1,h4⟩:=wp_exec h
    rw [mNil] at h4
    obtain ⟨U',b,⟨h5,h6,h7,h8,h9⟩,h10⟩:=h4
    exact ⟨U',b,h5,h6,h7,h8,h9,Go.V.Call.go i162 c162 rfl rfl rfl rfl (exec_wp h1 h10)⟩
  simp only [c162,us32,longM,go_sem]
  refine mLoop (fun N st=>∃(i:Nat) (U':List Int) (c:Nat),i≤V.length∧N=V.length - i∧U'.length=U.length∧R32 U'∧c≤1∧(∀p,p<j∨j+i≤p→U'.getD p 0=U.getD p 0)∧
      nval (U'.drop j)+4294967296^i*c=nval (U.drop j)+nval (V.take i)∧
      st=⟨[(0,.msl 6 0 j (V.length+1)),(1,us32 V),(4,.int .u32 c),(7,us32 V),(8,.int .i64 V.length),(9,.int .i64 i)],longM A C nu nq U' Q⟩) V.length
    ⟨_,rfl,0,U,0,by omega,by omega,rfl,hU,by omega,fun p _=>rfl,by simp [nval],by simp [getE,us32,longM]⟩ ?_
  rintro N s0 ⟨i,U',c,hi,rfl,hL,hR,hc,hk,hv,rfl⟩
  by_cases hiV:i<V.length
  · have hi':(i:Int)<(V.length:Int):=by omega
    have hi2:(i:Int)<((V.length+1:Nat):Int):=by omega
    have hi0:(0:Int)≤(i:Int):=by omega
    have hi1:IntKind.i64.wrap ((i:Int)+1)=((i+1:Nat):Int):=by rw [wrap_i64 (by omega) (by omega)];omega
    have hsv:=sub_nums (k:=.u32) hiV
    have hsu:=sub_nums2 (k:=.u32) (l:=U') (j:=j) (i:=i) (by omega)
    have hxr:=R32_get hV i
    have hur:=R32_get hR (j+i)
    have htv:=nval_take_succ' (l:=V) (k:=i)
    have p1:=fun v=>put_nval (l:=U'.drop j) (k:=i) (v:=v) (by rw [List.length_drop];omega)
    have pd:=fun v=>put_drop (l:=U') (j:=j) (i:=i) (v:=v) (by omega)
    have gd:(U'.drop j).getD i 0=U'.getD (j+i) 0:=getD_dropD
    obtain ⟨x,hx⟩:=Int.eq_ofNat_of_zero_le hxr.1
    obtain ⟨u,hu⟩:=Int.eq_ofNat_of_zero_le hur.1
    rw [hx] at hsv hxr htv
    rw [hu] at hsu hur gd
    rw [Int.toNat_natCast] at htv
    rw [gd] at p1
    have hxl:x<4294967296:=by omega
    have hul:u<4294967296:=by omega
    have h144:=c158_ok (E:=E) hul hxl hc
    have hdm:=Nat.div_add_mod (u+x+c) 4294967296
    have hml:(u+x+c) % 4294967296<4294967296:=Nat.mod_lt _ (by omega)
    have hq:(u+x+c)/4294967296≤1:=by omega
    generalize (u+x+c)/4294967296=c' at *
    generalize (u+x+c) % 4294967296=r at *
    have p2:=p1 (r:Int)
    rw [←pd,Int.toNat_natCast,Int.toNat_natCast] at p2
    have t1:j*1+i*1+1≤U'.length:=by omega
    have inv:nval ((put U' (j+i) (r:Int)).drop j)+4294967296^(i+1)*c'=nval (U.drop j)+nval (V.take (i+1)):=by
      have e0:4294967296^(i+1)*c'=4294967296^i*(4294967296*c'):=by rw [Nat.pow_succ,Nat.mul_assoc]
      have e1:4294967296^i*(4294967296*c'+r)=4294967296^i*(u+x+c):=by rw [hdm]
      rw [Nat.mul_add,Nat.mul_add,Nat.mul_add] at e1
      rw [e0,htv]
      clear e0 p1 pd htv hdm
      generalize 4294967296^i*(4294967296*c')=Z1 at *
      generalize 4294967296^i*u=Z4 at *
      generalize 4294967296^i*r=Z5 at *
      generalize 4294967296^i*x=Z6 at *
      generalize 4294967296^i*c=Z8 at *
      omega
    simp only [b162_0,us32,longM,go_sem,hi',hi0,hi2,hsv,hsu,Int.toNat_natCast]
    refine goR h144 rfl ?_
    simp only [us32,go_sem,hi0,hi2,hi1,fill_nums2,t1,Int.toNat_natCast]
    refine loopQ_go rfl (V.length - (i+1)) (by omega) ⟨i+1,put U' (j+i) (r:Int),c',by omega,rfl,?_,put_R32 hR (by omega),hq,?_,inv,rfl⟩
    · rw [put_len (by omega),hL]
    · intro p hp
      rw [put_get (by omega),if_neg (by omega)]
      exact hk p (by omega)
  · have hi':¬(i:Int)<(V.length:Int):=by omega
    obtain rfl:i=V.length:=by omega
    have hi2:(V.length:Int)<((V.length+1:Nat):Int):=by omega
    have hi0:(0:Int)≤(V.length:Int):=by omega
    have hsu:=sub_nums2 (k:=.u32) (l:=U') (j:=j) (i:=V.length) (by omega)
    have hur:=R32_get hR (j+V.length)
    have p1:=fun v=>put_nval (l:=U'.drop j) (k:=V.length) (v:=v) (by rw [List.length_drop];omega)
    have pd:=fun v=>put_drop (l:=U') (j:=j) (i:=V.length) (v:=v) (by omega)
    have gd:(U'.drop j).getD V.length 0=U'.getD (j+V.length) 0:=getD_dropD
    obtain ⟨u,hu⟩:=Int.eq_ofNat_of_zero_le hur.1
    rw [hu] at hsu hur gd
    rw [gd] at p1
    rw [List.take_length] at hv
    have hul:u<4294967296:=by omega
    have w2:IntKind.u32.wrap ((u:Int)+(c:Int))=(((u+c) % 4294967296:Nat):Int):=by rw [wrap_u32];omega
    have hdm:=Nat.div_add_mod (u+c) 4294967296
    have hml:(u+c) % 4294967296<4294967296:=Nat.mod_lt _ (by omega)
    have hq:(u+c)/4294967296≤1:=by omega
    generalize (u+c)/4294967296=c' at *
    generalize (u+c) % 4294967296=r at *
    have p2:=p1 (r:Int)
    rw [←pd,Int.toNat_natCast,Int.toNat_natCast] at p2
    have t1:j*1+V.length*1+1≤U'.length:=by omega
    have inv:nval ((put U' (j+V.length) (r:Int)).drop j)+4294967296^(V.length+1)*c'=nval (U.drop j)+nval V:=by
      have e0:4294967296^(V.length+1)*c'=4294967296^V.length*(4294967296*c'):=by rw [Nat.pow_succ,Nat.mul_assoc]
      have e1:4294967296^V.length*(4294967296*c'+r)=4294967296^V.length*(u+c):=by rw [hdm]
      rw [Nat.mul_add,Nat.mul_add] at e1
      rw [e0]
      clear e0 p1 pd hdm
      generalize 4294967296^V.length*(4294967296*c')=Z1 at *
      generalize 4294967296^V.length*u=Z4 at *
      generalize 4294967296^V.length*r=Z5 at *
      generalize 4294967296^V.length*c=Z8 at *
      omega
    simp only [b162_0,k162_0,us32,longM,go_sem,hi',hi0,hi2,hsu,w2,fill_nums2,t1,Int.toNat_natCast]
    refine ⟨put U' (j+V.length) (r:Int),c',⟨?_,put_R32 hR (by omega),hq,?_,inv⟩,?_⟩
    · rw [put_len (by omega),hL]
    · intro p hp
      rw [put_get (by omega),if_neg (by omega)]
      exact hk p (by omega)
    · simp only [i162,OT,reduceIte,Nat.reduceEqDiff]
end
structure Heads (Vn w top next head u2 K vl low:Nat):Prop where
  hV:Vn=(top*4294967296+next)*K+vl
  hvl:vl<K
  hw:w=(head*4294967296+u2)*K+low
  hlow:low<K
  hwV:w<4294967296*Vn
  htop:1≤top
  hnext:next<4294967296
  hu2:u2<4294967296
variable {Vn w top next head u2 K vl low g rest:Nat}
theorem Heads.pos (h:Heads Vn w top next head u2 K vl low):0<Vn:=by
  rcases Nat.eq_zero_or_pos Vn with h0|h0
  · have:=h.hwV;rw [h0] at this;omega
  · exact h0
theorem Heads.wlt (h:Heads Vn w top next head u2 K vl low):w<(head*4294967296+u2+1)*K:=by
  rw [h.hw,Nat.add_mul (head*4294967296+u2) 1,Nat.one_mul]
  have:=h.hlow
  omega
theorem Heads.vle (h:Heads Vn w top next head u2 K vl low):(top*4294967296+next)*K≤Vn:=by rw [h.hV];omega
theorem Heads.vlt (h:Heads Vn w top next head u2 K vl low):Vn<(top*4294967296+next+1)*K:=by
  rw [h.hV,Nat.add_mul (top*4294967296+next) 1,Nat.one_mul]
  have:=h.hvl
  omega
theorem Heads.dec (h:Heads Vn w top next head u2 K vl low) (h1:g*top+rest=head) (h2:rest*4294967296+u2<g*next):w<g*Vn:=by
  have e1:head*4294967296+u2+1≤g*(top*4294967296+next):=by
    rw [Nat.mul_add,←Nat.mul_assoc]
    omega
  have e2:=Nat.mul_le_mul_right K e1
  have e3:=Nat.mul_le_mul_left g h.vle
  rw [←Nat.mul_assoc] at e3
  have:=h.wlt
  omega
theorem Heads.big (h:Heads Vn w top next head u2 K vl low) (hg:4294967296≤g):w<g*Vn:=
  Nat.lt_of_lt_of_le h.hwV (Nat.mul_le_mul_right _ hg)
theorem Heads.ok (h:Heads Vn w top next head u2 K vl low) (h1:g*top+rest=head) (h2:g*next≤rest*4294967296+u2) (hg:g<4294967296):g*Vn<w+Vn:=by
  have e1:g*(top*4294967296+next)≤head*4294967296+u2:=by
    rw [Nat.mul_add,←Nat.mul_assoc]
    omega
  have e2:=Nat.mul_le_mul_right K e1
  have e4:g*Vn=g*(top*4294967296+next)*K+g*vl:=by rw [h.hV,Nat.mul_add,Nat.mul_assoc]
  have e5:g*vl<Vn:=by
    have f1:g*vl≤4294967295*vl:=Nat.mul_le_mul_right _ (by omega)
    have f2:4294967296*K≤(top*4294967296+next)*K:=Nat.mul_le_mul_right _ (by have:=h.htop;omega)
    have:=h.vle
    have:=h.hvl
    omega
  have:=h.hw
  omega
theorem Heads.headlt (h:Heads Vn w top next head u2 K vl low):head<4294967296*(top+1):=by
  have e1:head*4294967296*K≤w:=by
    rw [h.hw]
    have:head*4294967296*K≤(head*4294967296+u2)*K:=Nat.mul_le_mul_right _ (by omega)
    omega
  have e2:Vn≤(top+1)*4294967296*K:=by
    have f:=h.vlt
    have:(top*4294967296+next+1)*K≤(top+1)*4294967296*K:=Nat.mul_le_mul_right _ (by have:=h.hnext;omega)
    omega
  have e3:head*4294967296*K<4294967296*((top+1)*4294967296*K):=by
    have:=h.hwV
    omega
  rcases Nat.lt_or_ge head (4294967296*(top+1)) with h1|h1
  · exact h1
  · have f1:4294967296*(top+1)*4294967296*K≤head*4294967296*K:=Nat.mul_le_mul_right _ (Nat.mul_le_mul_right _ h1)
    have f2:4294967296*(top+1)*4294967296*K=4294967296*((top+1)*4294967296*K):=by rw [Nat.mul_assoc,Nat.mul_assoc,Nat.mul_assoc]
    omega
theorem Heads.brk (h:Heads Vn w top next head u2 K vl low) (h1:g*top+rest=head) (h3:4294967296≤rest):g<4294967296∧g*Vn<w+Vn:=by
  have hg:g<4294967296:=by
    rcases Nat.lt_or_ge g 4294967296 with h2|h2
    · exact h2
    · have f:=Nat.mul_le_mul_right top h2
      have:=h.headlt
      have:=h.htop
      omega
  refine ⟨hg,h.ok h1 ?_ hg⟩
  have f1:g*next≤4294967295*4294967295:=Nat.mul_le_mul (by omega) (by have:=h.hnext;omega)
  omega
theorem Heads.first (h:Heads Vn w top next head u2 K vl low):w/Vn≤head/top:=by
  have hlt:w<(head/top+1)*Vn:=by
    have e0:head+1≤(head/top+1)*top:=by
      have:=Nat.div_add_mod head top
      have:=Nat.mod_lt head h.htop
      rw [Nat.add_mul,Nat.one_mul,Nat.mul_comm]
      omega
    have e1:head*4294967296+u2+1≤(head/top+1)*(top*4294967296+next):=by
      rw [Nat.mul_add,←Nat.mul_assoc]
      have:=Nat.mul_le_mul_right 4294967296 e0
      have:=h.hu2
      have:0≤(head/top+1)*next:=Nat.zero_le _
      omega
    have e2:=Nat.mul_le_mul_right K e1
    have e3:=Nat.mul_le_mul_left (head/top+1) h.vle
    rw [←Nat.mul_assoc] at e3
    have:=h.wlt
    omega
  have:=(Nat.div_lt_iff_lt_mul h.pos).2 hlt
  omega
theorem Heads.less (h:Heads Vn w top next head u2 K vl low) (h1:w<g*Vn):w/Vn≤g - 1∧1≤g:=by
  have:=(Nat.div_lt_iff_lt_mul h.pos).2 h1
  exact ⟨Nat.le_sub_one_of_lt this,Nat.lt_of_le_of_lt (Nat.zero_le _) this⟩
theorem Heads.near (h:Heads Vn w top next head u2 K vl low) (h1:w/Vn≤g) (h2:g*Vn<w+Vn):g=w/Vn∨g=w/Vn+1:=by
  have e1:=Nat.div_add_mod w Vn
  have e2:=Nat.mod_lt w h.pos
  have e3:g*Vn<(w/Vn+2)*Vn:=by
    rw [Nat.add_mul,Nat.mul_comm (w/Vn)]
    omega
  have:=Nat.lt_of_mul_lt_mul_right e3
  omega
theorem take_off {W' P b:Nat} (hV:0<Vn) (hb:b≤1) (hP:W'<P) (hVP:Vn≤P) (hg:g=w/Vn∨g=w/Vn+1) (h:W'+g*Vn=w+P*b):(b=0→g=w/Vn∧W'=w % Vn)∧(b=1→g=w/Vn+1∧W'+Vn=P+w % Vn):=by
  have e1:=Nat.div_add_mod w Vn
  have e2:=Nat.mod_lt w hV
  rw [Nat.mul_comm] at e1
  have e3:(w/Vn+1)*Vn=w/Vn*Vn+Vn:=by rw [Nat.add_mul,Nat.one_mul]
  rcases hg with rfl|rfl
  · refine ⟨fun hb0=>?_,fun hb1=>?_⟩
    · subst hb0;exact ⟨rfl,by omega⟩
    · subst hb1;omega
  · rw [e3] at h
    refine ⟨fun hb0=>?_,fun hb1=>?_⟩
    · subst hb0;omega
    · subst hb1;exact ⟨rfl,by omega⟩
theorem put_back {W' W'' P k:Nat} (hV:0<Vn) (hk:k≤1) (hP:W''<P) (h1:W'+Vn=P+w % Vn) (h:W''+P*k=W'+Vn):W''=w % Vn:=by
  rcases Nat.eq_zero_or_pos k with rfl|h0
  · omega
  · obtain rfl:k=1:=by omega
    omega
theorem long_step {u0 qs r d B:Nat} (h:d=qs*Vn+r):u0+B*d=(((u0+B*r)/Vn)+B*qs)*Vn+(u0+B*r) % Vn:=by
  have e1:=Nat.div_add_mod (u0+B*r) Vn
  rw [h,Nat.add_mul,Nat.mul_add,Nat.mul_assoc B]
  rw [Nat.mul_comm] at e1
  omega
theorem nval_heads {l:List Int} (hR:R32 l) {n:Nat} (hn:2≤n) (hs:∀p,n<p→l.getD p 0=0) (hl:n<l.length) :
    ∃low,low<4294967296^(n - 2)∧nval l=(((l.getD n 0).toNat*4294967296+(l.getD (n - 1) 0).toNat)*4294967296+(l.getD (n - 2) 0).toNat)*4294967296^(n - 2)+low:=by
  obtain ⟨k,rfl⟩:∃k,n=k+1+1:=⟨n - 2,by omega⟩
  refine ⟨nval (l.take k),?_,?_⟩
  · have:=nval_lt (R32_take hR k)
    rw [List.length_take,Nat.min_eq_left (by omega)] at this
    exact this
  · have h1:=nval_split (l:=l) k (by omega)
    have h2:nval (l.drop k)=(l.getD k 0).toNat+4294967296*((l.getD (k+1) 0).toNat+4294967296*(l.getD (k+1+1) 0).toNat):=by
      rw [getD_drop (by omega),nval,getD_drop (by omega),nval,getD_drop (by omega),nval,nval_allzero (l:=l.drop (k+1+1+1)) (fun p=>by rw [getD_dropD];exact hs _ (by omega))]
      omega
    rw [h1,h2,show k+1+1 - 1=k+1 by omega,show k+1+1 - 2=k by omega,Nat.mul_comm (4294967296^k)]
    have:(l.getD k 0).toNat+4294967296*((l.getD (k+1) 0).toNat+4294967296*(l.getD (k+1+1) 0).toNat)=((l.getD (k+1+1) 0).toNat*4294967296+(l.getD (k+1) 0).toNat)*4294967296+(l.getD k 0).toNat:=by omega
    rw [this]
    omega
theorem nval_heads2 {l:List Int} (hR:R32 l) (hl:2≤l.length) :
    ∃low,low<4294967296^(l.length - 2)∧nval l=((l.getD (l.length - 1) 0).toNat*4294967296+(l.getD (l.length - 2) 0).toNat)*4294967296^(l.length - 2)+low:=by
  obtain ⟨k,hk⟩:∃k,l.length=k+2:=⟨l.length - 2,by omega⟩
  refine ⟨nval (l.take k),?_,?_⟩
  · have:=nval_lt (R32_take hR k)
    rw [List.length_take,Nat.min_eq_left (by omega)] at this
    rw [hk]
    exact this
  · have h1:=nval_split (l:=l) k (by omega)
    have h2:nval (l.drop k)=(l.getD k 0).toNat+4294967296*(l.getD (k+1) 0).toNat:=by
      rw [getD_drop (by omega),nval,getD_drop (by omega),nval,nval_allzero (l:=l.drop (k+1+1)) (fun p=>by rw [getD_dropD];exact getD_big (by omega))]
      omega
    rw [hk,h1,h2,show k+2 - 1=k+1 by omega,show k+2 - 2=k by omega,Nat.mul_comm (4294967296^k)]
    have:(l.getD k 0).toNat+4294967296*(l.getD (k+1) 0).toNat=(l.getD (k+1) 0).toNat*4294967296+(l.getD k 0).toNat:=by omega
    rw [this]
    omega
end Go.Proofs.Ytlejgleocnemoaa.I

namespace Go.Proofs.Ytlejgleocnemoaa.I
open Go Go.V
attribute [local go_sem_proc ↓] reduceIte
attribute [local go_sem_proc] Nat.reduceEqDiff Nat.reduceAdd Nat.reduceMul Nat.reduceLeDiff Nat.reduceLT Int.reduceToNat Int.reduceLT Int.reduceLE reduceCtorEq Nat.reduceBEq
attribute [local go_sem] mNil nat0 beq_self_eq_true mSkip mRet mExit mReg mSeq mCond mTrue mFalse mBlock mLv mCodeE mCodeR mEndN mEndR mEndE mOps mSome mGuard mGtt mGff mGtf mGft mGu mCallP mCallR mCallF mCallO mCallZ mCallG mCallM mCallV loopQ_exit loopQ_ret mO_mov mO_newnil mO_pick mO_alloc mO_box mO_build mO_bsl mO_bslF mO_newnilB mO_bslB mO_lenB mO_appB mO_allocA mO_bslA mO_appA mO_ldb mO_faddrb mRsv mO_ldf mO_ld mO_st mO_sta mO_nilchk mO_bin mO_binb mO_binp mO_bins mO_neg mO_com mO_not mO_conv mO_mk mO_mk0 mO_mkB mO_s2b mO_b2s mO_cpy mO_cut mO_faddr mO_fld mO_iaddr mO_iaddrf mO_sidx mO_len mO_lenf mO_slen mO_scut mO_app mO_ext mO_mx mO_mn mO_mkfn evalOp cutOp argsE ev getE putE cellsOf adopt rowOf binV boolV nilV ar_add ar_sub ar_mul ar_quo ar_rem ar_eq ar_ne ar_lt ar_le ar_gt ar_ge geto bound finRet finNrm ints List.length_cons List.length_nil List.length_append List.getElem?_cons_zero List.getElem?_cons_succ List.nil_append List.cons_append List.map_cons List.map_nil List.mapM_cons List.mapM_nil Option.map_some Option.map_none Option.bind_some Option.pure_def Option.bind_eq_bind List.drop_zero or_self or_false false_or or_true true_or true_and and_true and_self decide_true decide_false Bool.false_eq_true Bool.true_eq_false Bool.not_true Bool.not_false Nat.le_refl eq_self gt_iff_lt ge_iff_le ne_eq not_true_eq_false not_false_eq_true storeOp apartOf freeze_nil refsL refs List.flatMap_cons List.flatMap_nil List.append_nil List.contains_nil List.set_cons_zero List.set_cons_succ snap snapL fill_nums flat_nums nums_length Go.V.freeze List.mapIdx_cons List.mapIdx_nil List.contains_cons Bool.or_false Bool.false_or Bool.or_true Bool.true_or
theorem mCut1 {C:CallRel} {Q:X→St→Prop} {c:IR} {k:List V.Item} {s:St} {R:X→St→Prop} (h:Mach C R [.code c] .nrm s) (h2:∀(x:X) (s':St),R x s'→Mach C Q k x s'):Mach C Q (.code c::k) .nrm s:=by
  simp only [Mach] at h ⊢
  exact Go.V.wp_mono (fun x s' hx=>h2 x s' hx) h
theorem fill0 {k:IntKind} {a b:List Int} (h:a.length≤b.length):fillIn (nums k b) 0 (nums k a)=nums k (a++b.drop a.length):=by
  simp [fillIn,nums]
theorem or_shl' {a b:Nat} (ha:a<4294967296) (hb:b<4294967296):arith .or .u64 ((b:Int)*4294967296) (a:Int)=some (.int .u64 ((b*4294967296+a:Nat):Int)):=by
  have h:IntKind.u64.wrap (((BitVec.ofInt IntKind.u64.bits ((b:Int)*4294967296) ||| BitVec.ofInt IntKind.u64.bits (a:Int)).toNat:Nat):Int)=(b:Int)*4294967296+a:=shl_or ha hb
  rw [ar_or,h]
  congr 2
theorem put_drop0 {l:List Int} {k:Nat} {v:Int} (h:k<l.length):(put l k v).drop k=v::l.drop (k+1):=by
  simp only [put]
  rw [List.drop_append_of_le_length (by rw [List.length_take];omega),List.drop_eq_nil_of_le (by rw [List.length_take];omega)]
  rfl
section
variable {E:CallRel}
set_option maxHeartbeats 3200000 in
set_option maxRecDepth 4000 in
theorem c153_ok {a b:Nat} (hb2:2≤(limG b).length) (hab:b≤a) (ha:(limG a).length≤1000000):Go.V.Call tab E 153 [natC a,natC b] [] (.tup [natC (a/b),natC (a % b)]) []:=by
  refine Go.V.Call.mach i153 c153 rfl rfl rfl rfl ?_
  have hRa:=R32_limG (n:=a)
  have hRb:=R32_limG (n:=b)
  have ea:=nval_limG (n:=a)
  have eb:=nval_limG (n:=b)
  have hmono:=limG_mono hab
  have hb0:b≠0:=by
    rintro rfl
    rw [limG_zero] at hb2
    simp at hb2
  obtain ⟨bl,d,hbd,hd1,hd2⟩:=limG_last hb0
  have hd0:(limG b).getD ((limG b).length - 1) 0=d:=by
    rw [hbd];simp
  obtain ⟨d',rfl⟩:=Int.eq_ofNat_of_zero_le (show 0≤d by omega)
  obtain ⟨s,hs32,hs1,hs2,h148⟩:=c159_ok (E:=E) (x:=d') (by omega) (by omega)
  have hps:0<2^s:=Nat.pow_pos (by omega)
  have hblen:bl.length+1=(limG b).length:=by rw [hbd];simp
  have hbv:b=nval bl+4294967296^bl.length*d':=by
    have:=nval_append (a:=bl) (b:=[(d':Int)])
    rw [←hbd,eb] at this
    simpa [nval] using this
  have hbl:=nval_lt (l:=bl) (fun x hx=>hRb x (by rw [hbd];simp [hx]))
  have hVlo:4294967296^bl.length*2147483648≤b*2^s:=by
    have e1:4294967296^bl.length*(d'*2^s)≤b*2^s:=by
      rw [←Nat.mul_assoc]
      exact Nat.mul_le_mul_right _ (by omega)
    have e2:4294967296^bl.length*2147483648≤4294967296^bl.length*(d'*2^s):=Nat.mul_le_mul_left _ hs1
    omega
  have hVhi:b*2^s<4294967296^(limG b).length:=by
    have hpp:2^s*2^(32 - s)=4294967296:=by rw [←Nat.pow_add,show s+(32 - s)=32 by omega]
    have e1:(d'+1)*2^s≤4294967296:=by
      have f:d'<2^(32 - s):=by
        rw [←hpp,Nat.mul_comm (2^s)] at hs2
        exact Nat.lt_of_mul_lt_mul_right hs2
      have:=Nat.mul_le_mul_right (2^s) (show d'+1≤2^(32 - s) from f)
      rw [Nat.mul_comm (2^(32 - s)),hpp] at this
      exact this
    have e2:b<4294967296^bl.length*(d'+1):=by rw [Nat.mul_add];omega
    have e3:b*2^s<4294967296^bl.length*(d'+1)*2^s:=(Nat.mul_lt_mul_right hps).2 e2
    have e4:4294967296^bl.length*(d'+1)*2^s≤4294967296^bl.length*4294967296:=by
      rw [Nat.mul_assoc]
      exact Nat.mul_le_mul_left _ e1
    rw [←hblen,Nat.pow_succ]
    omega
  have h149b:=c160_ok (E:=E) (n:=b) hs32 (by omega)
  have h149a:=c160_ok (E:=E) (n:=a) hs32 ha
  have hVl:(limG (b*2^s)).length=(limG b).length:=by
    have h1:=limG_len hVhi
    have h2:=limG_mono (show b≤b*2^s from Nat.le_mul_of_pos_right _ hps)
    omega
  have hSl:(limG (a*2^s)).length≤(limG a).length+1:=by
    refine limG_len ?_
    rw [Nat.pow_succ]
    have h1:=limG_lt a
    have h2:2^s≤2^32:=Nat.pow_le_pow_right (by omega) (by omega)
    exact Nat.mul_lt_mul'' h1 (by
      have:2^s<2^32:=Nat.pow_lt_pow_right (by omega) hs32
      omega)
  have hRV:=R32_limG (n:=b*2^s)
  have hRS:=R32_limG (n:=a*2^s)
  have eV:=nval_limG (n:=b*2^s)
  have eS:=nval_limG (n:=a*2^s)
  have hUtop:a*2^s<4294967296^(limG a).length*2^s:=(Nat.mul_lt_mul_right hps).2 (limG_lt a)
  simp only [natC] at h149b h149a ⊢
  have hq:=Nat.mul_div_mul_right a b hps
  have hr:=Nat.mul_mod_mul_right (2^s) a b
  have hVn0:0<b*2^s:=Nat.mul_pos (by omega) hps
  generalize limG a=A at *
  generalize limG b=C at *
  generalize limG (a*2^s)=S at *
  generalize limG (b*2^s)=V at *
  obtain ⟨m,hm⟩:∃m,A.length=C.length+m:=⟨A.length - C.length,by omega⟩
  obtain ⟨U0,hU0⟩:∃U0,U0=S++(List.replicate (A.length+1) (0:Int)).drop S.length:=⟨_,rfl⟩
  have hU0l:U0.length=A.length+1:=by rw [hU0];simp;omega
  have hU0R:R32 U0:=by rw [hU0];exact R32_app hRS (R32_drop R32_zeros _)
  have hU0v:nval U0=a*2^s:=by
    rw [hU0,nval_append,nval_allzero (l:=List.drop _ _) (fun p=>by rw [getD_dropD];exact zeros_get),eS]
    omega
  have hfill:=fill0 (k:=.u32) (a:=S) (b:=List.replicate (A.length+1) 0) (by simpa using hSl)
  rw [←hU0] at hfill
  have hbl2:C.length - 1=bl.length:=by omega
  have w0:IntKind.i64.wrap ((C.length:Int) - 1)=((C.length - 1:Nat):Int):=by rw [wrap_i64 (by omega) (by omega)];omega
  have g0:(0:Int)≤((C.length - 1:Nat):Int):=by omega
  have g1:((C.length - 1:Nat):Int)<(C.length:Int):=by omega
  have hsd:=sub_nums (k:=.u32) (l:=C) (i:=C.length - 1) (by omega)
  rw [hd0] at hsd
  have w1:IntKind.i64.wrap ((A.length:Int)+1)=((A.length+1:Nat):Int):=by rw [wrap_i64 (by omega) (by omega)];omega
  have b1:(0:Int)≤((A.length+1:Nat):Int):=by omega
  have b2:4*(A.length+1)≤140737488355328:=by omega
  have b3:((A.length+1:Nat):Int)≤140737488355328:=by omega
  have w2:IntKind.i64.wrap ((A.length:Int) - (C.length:Int))=(m:Int):=by rw [wrap_i64 (by omega) (by omega)];omega
  have w3:IntKind.i64.wrap ((m:Int)+1)=((m+1:Nat):Int):=by rw [wrap_i64 (by omega) (by omega)];omega
  have b4:(0:Int)≤((m+1:Nat):Int):=by omega
  have b5:4*(m+1)≤140737488355328:=by omega
  have b6:((m+1:Nat):Int)≤140737488355328:=by omega
  have hV2:2≤V.length:=by omega
  have w4:IntKind.i64.wrap ((V.length:Int) - 1)=((V.length - 1:Nat):Int):=by rw [wrap_i64 (by omega) (by omega)];omega
  have w5:IntKind.i64.wrap ((V.length:Int) - 2)=((V.length - 2:Nat):Int):=by rw [wrap_i64 (by omega) (by omega)];omega
  have g2:(0:Int)≤((V.length - 1:Nat):Int):=by omega
  have g3:((V.length - 1:Nat):Int)<(V.length:Int):=by omega
  have g4:(0:Int)≤((V.length - 2:Nat):Int):=by omega
  have g5:((V.length - 2:Nat):Int)<(V.length:Int):=by omega
  have hst:=sub_nums (k:=.u32) (l:=V) (i:=V.length - 1) (by omega)
  have hsn:=sub_nums (k:=.u32) (l:=V) (i:=V.length - 2) (by omega)
  have htr:=R32_get hRV (V.length - 1)
  have hnr:=R32_get hRV (V.length - 2)
  obtain ⟨vl,hvl,hVV⟩:=nval_heads2 hRV hV2
  obtain ⟨top,htop⟩:=Int.eq_ofNat_of_zero_le htr.1
  obtain ⟨next,hnext⟩:=Int.eq_ofNat_of_zero_le hnr.1
  rw [htop] at hst htr hVV
  rw [hnext] at hsn hnr hVV
  rw [Int.toNat_natCast,Int.toNat_natCast] at hVV
  have htl:top<4294967296:=by omega
  have hnl:next<4294967296:=by omega
  have htop1:1≤top:=by
    rcases Nat.eq_zero_or_pos top with h0|h0
    · exfalso
      have hz:∀p,V.length - 1≤p→V.getD p 0=0:=fun p hp=>by
        by_cases h:p=V.length - 1
        · rw [h,htop,h0];rfl
        · exact getD_big (by omega)
      have h1:=nval_short hRV hz
      rw [eV,show V.length - 1=bl.length by omega] at h1
      omega
    · exact h0
  have wt:IntKind.u64.wrap (top:Int)=(top:Int):=wrap_u64 (by omega) (by omega)
  have wn:IntKind.u64.wrap (next:Int)=(next:Int):=wrap_u64 (by omega) (by omega)
  have hcp:S.length≤A.length+1:=hSl
  simp only [c153,us32,go_sem,subB1,subT1,FL,w0,g0,g1,hsd,Int.toNat_natCast]
  refine goP h148 ?_
  simp only [us32,go_sem,subB1,subT1,FL]
  refine goP h149b ?_
  simp only [us32,go_sem,subB1,subT1,FL,w1,b1,b2,b3,Int.toNat_natCast,flat_nums]
  refine goP h149a ?_
  simp only [us32,go_sem,subB1,subT1,hcp,hfill,w2,w3,b4,b5,b6,w4,w5,g2,g3,g4,g5,hst,hsn,wt,wn,Int.toNat_natCast,flat_nums]
  refine mLoop (fun N st=>∃(j:Nat) (jj:Int) (U Q:List Int),j≤m+1∧N=j∧jj=(j:Int) - 1∧U.length=A.length+1∧R32 U∧Q.length=m+1∧R32 Q∧(∀p,p<j→U.getD p 0=U0.getD p 0)∧
      nval (U.drop j)<b*2^s∧nval (U0.drop j)=nval (Q.drop j)*(b*2^s)+nval (U.drop j)∧
      st=⟨[(4,.loc 3 0 0),(5,.loc 5 0 0),(6,.int .i64 s),(7,us32 V),(8,.arr 6 0),(9,.int .i64 V.length),(11,.arr 7 0),(12,.int .u64 top),(13,.int .u64 next),(14,.int .i64 jj)],longM A C (A.length+1) (m+1) U Q⟩) (m+1)
    ⟨_,rfl,m+1,(m:Int),U0,List.replicate (m+1) 0,by omega,rfl,by omega,hU0l,hU0R,by simp,R32_zeros,fun p _=>rfl,?_,?_,by simp [getE,us32,longM]⟩ ?_
  · rw [nval_drop hU0R,hU0v]
    refine Nat.div_lt_of_lt_mul ?_
    have e1:4294967296^A.length*2^s≤4294967296^(m+1)*(4294967296^bl.length*2147483648):=by
      rw [show A.length=(m+1)+bl.length by omega,Nat.pow_add,Nat.mul_assoc]
      refine Nat.mul_le_mul_left _ (Nat.mul_le_mul_left _ ?_)
      have:2^s≤2^31:=Nat.pow_le_pow_right (by omega) (by omega)
      omega
    have e2:4294967296^(m+1)*(4294967296^bl.length*2147483648)≤4294967296^(m+1)*(b*2^s):=Nat.mul_le_mul_left _ hVlo
    omega
  · have:(List.replicate (m+1) (0:Int)).drop (m+1)=[]:=List.drop_eq_nil_of_le (by simp)
    rw [this]
    simp [nval]
  rintro N s0 ⟨j,jj,U,Q,hj,rfl,hjj,hUl,hUR,hQl,hQR,hUk,hUv,hinv,rfl⟩
  cases N with
  | zero=>
    have hn:¬0≤jj:=by omega
    rw [List.drop_zero] at hUv
    rw [List.drop_zero,List.drop_zero,List.drop_zero,hU0v] at hinv
    have q1:nval Q=a/b:=by
      rw [←hq,hinv,Nat.mul_comm,Nat.mul_add_div hVn0,Nat.div_eq_of_lt hUv,Nat.add_zero]
    have q2:nval U=(a % b)*2^s:=by
      rw [←hr,hinv,Nat.mul_comm,Nat.mul_add_mod,Nat.mod_eq_of_lt hUv]
    have h114q:=c139_ok (E:=E) (l:=Q) (by omega)
    rw [trimL_limG hQR,q1] at h114q
    have h114u:=c139_ok (E:=E) (l:=U) (by omega)
    rw [trimL_limG hUR,q2] at h114u
    have hlen:(limG (a % b*2^s)).length≤1000000:=by
      have h1:a % b*2^s<b*2^s:=(Nat.mul_lt_mul_right hps).2 (Nat.mod_lt _ (by omega))
      have h2:=limG_len (Nat.lt_trans h1 hVhi)
      omega
    have h152:=c163_ok (E:=E) (n:=a % b*2^s) hs32 hlen
    rw [Nat.mul_div_cancel _ hps] at h152
    have hQl2:m+1=Q.length:=hQl.symm
    have hUl2:A.length+1=U.length:=hUl.symm
    simp only [natC] at h152
    simp only [b153_0,k153_2,us32,longM,go_sem,hn,hQl2,hUl2]
    refine goF h114q ?_
    simp only [us32,go_sem]
    refine goF h114u ?_
    simp only [us32,go_sem]
    refine goP h152 ?_
    simp only [us32,go_sem,FL]
    simp only [i153,OT,reduceIte,Nat.reduceEqDiff,sub,FL,List.length_cons,List.length_nil,Nat.le_refl,us32]
  | succ k=>
    obtain rfl:jj=(k:Int):=by omega
    have hk0:(0:Int)≤(k:Int):=by omega
    have hk1:IntKind.i64.wrap ((k:Int) - 1)=(k:Int) - 1:=wrap_i64 (by omega) (by omega)
    have hkn:k+V.length<U.length:=by omega
    have hrB:b*2^s<4294967296^V.length:=by rw [hVl];exact hVhi
    have hz1:=short_nval (R32_drop hUR (k+1)) (Nat.lt_trans hUv hrB)
    have hzU:∀p,k+V.length<p→U.getD p 0=0:=fun p hp=>by
      have:=hz1 (p - (k+1)) (by omega)
      rwa [getD_dropD,show k+1+(p - (k+1))=p by omega] at this
    obtain ⟨low,hlow,hW⟩:=nval_heads (R32_drop hUR k) hV2 (fun p hp=>by rw [getD_dropD];exact hzU _ (by omega)) (by rw [List.length_drop];omega)
    rw [getD_dropD,getD_dropD,getD_dropD,show k+(V.length - 1)=k+V.length - 1 by omega,show k+(V.length - 2)=k+V.length - 2 by omega] at hW
    have h0r:=R32_get hUR (k+V.length)
    have h1r:=R32_get hUR (k+V.length - 1)
    have h2r:=R32_get hUR (k+V.length - 2)
    have hs0:=sub_nums (k:=.u32) (l:=U) (i:=k+V.length) (by omega)
    have hs1':=sub_nums (k:=.u32) (l:=U) (i:=k+V.length - 1) (by omega)
    have hs2':=sub_nums (k:=.u32) (l:=U) (i:=k+V.length - 2) (by omega)
    obtain ⟨u0,hu0⟩:=Int.eq_ofNat_of_zero_le h0r.1
    obtain ⟨u1,hu1⟩:=Int.eq_ofNat_of_zero_le h1r.1
    obtain ⟨u2,hu2⟩:=Int.eq_ofNat_of_zero_le h2r.1
    rw [hu0] at hs0 h0r hW
    rw [hu1] at hs1' h1r hW
    rw [hu2] at hs2' h2r hW
    simp only [Int.toNat_natCast] at hW
    have hu0l:u0<4294967296:=by omega
    have hu1l:u1<4294967296:=by omega
    have hu2l:u2<4294967296:=by omega
    have hUkk:=hUk k (by omega)
    have hkr:=R32_get hUR k
    have hWr:nval (U.drop k)=(U.getD k 0).toNat+4294967296*nval (U.drop (k+1)):=by
      rw [getD_drop (by omega),nval]
    have hWr0:nval (U0.drop k)=(U.getD k 0).toNat+4294967296*nval (U0.drop (k+1)):=by
      rw [getD_drop (by omega),nval,hUkk]
    have hstep:=long_step (u0:=(U.getD k 0).toNat) (B:=4294967296) hinv
    rw [←hWr0,←hWr] at hstep
    have hWlt:nval (U.drop k)<4294967296*(b*2^s):=by omega
    generalize hw:nval (U.drop k)=w at *
    obtain ⟨head,hhd⟩:∃head,head=u0*4294967296+u1:=⟨_,rfl⟩
    have H:Heads (b*2^s) w top next head u2 (4294967296^(V.length - 2)) vl low:=
      ⟨by rw [←hVV,eV],hvl,by rw [hhd];exact hW,hlow,hWlt,htop1,hnl,hu2l⟩
    have hfirst:=H.first
    have x1:IntKind.i64.wrap ((k:Int)+(V.length:Int))=((k+V.length:Nat):Int):=by rw [wrap_i64 (by omega) (by omega)];omega
    have x2:IntKind.i64.wrap (((k+V.length:Nat):Int) - 1)=((k+V.length - 1:Nat):Int):=by rw [wrap_i64 (by omega) (by omega)];omega
    have x3:IntKind.i64.wrap (((k+V.length:Nat):Int) - 2)=((k+V.length - 2:Nat):Int):=by rw [wrap_i64 (by omega) (by omega)];omega
    have x4:(0:Int)≤((k+V.length:Nat):Int):=by omega
    have x5:(0:Int)≤((k+V.length - 1:Nat):Int):=by omega
    have x6:(0:Int)≤((k+V.length - 2:Nat):Int):=by omega
    have x7:((k+V.length:Nat):Int)<((A.length+1:Nat):Int):=by omega
    have x8:((k+V.length - 1:Nat):Int)<((A.length+1:Nat):Int):=by omega
    have x9:((k+V.length - 2:Nat):Int)<((A.length+1:Nat):Int):=by omega
    have y0:IntKind.u64.wrap (u0:Int)=(u0:Int):=wrap_u64 (by omega) (by omega)
    have y1:IntKind.u64.wrap (u1:Int)=(u1:Int):=wrap_u64 (by omega) (by omega)
    have y2:IntKind.u64.wrap (u2:Int)=(u2:Int):=wrap_u64 (by omega) (by omega)
    have y3:=shl32 hu0l
    have y4:arith .or .u64 ((u0:Int)*4294967296) (u1:Int)=some (.int .u64 (head:Int)):=by rw [hhd];exact or_shl' hu1l hu0l
    have hhead:head<18446744073709551616:=by omega
    have hdm:=Nat.div_add_mod head top
    have hml:=Nat.mod_lt head htop1
    rw [Nat.mul_comm] at hdm
    have ht0:¬(top:Int)=0:=by omega
    clear hhd hW
    have y5:Int.tdiv (head:Int) (top:Int)=((head/top:Nat):Int):=by
      rw [Int.tdiv_eq_ediv_of_nonneg (by omega),←Int.natCast_ediv]
    have y6:Int.tmod (head:Int) (top:Int)=((head % top:Nat):Int):=by
      rw [Int.tmod_eq_emod_of_nonneg (by omega),←Int.natCast_emod]
    have y7:head/top≤head:=Nat.div_le_self _ _
    generalize head/top=gg at *
    generalize head % top=rr at *
    have y8:IntKind.u64.wrap (gg:Int)=(gg:Int):=wrap_u64 (by omega) (by omega)
    simp only [b153_0,us32,longM,go_sem,hk0,x1,x2,x4,x5,x7,x8,hs0,hs1',y0,y1,y3,y4,y5,y6,y8,ht0,Int.toNat_natCast]
    refine mCut1 (R:=fun x st=>∃(g:Nat) (env:Env),x=.exit 2∧w/(b*2^s)≤g∧g<4294967296∧g*(b*2^s)<w+b*2^s∧
      getE env 4=.loc 3 0 0∧getE env 5=.loc 5 0 0∧getE env 6=.int .i64 s∧getE env 7=us32 V∧getE env 8=.arr 6 0∧getE env 9=.int .i64 V.length∧getE env 11=.arr 7 0∧getE env 12=.int .u64 top∧getE env 13=.int .u64 next∧getE env 14=.int .i64 k∧getE env 16=.int .u64 g∧
      st=⟨env,longM A C (A.length+1) (m+1) U Q⟩) ?_ ?_
    · refine mLoop (fun N st=>∃(g rest:Nat),N=g∧g*top+rest=head∧w/(b*2^s)≤g∧rest<4294967296∧g<18446744073709551616∧
        st=⟨[(4,.loc 3 0 0),(5,.loc 5 0 0),(6,.int .i64 s),(7,us32 V),(8,.arr 6 0),(9,.int .i64 V.length),(11,.arr 7 0),(12,.int .u64 top),(13,.int .u64 next),(14,.int .i64 k),(16,.int .u64 g),(17,.int .u64 rest)],longM A C (A.length+1) (m+1) U Q⟩) gg
        ⟨_,rfl,gg,rr,rfl,hdm,hfirst,by omega,by omega,by simp [getE,us32,longM]⟩ ?_
      rintro N s0 ⟨g,rest,rfl,h1,h2,h3,h4,rfl⟩
      have step:w<N*(b*2^s)→1≤N∧w/(b*2^s)≤N - 1∧(N - 1)*top+(rest+top)=head:=fun h=>by
        obtain ⟨f1,f2⟩:=H.less h
        refine ⟨f2,f1,?_⟩
        rw [Nat.sub_mul,Nat.one_mul]
        have:1*top≤N*top:=Nat.mul_le_mul_right _ f2
        omega
      have z1:IntKind.u64.wrap ((rest:Int)+(top:Int))=((rest+top:Nat):Int):=by rw [wrap_u64 (by omega) (by omega)];omega
      by_cases hbig:4294967296≤N
      · have hbig':(4294967296:Int)≤(N:Int):=by omega
        obtain ⟨f1,f2,f3⟩:=step (H.big hbig)
        have z2:IntKind.u64.wrap ((N:Int) - 1)=((N - 1:Nat):Int):=by rw [wrap_u64 (by omega) (by omega)];omega
        by_cases hbrk:4294967296≤rest+top
        · have hbrk':(4294967296:Int)≤((rest+top:Nat):Int):=by omega
          obtain ⟨f4,f5⟩:=H.brk f3 hbrk
          simp only [b153_1,us32,longM,go_sem,hbig',z1,z2,hbrk']
          exact ⟨N - 1,_,f2,f4,f5,rfl,rfl,rfl,rfl,rfl,rfl,rfl,rfl,rfl,rfl,rfl,rfl⟩
        · have hbrk':¬(4294967296:Int)≤((rest+top:Nat):Int):=by omega
          simp only [b153_1,us32,longM,go_sem,hbig',z1,z2,hbrk']
          exact loopQ_go rfl (N - 1) (by omega) ⟨N - 1,rest+top,rfl,f3,f2,by omega,by omega,rfl⟩
      · have hbig':¬(4294967296:Int)≤(N:Int):=by omega
        have hgn:N*next≤4294967295*4294967295:=Nat.mul_le_mul (by omega) (by omega)
        have z3:IntKind.u64.wrap ((N:Int)*(next:Int))=((N*next:Nat):Int):=by
          rw [←Int.natCast_mul]
          exact wrap_u64 (by omega) (by omega)
        have z4:=shl32 h3
        have z5:=or_shl' hu2l h3
        by_cases hcmp:rest*4294967296+u2<N*next
        · have hcmp':((rest*4294967296+u2:Nat):Int)<((N*next:Nat):Int):=by omega
          obtain ⟨f1,f2,f3⟩:=step (H.dec h1 hcmp)
          have z2:IntKind.u64.wrap ((N:Int) - 1)=((N - 1:Nat):Int):=by rw [wrap_u64 (by omega) (by omega)];omega
          by_cases hbrk:4294967296≤rest+top
          · have hbrk':(4294967296:Int)≤((rest+top:Nat):Int):=by omega
            obtain ⟨f4,f5⟩:=H.brk f3 hbrk
            simp only [b153_1,us32,longM,go_sem,hbig',z1,z2,z3,z4,z5,x1,x3,x6,x9,hs2',y2,hcmp',hbrk',Int.toNat_natCast]
            exact ⟨N - 1,_,f2,f4,f5,rfl,rfl,rfl,rfl,rfl,rfl,rfl,rfl,rfl,rfl,rfl,rfl⟩
          · have hbrk':¬(4294967296:Int)≤((rest+top:Nat):Int):=by omega
            simp only [b153_1,us32,longM,go_sem,hbig',z1,z2,z3,z4,z5,x1,x3,x6,x9,hs2',y2,hcmp',hbrk',Int.toNat_natCast]
            exact loopQ_go rfl (N - 1) (by omega) ⟨N - 1,rest+top,rfl,f3,f2,by omega,by omega,rfl⟩
        · have hcmp':¬((rest*4294967296+u2:Nat):Int)<((N*next:Nat):Int):=by omega
          have f5:=H.ok h1 (by omega) (by omega)
          simp only [b153_1,us32,longM,go_sem,hbig',z3,z4,z5,x1,x3,x6,x9,hs2',y2,hcmp',Int.toNat_natCast]
          exact ⟨N,_,h2,by omega,f5,rfl,rfl,rfl,rfl,rfl,rfl,rfl,rfl,rfl,rfl,rfl,rfl⟩
    · rintro x st ⟨g,env,rfl,hg1,hg2,hg3,e4,e5,e6,e7,e8,e9,e11,e12,e13,e14,e16,rfl⟩
      simp only [us32] at e7
      have hnear:=H.near hg1 hg3
      obtain ⟨U',bb,hU'l,hU'R,hbb,hU'k,hU'v,h150⟩:=c161_ok (E:=E) (A:=A) (C:=C) (U:=U) (Q:=Q) (V:=V) (nu:=A.length+1) (nq:=m+1) (j:=k) (g:=g) hUR hRV hg2 (by omega) (by omega)
      rw [eV,hw] at hU'v
      have hPV:b*2^s≤4294967296^(V.length+1):=by
        rw [Nat.pow_succ]
        omega
      have hU's:=nval_short (k:=V.length+1) (R32_drop hU'R k) (fun p hp=>by rw [getD_dropD,hU'k _ (by omega)];exact hzU _ (by omega))
      obtain ⟨t0,t1⟩:=take_off hVn0 hbb hU's hPV hnear hU'v
      have v1:IntKind.i64.wrap (((k+V.length:Nat):Int)+1)=((k+V.length+1:Nat):Int):=by rw [wrap_i64 (by omega) (by omega)];omega
      have v2:(0:Int)≤((k+V.length+1:Nat):Int):=by omega
      have v3:((k+V.length+1:Nat):Int)≤((A.length+1:Nat):Int):=by omega
      have v4:(k:Int)≤((k+V.length+1:Nat):Int):=by omega
      have v5:k+V.length+1 - k=V.length+1:=by omega
      have v6:(k:Int)<((m+1:Nat):Int):=by omega
      have v7:k*1+1≤Q.length:=by omega
      have hqd:w/(b*2^s)<4294967296:=Nat.lt_of_le_of_lt hg1 hg2
      have hqI:0≤((w/(b*2^s):Nat):Int)∧((w/(b*2^s):Nat):Int)<4294967296:=by
        revert hqd
        generalize w/(b*2^s)=qd
        intro hqd
        omega
      have fin:∀U'':List Int,U''.length=U.length→R32 U''→(∀p,p<k∨k+V.length<p→U''.getD p 0=U.getD p 0)→nval (U''.drop k)=w % (b*2^s)→
          ∃ (j:Nat) (jj:Int) (U1 Q1:List Int),j≤m+1∧k=j∧jj=(j:Int) - 1∧U1.length=A.length+1∧R32 U1∧Q1.length=m+1∧R32 Q1∧(∀p,p<j→U1.getD p 0=U0.getD p 0)∧
            nval (U1.drop j)<b*2^s∧nval (U0.drop j)=nval (Q1.drop j)*(b*2^s)+nval (U1.drop j)∧U1=U''∧Q1=put Q k ((w/(b*2^s):Nat):Int)∧jj=(k:Int) - 1:=fun U'' g1 g2 g3 g4=>by
        refine ⟨k,(k:Int) - 1,U'',_,by omega,rfl,rfl,by omega,g2,by rw [put_len (by omega),hQl],put_R32 hQR hqI,fun p hp=>?_,?_,?_,rfl,rfl,rfl⟩
        · rw [g3 p (by omega)]
          exact hUk p (by omega)
        · rw [g4]
          exact Nat.mod_lt _ hVn0
        · rw [put_drop0 (by omega),nval,Int.toNat_natCast,g4]
          exact hstep
      generalize hqq:w/(b*2^s)=qd at *
      have wq:IntKind.u32.wrap (qd:Int)=(qd:Int):=by rw [wrap_u32];omega
      rcases Nat.eq_zero_or_pos bb with rfl|hb1
      · obtain ⟨rfl,t2⟩:=t0 rfl
        obtain ⟨j1,jj1,U1,Q1,r1,r2,r3,r4,r5,r6,r7,r8,r9,r10,rfl,rfl,r11⟩:=fin U' hU'l hU'R hU'k t2
        simp only [longM] at h150
        simp only [k153_0,k153_1,us32,longM,go_sem,e4,e5,e6,e7,e8,e9,e11,e12,e13,e14,e16,hk0,x1,v1,v2,v3,v4,v5,Int.toNat_natCast]
        refine goM h150 ?_
        simp only [us32,longM,go_sem,e4,e5,e6,e7,e8,e9,e11,e12,e13,e14,e16,hk0,hk1,v6,v7,wq,show ((0:Int)==1)=false from rfl,Int.toNat_natCast]
        exact loopQ_go rfl k (by omega) ⟨j1,jj1,U1,_,r1,r2,r3,r4,r5,r6,r7,r8,r9,r10,by rw [r11];rfl⟩
      · obtain rfl:bb=1:=by omega
        obtain ⟨rfl,t2⟩:=t1 rfl
        obtain ⟨U2,kk,hU2l,hU2R,hkk,hU2k,hU2v,h151⟩:=c162_ok (E:=E) (A:=A) (C:=C) (U:=U') (Q:=Q) (V:=V) (nu:=A.length+1) (nq:=m+1) (j:=k) hU'R hRV (by omega) (by omega)
        rw [eV] at hU2v
        have hU2k':∀p,p<k∨k+V.length<p→U2.getD p 0=U.getD p 0:=fun p hp=>by rw [hU2k p hp,hU'k p hp]
        have hU2s:=nval_short (k:=V.length+1) (R32_drop hU2R k) (fun p hp=>by rw [getD_dropD,hU2k' _ (by omega)];exact hzU _ (by omega))
        have t3:=put_back hVn0 hkk hU2s t2 hU2v
        obtain ⟨j1,jj1,U1,Q1,r1,r2,r3,r4,r5,r6,r7,r8,r9,r10,rfl,rfl,r11⟩:=fin U2 (by omega) hU2R hU2k' t3
        have z2:IntKind.u64.wrap (((qd+1:Nat):Int) - 1)=(qd:Int):=by rw [wrap_u64 (by omega) (by omega)];omega
        simp only [longM] at h150 h151
        simp only [k153_0,k153_1,us32,longM,go_sem,e4,e5,e6,e7,e8,e9,e11,e12,e13,e14,e16,hk0,x1,v1,v2,v3,v4,v5,Int.toNat_natCast]
        refine goM h150 ?_
        simp only [us32,longM,go_sem,e4,e5,e6,e7,e8,e9,e11,e12,e13,e14,e16,hk0,x1,v1,v2,v3,v4,v5,z2,show (((1:Nat):Int)==1)=true from rfl,show ((1:Int)==1)=true from rfl,Int.toNat_natCast]
        refine goM h151 ?_
        simp only [us32,longM,go_sem,e4,e5,e6,e7,e8,e9,e11,e12,e13,e14,e16,hk0,hk1,v6,v7,wq,Int.toNat_natCast]
        exact loopQ_go rfl k (by omega) ⟨j1,jj1,U1,_,r1,r2,r3,r4,r5,r6,r7,r8,r9,r10,by rw [r11];rfl⟩
end
end Go.Proofs.Ytlejgleocnemoaa.I

namespace Go.Proofs.Ytlejgleocnemoaa.I
open Go Go.V
attribute [local go_sem_proc ↓] reduceIte
attribute [local go_sem_proc] Nat.reduceEqDiff Nat.reduceAdd Nat.reduceMul Nat.reduceLeDiff Nat.reduceLT Int.reduceToNat Int.reduceLT Int.reduceLE reduceCtorEq Nat.reduceBEq
attribute [local go_sem] mNil nat0 beq_self_eq_true mSkip mRet mExit mReg mSeq mCond mTrue mFalse mBlock mLv mCodeE mCodeR mEndN mEndR mEndE mOps mSome mGuard mGtt mGff mGtf mGft mGu mCallP mCallR mCallF mCallO mCallZ mCallG mCallM mCallV loopQ_exit loopQ_ret mO_mov mO_newnil mO_pick mO_alloc mO_box mO_build mO_bsl mO_bslF mO_newnilB mO_bslB mO_lenB mO_appB mO_allocA mO_bslA mO_appA mO_ldb mO_faddrb mRsv mO_ldf mO_ld mO_st mO_sta mO_nilchk mO_bin mO_binb mO_binp mO_bins mO_neg mO_com mO_not mO_conv mO_mk mO_mk0 mO_mkB mO_s2b mO_b2s mO_cpy mO_cut mO_faddr mO_fld mO_iaddr mO_iaddrf mO_sidx mO_len mO_lenf mO_slen mO_scut mO_app mO_ext mO_mx mO_mn mO_mkfn evalOp cutOp argsE ev getE putE cellsOf adopt rowOf binV boolV nilV ar_add ar_sub ar_mul ar_quo ar_rem ar_eq ar_ne ar_lt ar_le ar_gt ar_ge ar_and ar_or ar_xor geto bound finRet finNrm ints List.length_cons List.length_nil List.length_append List.getElem?_cons_zero List.getElem?_cons_succ List.nil_append List.cons_append List.map_cons List.map_nil List.mapM_cons List.mapM_nil Option.map_some Option.map_none Option.bind_some Option.pure_def Option.bind_eq_bind List.drop_zero or_self or_false false_or or_true true_or true_and and_true and_self decide_true decide_false Bool.false_eq_true Bool.true_eq_false Bool.not_true Bool.not_false Nat.le_refl eq_self gt_iff_lt ge_iff_le ne_eq not_true_eq_false not_false_eq_true storeOp apartOf freeze_nil refsL refs List.flatMap_cons List.flatMap_nil List.append_nil List.contains_nil List.set_cons_zero List.set_cons_succ snap snapL fill_nums flat_nums nums_length Go.V.freeze List.mapIdx_cons List.mapIdx_nil List.contains_cons Bool.or_false Bool.false_or Bool.or_true Bool.true_or
section
variable {E:CallRel}
theorem c152_nat {n:Nat} (h:n<18446744073709551616):Go.V.Call tab E 152 [natC n] [] (.tup [.int .u64 n,.bool true]) []:=by
  have:=c152_ok (E:=E) h
  rw [lim_limG h] at this
  exact this
theorem c114_nat {n:Nat} (h:n<18446744073709551616):Go.V.Call tab E 114 [.int .u64 n] [] (natC n) []:=by
  have:=c114_ok (E:=E) h
  rw [lim_limG h] at this
  exact this
theorem limG_one {d:Nat} (h:d≠0) (h2:d<4294967296):limG d=[(d:Int)]:=by
  rw [limG_pos h,Nat.mod_eq_of_lt h2,Nat.div_eq_of_lt h2,limG_zero]
theorem limG_len0 {n:Nat} (h:(limG n).length=0):n=0:=by
  by_cases h0:n=0
  · exact h0
  · rw [limG_pos h0] at h;simp at h
theorem limG_len1 {n:Nat} (h:(limG n).length=1):n≠0∧n<4294967296:=by
  refine ⟨?_,?_⟩
  · rintro rfl;rw [limG_zero] at h;simp at h
  · have:=limG_lt n
    rw [h] at this
    omega
theorem c135_ok {a b:Nat} (ha:(limG a).length≤1000000) (hb:(limG b).length≤1000000) (hb0:b≠0):Go.V.Call tab E 135 [natC a,natC b] [] (.tup [natC (a/b),natC (a % b),.bool true]) []:=by
  refine Go.V.Call.mach i135 c135 rfl rfl rfl rfl ?_
  have h142:=c145_ok (E:=E) ha hb
  have q0:(((limG b).length:Int)==0)=false:=by
    rw [beq_eq_false_iff_ne]
    intro h
    exact hb0 (limG_len0 (by omega))
  simp only [natC] at h142
  simp only [c135,natC,us32,go_sem,List.all_cons,List.all_nil,Nat.reduceBNe,Bool.and_true,subB1,subT1,FL,q0]
  refine goP h142 ?_
  by_cases hlt:a<b
  · have h1:cmpZ a b = -1:=by rw [cmpZ,if_pos hlt]
    simp only [us32,go_sem,List.all_cons,List.all_nil,Nat.reduceBNe,Bool.and_true,subB1,subT1,FL,h1]
    simp only [i135,OT,reduceIte,Nat.reduceEqDiff,sub,FL,List.length_cons,List.length_nil,Nat.le_refl,us32,Nat.div_eq_of_lt hlt,Nat.mod_eq_of_lt hlt,limG_zero]
    rfl
  · have h1:¬cmpZ a b<0:=by
      rw [cmpZ,if_neg hlt]
      split<;>omega
    by_cases hl1:(limG b).length=1
    · obtain ⟨h2,h3⟩:=limG_len1 hl1
      have q1:(((limG b).length:Int)==1)=true:=by rw [beq_iff_eq];omega
      have e1:=limG_one h2 h3
      have hsd:sub false 1 (nums .u32 (limG b)) (0*1)=some (.int .u32 (b:Int)):=by rw [e1];rfl
      have hsd':sub false 1 (nums .u32 (limG b)) 0=some (.int .u32 (b:Int)):=by rw [e1];rfl
      have g1:(0:Int)<((limG b).length:Int):=by omega
      have h125:=c124_ok (E:=E) (l:=limG a) (d:=b) R32_limG (by omega) (by omega)
      rw [nval_limG] at h125
      have hrl:a % b<4294967296:=by
        have:=Nat.mod_lt a (show 0<b by omega)
        omega
      have h90:=c114_nat (E:=E) (n:=a % b) (by omega)
      have w1:IntKind.u64.wrap ((a % b:Nat):Int)=((a % b:Nat):Int):=wrap_u64 (by omega) (by omega)
      simp only [natC] at h90
      simp only [us32,go_sem,List.all_cons,List.all_nil,Nat.reduceBNe,Bool.and_true,subB1,subT1,FL,h1,q1,hsd,hsd',g1]
      refine goP h125 ?_
      simp only [us32,go_sem,List.all_cons,List.all_nil,Nat.reduceBNe,Bool.and_true,subB1,subT1,FL,w1]
      refine goP h90 ?_
      simp only [us32,go_sem,List.all_cons,List.all_nil,Nat.reduceBNe,Bool.and_true,subB1,subT1,FL]
      simp only [i135,OT,reduceIte,Nat.reduceEqDiff,sub,FL,List.length_cons,List.length_nil,Nat.le_refl,us32]
    · have q1:(((limG b).length:Int)==1)=false:=by rw [beq_eq_false_iff_ne];omega
      have h145:=c153_ok (E:=E) (a:=a) (b:=b) (by
        have:(limG b).length≠0:=fun h=>hb0 (limG_len0 h)
        omega) (by omega) ha
      simp only [natC] at h145
      simp only [us32,go_sem,List.all_cons,List.all_nil,Nat.reduceBNe,Bool.and_true,subB1,subT1,FL,h1,q1]
      refine goP h145 ?_
      simp only [us32,go_sem,List.all_cons,List.all_nil,Nat.reduceBNe,Bool.and_true,subB1,subT1,FL]
      simp only [i135,OT,reduceIte,Nat.reduceEqDiff,sub,FL,List.length_cons,List.length_nil,Nat.le_refl,us32]
theorem c133_ok {a b:Nat} (ha:(limG a).length≤1000000) (hb:(limG b).length≤1000000):Go.V.Call tab E 133 [natC a,natC b] [] (natC (Nat.gcd a b)) []:=by
  refine Go.V.Call.mach i133 c133 rfl rfl rfl rfl ?_
  simp only [c133,natC,us32,go_sem,List.all_cons,List.all_nil,Nat.reduceBNe,Bool.and_true,subB1,subT1,FL]
  refine mLoop (fun N st=>∃(x y:Nat),N=y∧Nat.gcd x y=Nat.gcd a b∧(limG x).length≤1000000∧(limG y).length≤1000000∧
    st=⟨[(2,.loc 0 0 0),(3,.loc 1 0 0),(4,.loc 3 0 0)],[⟨true,55,1,0,1,[us32 (limG x)],false⟩,⟨true,55,1,0,1,[us32 (limG y)],false⟩,⟨false,154,1,0,0,[],false⟩,⟨true,55,1,0,1,[.arr 2 0],false⟩]⟩) b
    ⟨_,rfl,a,b,rfl,rfl,ha,hb,by simp [getE,us32]⟩ ?_
  rintro N s0 ⟨x,y,rfl,hg,hx,hy,rfl⟩
  have h124:=c123_ok (E:=E) (l:=limG N)
  simp only [us32] at h124
  by_cases hN:N=0
  · subst hN
    rw [Nat.gcd_zero_right] at hg
    subst hg
    have q0:(((limG 0).length:Int)==0)=true:=by rw [limG_zero];rfl
    rw [q0] at h124
    simp only [b133_0,k133_2,us32,go_sem,List.all_cons,List.all_nil,Nat.reduceBNe,Bool.and_true,subB1,subT1,FL]
    refine goR h124 rfl ?_
    simp only [us32,go_sem,List.all_cons,List.all_nil,Nat.reduceBNe,Bool.and_true,subB1,subT1,FL]
    simp only [i133,OT,reduceIte,Nat.reduceEqDiff,sub,FL,List.length_cons,List.length_nil,Nat.le_refl,us32]
  · have q0:(((limG N).length:Int)==0)=false:=by
      rw [beq_eq_false_iff_ne]
      intro h
      exact hN (limG_len0 (by omega))
    rw [q0] at h124
    have h137:=c135_ok (E:=E) hx hy hN
    have hml:=Nat.mod_lt x (Nat.pos_of_ne_zero hN)
    have hrl:(limG (x % N)).length≤1000000:=by
      have:=limG_mono (Nat.le_of_lt hml)
      omega
    have hg2:Nat.gcd N (x % N)=Nat.gcd a b:=by rw [←hg,Nat.gcd_comm N,←Nat.gcd_rec,Nat.gcd_comm]
    simp only [natC,us32] at h137
    by_cases hx64:x<18446744073709551616
    · have h131x:=c152_nat (E:=E) hx64
      simp only [natC,us32] at h131x
      by_cases hy64:N<18446744073709551616
      · have h131y:=c152_nat (E:=E) hy64
        simp only [natC,us32] at h131y
        simp only [b133_0,k133_0,k133_1,us32,go_sem,List.all_cons,List.all_nil,Nat.reduceBNe,Bool.and_true,subB1,subT1,FL]
        refine goR h124 rfl ?_
        simp only [us32,go_sem,List.all_cons,List.all_nil,Nat.reduceBNe,Bool.and_true,subB1,subT1,FL]
        refine goR h131x rfl ?_
        simp only [us32,go_sem,List.all_cons,List.all_nil,Nat.reduceBNe,Bool.and_true,subB1,subT1,FL]
        refine goR h131y rfl ?_
        simp only [us32,go_sem,List.all_cons,List.all_nil,Nat.reduceBNe,Bool.and_true,subB1,subT1,FL]
        refine mLoop (fun N' st=>∃(p q:Nat),N'=q∧Nat.gcd p q=Nat.gcd a b∧p<18446744073709551616∧q<18446744073709551616∧
          st=⟨[(4,.loc 3 0 0),(5,.int .u64 p),(7,.int .u64 q)],[⟨true,55,1,0,1,[us32 (limG x)],false⟩,⟨true,55,1,0,1,[us32 (limG N)],false⟩,⟨false,154,1,0,0,[],false⟩,⟨true,55,1,0,1,[.arr 2 0],false⟩]⟩) N
          ⟨_,rfl,x,N,rfl,hg,hx64,hy64,by simp [getE,us32]⟩ ?_
        rintro N' s0 ⟨p,q,rfl,hpq,hp,hq,rfl⟩
        by_cases hq0:N'=0
        · subst hq0
          rw [Nat.gcd_zero_right] at hpq
          have h90:=c114_nat (E:=E) hp
          rw [hpq] at h90 hp
          simp only [natC,us32] at h90
          simp only [b133_1,us32,go_sem,List.all_cons,List.all_nil,Nat.reduceBNe,Bool.and_true,subB1,subT1,FL,hpq,show ((0:Int) != 0)=false from rfl]
          refine goP h90 ?_
          simp only [us32,go_sem,List.all_cons,List.all_nil,Nat.reduceBNe,Bool.and_true,subB1,subT1,FL]
          simp only [i133,OT,reduceIte,Nat.reduceEqDiff,sub,FL,List.length_cons,List.length_nil,Nat.le_refl,us32]
        · have q1:((N':Int) != 0)=true:=by rw [bne_iff_ne];omega
          have q2:¬(N':Int)=0:=by omega
          have q3:Int.tmod (p:Int) (N':Int)=((p % N':Nat):Int):=by
            rw [Int.tmod_eq_emod_of_nonneg (by omega),←Int.natCast_emod]
          have hml2:=Nat.mod_lt p (Nat.pos_of_ne_zero hq0)
          have hpq2:Nat.gcd N' (p % N')=Nat.gcd a b:=by rw [←hpq,Nat.gcd_comm N',←Nat.gcd_rec,Nat.gcd_comm]
          generalize p % N'=r at *
          simp only [b133_1,us32,go_sem,List.all_cons,List.all_nil,Nat.reduceBNe,Bool.and_true,subB1,subT1,FL,q1,q2,q3]
          exact loopQ_go rfl r (by omega) ⟨N',r,rfl,hpq2,hq,by omega,rfl⟩
      · have h131y:=c152_big (E:=E) (n:=N) (by omega)
        simp only [natC,us32] at h131y
        generalize x % N=r at *
        simp only [b133_0,k133_0,k133_1,us32,go_sem,List.all_cons,List.all_nil,Nat.reduceBNe,Bool.and_true,subB1,subT1,FL]
        refine goR h124 rfl ?_
        simp only [us32,go_sem,List.all_cons,List.all_nil,Nat.reduceBNe,Bool.and_true,subB1,subT1,FL]
        refine goR h131x rfl ?_
        simp only [us32,go_sem,List.all_cons,List.all_nil,Nat.reduceBNe,Bool.and_true,subB1,subT1,FL]
        refine goR h131y rfl ?_
        simp only [us32,go_sem,List.all_cons,List.all_nil,Nat.reduceBNe,Bool.and_true,subB1,subT1,FL]
        refine goF h137 ?_
        simp only [us32,go_sem,List.all_cons,List.all_nil,Nat.reduceBNe,Bool.and_true,subB1,subT1,FL]
        exact loopQ_go rfl r (by omega) ⟨N,r,rfl,hg2,hy,hrl,rfl⟩
    · have h131x:=c152_big (E:=E) (n:=x) (by omega)
      simp only [natC,us32] at h131x
      have h131y:∃n2 t2,Go.V.Call tab E 152 [.agg [us32 (limG N)]] [] (.tup [.int .u64 n2,.bool t2]) []:=by
        by_cases hy64:N<18446744073709551616
        · exact ⟨_,_,c152_nat hy64⟩
        · exact ⟨_,_,c152_big (by omega)⟩
      obtain ⟨n2,t2,h131y⟩:=h131y
      simp only [us32] at h131y
      generalize x % N=r at *
      simp only [b133_0,k133_0,k133_1,us32,go_sem,List.all_cons,List.all_nil,Nat.reduceBNe,Bool.and_true,subB1,subT1,FL]
      refine goR h124 rfl ?_
      simp only [us32,go_sem,List.all_cons,List.all_nil,Nat.reduceBNe,Bool.and_true,subB1,subT1,FL]
      refine goR h131x rfl ?_
      simp only [us32,go_sem,List.all_cons,List.all_nil,Nat.reduceBNe,Bool.and_true,subB1,subT1,FL]
      refine goR h131y rfl ?_
      simp only [us32,go_sem,List.all_cons,List.all_nil,Nat.reduceBNe,Bool.and_true,subB1,subT1,FL]
      refine goF h137 ?_
      simp only [us32,go_sem,List.all_cons,List.all_nil,Nat.reduceBNe,Bool.and_true,subB1,subT1,FL]
      exact loopQ_go rfl r (by omega) ⟨N,r,rfl,hg2,hy,hrl,rfl⟩
end
def U8 (l:List Int):Prop:=∀x∈l,0≤x∧x<256
def Dig (l:List Int):Prop:=∀x∈l,48≤x∧x≤57
def u8l (l:List Int):List UInt8:=l.map fun n=>UInt8.ofNat n.toNat
theorem Dig.u8 {l:List Int} (h:Dig l):U8 l:=fun x hx=>by have:=h x hx;omega
theorem U8_cons {x:Int} {l:List Int}:U8 (x::l)↔(0≤x∧x<256)∧U8 l:=by simp [U8]
theorem Dig_cons {x:Int} {l:List Int}:Dig (x::l)↔(48≤x∧x≤57)∧Dig l:=by simp [Dig]
theorem Dig_app {a b:List Int}:Dig (a++b)↔Dig a∧Dig b:=by
  simp only [Dig,List.mem_append]
  exact ⟨fun h=>⟨fun x hx=>h x (.inl hx),fun x hx=>h x (.inr hx)⟩,fun h x hx=>hx.elim (h.1 x) (h.2 x)⟩
theorem bs_toList {l:List Int}:(bs l).toList=u8l l:=by rw [Go.Lib.toList_data];simp [bs,u8l]
theorem u8n {x:Int} (h:0≤x∧x<256):(((UInt8.ofNat x.toNat).toNat:Nat):Int)=x:=by simp;omega
theorem u8_inj {x y:Int} (hx:0≤x∧x<256) (hy:0≤y∧y<256) (h:UInt8.ofNat x.toNat=UInt8.ofNat y.toNat):x=y:=by
  rw [←u8n hx,←u8n hy,h]
theorem u8l_inj:∀{a b:List Int},U8 a→U8 b→u8l a=u8l b→a=b
  | [],[],_,_,_=>rfl
  | [],_::_,_,_,h=>by simp [u8l] at h
  | _::_,[],_,_,h=>by simp [u8l] at h
  | x::a,y::b,ha,hb,h=>by
    rw [U8_cons] at ha hb
    simp only [u8l,List.map_cons,List.cons.injEq] at h
    rw [u8_inj ha.1 hb.1 h.1,u8l_inj ha.2 hb.2 h.2]
theorem bs_all (s:ByteArray):∃l,U8 l∧s=bs l:=by
  refine ⟨s.data.toList.map fun b=>(b.toNat:Int),?_,?_⟩
  · intro x hx
    obtain ⟨b,_,rfl⟩:=List.mem_map.1 hx
    have:=UInt8.toNat_lt b
    omega
  · obtain ⟨d⟩:=s
    simp only [bs,List.map_map]
    congr 1
    rw [←Array.toList_inj]
    simp [Function.comp_def]
theorem str_eq {a b:List Int} (ha:U8 a) (hb:U8 b):((bs a).toList==(bs b).toList)=decide (a=b):=by
  rw [bs_toList,bs_toList]
  by_cases h:a=b
  · subst h;simp
  · rw [decide_eq_false h,beq_eq_false_iff_ne]
    exact fun e=>h (u8l_inj ha hb e)
theorem bs_append {a b:List Int}:bs a++bs b=bs (a++b):=by
  apply ByteArray.ext
  rw [←Array.toList_inj,ByteArray.toList_data_append]
  simp [bs]
theorem bs_extract {l:List Int} {i j:Nat}:(bs l).extract i j=bs ((l.take j).drop i):=by
  apply ByteArray.ext
  rw [←Array.toList_inj]
  simp [bs,ByteArray.data_extract,List.map_drop,List.map_take]
  rw [List.drop_take]
theorem bytesAV_bs {l:List Int} (h:U8 l):bytesAV (bs l)=nums .u8 l:=by
  simp only [bytesAV,bs,nums,List.map_map]
  refine List.map_congr_left fun x hx=>?_
  simp only [Function.comp]
  rw [u8n (h x hx)]
theorem bs_getK {l:List Int} {k:Nat} (h:k<l.length):(bs l)[k]?=some (UInt8.ofNat (l.getD k 0).toNat):=by
  have hk:k<(bs l).size:=by rw [bs_size];exact h
  rw [getElem?_pos (bs l) k hk]
  congr 1
  simp [bs,ByteArray.getElem_eq_getElem_data,List.getD,h]
def sval (l:List Int):Nat:=l.foldl (fun a x=>10*a+(x - 48).toNat) 0
theorem sval_snoc {l:List Int} {x:Int}:sval (l++[x])=10*sval l+(x - 48).toNat:=by simp [sval]
theorem sval_nil:sval []=0:=rfl
theorem foldl_sval:∀{l:List Int} {a:Nat},l.foldl (fun a x=>10*a+(x - 48).toNat) a=a*10^l.length+sval l
  | [],a=>by simp [sval]
  | x::l,a=>by
    have h1:=foldl_sval (l:=l) (a:=10*a+(x - 48).toNat)
    have h2:=foldl_sval (l:=l) (a:=10*0+(x - 48).toNat)
    simp only [sval,List.foldl_cons,List.length_cons] at h1 h2 ⊢
    rw [h1,h2,Nat.pow_succ,Nat.add_mul,Nat.mul_comm 10 a,Nat.mul_assoc a,Nat.mul_comm 10]
    simp only [Nat.mul_zero,Nat.zero_add,Nat.add_assoc,Nat.zero_mul]
theorem sval_cons {l:List Int} {x:Int}:sval (x::l)=(x - 48).toNat*10^l.length+sval l:=by
  have:=foldl_sval (l:=l) (a:=10*0+(x - 48).toNat)
  simp only [Nat.mul_zero,Nat.zero_add] at this
  rw [←this]
  simp [sval]
theorem sval_append {a b:List Int}:sval (a++b)=sval a*10^b.length+sval b:=by
  rw [←foldl_sval,sval,sval,List.foldl_append]
theorem sval_lt:∀{l:List Int},Dig l→sval l<10^l.length
  | [],_=>by simp [sval]
  | x::l,h=>by
    rw [Dig_cons] at h
    have:=sval_lt h.2
    rw [sval_cons,List.length_cons,Nat.pow_succ]
    have h2:(x - 48).toNat≤9:=by omega
    have h3:=Nat.mul_le_mul_right (10^l.length) h2
    omega
def decL (n:Nat):List Int:=if n=0 then [48] else (asc (dgs n)).reverse
theorem dec_eq {n:Nat}:dec n=bs (decL n):=by
  unfold dec decL
  split<;>rfl
theorem decL_digit {d:Nat} (h:d<10):decL d=[48+(d:Int)]:=by
  unfold decL
  split
  · rename_i h0;subst h0;rfl
  · rename_i h0
    rw [dgs_pos h0,show d/10=0 by omega,dgs_zero,show d % 10=d by omega]
    rfl
theorem decL_ten {v d:Nat} (hv:v≠0) (hd:d<10):decL (10*v+d)=decL v++[48+(d:Int)]:=by
  unfold decL
  rw [if_neg (by omega),if_neg hv,dgs_pos (by omega),show (10*v+d)/10=v by omega,show (10*v+d) % 10=d by omega]
  simp [asc]
theorem decL_dig (n:Nat):Dig (decL n):=by
  unfold decL
  split
  · intro x hx;simp at hx;omega
  · intro x hx
    simp only [asc,List.mem_reverse,List.mem_map] at hx
    obtain ⟨d,hd,rfl⟩:=hx
    have:=dgs_range d hd
    omega
theorem decL_ne (n:Nat):decL n≠[]:=by
  unfold decL
  split
  · simp
  · rename_i h
    rw [dgs_pos h]
    simp [asc]
theorem sval_decL:∀(n:Nat),sval (decL n)=n:=by
  intro n
  induction n using Nat.strongRecOn with
  | _ n ih=>
    by_cases h:n<10
    · rw [decL_digit h,sval_cons];simp [sval];omega
    · have e:n=10*(n/10)+n % 10:=by omega
      rw [e,decL_ten (by omega) (by omega),sval_snoc,ih _ (by omega)]
      omega
def Canon (l:List Int):Prop:=l≠[]∧(2≤l.length→l.getD 0 0≠48)
theorem decL_of:∀{n:Nat} {l:List Int},l.length=n→Dig l→Canon l→l=decL (sval l):=by
  intro n
  induction n with
  | zero=>intro l h1 _ h3;exact absurd (List.length_eq_zero_iff.1 h1) h3.1
  | succ n ih=>
    intro l h1 h2 h3
    rcases List.eq_nil_or_concat l with rfl|⟨l',x,rfl⟩
    · exact absurd rfl h3.1
    · rw [List.concat_eq_append] at *
      rw [Dig_app] at h2
      have hx:=h2.2 x (by simp)
      rw [sval_snoc]
      by_cases h0:l'=[]
      · subst h0
        rw [sval_nil,decL_digit (by omega)]
        simp
        omega
      · have hl:l'.length=n:=by simpa using h1
        have hc:Canon l':=by
          refine ⟨h0,fun h=>?_⟩
          have:=h3.2 (by simp;omega)
          rw [List.getD_eq_getElem?_getD,List.getElem?_append_left (by omega)] at this
          rwa [List.getD_eq_getElem?_getD]
        have e:=ih hl h2.1 hc
        have hne:sval l'≠0:=by
          intro hz
          rw [hz,decL_digit (by omega)] at e
          have:=h3.2 (by rw [e];simp)
          rw [e] at this
          exact this rfl
        rw [decL_ten hne (by omega),←e]
        congr 2
        omega
def trimS:List Int→List Int
  | x::y::l=>if x=48 then trimS (y::l) else x::y::l
  | l=>l
theorem trimS_dec:∀{l:List Int},Dig l→l≠[]→trimS l=decL (sval l)
  | [],_,h=>absurd rfl h
  | [x],h,_=>by
    rw [trimS]
    · exact decL_of rfl h ⟨by simp,fun h=>by simp at h⟩
    · intro a b c h;simp at h
  | x::y::l,h,_=>by
    rw [trimS]
    by_cases hx:x=48
    · rw [if_pos hx,trimS_dec (Dig_cons.1 h).2 (by simp),sval_cons (x:=x),hx]
      simp
    · rw [if_neg hx]
      exact decL_of rfl h ⟨by simp,fun _=>by simpa using hx⟩
theorem decL_len {n:Nat} (h:n≠0):10^((decL n).length - 1)≤n:=by
  induction n using Nat.strongRecOn with
  | _ n ih=>
    by_cases hn:n<10
    · rw [decL_digit hn];simp;omega
    · have e:n=10*(n/10)+n % 10:=by omega
      have:=ih (n/10) (by omega) (by omega)
      have hne:1≤(decL (n/10)).length:=by
        have:=decL_ne (n/10)
        rcases h:decL (n/10) with _|⟨a,b⟩
        · exact absurd h this
        · simp
      rw [e,decL_ten (by omega) (by omega),List.length_append,List.length_singleton,Nat.add_sub_cancel]
      have e2:10^(decL (n/10)).length=10^((decL (n/10)).length - 1)*10:=by rw [←Nat.pow_succ];congr 1;omega
      rw [e2]
      omega
theorem decL_short {a b:Nat} (h:(decL a).length<(decL b).length):a<b:=by
  have h1:=sval_lt (decL_dig a)
  rw [sval_decL] at h1
  have hb:b≠0:=by
    rintro rfl
    have:=decL_ne a
    have h2:(decL 0).length=1:=rfl
    rw [h2] at h
    exact this (List.length_eq_zero_iff.1 (by omega))
  have h2:=decL_len hb
  have h3:10^(decL a).length≤10^((decL b).length - 1):=Nat.pow_le_pow_right (by omega) (by omega)
  omega
theorem bytesLess_dig:∀{a b:List Int},Dig a→Dig b→a.length=b.length→(Op.bytesLess (u8l a) (u8l b)=decide (sval a<sval b))
  | [],[],_,_,_=>by simp [u8l,Op.bytesLess,sval]
  | [],_::_,_,_,h=>by simp at h
  | _::_,[],_,_,h=>by simp at h
  | x::a,y::b,ha,hb,h=>by
    rw [Dig_cons] at ha hb
    have hl:a.length=b.length:=by simpa using h
    have ih:=bytesLess_dig ha.2 hb.2 hl
    have l1:=sval_lt ha.2
    have l2:=sval_lt hb.2
    rw [hl] at l1
    simp only [u8l,List.map_cons] at ih ⊢
    rw [sval_cons,sval_cons,hl]
    have ux:=u8n (x:=x) (by omega)
    have uy:=u8n (x:=y) (by omega)
    have hlt:UInt8.ofNat x.toNat<UInt8.ofNat y.toNat↔x<y:=by rw [UInt8.lt_iff_toNat_lt];omega
    have heq:UInt8.ofNat x.toNat=UInt8.ofNat y.toNat↔x=y:=⟨fun h=>u8_inj (by omega) (by omega) h,fun h=>by rw [h]⟩
    simp only [Op.bytesLess,ih]
    rcases Int.lt_trichotomy x y with h1|h1|h1
    · have e1:=Nat.mul_le_mul_right (10^b.length) (show (x - 48).toNat+1≤(y - 48).toNat by omega)
      rw [Nat.add_mul,Nat.one_mul] at e1
      rw [decide_eq_true (hlt.2 h1),Bool.true_or,decide_eq_true (by omega)]
    · subst h1
      have e1:¬UInt8.ofNat x.toNat<UInt8.ofNat x.toNat:=fun h=>by have:=hlt.1 h;omega
      rw [decide_eq_false e1,Bool.false_or,beq_self_eq_true,Bool.true_and]
      congr 1
      exact propext ⟨fun h=>by omega,fun h=>by omega⟩
    · have e1:=Nat.mul_le_mul_right (10^b.length) (show (y - 48).toNat+1≤(x - 48).toNat by omega)
      rw [Nat.add_mul,Nat.one_mul] at e1
      have e2:¬UInt8.ofNat x.toNat<UInt8.ofNat y.toNat:=fun h=>by have:=hlt.1 h;omega
      have e3:(UInt8.ofNat x.toNat==UInt8.ofNat y.toNat)=false:=by
        rw [beq_eq_false_iff_ne]
        intro h
        have:=heq.1 h
        omega
      have e4:¬((x - 48).toNat*10^b.length+sval a<(y - 48).toNat*10^b.length+sval b):=by omega
      rw [decide_eq_false e2,e3,decide_eq_false e4]
      rfl
def RightS (l:List Int):Prop:=Dig l∧1≤l.length∧l.length≤2000
theorem Dig_take {l:List Int} {i:Nat} (h:i<l.length):Dig (l.take (i+1))↔Dig (l.take i)∧48≤l.getD i 0∧l.getD i 0≤57:=by
  rw [take_snoc h,Dig_app]
  simp [Dig]
theorem dgs_get {n i:Nat}:(dgs n).getD i 0=((n/10^i % 10:Nat):Int):=by
  induction i generalizing n with
  | zero=>
    by_cases h:n=0
    · subst h;rw [dgs_zero];rfl
    · rw [dgs_pos h];simp
  | succ i ih=>
    by_cases h:n=0
    · subst h;rw [dgs_zero];simp
    · rw [dgs_pos h,List.getD_cons_succ,ih,Nat.div_div_eq_div_mul,Nat.pow_succ,Nat.mul_comm]
theorem dgs_len {n:Nat}:n<10^(decL n).length:=by
  have:=sval_lt (decL_dig n)
  rwa [sval_decL] at this
theorem digit_dec {n i:Nat}:(i<(decL n).length→(decL n).getD ((decL n).length - 1 - i) 0=48+(dgs n).getD i 0)∧((decL n).length≤i→(dgs n).getD i 0=0):=by
  refine ⟨fun h=>?_,fun h=>?_⟩
  · unfold decL at h ⊢
    split at h
    · rename_i h0
      subst h0
      simp at h
      subst h
      simp [dgs_zero]
    · rename_i h0
      rw [if_neg h0]
      have hl:(asc (dgs n)).reverse.length=(dgs n).length:=by simp [asc]
      rw [hl] at h ⊢
      rw [List.getD_eq_getElem?_getD,List.getElem?_reverse (by rw [asc_len];omega),asc_len,show (dgs n).length - 1 - ((dgs n).length - 1 - i)=i by omega]
      simp [asc,List.getElem?_map,List.getD,h]
  · rw [dgs_get,Nat.div_eq_of_lt]
    · rfl
    · exact Nat.lt_of_lt_of_le dgs_len (Nat.pow_le_pow_right (by omega) h)
def dval:List Int→Nat
  | []=>0
  | x::l=>x.toNat+10*dval l
theorem dval_snoc:∀{l:List Int} {x:Int},dval (l++[x])=dval l+10^l.length*x.toNat
  | [],x=>by simp [dval]
  | y::l,x=>by
    rw [List.cons_append,dval,dval_snoc,dval,List.length_cons,Nat.pow_succ,Nat.mul_add,Nat.mul_comm (10^l.length) 10,Nat.mul_assoc]
    omega
theorem dval_lt:∀{l:List Int},(∀x∈l,0≤x∧x≤9)→dval l<10^l.length
  | [],_=>by simp [dval]
  | x::l,h=>by
    have h1:=h x (by simp)
    have h2:=dval_lt (l:=l) fun y hy=>h y (by simp [hy])
    rw [dval,List.length_cons,Nat.pow_succ]
    omega
theorem sval_asc:∀{l:List Int},(∀x∈l,0≤x∧x≤9)→sval (asc l).reverse=dval l
  | [],_=>rfl
  | x::l,h=>by
    have h1:=h x (by simp)
    have e:(asc (x::l)).reverse=(asc l).reverse++[48+x]:=by simp [asc]
    rw [e,sval_snoc,sval_asc fun y hy=>h y (by simp [hy]),dval]
    omega
theorem Dig_asc {l:List Int} (h:∀x∈l,0≤x∧x≤9):Dig (asc l).reverse:=fun x hx=>by
  simp only [asc,List.mem_reverse,List.mem_map] at hx
  obtain ⟨d,hd,rfl⟩:=hx
  have:=h d hd
  omega
section
variable {E:CallRel}
theorem c141_ok {l:List Int} {b:Bool} (hl:U8 l) (hll:l.length≤1000000000) (hb:b=true↔RightS l):Go.V.Call tab E 141 [.str (bs l)] [] (.bool b) []:=by
  refine Go.V.Call.mach i141 c141 rfl rfl rfl rfl ?_
  simp only [c141,go_sem]
  refine mLoop (fun N st=>∃i:Nat,i≤l.length∧N=l.length - i∧Dig (l.take i)∧st=⟨[(0,.str (bs l)),(3,.int .i64 i)],[]⟩) l.length ⟨_,rfl,0,by omega,by omega,fun x hx=>by simp at hx,by simp [getE]⟩ ?_
  rintro N s0 ⟨i,hi,rfl,hd,rfl⟩
  by_cases hil:i<l.length
  · have hi':(i:Int)<(l.length:Int):=by omega
    have hi0:(0:Int)≤(i:Int):=by omega
    have hi1:IntKind.i64.wrap ((i:Int)+1)=((i+1:Nat):Int):=by rw [wrap_i64 (by omega) (by omega)];omega
    by_cases hi2:i≤2000
    · have hi3:(i:Int)≤2000:=by omega
      have hg:=bs_getK hil
      have hx:=u8n (x:=l.getD i 0) (hl _ (by simp [List.getD,hil]))
      have ht:=Dig_take hil
      generalize l.getD i 0=x at *
      by_cases h1:x<48
      · have hbf:b=false:=by
          rw [←Bool.not_eq_true,hb]
          intro h
          have:=(ht.1 (fun y hy=>h.1 y (List.mem_of_mem_take hy))).2
          omega
        subst hbf
        simp only [b141_0,go_sem,bs_size,hi',hi3,hi0,Int.toNat_natCast,hg,hx,h1]
        simp only [i141,OT,reduceIte,Nat.reduceEqDiff]
      · by_cases h2:57<x
        · have hbf:b=false:=by
            rw [←Bool.not_eq_true,hb]
            intro h
            have:=(ht.1 (fun y hy=>h.1 y (List.mem_of_mem_take hy))).2
            omega
          subst hbf
          simp only [b141_0,go_sem,bs_size,hi',hi3,hi0,Int.toNat_natCast,hg,hx,h1,h2]
          simp only [i141,OT,reduceIte,Nat.reduceEqDiff]
        · simp only [b141_0,go_sem,bs_size,hi',hi3,hi0,Int.toNat_natCast,hg,hx,h1,h2,hi1]
          exact loopQ_go rfl (l.length - (i+1)) (by omega) ⟨i+1,by omega,rfl,ht.2 ⟨hd,by omega,by omega⟩,rfl⟩
    · have hi3:¬(i:Int)≤2000:=by omega
      have hbf:b=false:=by
        rw [←Bool.not_eq_true,hb]
        intro h
        have:=h.2.2
        omega
      subst hbf
      have g1:(1:Int)≤(l.length:Int):=by omega
      have g2:¬(l.length:Int)≤2000:=by omega
      simp only [b141_0,k141_0,go_sem,bs_size,hi',hi3,g1,g2]
      simp only [i141,OT,reduceIte,Nat.reduceEqDiff]
  · have hi':¬(i:Int)<(l.length:Int):=by omega
    obtain rfl:i=l.length:=by omega
    rw [List.take_length] at hd
    by_cases g:1≤l.length
    · have g1:(1:Int)≤(l.length:Int):=by omega
      by_cases h:l.length≤2000
      · have g2:(l.length:Int)≤2000:=by omega
        have hbt:b=true:=hb.2 ⟨hd,g,h⟩
        subst hbt
        simp only [b141_0,k141_0,go_sem,bs_size,hi',g1,g2]
        simp only [i141,OT,reduceIte,Nat.reduceEqDiff]
      · have g2:¬(l.length:Int)≤2000:=by omega
        have hbf:b=false:=by
          rw [←Bool.not_eq_true,hb]
          exact fun h'=>h h'.2.2
        subst hbf
        simp only [b141_0,k141_0,go_sem,bs_size,hi',g1,g2]
        simp only [i141,OT,reduceIte,Nat.reduceEqDiff]
    · have g1:¬(1:Int)≤(l.length:Int):=by omega
      have hbf:b=false:=by
        rw [←Bool.not_eq_true,hb]
        exact fun h'=>g h'.2.1
      subst hbf
      simp only [b141_0,k141_0,go_sem,bs_size,hi',g1]
      simp only [i141,OT,reduceIte,Nat.reduceEqDiff]
theorem c142_S {l:List Int} (hl:U8 l) (hll:l.length≤1000000000):Go.V.Call tab E 142 [.str (bs l)] [] (.str (bs (trimS l))) []:=by
  refine Go.V.Call.mach i142 c142 rfl rfl rfl rfl ?_
  simp only [c142,go_sem]
  refine mLoop (fun N st=>∃l':List Int,N=l'.length∧U8 l'∧l'.length≤1000000000∧trimS l'=trimS l∧st=⟨[(0,.str (bs l'))],[]⟩) l.length ⟨_,rfl,l,rfl,hl,hll,rfl,by simp [getE]⟩ ?_
  rintro N s0 ⟨l',rfl,hU,hL,ht,rfl⟩
  have small:l'.length≤1→trimS l'=l':=fun h=>by
    match l',h with
    | [],_=>rfl
    | [_],_=>rfl
  by_cases h1:1<l'.length
  · have h1':(1:Int)<(l'.length:Int):=by omega
    match l',h1 with
    | x::y::t,_=>
      have hx:=u8n (x:=x) (hU x (by simp))
      have hg:(bs (x::y::t))[0]?=some (UInt8.ofNat x.toNat):=rfl
      by_cases hx48:x=48
      · have h2:(x==48)=true:=by rw [beq_iff_eq];exact hx48
        have hex:(bs (x::y::t)).extract 1 ((x::y::t).length)=bs (y::t):=by
          rw [bs_extract,List.take_length];rfl
        have hex2:(bs (x::y::t)).extract 1 (t.length+1+1)=bs (y::t):=hex
        have h3:(1:Int)≤((t.length+1+1:Nat):Int):=by omega
        have h4:(1:Int)<((t.length+1+1:Nat):Int):=by omega
        rw [trimS,if_pos hx48] at ht
        simp only [b142_0,go_sem,bs_size,h1',hg,hx,h2,hex,hex2,h3,h4]
        exact loopQ_go rfl (t.length+1) (by simp) ⟨y::t,rfl,(U8_cons.1 hU).2,by simp at hL ⊢;omega,ht,rfl⟩
      · have h2:(x==48)=false:=by rw [beq_eq_false_iff_ne];exact hx48
        have h4:(1:Int)<((t.length+1+1:Nat):Int):=by omega
        rw [trimS,if_neg hx48] at ht
        simp only [b142_0,k142_0,go_sem,bs_size,h1',hg,hx,h2,h4]
        simp only [i142,OT,reduceIte,Nat.reduceEqDiff,ht]
  · have h1':¬(1:Int)<(l'.length:Int):=by omega
    rw [small (by omega)] at ht
    subst ht
    simp only [b142_0,k142_0,go_sem,bs_size,h1']
    simp only [i142,OT,reduceIte,Nat.reduceEqDiff]
theorem c142_dig {l:List Int} (hl:Dig l) (h0:l≠[]) (hll:l.length≤1000000000):Go.V.Call tab E 142 [.str (bs l)] [] (.str (dec (sval l))) []:=by
  have:=c142_S (E:=E) hl.u8 hll
  rwa [trimS_dec hl h0,←dec_eq] at this
theorem c164_ok {a b:Nat}:Go.V.Call tab E 164 [.str (dec a),.str (dec b)] [] (.int .i64 (cmpZ a b)) []:=by
  refine Go.V.Call.mach i164 c164 rfl rfl rfl rfl ?_
  rw [dec_eq,dec_eq]
  have hda:=decL_dig a
  have hdb:=decL_dig b
  have ha:=sval_decL a
  have hb:=sval_decL b
  have hne0:a=b→decL a=decL b:=fun h=>by rw [h]
  have s1:=decL_short (a:=a) (b:=b)
  have s2:=decL_short (a:=b) (b:=a)
  generalize decL a=A at *
  generalize decL b=C at *
  by_cases hl:A.length=C.length
  · have hl1:((A.length:Int) != (C.length:Int))=false:=by rw [bne_eq_false_iff_eq];omega
    have he:strOp .eq (bs A) (bs C)=some (.bool (decide (A=C))):=by simp only [strOp,str_eq hda.u8 hdb.u8]
    have hlt:strOp .lt (bs A) (bs C)=some (.bool (decide (a<b))):=by simp only [strOp,bs_toList,bytesLess_dig hda hdb hl,ha,hb]
    by_cases hAC:A=C
    · have:a=b:=by rw [←ha,←hb,hAC]
      rw [decide_eq_true hAC] at he
      simp only [c164,go_sem,bs_size,hl1,he]
      simp only [i164,OT,reduceIte,Nat.reduceEqDiff,cmpZ,this,Nat.lt_irrefl]
    · have hne:¬a=b:=fun h=>hAC (hne0 h)
      rw [decide_eq_false hAC] at he
      by_cases hab:a<b
      · simp only [c164,go_sem,bs_size,hl1,he,hlt,hab]
        simp only [i164,OT,reduceIte,Nat.reduceEqDiff,cmpZ,hab]
      · simp only [c164,go_sem,bs_size,hl1,he,hlt,hab]
        simp only [i164,OT,reduceIte,Nat.reduceEqDiff,cmpZ,hab,hne]
  · have hl1:((A.length:Int) != (C.length:Int))=true:=by rw [bne_iff_ne];omega
    by_cases hl2:A.length<C.length
    · have hl3:(A.length:Int)<(C.length:Int):=by omega
      have:=s1 hl2
      simp only [c164,go_sem,bs_size,hl1,hl3]
      simp only [i164,OT,reduceIte,Nat.reduceEqDiff,cmpZ,this]
    · have hl3:¬(A.length:Int)<(C.length:Int):=by omega
      have h5:=s2 (by omega)
      have h6:¬a<b:=by omega
      have h7:¬a=b:=by omega
      simp only [c164,go_sem,bs_size,hl1,hl3]
      simp only [i164,OT,reduceIte,Nat.reduceEqDiff,cmpZ,h6,h7]
theorem c167_ok {n i:Nat} (hll:(decL n).length≤1000000000) (hi:i≤1000000000):Go.V.Call tab E 167 [.str (dec n),.int .i64 i] [] (.int .i64 ((dgs n).getD i 0)) []:=by
  refine Go.V.Call.mach i167 c167 rfl rfl rfl rfl ?_
  obtain ⟨hd1,hd2⟩:=digit_dec (n:=n) (i:=i)
  have hU:=decL_dig n
  rw [dec_eq]
  generalize (dgs n).getD i 0=d at *
  generalize decL n=l at *
  by_cases hil:i<l.length
  · have h1:¬(l.length:Int)≤(i:Int):=by omega
    have w1:IntKind.i64.wrap ((l.length:Int) - 1)=((l.length - 1:Nat):Int):=by rw [wrap_i64 (by omega) (by omega)];omega
    have w2:IntKind.i64.wrap (((l.length - 1:Nat):Int) - (i:Int))=((l.length - 1 - i:Nat):Int):=by rw [wrap_i64 (by omega) (by omega)];omega
    have h2:(0:Int)≤((l.length - 1 - i:Nat):Int):=by omega
    have hg:=bs_getK (l:=l) (k:=l.length - 1 - i) (by omega)
    have hr:=hU (l.getD (l.length - 1 - i) 0) (by simp [List.getD,show l.length - 1 - i<l.length by omega])
    have e:=hd1 hil
    rw [e] at hg hr
    have hx:=u8n (x:=48+d) (by omega)
    have w3:IntKind.u8.wrap (48+d - 48)=d:=by
      simp only [IntKind.wrap,IntKind.bits,IntKind.signed]
      simp
      omega
    have w4:IntKind.i64.wrap d=d:=wrap_i64 (by omega) (by omega)
    simp only [c167,go_sem,bs_size,h1,w1,w2,h2,Int.toNat_natCast,hg,hx,w3,w4]
    simp only [i167,OT,reduceIte,Nat.reduceEqDiff]
  · have h1:(l.length:Int)≤(i:Int):=by omega
    have:=hd2 (by omega)
    subst this
    simp only [c167,go_sem,bs_size,h1]
    simp only [i167,OT,reduceIte,Nat.reduceEqDiff]
theorem c154_gen {L:List Int} (hl:(L.length:Int)≤1000000000) (h0:L≠[]) (hrr:∀x∈L,0≤x∧x≤9):Go.V.Call tab E 154 [ints L] [] (.str (dec (dval L))) []:=by
  refine Go.V.Call.mach i154 c154 rfl rfl rfl rfl ?_
  have hL0:L.length≠0:=fun h=>h0 (List.length_eq_zero_iff.1 h)
  have htrim:=c142_dig (E:=E) (l:=(asc L).reverse) (Dig_asc hrr) (by
    intro h
    have:=congrArg List.length h
    simp [asc] at this
    exact h0 this) (by rw [List.length_reverse,asc_len];omega)
  rw [sval_asc hrr] at htrim
  have w1:IntKind.i64.wrap ((L.length:Int)+1)=((L.length+1:Nat):Int):=by rw [wrap_i64 (by omega) (by omega)];omega
  have w2:IntKind.i64.wrap ((L.length:Int) - 1)=(L.length:Int) - 1:=wrap_i64 (by omega) (by omega)
  have b1:(0:Int)≤((L.length+1:Nat):Int):=by omega
  have b2:1*(L.length+1)≤140737488355328:=by omega
  have b3:((L.length+1:Nat):Int)≤140737488355328:=by omega
  simp only [c154,go_sem,w1,w2,b1,b2,b3,Int.toNat_natCast]
  refine mLoop (fun N st=>∃(j:Nat) (jj:Int),j≤L.length∧N=j∧jj=(j:Int) - 1∧
    st=⟨[(0,ints L),(3,.arr 0 (L.length - j)),(4,.int .i64 jj)],[⟨false,5,1,L.length - j,L.length - j,nums .u8 (asc (L.drop j)).reverse,false⟩]⟩) L.length
    ⟨_,rfl,L.length,_,by omega,rfl,rfl,by rw [List.drop_length,Nat.sub_self];rfl⟩ ?_
  rintro N s0 ⟨j,jj,hj,rfl,hjj,rfl⟩
  cases N with
  | zero=>
    have hn:¬0≤jj:=by omega
    have hz:((L.length:Int)==0)=false:=by rw [beq_eq_false_iff_ne];omega
    simp only [b154_0,k154_0,go_sem,hn,Nat.sub_zero,List.drop_zero,hz,bytesOf_nums]
    refine goP htrim ?_
    simp only [go_sem]
    simp only [i154,OT,reduceIte,Nat.reduceEqDiff]
  | succ k=>
    obtain rfl:jj=(k:Int):=by omega
    have hlt:k<L.length:=by omega
    have hlt':(k:Int)<(L.length:Int):=by omega
    have hk0:(0:Int)≤(k:Int):=by omega
    have hk1:IntKind.i64.wrap ((k:Int) - 1)=(k:Int) - 1:=wrap_i64 (by omega) (by omega)
    have hsub:=sub_nums (k:=.i64) hlt
    have hx:=hrr (L.getD k 0) (by simp [List.getD,hlt])
    have hdr:=getD_drop hlt
    generalize L.getD k 0=x at *
    have t3:IntKind.i64.wrap (48+x)=48+x:=wrap_i64 (by omega) (by omega)
    have t4:IntKind.u8.wrap (48+x)=48+x:=by
      simp only [IntKind.wrap,IntKind.bits,IntKind.signed]
      simp
      omega
    have e0:L.length - k=L.length - (k+1)+1:=by omega
    have e3:(L.length - (k+1)+1)*1≤140737488355328:=by omega
    have e4:L.length - (k+1)+1≤140737488355328:=by omega
    have hasc:nums .u8 (asc (L.drop k)).reverse=nums .u8 (asc (L.drop (k+1))).reverse++[.int .u8 (48+x)]:=by rw [hdr];simp [nums,asc]
    simp only [b154_0,go_sem,hk0,hlt',Int.toNat_natCast,hsub,t3,t4,e3,e4,hk1,List.flatten_cons,List.flatten_nil,Option.getD_some]
    refine loopQ_go rfl k (by omega) ⟨k,_,by omega,rfl,rfl,?_⟩
    rw [hasc,e0]
    rfl
theorem c165_ok {a b:Nat} (hab:b≤a) (ha:(decL a).length≤1000000) (hb:(decL b).length≤1000000):Go.V.Call tab E 165 [.str (dec a),.str (dec b)] [] (.str (dec (a - b))) []:=by
  refine Go.V.Call.mach i165 c165 rfl rfl rfl rfl ?_
  have hak:=dgs_len (n:=a)
  have hne:=decL_ne a
  have hsz:(dec a).size=(decL a).length:=by rw [dec_eq,bs_size]
  have hdg:∀i:Nat,i≤1000000000→Go.V.Call tab E 167 [.str (dec a),.int .i64 i] [] (.int .i64 ((dgs a).getD i 0)) []:=fun i hi=>c167_ok (by omega) hi
  generalize hK:(decL a).length=K at *
  have hK0:K≠0:=fun h=>hne (List.length_eq_zero_iff.1 (by omega))
  simp only [c165,go_sem]
  refine mLoop (fun N st=>∃(i br:Nat) (L:List Int),i≤K∧N=K - i∧br≤1∧L.length=i∧(∀x∈L,0≤x∧x≤9)∧dval L+b % 10^i=a % 10^i+br*10^i∧
    st=⟨[(0,.str (dec a)),(1,.str (dec b)),(5,.arr 0 i),(6,.int .i64 br),(7,.int .i64 i)],[⟨false,3,1,i,i,nums .i64 L,false⟩]⟩) K
    ⟨_,rfl,0,0,[],by omega,by omega,by omega,rfl,fun x hx=>by simp at hx,by simp [dval,Nat.mod_one],by simp [getE,nums]⟩ ?_
  rintro N s0 ⟨i,br,L,hi,rfl,hbr,hLl,hLd,hv,rfl⟩
  by_cases hiK:i<K
  · have hi':(i:Int)<(K:Int):=by omega
    have hi1:IntKind.i64.wrap ((i:Int)+1)=((i+1:Nat):Int):=by rw [wrap_i64 (by omega) (by omega)];omega
    have h1:=hdg i (by omega)
    have h2:=c167_ok (E:=E) (n:=b) (i:=i) (by omega) (by omega)
    rw [dgs_get] at h1 h2
    have ma:=Nat.mod_pow_succ (b:=10) (x:=a) (k:=i)
    have mb:=Nat.mod_pow_succ (b:=10) (x:=b) (k:=i)
    have la:=Nat.mod_lt (a/10^i) (show 0<10 by omega)
    have lb:=Nat.mod_lt (b/10^i) (show 0<10 by omega)
    generalize a/10^i % 10=x at *
    generalize b/10^i % 10=y at *
    have w1:IntKind.i64.wrap ((x:Int) - (y:Int))=(x:Int) - (y:Int):=wrap_i64 (by omega) (by omega)
    have w2:IntKind.i64.wrap ((x:Int) - (y:Int) - (br:Int))=(x:Int) - (y:Int) - (br:Int):=wrap_i64 (by omega) (by omega)
    have w3:IntKind.i64.wrap ((x:Int) - (y:Int) - (br:Int)+10)=(x:Int) - (y:Int) - (br:Int)+10:=wrap_i64 (by omega) (by omega)
    have e3:(i+1)*8≤140737488355328:=by omega
    have e4:i+1≤140737488355328:=by omega
    have fin:∀(t:Int) (br':Nat),0≤t→t≤9→br'≤1→t+y+br=x+10*br'→(L++[t]).length=i+1∧(∀z∈L++[t],0≤z∧z≤9)∧dval (L++[t])+b % 10^(i+1)=a % 10^(i+1)+br'*10^(i+1):=fun t br' t1 t2 t3 t4=>by
      refine ⟨by simp [hLl],fun z hz=>?_,?_⟩
      · rcases List.mem_append.1 hz with hz|hz
        · exact hLd z hz
        · simp at hz;omega
      · rw [dval_snoc,ma,mb,hLl,Nat.pow_succ]
        have q1:10^i*(t.toNat+y+br)=10^i*(x+10*br'):=by congr 1;omega
        rw [Nat.mul_add,Nat.mul_add,Nat.mul_add] at q1
        have q2:br'*(10^i*10)=10^i*(10*br'):=by rw [Nat.mul_comm,Nat.mul_assoc]
        have q3:br*10^i=10^i*br:=Nat.mul_comm _ _
        rw [q2]
        rw [q3] at hv
        clear q2 q3 ma mb
        generalize 10^i*t.toNat=Z1 at *
        generalize 10^i*y=Z2 at *
        generalize 10^i*x=Z3 at *
        generalize 10^i*br=Z4 at *
        generalize 10^i*(10*br')=Z5 at *
        omega
    by_cases hneg:(x:Int) - (y:Int) - (br:Int)<0
    · obtain ⟨f1,f2,f3⟩:=fin ((x:Int) - (y:Int) - (br:Int)+10) 1 (by omega) (by omega) (by omega) (by omega)
      simp only [b165_0,go_sem,hsz,hi',hi1]
      refine goP h1 ?_
      simp only [go_sem]
      refine goP h2 ?_
      simp only [go_sem,w1,w2,hneg,w3,e3,e4,hi1,List.flatten_cons,List.flatten_nil,Option.getD_some]
      exact loopQ_go rfl (K - (i+1)) (by omega) ⟨i+1,1,_,by omega,rfl,by omega,f1,f2,f3,by rw [nums_app];rfl⟩
    · obtain ⟨f1,f2,f3⟩:=fin ((x:Int) - (y:Int) - (br:Int)) 0 (by omega) (by omega) (by omega) (by omega)
      simp only [b165_0,go_sem,hsz,hi',hi1]
      refine goP h1 ?_
      simp only [go_sem]
      refine goP h2 ?_
      simp only [go_sem,w1,w2,hneg,e3,e4,hi1,List.flatten_cons,List.flatten_nil,Option.getD_some]
      exact loopQ_go rfl (K - (i+1)) (by omega) ⟨i+1,0,_,by omega,rfl,by omega,f1,f2,f3,by rw [nums_app];rfl⟩
  · have hi':¬(i:Int)<(K:Int):=by omega
    obtain rfl:i=K:=by omega
    have hdl:=dval_lt hLd
    rw [hLl] at hdl
    rw [Nat.mod_eq_of_lt hak,Nat.mod_eq_of_lt (by omega)] at hv
    have hbr0:br=0:=by
      rcases Nat.eq_zero_or_pos br with h|h
      · exact h
      · obtain rfl:br=1:=by omega
        omega
    subst hbr0
    have hdv:dval L=a - b:=by omega
    have h143:=c154_gen (E:=E) (L:=L) (by omega) (by
      rintro rfl
      simp at hLl
      omega) hLd
    rw [hdv,ints,hLl] at h143
    simp only [b165_0,k165_0,go_sem,hsz,hi']
    refine goR h143 rfl ?_
    simp only [go_sem]
    simp only [i165,OT,reduceIte,Nat.reduceEqDiff]
end
theorem decL_mono {a b:Nat} (h:a≤b):(decL a).length≤(decL b).length:=by
  rcases Nat.lt_or_ge (decL b).length (decL a).length with h1|h1
  · have:=decL_short h1;omega
  · exact h1
theorem sval_take {l:List Int} {i:Nat} (h:i<l.length):sval (l.take (i+1))=10*sval (l.take i)+(l.getD i 0 - 48).toNat:=by
  rw [take_snoc h,sval_snoc]
theorem div_digit {P d b R:Nat} (hb:0<b) (hR:R=10*(P % b)+d):(10*P+d)/b=10*(P/b)+R/b∧(10*P+d) % b=R % b:=by
  have e:10*P+d=R+b*(10*(P/b)):=by
    have h:=Nat.div_add_mod P b
    have h2:b*(10*(P/b))=10*(b*(P/b)):=by rw [Nat.mul_left_comm]
    omega
  rw [e,Nat.add_mul_div_left _ _ hb,Nat.add_mul_mod_self_left]
  exact ⟨by omega,rfl⟩
section
variable {E:CallRel}
theorem c155_ok {a b:Nat} (hb0:b≠0) (ha:(decL a).length≤100000) (hb:(decL b).length≤100000):Go.V.Call tab E 155 [.str (dec a),.str (dec b)] [] (.tup [.str (dec (a/b)),.str (dec (a % b))]) []:=by
  refine Go.V.Call.mach i155 c155 rfl rfl rfl rfl ?_
  have hbp:0<b:=Nat.pos_of_ne_zero hb0
  have hda:=decL_dig a
  have hne:=decL_ne a
  have hav:=sval_decL a
  have hae:=dec_eq (n:=a)
  have hd0:(⟨#[48]⟩:ByteArray)=dec 0:=rfl
  generalize decL a=l at *
  generalize dec a=sa at *
  subst hae
  have hl0:l.length≠0:=fun h=>hne (List.length_eq_zero_iff.1 h)
  have b1:(0:Int)≤(l.length:Int):=by omega
  have b2:1*l.length≤140737488355328:=by omega
  have b3:(l.length:Int)≤140737488355328:=by omega
  have b4:l.length≤140737488355328:=by omega
  simp only [c155,go_sem,bs_size,b1,b2,b3,b4,Int.toNat_natCast,hd0]
  refine mLoop (fun N st=>∃(i:Nat) (q:List Int),i≤l.length∧N=l.length - i∧q.length=i∧Dig q∧sval q=sval (l.take i)/b∧
    st=⟨[(0,.str (bs l)),(1,.str (dec b)),(6,.arr 0 i),(7,.str (dec (sval (l.take i) % b))),(8,.int .i64 i)],[⟨false,5,1,i,i,nums .u8 q,false⟩]⟩) l.length
    ⟨_,rfl,0,[],by omega,by omega,rfl,fun x hx=>by simp at hx,by simp [sval],by simp [getE,nums,sval]⟩ ?_
  rintro N s0 ⟨i,q,hi,rfl,hql,hqd,hqv,rfl⟩
  by_cases hil:i<l.length
  · have hi':(i:Int)<(l.length:Int):=by omega
    have hi0:(0:Int)≤(i:Int):=by omega
    have hi1:IntKind.i64.wrap ((i:Int)+1)=((i+1:Nat):Int):=by rw [wrap_i64 (by omega) (by omega)];omega
    have hi2:(0:Int)≤((i+1:Nat):Int):=by omega
    have hi3:((i+1:Nat):Int)≤(l.length:Int):=by omega
    have hi4:(i:Int)≤((i+1:Nat):Int):=by omega
    have hex:(bs l).extract i (i+1)=bs [l.getD i 0]:=by
      rw [bs_extract,take_snoc hil,List.drop_append_of_le_length (by rw [List.length_take];omega),List.drop_eq_nil_of_le (by rw [List.length_take];omega)];rfl
    have hx:=hda (l.getD i 0) (by simp [List.getD,hil])
    have hst:=sval_take hil
    generalize l.getD i 0=x at *
    have hrb:=Nat.mod_lt (sval (l.take i)) hbp
    have hrl:(decL (sval (l.take i) % b)).length≤100000:=by
      have:=decL_mono (Nat.le_of_lt hrb)
      omega
    have hadd:strOp .add (dec (sval (l.take i) % b)) (bs [x])=some (.str (bs (decL (sval (l.take i) % b)++[x]))):=by
      simp only [strOp]
      rw [if_neg,dec_eq,bs_append]
      rw [dec_eq,bs_size,bs_size]
      simp [IntKind.max,IntKind.bits,IntKind.signed]
      omega
    have h120:=c142_dig (E:=E) (l:=decL (sval (l.take i) % b)++[x]) (by
      rw [Dig_app]
      exact ⟨decL_dig _,fun y hy=>by simp at hy;omega⟩) (by simp) (by simp;omega)
    rw [sval_snoc,sval_decL] at h120
    obtain ⟨dq,dm⟩:=div_digit (P:=sval (l.take i)) (d:=(x - 48).toNat) hbp rfl
    rw [←hst] at dq dm
    rw [←hqv] at dq
    have hR10:10*(sval (l.take i) % b)+(x - 48).toNat<10*b:=by omega
    have hRl:(decL (10*(sval (l.take i) % b)+(x - 48).toNat)).length≤1000000:=by
      have h1:(decL (10*b)).length≤(decL b).length+1:=by
        have:=decL_ten hb0 (d:=0) (by omega)
        rw [Nat.add_zero] at this
        rw [this];simp
      have h2:=decL_mono (Nat.le_of_lt hR10)
      omega
    generalize 10*(sval (l.take i) % b)+(x - 48).toNat=R at *
    simp only [b155_0,go_sem,bs_size,hi',hi0,hi1,hi2,hi3,hi4,Int.toNat_natCast,hex,hadd]
    refine goP h120 ?_
    simp only [go_sem]
    refine mLoop (fun N st=>∃(n:Nat),n*b≤R∧N=10 - n∧
      st=⟨[(0,.str (bs l)),(1,.str (dec b)),(6,.arr 0 i),(7,.str (dec (R - n*b))),(8,.int .i64 i),(9,.int .i64 n)],[⟨false,5,1,i,i,nums .u8 q,false⟩]⟩) 10
      ⟨_,rfl,0,by omega,rfl,by simp [getE]⟩ ?_
    rintro N s0 ⟨n,hn,rfl,rfl⟩
    have hn9:n<10:=by
      rcases Nat.lt_or_ge n 10 with h|h
      · exact h
      · have:=Nat.mul_le_mul_right b h
        omega
    have hn':(n:Int)<10:=by omega
    have hn1:IntKind.i64.wrap ((n:Int)+1)=((n+1:Nat):Int):=by rw [wrap_i64 (by omega) (by omega)];omega
    have h146:=c164_ok (E:=E) (a:=R - n*b) (b:=b)
    by_cases hge:b≤R - n*b
    · have hc:(0:Int)≤cmpZ (R - n*b) b:=by
        rw [cmpZ,if_neg (by omega)]
        split<;>omega
      have h147:=c165_ok (E:=E) hge (by have:=decL_mono (show R - n*b≤R by omega);omega) (by omega)
      have hsub:R - n*b - b=R - (n+1)*b:=by rw [Nat.add_mul,Nat.one_mul];omega
      rw [hsub] at h147
      simp only [b155_1,go_sem]
      refine goP h146 ?_
      simp only [go_sem,hc,hn']
      refine goP h147 ?_
      simp only [go_sem,hn1]
      exact loopQ_go rfl (10 - (n+1)) (by omega) ⟨n+1,by rw [Nat.add_mul,Nat.one_mul];omega,rfl,rfl⟩
    · have hc:¬(0:Int)≤cmpZ (R - n*b) b:=by
        rw [cmpZ,if_pos (by omega)]
        omega
      have hdiv:R/b=n:=by
        refine (Nat.div_eq_iff hbp).2 ⟨hn,?_⟩
        omega
      have hmod:R % b=R - n*b:=by
        have:=Nat.div_add_mod R b
        rw [hdiv,Nat.mul_comm] at this
        omega
      rw [hdiv] at dq
      rw [hmod] at dm
      have w1:IntKind.i64.wrap (48+(n:Int))=48+(n:Int):=wrap_i64 (by omega) (by omega)
      have w2:IntKind.u8.wrap (48+(n:Int))=48+(n:Int):=by
        simp only [IntKind.wrap,IntKind.bits,IntKind.signed]
        simp
        omega
      have e3:(i+1)*1≤140737488355328:=by omega
      have e4:i+1≤140737488355328:=by omega
      simp only [b155_1,k155_0,k155_1,go_sem]
      refine goP h146 ?_
      simp only [go_sem,hc,w1,w2,e3,e4,hi1,List.flatten_cons,List.flatten_nil,Option.getD_some]
      refine loopQ_go rfl (l.length - (i+1)) (by omega) ⟨i+1,q++[48+(n:Int)],by omega,rfl,by simp [hql],?_,?_,?_⟩
      · rw [Dig_app]
        exact ⟨hqd,fun y hy=>by simp at hy;omega⟩
      · rw [sval_snoc,dq]
        omega
      · rw [dm,nums_app]
        rfl
  · have hi':¬(i:Int)<(l.length:Int):=by omega
    obtain rfl:i=l.length:=by omega
    rw [List.take_length,hav] at hqv
    have h120:=c142_dig (E:=E) (l:=q) hqd (by
      rintro rfl
      simp at hql
      omega) (by omega)
    rw [hqv] at h120
    simp only [b155_0,k155_2,go_sem,bs_size,hi',bytesOf_nums,List.take_length,hav]
    refine goP h120 ?_
    simp only [go_sem]
    simp only [i155,OT,reduceIte,Nat.reduceEqDiff]
def powN (b n:Nat):Nat:=b^n
theorem powN_lt {b j n:Nat} (hb:1<b) (h:b^j<powN b n):j<n:=(Nat.pow_lt_pow_iff_right hb).1 h
def lim2000:Nat:=powN 10 2000
def lim2000sq:Nat:=powN 2 13288
theorem lim_sq:lim2000*lim2000≤lim2000sq:=of_decide_eq_true (by kernel_rfl)
theorem pow_lim {j:Nat} (h:2^j<lim2000sq):j<13288:=powN_lt (n:=13288) (by omega) h
theorem pow_lim10 {j x:Nat} (h1:10^j≤x) (h2:x<lim2000):j<2000:=powN_lt (n:=2000) (by omega) (Nat.lt_of_le_of_lt h1 h2)
theorem lim2000_len {x:Nat} (h:x<lim2000):(decL x).length≤2000:=by
  by_cases hx0:x=0
  · subst hx0
    have:(decL 0).length=1:=rfl
    omega
  · have h1:=pow_lim10 (decL_len hx0) h
    omega
theorem c143_gen {M S a b:Nat} (hMM:M*M≤S) (hpow:∀j,2^j<S→j<13288) (lenb:∀x,x<M→(decL x).length≤100000) (ha:a<M) (hb:b<M):Go.V.Call tab E 143 [.str (dec a),.str (dec b)] [] (.str (dec (Nat.gcd a b))) []:=by
  refine Go.V.Call.mach i143 c143 rfl rfl rfl rfl ?_
  have hd0:(⟨#[48]⟩:ByteArray)=dec 0:=rfl
  simp only [c143,go_sem,hd0]
  refine mLoop (fun N st=>∃(i x y:Nat),N=y∧Nat.gcd x y=Nat.gcd a b∧x<M∧y<M∧(i=0∨1≤i∧y<x∧x*y*2^(i - 1)<S)∧
    st=⟨[(0,.str (dec x)),(1,.str (dec y)),(5,.int .i64 i)],[]⟩) b ⟨_,rfl,0,a,b,rfl,rfl,ha,hb,.inl rfl,by simp [getE]⟩ ?_
  rintro N s0 ⟨i,x,y,rfl,hg,hx,hy,hm,h2⟩
  have hne:strOp .ne (dec N) (dec 0)=some (.bool (decide (N≠0))):=by
    simp only [strOp]
    rw [dec_eq,dec_eq,str_eq (decL_dig N).u8 (decL_dig 0).u8]
    congr 2
    rw [←decide_not]
    congr 1
    refine propext ⟨fun h h2=>h (by rw [h2]),fun h h2=>h ?_⟩
    rw [←sval_decL N,h2,sval_decL]
  by_cases hN:N=0
  · subst hN
    rw [Nat.gcd_zero_right] at hg
    subst hg
    rw [decide_eq_false (by omega)] at hne
    by_cases hi:i<20000
    · have hi':(i:Int)<20000:=by omega
      simp only [h2,b143_0,k143_0,go_sem,hd0,hi',hne]
      simp only [i143,OT,reduceIte,Nat.reduceEqDiff]
    · have hi':¬(i:Int)<20000:=by omega
      simp only [h2,b143_0,k143_0,go_sem,hd0,hi',hne]
      simp only [i143,OT,reduceIte,Nat.reduceEqDiff]
  · rw [decide_eq_true hN] at hne
    have hNp:0<N:=Nat.pos_of_ne_zero hN
    have hi:i<20000:=by
      rcases hm with h|⟨h1,h5',h3⟩
      · omega
      · have h4:1≤x*N:=Nat.mul_pos (by omega) hNp
        have h5:=Nat.mul_le_mul_right (2^(i - 1)) h4
        rw [Nat.one_mul] at h5
        have h6:2^(i - 1)<S:=Nat.lt_of_le_of_lt h5 h3
        have h7:=hpow _ h6
        omega
    have hi':(i:Int)<20000:=by omega
    have hi1:IntKind.i64.wrap ((i:Int)+1)=((i+1:Nat):Int):=by rw [wrap_i64 (by omega) (by omega)];omega
    have h138:=c155_ok (E:=E) (a:=x) hN (lenb x hx) (lenb N hy)
    have hml:=Nat.mod_lt x hNp
    have hg2:Nat.gcd N (x % N)=Nat.gcd a b:=by rw [←hg,Nat.gcd_comm N,←Nat.gcd_rec,Nat.gcd_comm]
    have hnew:N*(x % N)*2^i<S:=by
      rcases hm with h|⟨h1,h5',h3⟩
      · subst h
        rw [Nat.pow_zero,Nat.mul_one]
        exact Nat.lt_of_lt_of_le (Nat.mul_lt_mul'' hy (by omega)) hMM
      · have h4:2*(x % N)≤x:=by
          have e1:=Nat.div_add_mod x N
          have e2:1≤x/N:=(Nat.one_le_div_iff hNp).2 (by omega)
          have e3:=Nat.mul_le_mul_left N e2
          omega
        obtain ⟨k,rfl⟩:∃k,i=k+1:=⟨i - 1,by omega⟩
        rw [Nat.add_sub_cancel] at h3
        refine Nat.lt_of_le_of_lt ?_ h3
        rw [Nat.pow_succ,Nat.mul_comm (2^k) 2,←Nat.mul_assoc]
        refine Nat.mul_le_mul_right _ ?_
        rw [Nat.mul_assoc,Nat.mul_comm x,Nat.mul_comm (x % N)]
        exact Nat.mul_le_mul_left _ h4
    generalize x % N=r at *
    simp only [h2,b143_0,go_sem,hd0,hi',hne]
    refine goP h138 ?_
    simp only [go_sem,hi1]
    exact loopQ_go rfl r (by omega) ⟨i+1,N,r,rfl,hg2,hy,by omega,.inr ⟨by omega,hml,by rw [Nat.add_sub_cancel];exact hnew⟩,rfl⟩
theorem c143_ok {a b:Nat} (ha:a<lim2000) (hb:b<lim2000):Go.V.Call tab E 143 [.str (dec a),.str (dec b)] [] (.str (dec (Nat.gcd a b))) []:=
  c143_gen lim_sq (fun _ h=>pow_lim h) (fun x hx=>Nat.le_trans (lim2000_len hx) (by decide)) ha hb
end
theorem lim2000_limbs {x:Nat} (h:x<lim2000):(limG x).length≤208:=by
  refine limG_len (Nat.lt_of_lt_of_le h ?_)
  show lim2000≤4294967296^208
  exact of_decide_eq_true (by kernel_rfl)
theorem powN_le {b n m:Nat} (hb:0<b) (h:n≤m):b^n≤powN b m:=Nat.pow_le_pow_right hb h
theorem pow10_le {n:Nat} (h:n≤2000):10^n≤lim2000:=powN_le (by omega) h
theorem Right_lim {l:List Int} (h:RightS l):sval l<lim2000:=Nat.lt_of_lt_of_le (sval_lt h.1) (pow10_le h.2.2)
theorem sval_drop {l:List Int} {j n:Nat}:sval (l.take (j+n))=sval (l.take j)*10^((l.drop j).take n).length+sval ((l.drop j).take n):=by
  rw [←sval_append,←List.take_add]
section
variable {E:CallRel}
theorem c144_ok {l:List Int} {b:Bool} (hl:U8 l) (hll:l.length≤1000000000) (hb:b=true↔RightS l):Go.V.Call tab E 144 [.str (bs l)] [] (.tup [natC (if b then sval l else 0),.bool b]) []:=by
  refine Go.V.Call.mach i144 c144 rfl rfl rfl rfl ?_
  have hfalse:¬RightS l→b=false:=fun h=>by rw [←Bool.not_eq_true,hb];exact h
  have heq:strOp .eq (bs l) (⟨#[]⟩:ByteArray)=some (.bool (decide (l=[]))):=by
    have:(⟨#[]⟩:ByteArray)=bs []:=rfl
    rw [this]
    simp only [strOp,str_eq hl (show U8 [] from fun x hx=>by simp at hx)]
  by_cases h0:l=[]
  · have hbf:=hfalse (fun h=>by have:=h.2.1;rw [h0] at this;simp at this)
    subst hbf
    rw [decide_eq_true h0] at heq
    simp only [c144,natC,us32,go_sem,FL,heq,bs_size]
    simp only [i144,OT,reduceIte,Nat.reduceEqDiff,sub,FL,List.length_cons,List.length_nil,Nat.le_refl,us32,if_false,Bool.false_eq_true,limG_zero]
    rfl
  rw [decide_eq_false h0] at heq
  by_cases h2:2000<l.length
  · have hbf:=hfalse (fun h=>by have:=h.2.2;omega)
    subst hbf
    have h2':(2000:Int)<(l.length:Int):=by omega
    simp only [c144,natC,us32,go_sem,FL,heq,bs_size,h2']
    simp only [i144,OT,reduceIte,Nat.reduceEqDiff,sub,FL,List.length_cons,List.length_nil,Nat.le_refl,us32,if_false,Bool.false_eq_true,limG_zero]
    rfl
  have h2':¬(2000:Int)<(l.length:Int):=by omega
  have hlim:∀j,Dig (l.take j)→sval (l.take j)<lim2000:=fun j h=>by
    refine Nat.lt_of_lt_of_le (sval_lt h) (pow10_le ?_)
    rw [List.length_take]
    omega
  simp only [c144,natC,us32,go_sem,heq,bs_size,h2']
  refine mLoop (fun N st=>∃(j:Nat) (c:AV) (fr:Bool),j≤l.length∧N=l.length - j∧Dig (l.take j)∧((c=.arr 2 0∧fr=false∧sval (l.take j)=0)∨c=us32 (limG (sval (l.take j))))∧
    st=⟨[(0,.str (bs (l.drop j))),(2,.loc 1 0 0),(4,.loc 3 0 0)],[⟨false,154,1,0,0,[],false⟩,⟨true,55,1,0,1,[.arr 0 0],false⟩,⟨false,154,1,0,0,[],fr⟩,⟨true,55,1,0,1,[c],false⟩]⟩) l.length
    ⟨_,rfl,0,.arr 2 0,false,by omega,by omega,fun x hx=>by simp at hx,.inl ⟨rfl,rfl,rfl⟩,by simp [getE]⟩ ?_
  rintro N s0 ⟨j,c,fr,hj,rfl,hd,hc,rfl⟩
  have hdl:(l.drop j).length=l.length - j:=List.length_drop
  by_cases hjl:j<l.length
  · have g1:(0:Int)<((l.length - j:Nat):Int):=by omega
    obtain ⟨n,hn⟩:∃n,n=min 9 (l.length - j):=⟨_,rfl⟩
    have hmin:(if ((l.length - j:Nat):Int)<9 then ((l.length - j:Nat):Int) else 9)=(n:Int):=by split<;>omega
    have g2:(0:Int)≤(n:Int):=by omega
    have g3:(n:Int)≤((l.length - j:Nat):Int):=by omega
    obtain ⟨p,hp⟩:∃p,p=(l.drop j).take n:=⟨_,rfl⟩
    have hpl:p.length=n:=by rw [hp,List.length_take,hdl];omega
    have hex:(bs (l.drop j)).extract 0 n=bs p:=by rw [bs_extract,hp];rfl
    have hpU:U8 p:=fun x hx=>hl x (by rw [hp] at hx;exact List.mem_of_mem_drop (List.mem_of_mem_take hx))
    have hby:=bytesAV_bs hpU
    have hex2:(bs (l.drop j)).extract n (l.length - j)=bs (l.drop (j+n)):=by
      rw [bs_extract,List.take_of_length_le (by omega),List.drop_drop]
    have hsv:=sval_drop (l:=l) (j:=j) (n:=n)
    rw [←hp,hpl] at hsv
    have htk:l.take (j+n)=l.take j++p:=by rw [hp,List.take_add]
    have hx90:=fun i (hi:i≤9)=>(Nat.pow_le_pow_right (show 0<10 by omega) hi:10^i≤10^9)
    rcases hc with ⟨rfl,rfl,hv⟩|rfl
    · simp only [b144_0,us32,go_sem,bs_size,hdl,g1,hmin,g2,g3,Int.toNat_natCast,hex,hby,hpl]
      refine mLoop (fun N st=>∃i:Nat,i≤n∧N=n - i∧Dig (p.take i)∧
        st=⟨[(0,.str (bs (l.drop j))),(2,.loc 1 0 0),(4,.loc 3 0 0),(5,.int .i64 n),(6,.int .u64 ((sval (p.take i):Nat):Int)),(7,.int .u64 ((10^i:Nat):Int)),(27,.sl n 1 (nums .u8 p)),(28,.int .i64 n),(29,.int .i64 i)],
          [⟨false,154,1,0,0,[],false⟩,⟨true,55,1,0,1,[.arr 0 0],false⟩,⟨false,154,1,0,0,[],false⟩,⟨true,55,1,0,1,[.arr 2 0],false⟩]⟩) n
        ⟨_,rfl,0,by omega,by omega,fun x hx=>by simp at hx,by simp [getE,sval_nil,us32]⟩ ?_
      rintro N s0 ⟨i,hi,rfl,hdi,rfl⟩
      by_cases hin:i<n
      · have h1:(i:Int)<(n:Int):=by omega
        have h2:(0:Int)≤(i:Int):=by omega
        have h3:IntKind.i64.wrap ((i:Int)+1)=((i+1:Nat):Int):=by rw [wrap_i64 (by omega) (by omega)];omega
        have hsub:=sub_nums (k:=.u8) (l:=p) (i:=i) (by omega)
        have hyU:=hpU (p.getD i 0) (by simp [List.getD,show i<p.length by omega])
        have htd:=Dig_take (l:=p) (i:=i) (by omega)
        have hts:=sval_take (l:=p) (i:=i) (by omega)
        have hlt:=sval_lt hdi
        rw [List.length_take,hpl,Nat.min_eq_left (by omega)] at hlt
        have h99:=hx90 i (by omega)
        have hps:10^(i+1)=10*10^i:=by rw [Nat.pow_succ,Nat.mul_comm]
        generalize p.getD i 0=y at *
        have bad:¬(48≤y∧y≤57)→b=false:=fun h=>hfalse (fun hr=>h (by
          have:Dig (l.take (j+n)):=fun z hz=>hr.1 z (List.mem_of_mem_take hz)
          rw [htk,Dig_app] at this
          exact (htd.1 (fun z hz=>this.2 z (List.mem_of_mem_take hz))).2))
        by_cases y1:y<48
        · have hbf:=bad (by omega)
          subst hbf
          simp only [b144_1,us32,go_sem,FL,h1,h2,Int.toNat_natCast,hsub,y1]
          simp only [i144,OT,reduceIte,Nat.reduceEqDiff,sub,FL,List.length_cons,List.length_nil,Nat.le_refl,us32,if_false,Bool.false_eq_true,limG_zero]
          rfl
        · by_cases y2:57<y
          · have hbf:=bad (by omega)
            subst hbf
            simp only [b144_1,us32,go_sem,FL,h1,h2,Int.toNat_natCast,hsub,y1,y2]
            simp only [i144,OT,reduceIte,Nat.reduceEqDiff,sub,FL,List.length_cons,List.length_nil,Nat.le_refl,us32,if_false,Bool.false_eq_true,limG_zero]
            rfl
          · have w1:IntKind.u8.wrap (y - 48)=(((y - 48).toNat:Nat):Int):=by
              simp only [IntKind.wrap,IntKind.bits,IntKind.signed]
              simp
              omega
            have w2:IntKind.u64.wrap (((y - 48).toNat:Nat):Int)=(((y - 48).toNat:Nat):Int):=wrap_u64 (by omega) (by omega)
            have w3:IntKind.u64.wrap (10*((sval (p.take i):Nat):Int))=((10*sval (p.take i):Nat):Int):=by rw [wrap_u64 (by omega) (by omega)];omega
            have w4:IntKind.u64.wrap (((10*sval (p.take i):Nat):Int)+(((y - 48).toNat:Nat):Int))=((sval (p.take (i+1)):Nat):Int):=by rw [hts,wrap_u64 (by omega) (by omega)];omega
            have w5:IntKind.u64.wrap (10*((10^i:Nat):Int))=((10^(i+1):Nat):Int):=by rw [hps,wrap_u64 (by omega) (by omega)];omega
            simp only [b144_1,us32,go_sem,h1,h2,h3,Int.toNat_natCast,hsub,y1,y2,w1,w2,w3,w4,w5]
            exact loopQ_go rfl (n - (i+1)) (by omega) ⟨i+1,by omega,rfl,htd.2 ⟨hdi,by omega,by omega⟩,rfl⟩
      · have h1:¬(i:Int)<(n:Int):=by omega
        obtain rfl:i=n:=by omega
        rw [List.take_of_length_le (by omega)] at hdi
        have hps:p.take p.length=p:=List.take_length
        have hlt:=sval_lt hdi
        rw [hpl] at hlt
        have h99:=hx90 i (by omega)
        have hdn:Dig (l.take (j+i)):=by rw [htk,Dig_app];exact ⟨hd,hdi⟩
        have hln:=hlim _ hdn
        have h90s:=c114_nat (E:=E) (n:=10^i) (by omega)
        have h90x:=c114_nat (E:=E) (n:=sval p) (by omega)
        have hv1:sval (l.take j)*10^i<lim2000:=by omega
        have hl1:=lim2000_limbs hv1
        have hl2:(limG (sval p)).length≤2:=limG_len (by omega)
        have hl3:(limG (10^i)).length≤2:=limG_len (by omega)
        have hl4:=lim2000_limbs (hlim _ hd)
        have h133:=c137_ok (E:=E) (a:=sval (l.take j)) (b:=10^i) (by omega) (by omega)
        have h134:=c151_ok (E:=E) (a:=sval (l.take j)*10^i) (b:=sval p) (by omega) (by omega)
        rw [←hsv] at h134
        have ht:p.take i=p:=List.take_of_length_le (by omega)
        simp only [natC] at h90s h90x h133 h134
        rw [hv,limG_zero] at h133
        rw [hv] at h134
        simp only [us32] at h90s h90x h133 h134
        simp only [b144_1,k144_0,us32,go_sem,subB1,subT1,h1,ht,Int.toNat_natCast]
        refine goP h90s ?_
        simp only [us32,go_sem,subB1,subT1]
        refine goF h133 ?_
        simp only [us32,go_sem,subB1,subT1]
        refine goP h90x ?_
        simp only [us32,go_sem,subB1,subT1]
        refine goP h134 ?_
        simp only [us32,go_sem,FL,subB1,subT1,bs_size,hdl,g2,g3,Int.toNat_natCast,hex2]
        exact loopQ_go rfl (l.length - (j+i)) (by omega) ⟨j+i,_,_,by omega,rfl,hdn,.inr rfl,rfl⟩
    · simp only [b144_0,us32,go_sem,bs_size,hdl,g1,hmin,g2,g3,Int.toNat_natCast,hex,hby,hpl]
      refine mLoop (fun N st=>∃i:Nat,i≤n∧N=n - i∧Dig (p.take i)∧
        st=⟨[(0,.str (bs (l.drop j))),(2,.loc 1 0 0),(4,.loc 3 0 0),(5,.int .i64 n),(6,.int .u64 ((sval (p.take i):Nat):Int)),(7,.int .u64 ((10^i:Nat):Int)),(27,.sl n 1 (nums .u8 p)),(28,.int .i64 n),(29,.int .i64 i)],
          [⟨false,154,1,0,0,[],false⟩,⟨true,55,1,0,1,[.arr 0 0],false⟩,⟨false,154,1,0,0,[],fr⟩,⟨true,55,1,0,1,[us32 (limG (sval (l.take j)))],false⟩]⟩) n
        ⟨_,rfl,0,by omega,by omega,fun x hx=>by simp at hx,by simp [getE,sval_nil,us32]⟩ ?_
      rintro N s0 ⟨i,hi,rfl,hdi,rfl⟩
      by_cases hin:i<n
      · have h1:(i:Int)<(n:Int):=by omega
        have h2:(0:Int)≤(i:Int):=by omega
        have h3:IntKind.i64.wrap ((i:Int)+1)=((i+1:Nat):Int):=by rw [wrap_i64 (by omega) (by omega)];omega
        have hsub:=sub_nums (k:=.u8) (l:=p) (i:=i) (by omega)
        have hyU:=hpU (p.getD i 0) (by simp [List.getD,show i<p.length by omega])
        have htd:=Dig_take (l:=p) (i:=i) (by omega)
        have hts:=sval_take (l:=p) (i:=i) (by omega)
        have hlt:=sval_lt hdi
        rw [List.length_take,hpl,Nat.min_eq_left (by omega)] at hlt
        have h99:=hx90 i (by omega)
        have hps:10^(i+1)=10*10^i:=by rw [Nat.pow_succ,Nat.mul_comm]
        generalize p.getD i 0=y at *
        have bad:¬(48≤y∧y≤57)→b=false:=fun h=>hfalse (fun hr=>h (by
          have:Dig (l.take (j+n)):=fun z hz=>hr.1 z (List.mem_of_mem_take hz)
          rw [htk,Dig_app] at this
          exact (htd.1 (fun z hz=>this.2 z (List.mem_of_mem_take hz))).2))
        by_cases y1:y<48
        · have hbf:=bad (by omega)
          subst hbf
          simp only [b144_1,us32,go_sem,FL,h1,h2,Int.toNat_natCast,hsub,y1]
          simp only [i144,OT,reduceIte,Nat.reduceEqDiff,sub,FL,List.length_cons,List.length_nil,Nat.le_refl,us32,if_false,Bool.false_eq_true,limG_zero]
          rfl
        · by_cases y2:57<y
          · have hbf:=bad (by omega)
            subst hbf
            simp only [b144_1,us32,go_sem,FL,h1,h2,Int.toNat_natCast,hsub,y1,y2]
            simp only [i144,OT,reduceIte,Nat.reduceEqDiff,sub,FL,List.length_cons,List.length_nil,Nat.le_refl,us32,if_false,Bool.false_eq_true,limG_zero]
            rfl
          · have w1:IntKind.u8.wrap (y - 48)=(((y - 48).toNat:Nat):Int):=by
              simp only [IntKind.wrap,IntKind.bits,IntKind.signed]
              simp
              omega
            have w2:IntKind.u64.wrap (((y - 48).toNat:Nat):Int)=(((y - 48).toNat:Nat):Int):=wrap_u64 (by omega) (by omega)
            have w3:IntKind.u64.wrap (10*((sval (p.take i):Nat):Int))=((10*sval (p.take i):Nat):Int):=by rw [wrap_u64 (by omega) (by omega)];omega
            have w4:IntKind.u64.wrap (((10*sval (p.take i):Nat):Int)+(((y - 48).toNat:Nat):Int))=((sval (p.take (i+1)):Nat):Int):=by rw [hts,wrap_u64 (by omega) (by omega)];omega
            have w5:IntKind.u64.wrap (10*((10^i:Nat):Int))=((10^(i+1):Nat):Int):=by rw [hps,wrap_u64 (by omega) (by omega)];omega
            simp only [b144_1,us32,go_sem,h1,h2,h3,Int.toNat_natCast,hsub,y1,y2,w1,w2,w3,w4,w5]
            exact loopQ_go rfl (n - (i+1)) (by omega) ⟨i+1,by omega,rfl,htd.2 ⟨hdi,by omega,by omega⟩,rfl⟩
      · have h1:¬(i:Int)<(n:Int):=by omega
        obtain rfl:i=n:=by omega
        rw [List.take_of_length_le (by omega)] at hdi
        have hps:p.take p.length=p:=List.take_length
        have hlt:=sval_lt hdi
        rw [hpl] at hlt
        have h99:=hx90 i (by omega)
        have hdn:Dig (l.take (j+i)):=by rw [htk,Dig_app];exact ⟨hd,hdi⟩
        have hln:=hlim _ hdn
        have h90s:=c114_nat (E:=E) (n:=10^i) (by omega)
        have h90x:=c114_nat (E:=E) (n:=sval p) (by omega)
        have hv1:sval (l.take j)*10^i<lim2000:=by omega
        have hl1:=lim2000_limbs hv1
        have hl2:(limG (sval p)).length≤2:=limG_len (by omega)
        have hl3:(limG (10^i)).length≤2:=limG_len (by omega)
        have hl4:=lim2000_limbs (hlim _ hd)
        have h133:=c137_ok (E:=E) (a:=sval (l.take j)) (b:=10^i) (by omega) (by omega)
        have h134:=c151_ok (E:=E) (a:=sval (l.take j)*10^i) (b:=sval p) (by omega) (by omega)
        rw [←hsv] at h134
        have ht:p.take i=p:=List.take_of_length_le (by omega)
        simp only [natC] at h90s h90x h133 h134
        simp only [us32] at h90s h90x h133 h134
        simp only [b144_1,k144_0,us32,go_sem,subB1,subT1,h1,ht,Int.toNat_natCast]
        refine goP h90s ?_
        simp only [us32,go_sem,subB1,subT1]
        refine goF h133 ?_
        simp only [us32,go_sem,subB1,subT1]
        refine goP h90x ?_
        simp only [us32,go_sem,subB1,subT1]
        refine goP h134 ?_
        simp only [us32,go_sem,FL,subB1,subT1,bs_size,hdl,g2,g3,Int.toNat_natCast,hex2]
        exact loopQ_go rfl (l.length - (j+i)) (by omega) ⟨j+i,_,_,by omega,rfl,hdn,.inr rfl,rfl⟩
  · have g1:¬(0:Int)<((l.length - j:Nat):Int):=by omega
    obtain rfl:j=l.length:=by omega
    rw [List.take_length] at hd hc
    have hbt:b=true:=hb.2 ⟨hd,by
      rcases Nat.eq_zero_or_pos l.length with h|h
      · exact absurd (List.length_eq_zero_iff.1 h) h0
      · exact h,by omega⟩
    subst hbt
    rcases hc with ⟨rfl,rfl,hv⟩|rfl
    · simp only [b144_0,k144_1,us32,go_sem,bs_size,hdl,g1,subB1,subT1,FL]
      simp only [i144,OT,reduceIte,Nat.reduceEqDiff,sub,FL,List.length_cons,List.length_nil,Nat.le_refl,us32,if_true,hv,limG_zero]
      rfl
    · simp only [b144_0,k144_1,us32,go_sem,bs_size,hdl,g1,subB1,subT1,FL]
      simp only [i144,OT,reduceIte,Nat.reduceEqDiff,sub,FL,List.length_cons,List.length_nil,Nat.le_refl,us32,if_true]
end
def gval (l:List Int):Nat:=l.foldl (fun a x=>a*1000000000+x.toNat) 0
theorem gval_snoc {l:List Int} {x:Int}:gval (l++[x])=gval l*1000000000+x.toNat:=by simp [gval]
def R9 (l:List Int):Prop:=∀x∈l,0≤x∧x<1000000000
theorem R9_nil:R9 []:=fun x hx=>by simp at hx
theorem R9_snoc {l:List Int} {x:Int} (h:R9 l) (hx:0≤x∧x<1000000000):R9 (l++[x]):=fun y hy=>by
  rcases List.mem_append.1 hy with h1|h1
  · exact h y h1
  · simp at h1;subst h1;exact hx
def GrI (l:List Int) (i:Nat) (g:List Int) (n:Nat):Prop:=R9 g∧g.length≤i∧∃j,n<10^j∧j≤8∧sval (l.take i)=gval g*10^j+n∧
  ((g≠[]∧(l.length - i+j) % 9=0)∨(g=[]∧j=i∧(l.length % 9=0∨i<l.length % 9)))
theorem GrI.zero {l:List Int}:GrI l 0 [] 0:=⟨R9_nil,by simp,0,by simp,by omega,by simp [sval_nil,gval],.inr ⟨rfl,rfl,by omega⟩⟩
theorem GrI.small {l g:List Int} {i n:Nat} (h:GrI l i g n):n<100000000:=by
  obtain ⟨_,_,j,h1,h2,_⟩:=h
  have hp:10^j≤100000000:=by simpa using Nat.pow_le_pow_right (n:=10) (i:=j) (j:=8) (by omega) h2
  omega
theorem GrI.cut {l g:List Int} {i n d:Nat} (h:GrI l i g n) (hi:i<l.length) (hx:l.getD i 0=48+(d:Int)) (hd:d≤9) (hc:(l.length - i - 1) % 9=0):GrI l (i+1) (g++[((n*10+d:Nat):Int)]) 0:=by
  obtain ⟨h0,hgl,j,h1,h2,h3,h4⟩:=h
  have hp:10^(j+1)≤1000000000:=by simpa using Nat.pow_le_pow_right (n:=10) (i:=j+1) (j:=9) (by omega) (by omega)
  rw [Nat.pow_succ] at hp
  have hs:sval (l.take (i+1))=10*sval (l.take i)+d:=by rw [take_snoc hi,sval_snoc,hx];omega
  refine ⟨R9_snoc h0 (by omega),by rw [List.length_append];simp;omega,0,by simp,by omega,?_,.inl ⟨by simp,by omega⟩⟩
  rw [hs,h3,gval_snoc]
  rcases h4 with ⟨h4,h5⟩|⟨h4,h5,h6⟩
  · have hj:j=8:=by omega
    subst hj
    simp only [Int.toNat_natCast,Nat.pow_zero,Nat.reducePow]
    omega
  · subst h4
    simp only [gval,List.foldl_nil,Int.toNat_natCast,Nat.pow_zero]
    omega
theorem GrI.go {l g:List Int} {i n d:Nat} (h:GrI l i g n) (hi:i<l.length) (hx:l.getD i 0=48+(d:Int)) (hd:d≤9) (hc:(l.length - i - 1) % 9≠0):GrI l (i+1) g (n*10+d):=by
  obtain ⟨h0,hgl,j,h1,h2,h3,h4⟩:=h
  have hs:sval (l.take (i+1))=10*sval (l.take i)+d:=by rw [take_snoc hi,sval_snoc,hx];omega
  refine ⟨h0,by omega,j+1,by rw [Nat.pow_succ];omega,?_,?_,?_⟩
  · rcases h4 with ⟨h4,h5⟩|⟨h4,h5,h6⟩
    · by_cases hj:j=8
      · subst hj;omega
      · omega
    · by_cases hj:j=8
      · subst hj;omega
      · omega
  · rw [hs,h3,Nat.pow_succ,Nat.mul_add,←Nat.mul_assoc,Nat.mul_comm 10,Nat.mul_assoc,Nat.mul_comm 10]
    omega
  · rcases h4 with ⟨h4,h5⟩|⟨h4,h5,h6⟩
    · exact .inl ⟨h4,by omega⟩
    · exact .inr ⟨h4,by omega,by omega⟩
theorem GrI.done {l g:List Int} {n:Nat} (h:GrI l l.length g n):gval g=sval l:=by
  obtain ⟨h0,hgl,j,h1,h2,h3,h4⟩:=h
  have hj:j=0:=by rcases h4 with ⟨h4,h5⟩|⟨h4,h5,h6⟩<;>omega
  subst hj
  rw [List.take_length] at h3
  simp at h1 h3
  omega
section
variable {E:CallRel}
def bl (n:Nat):Nat:=if h:n=0 then 0 else bl (n/2)+1
  termination_by n
  decreasing_by exact Nat.div_lt_self (Nat.pos_of_ne_zero h) (by omega)
def PassI (l:List Int) (k:Nat) (q:List Int) (r:Nat):Prop:=R9 q∧q.length≤k∧r<65536∧gval (l.take k)=65536*gval q+r∧(q≠[]→0<gval q)
theorem PassI.zero {l:List Int}:PassI l 0 [] 0:=⟨R9_nil,by simp,by omega,by simp [gval],fun h=>absurd rfl h⟩
theorem gval_take {l:List Int} {k:Nat} (h:k<l.length):gval (l.take (k+1))=gval (l.take k)*1000000000+(l.getD k 0).toNat:=by rw [take_snoc h,gval_snoc]
theorem PassI.add {l q:List Int} {k r x:Nat} (h:PassI l k q r) (hk:k<l.length) (hx:l.getD k 0=(x:Int)) (hx9:x<1000000000) (hc:q≠[]∨0<(r*1000000000+x)/65536) :
    PassI l (k+1) (q++[(((r*1000000000+x)/65536:Nat):Int)]) ((r*1000000000+x) % 65536):=by
  obtain ⟨h0,h1,h2,h3,h4⟩:=h
  refine ⟨R9_snoc h0 (by omega),by rw [List.length_append];simp;omega,by omega,?_,fun _=>?_⟩
  · rw [gval_take hk,gval_snoc,h3,hx,Int.toNat_natCast,Int.toNat_natCast]
    omega
  · rw [gval_snoc,Int.toNat_natCast]
    by_cases hq:q=[]
    · rcases hc with hc|hc
      · exact absurd hq hc
      · omega
    · have:=h4 hq;omega
theorem PassI.skip {l:List Int} {k r x:Nat} (h:PassI l k [] r) (hk:k<l.length) (hx:l.getD k 0=(x:Int)) (hc:¬0<(r*1000000000+x)/65536) :
    PassI l (k+1) [] ((r*1000000000+x) % 65536):=by
  obtain ⟨h0,h1,h2,h3,h4⟩:=h
  refine ⟨h0,by simp,by omega,?_,fun h=>absurd rfl h⟩
  have h0:gval []=0:=rfl
  rw [h0] at h3
  rw [gval_take hk,hx,Int.toNat_natCast,h0]
  omega
def PB (v m:Nat):Prop:=v<65536^m
theorem PB.step {v m i:Nat} (h:PB v (m - i)) (hi:i<m) (hq:0<v/65536):PB (v/65536) (m - (i+1))∧i+1<m:=by
  unfold PB at h ⊢
  have h1:v/65536<65536^(m - (i+1)):=by
    rw [show m - i=(m - (i+1))+1 by omega,Nat.pow_succ] at h
    rw [Nat.div_lt_iff_lt_mul (by omega)]
    exact h
  refine ⟨h1,?_⟩
  by_cases hc:i+1<m
  · exact hc
  · rw [show m - (i+1)=0 by omega,Nat.pow_zero] at h1
    clear h
    omega
end
section
variable {E:CallRel}
end
end Go.Proofs.Ytlejgleocnemoaa.I
