/- The texts L18z L18q L19a L19b L19c L18k L08d L18l L18m L18w L18x L18n L18r L19d, one behind the other. Conditions: each text's own. -/
import Derived.Test.YtlejgleocnemoabGreatG09
import Derived.Test.YtlejgleocnemoabGreatG08
import Derived.Test.YtlejgleocnemoabGreatG07
set_option linter.unusedSimpArgs false
set_option linter.unusedVariables false
namespace Go.Proofs.YtlejgleocnemoabGreat.I
open Go Go.V
attribute [local go_sem_proc ↓] reduceIte
attribute [local go_sem_proc] Nat.reduceEqDiff Nat.reduceAdd Nat.reduceMul Nat.reduceLeDiff Nat.reduceLT Int.reduceToNat Int.reduceLT Int.reduceLE reduceCtorEq Nat.reduceBEq
attribute [local go_sem] mNil nat0 beq_self_eq_true mSkip mRet mExit mReg mSeq mCond mTrue mFalse mBlock mLv mCodeE mCodeR mEndN mEndR mEndE mOps mSome mGuard mGtt mGff mGtf mGft mGu mCallP mCallR mCallF mCallO mCallZ mCallG mCallM mCallV loopQ_exit loopQ_ret mO_mov mO_newnil mO_pick mO_alloc mO_box mO_build mO_bsl mO_bslF mO_newnilB mO_bslB mO_lenB mO_appB mO_allocA mO_bslA mO_appA mO_ldb mO_faddrb mRsv mO_ldf mO_ld mO_st mO_sta mO_nilchk mO_bin mO_binb mO_binp mO_bins mO_neg mO_com mO_not mO_conv mO_mk mO_mk0 mO_mkB mO_s2b mO_b2s mO_cpy mO_cut mO_faddr mO_fld mO_iaddr mO_iaddrf mO_sidx mO_len mO_lenf mO_slen mO_scut mO_app mO_ext mO_mx mO_mn mO_mkfn evalOp cutOp argsE ev getE putE cellsOf adopt rowOf binV boolV nilV ar_add ar_sub ar_mul ar_quo ar_rem ar_eq ar_ne ar_lt ar_le ar_gt ar_ge ar_and ar_or ar_xor geto bound finRet finNrm ints List.length_cons List.length_nil List.length_append List.getElem?_cons_zero List.getElem?_cons_succ List.nil_append List.cons_append List.map_cons List.map_nil List.mapM_cons List.mapM_nil Option.map_some Option.map_none Option.bind_some Option.pure_def Option.bind_eq_bind List.drop_zero or_self or_false false_or or_true true_or true_and and_true and_self decide_true decide_false Bool.false_eq_true Bool.true_eq_false Bool.not_true Bool.not_false Nat.le_refl eq_self gt_iff_lt ge_iff_le ne_eq not_true_eq_false not_false_eq_true storeOp apartOf freeze_nil refsL refs List.flatMap_cons List.flatMap_nil List.append_nil List.contains_nil List.set_cons_zero List.set_cons_succ snap snapL fill_nums flat_nums nums_length Go.V.freeze List.mapIdx_cons List.mapIdx_nil List.contains_cons Bool.or_false Bool.false_or Bool.or_true Bool.true_or
theorem limbN {d:Rat} {K:Nat} (h:Sz K d) (h1:1≤K) (hK:K≤8640):Go.V.Call tab E 97 [.agg (numR d)] [] (.int .i64 ((rlimbs (rR d):Nat):Int)) []:=by
  have hdn:dn (rR d).2.2=d.den:=if_neg d.den_nz
  have h16:(65536:Nat)=2^16:=by decide
  obtain ⟨m,hm⟩:∃m,m=540:=⟨_,rfl⟩
  have e1:∀{k:Nat},k<2^K→k<65536^m:=fun h=>by
    rw [h16,←Nat.pow_mul];exact Nat.lt_of_lt_of_le h (Nat.pow_le_pow_right (by omega) (by omega))
  have e2:∀{k:Nat},k<2^K→(decL k).length≤1000000000:=fun h=>Nat.le_trans (decL_two h h1) (by omega)
  have:=c97_ok (E:=I.E) (x:=rR d) (m:=m) (by omega) (by omega) (e2 h.1) (by rw [hdn];exact e2 h.2) (e1 h.1) (by rw [hdn];exact e1 h.2)
  rw [hdn] at this
  exact this
def gridD (G:List (List Rat)):AV:=.sl G.length 1 (G.map fun r=>.sl r.length 3 (nrs r))
theorem sub_gridD {G:List (List Rat)} {k:Nat} (h:k<G.length):sub false 1 (G.map fun r=>AV.sl r.length 3 (nrs r)) (k*1)=some (.sl (G.getD k []).length 3 (nrs (G.getD k []))):=by
  simp only [sub,List.length_map,Nat.mul_one,Bool.false_eq_true,if_false,if_true]
  rw [if_pos (by omega),List.getElem?_map,List.getElem?_eq_getElem h]
  simp [List.getD,h]
def ansP (G:List (List Rat)) (n i:Nat):List Rat:=((G.take i).map fun r=>r.drop n).flatten
theorem ansP_succ {G:List (List Rat)} {n i:Nat} (h:i<G.length):ansP G n (i+1)=ansP G n i++(G.getD i []).drop n:=by
  unfold ansP
  rw [takeAt (d:=[]) h,List.map_append,List.flatten_append];simp
def shortD (l:List Rat) (lim:Int):Bool:=l.all fun a=>decide ((rlimbs (rR a):Int)≤lim)
theorem shortD_all {l:List Rat} {lim:Int}:shortD l lim=true↔∀a∈l,(rlimbs (rR a):Int)≤lim:=by simp [shortD,List.all_eq_true]
theorem ansP_mem {G:List (List Rat)} {n i j:Nat} (hi:i<G.length) (hj:j<((G.getD i []).drop n).length):((G.getD i []).drop n).getD j 0∈ansP G n G.length:=by
  unfold ansP
  rw [List.take_length]
  refine List.mem_flatten.2 ⟨(G.getD i []).drop n,List.mem_map.2 ⟨G.getD i [],by simp [List.getD,hi],rfl⟩,?_⟩
  generalize (G.getD i []).drop n=l at *
  simp [List.getD,hj]
theorem ansP_len {G:List (List Rat)} {n i:Nat} (hr:∀r∈G,r.length≤4096):(ansP G n i).length≤i*4096:=by
  induction i with
  | zero=>simp [ansP]
  | succ i ih=>
    by_cases h:i<G.length
    · rw [ansP_succ h,List.length_append,List.length_drop,Nat.add_mul]
      have:=hr (G.getD i []) (by simp [List.getD,h])
      omega
    · have e:ansP G n (i+1)=ansP G n i:=by unfold ansP;rw [List.take_of_length_le (by omega),List.take_of_length_le (by omega)]
      rw [e];exact Nat.le_trans ih (Nat.mul_le_mul_right _ (Nat.le_succ i))
def laidM (s:List Int) (P:List Rat):List AObj:=
  [⟨false,3,1,0,0,[],false⟩,⟨false,21,1,0,0,[],false⟩,⟨false,66,3,0,0,[],false⟩,⟨true,26,4,0,1,[.arr 0 0,.bool false,.arr 1 0,.arr 2 0],false⟩,
    ⟨false,3,1,0,0,[],false⟩,⟨false,21,1,0,0,[],false⟩,⟨false,66,3,0,0,[],false⟩,⟨true,26,4,0,1,[ints s,.bool false,.arr 8 0,.arr 9 P.length],false⟩,
    ⟨false,21,1,0,0,[],false⟩,⟨false,66,3,P.length,P.length,nrs P,false⟩]
set_option maxHeartbeats 1000000 in
theorem c51_ok {G:List (List Rat)} {s:List Int} {lim:Int} {n Kk:Nat} (hG:∀r∈G,n≤r.length∧r.length≤4096) (hS:∀r∈G,∀x∈r,Sz Kk x) (hK1:1≤Kk) (hK:Kk≤8640) (hGl:G.length≤4096) :
    Go.V.Call tab E 51 [gridD G,.int .i64 n,ints s,.int .i64 lim] [] (.tup [.agg (if shortD (ansP G n G.length) lim then plX s false [] ((ansP G n G.length).map mR) else noP),.int .i64 (if shortD (ansP G n G.length) lim then 0 else 26)]) []:=by
  refine Go.V.Call.mach i51 c51 rfl rfl rfl rfl ?_
  have h0:nrs (ansP G n 0)=[]:=rfl
  have h0l:(ansP G n 0).length=0:=rfl
  have hPl:=fun i=>ansP_len (n:=n) (i:=i) (fun r hr=>(hG r hr).2)
  simp only [c51,gridD,ints,go_sem,FL,mapIA]
  refine mLoop (fun N st=>∃i:Nat,i≤G.length∧N=G.length - i∧(∀a∈ansP G n i,(rlimbs (rR a):Int)≤lim)∧
    st=⟨[(0,gridD G),(1,.int .i64 n),(3,.int .i64 lim),(8,.loc 3 0 0),(10,.loc 7 0 0),(11,.int .i64 i)],laidM s (ansP G n i)⟩) G.length
    ⟨_,rfl,0,by omega,by omega,fun a ha=>by simp [ansP] at ha,by simp [getE,laidM,gridD,ints,h0,h0l]⟩ ?_
  rintro N s0 ⟨i,hi,rfl,hok,rfl⟩
  by_cases hiG:i<G.length
  · have hi':(i:Int)<(G.length:Int):=by omega
    have hi0:(0:Int)≤(i:Int):=by omega
    have hi1:IntKind.i64.wrap ((i:Int)+1)=((i+1:Nat):Int):=by rw [wrap_i64 (by omega) (by omega)];omega
    have g1:=sub_gridD hiG
    have hmem:G.getD i []∈G:=by simp [List.getD,hiG]
    obtain ⟨hr1,hr2⟩:=hG _ hmem
    have hrs:=hS _ hmem
    have hsu:=ansP_succ (n:=n) hiG
    have hPi:=hPl i
    have hin:=fun j hj=>ansP_mem (n:=n) (j:=j) hiG hj
    simp only [b51_0,gridD,ints,laidM,go_sem,mapIA,hi']
    generalize hr:G.getD i []=r at *
    generalize hP:ansP G n i=P at *
    have hdl:(r.drop n).length=r.length - n:=by rw [List.length_drop]
    refine mLoop (fun N st=>∃j:Nat,j≤r.length - n∧N=r.length - n - j∧(∀a∈P++(r.drop n).take j,(rlimbs (rR a):Int)≤lim)∧
      st=⟨[(0,gridD G),(1,.int .i64 n),(3,.int .i64 lim),(8,.loc 3 0 0),(10,.loc 7 0 0),(11,.int .i64 i),(12,.int .i64 ((n+j:Nat):Int))],laidM s (P++(r.drop n).take j)⟩) (r.length - n)
      ⟨_,rfl,0,by omega,by omega,by simpa using hok,by simp [getE,ints,gridD,laidM]⟩ ?_
    rintro N s0 ⟨j,hj,rfl,hok2,rfl⟩
    by_cases hjr:j<r.length - n
    · have hj':((n+j:Nat):Int)<(r.length:Int):=by omega
      have hj0:(0:Int)≤((n+j:Nat):Int):=by omega
      have hj1:IntKind.i64.wrap (((n+j:Nat):Int)+1)=((n+(j+1):Nat):Int):=by rw [wrap_i64 (by omega) (by omega)];omega
      have g2:=sub_nrs (l:=r) (i:=n+j) (by omega)
      have eD:(r.drop n).getD j 0=r.getD (n+j) 0:=by simp [List.getD]
      have htk:P++(r.drop n).take (j+1)=(P++(r.drop n).take j)++[r.getD (n+j) 0]:=by rw [takeAt (d:=0) (by rw [hdl];exact hjr),eD,List.append_assoc]
      have happ:=nrs_snoc (l:=P++(r.drop n).take j) (a:=r.getD (n+j) 0)
      rw [←htk] at happ
      have hlen:(P++(r.drop n).take (j+1)).length=(P++(r.drop n).take j).length+1:=by rw [htk,List.length_append];rfl
      have hlen2:P.length+((r.drop n).take (j+1)).length=(P++(r.drop n).take j).length+1:=by rw [←List.length_append,hlen]
      have hsz:Sz Kk (r.getD (n+j) 0):=by
        have:r.getD (n+j) 0∈r:=by simp [List.getD,show n+j<r.length by omega]
        exact hrs _ this
      have h97:=limbN hsz hK1 hK
      have hmm:=hin j (by rw [hdl];exact hjr)
      rw [eD] at hmm
      have hnew:(rlimbs (rR (r.getD (n+j) 0)):Int)≤lim→∀a∈P++(r.drop n).take (j+1),(rlimbs (rR a):Int)≤lim:=fun hlm a ha=>by
        rw [htk] at ha
        rcases List.mem_append.1 ha with ha|ha
        · exact hok2 a ha
        · obtain rfl:=List.mem_singleton.1 ha;exact hlm
      have hWl:(P++(r.drop n).take j).length≤4096*4096+4096:=by
        rw [List.length_append,List.length_take]
        have:i*4096≤4096*4096:=Nat.mul_le_mul_right _ (by omega)
        omega
      have y1:((P++(r.drop n).take j).length+1)*40≤140737488355328:=by omega
      have y2:(P++(r.drop n).take j).length+1≤140737488355328:=by omega
      clear htk
      generalize hW2:P++(r.drop n).take (j+1)=W2 at *
      generalize hW:P++(r.drop n).take j=W at *
      generalize hz:r.getD (n+j) 0=z at *
      by_cases hlm:(rlimbs (rR z):Int)≤lim
      · have hl':¬lim<((rlimbs (rR z):Nat):Int):=by omega
        have hnew:=hnew hlm
        simp only [numR3] at g2 happ h97
        simp only [b51_1,gridD,ints,laidM,go_sem,FL,mapIA,hi',hi0,g1,hj',hj0,g2,Int.toNat_natCast]
        refine goP h97 ?_
        simp only [go_sem,FL,mapIA,subP3,subP3',hi',hi0,g1,hj',hj0,g2,Int.toNat_natCast,hl',List.flatten_cons,List.flatten_nil,Option.getD_some,y1,y2,happ,hj1]
        refine loopQ_go rfl (r.length - n - (j+1)) (by omega) ⟨j+1,by omega,rfl,by rw [hW2];exact hnew,?_⟩
        rw [hW2,hlen2]
        rfl
      · have hl':lim<((rlimbs (rR z):Nat):Int):=by omega
        have hsh:shortD (ansP G n G.length) lim=false:=by
          rw [←Bool.not_eq_true,shortD_all]
          intro h
          exact hlm (h _ hmm)
        simp only [numR3] at g2 happ h97
        simp only [b51_1,gridD,ints,laidM,go_sem,FL,mapIA,hi',hi0,g1,hj',hj0,g2,Int.toNat_natCast]
        refine goP h97 ?_
        simp only [go_sem,FL,mapIA,hl',hsh]
        simp only [i51,OT,reduceIte,Nat.reduceEqDiff,subP4,noP,plX,runes]
        rfl
    · obtain rfl:j=r.length - n:=by omega
      have e1:((n+(r.length - n):Nat):Int)=(r.length:Int):=by omega
      have e2:(r.drop n).take (r.length - n)=r.drop n:=List.take_of_length_le (by rw [hdl];omega)
      rw [e2] at hok2
      simp only [b51_1,k51_0,gridD,ints,laidM,go_sem,hi',hi0,g1,Int.toNat_natCast,e1,e2,Int.lt_irrefl,hi1]
      refine loopQ_go rfl (G.length - (i+1)) (by omega) ⟨i+1,by omega,rfl,?_,?_⟩
      · rw [hsu];exact hok2
      · rw [hsu];simp [getE,ints,gridD,laidM]
  · obtain rfl:i=G.length:=by omega
    have hsh:shortD (ansP G n G.length) lim=true:=shortD_all.2 hok
    rw [hsh,if_pos rfl,if_pos rfl]
    generalize ansP G n G.length=P at *
    have e3:nmsC (P.map mR)=nrs P:=nrs_nms
    have e4:(P.map mR).length=P.length:=by rw [List.length_map]
    simp only [b51_0,k51_1,gridD,ints,laidM,go_sem,FL,subP4,Int.lt_irrefl]
    simp only [i51,OT,reduceIte,Nat.reduceEqDiff,subP4,plX,runes,e3,e4]
    rfl
theorem c13_yes {s t:List Int} {ch:Bool} {L:List Rt} (hs:(s.length:Int)≤1000000000) (ht:(t.length:Int)≤1000000000) (hl:(L.length:Int)≤1000000000) (hlk:∀x∈L,RtOk x) :
    Go.V.Call tab E 13 [.agg (arrX s ch t L),.int .i64 0,.agg (plX s ch t (L.map toNm)),.int .i64 0] [] (.bool true) []:=by
  refine Go.V.Call.mach i13 c13 rfl rfl rfl rfl ?_
  have hlm:(L.map toNm).length=L.length:=by simp
  have hu:∀x∈L.map toNm,NmU x:=fun z hz=>by
    obtain ⟨x,hx,rfl⟩:=List.mem_map.1 hz
    exact ⟨(decL_dig _).u8,(decL_dig _).u8,(hlk x hx).len.1,(hlk x hx).len.2⟩
  have h31:=c30_X (s:=s) (t:=t) (l:=L) (ch:=ch) (by omega) (by omega) (by omega) hlk
  have h29:=c28_gen (s:=s) (s':=s) (t:=t) (t':=t) (l:=L.map toNm) (l':=L.map toNm) (ch:=ch) (ch':=ch) (by omega) (by omega) (by omega) (by omega) (by omega) (by omega) hu hu
  rw [decide_eq_true ⟨rfl,rfl,rfl,rfl⟩] at h29
  simp only [plX,arrX,runes,ints] at h31 h29
  simp only [c13,plX,arrX,runes,ints,go_sem,FL,subA5,subP4,bne_self_eq_false]
  refine goP h31 ?_
  simp only [go_sem,FL,subA5,subP4]
  refine goP h29 ?_
  simp only [go_sem]
  simp only [i13,OT,reduceIte,Nat.reduceEqDiff]
theorem c13_err {e:Int} (he:e≠0):Go.V.Call tab E 13 [.agg noA,.int .i64 e,.agg noP,.int .i64 e] [] (.bool true) []:=by
  refine Go.V.Call.mach i13 c13 rfl rfl rfl rfl ?_
  have h55:=noA_len
  have hne:(e != 0)=true:=by rw [bne_iff_ne];exact he
  simp only [noA] at h55
  simp only [c13,noP,plX,noA,runes,ints,nums,nmsC,List.flatMap_nil,go_sem,FL,subA5,subP4,bne_self_eq_false,hne]
  refine goP h55 ?_
  simp only [go_sem,beq_self_eq_true]
  simp only [i13,OT,reduceIte,Nat.reduceEqDiff]
theorem c14_bad {s t:List Int} {ch:Bool} {A:List Rat} {R C:Nat} {lim:Int} (ha:ArrM s t ch A R C) (hchk:chkE s t ch A R C≠0) :
    Go.V.Call tab E 14 [.agg (arrX s ch t (A.map rR)),.int .i64 lim] [] (.tup [.agg noA,.int .i64 (chkE s t ch A R C)]) []:=by
  refine Go.V.Call.mach i14 c14 rfl rfl rfl rfl ?_
  have h95:=c37_ok ha
  have hne:(chkE s t ch A R C != 0)=true:=by simpa using hchk
  generalize chkE s t ch A R C=e at *
  simp only [arrX,runes,ints] at h95
  simp only [c14,arrX,runes,ints,go_sem,FL,subA5]
  refine goR h95 rfl ?_
  simp only [go_sem,FL,subA5,hne]
  simp only [i14,OT,reduceIte,Nat.reduceEqDiff,noA,subA5]
theorem Fine.last {n w K:Nat}:∀{k:Nat} {a t:Gd},k≤n→Fine n w K k a→redD n k a=some t→LenD n w t∧∀r,r<n→∀x∈t r,Sz K x
  | 0,a,t,_,h,he=>by rw [redD] at he;cases he;exact h
  | k+1,a,t,hk,h,he=>by
    rw [redD] at he
    rw [Fine] at h
    cases hq:pvD a (n - (k+1)) (k+1) with
    | none=>rw [hq] at he;cases he
    | some p=>rw [hq] at he;exact Fine.last (by omega) (h.2 p hq) he
theorem shift_nO {d:Nat} {l:List Rat}:shiftO d (nO l)=nO l:=by simp [shiftO,nO]
theorem sysO_made {n:Nat} {L:Nat→List Rat}:((sysO n L).all made)=true:=by
  rw [List.all_eq_true]
  intro o ho
  rcases List.mem_append.1 ho with h|h
  · obtain ⟨i,_,rfl⟩:=List.mem_map.1 h
    rfl
  · obtain rfl:=List.mem_singleton.1 h
    simp only [made,Bool.not_true,Bool.false_or,List.all_eq_true]
    intro c hc
    obtain ⟨i,_,rfl⟩:=List.mem_map.1 hc
    rfl
theorem sysO_grn {Bs:List AObj} {n:Nat} {L:Nat→List Rat}:GrN (Bs++(sysO n L).map (shiftO Bs.length)) n (n+Bs.length) (fun i=>i+Bs.length) L:=by
  have h1:∀i,(Bs++(sysO n L).map (shiftO Bs.length))[i+Bs.length]?=((sysO n L).map (shiftO Bs.length))[i]?:=fun i=>by
    rw [List.getElem?_append_right (by omega)];congr 1;omega
  refine ⟨?_,fun i hi=>⟨false,?_⟩⟩
  · rw [h1,List.getElem?_map,sysO,List.getElem?_append_right (by simp)]
    simp only [List.length_map,List.length_range,Nat.sub_self,List.getElem?_cons_zero,Option.map_some,shiftO,if_true,List.map_map,bxC]
    rfl
  · rw [h1,List.getElem?_map,sysO,List.getElem?_append_left (by simp;exact hi)]
    simp [hi,shift_nO]
    rfl
section
variable {M:List AObj} {n b:Nat} {f:Nat→Nat} {L:Nat→List Rat}
theorem snap_grN (h:GrN M n b f L):snap M 10 (.arr b 0)=some (gridD ((List.range n).map L)):=by
  have e:∀i,i<n→snap M 8 (.arr (f i) 0)=some (.sl (L i).length 3 (nrs (L i))):=fun i hi=>by
    obtain ⟨fr,hr⟩:=h.row i hi
    exact (snap_arr (k:=7) hr rfl).trans rfl
  rw [snap_arr (k:=9) h.box rfl]
  have e2:snapL M 9 true (bxC n f)=(bxC n f).mapM (snap M 8):=rfl
  have e3:∀l:List Nat,(∀i∈l,i<n)→(l.map fun i=>AV.arr (f i) 0).mapM (snap M 8)=some (l.map fun i=>AV.sl (L i).length 3 (nrs (L i))):=fun l=>by
    induction l with
    | nil=>intro _;rfl
    | cons a l ih=>
      intro hl
      rw [List.map_cons,List.mapM_cons,e a (hl a (by simp)),ih (fun i hi=>hl i (by simp [hi]))]
      rfl
  rw [e2,bxC,e3 _ (fun i hi=>List.mem_range.1 hi)]
  simp only [Option.map_some,gridD,List.length_map,List.length_range,List.map_map]
  rfl
theorem refs_grN (h:GrN M n b f L) {o:AObj} {i:Nat} (hi:M[i]?=some o) (ho:o.box=true) (hb:b≠i):i∉refs M 10 (.arr b 0):=by
  have e:refs M 10 (.arr b 0)=b::(bxC n f).flatMap (refs M 8):=by
    show b::(match geto M b 0 with|some o=>refsL M 9 o.box o.cs|none=>[])=_
    rw [geto,h.box]
    rfl
  rw [e]
  intro hm
  rcases List.mem_cons.1 hm with rfl|hm
  · exact hb rfl
  obtain ⟨c,hc,hm⟩:=List.mem_flatMap.1 hm
  obtain ⟨r,hr,rfl⟩:=List.mem_map.1 hc
  have hr:=List.mem_range.1 hr
  obtain ⟨fr,hrow⟩:=h.row r hr
  have e2:refs M 8 (.arr (f r) 0)=[f r]:=by
    show f r::(match geto M (f r) 0 with|some o=>refsL M 7 o.box o.cs|none=>[])=_
    rw [geto,hrow]
    rfl
  rw [e2] at hm
  obtain rfl:=List.mem_singleton.1 hm
  rw [hrow] at hi
  obtain rfl:=Option.some.inj hi
  cases ho
end
theorem out_pag {fn:IFn} {p q i:Nat} {env:Env} {M:List AObj} {ob:AObj} {a c d:Nat} {x y z:List AV} {b:Bool} {e:Int} (hres:fn.res=[.c p true 4,.t q]) (hmd:fn.md=.pure) (hp:getE env p=.loc i 0 0) (hq:getE env q=.int .i64 e) (hM:M[i]?=some ob) (hg:ob.g=0) (hcs:ob.cs=[.sl a 1 x,.bool b,.sl c 1 y,.sl d 3 z]) :
    Out fn [] (.tup [.agg [.sl a 1 x,.bool b,.sl c 1 y,.sl d 3 z],.int .i64 e]) [] ⟨env,M⟩:=by
  unfold Out
  have h1:resOf ⟨env,M⟩ (.c p true 4)=some (.agg [.sl a 1 x,.bool b,.sl c 1 y,.sl d 3 z]):=by
    show (match getE env p with|.loc m g i=>(geto M m g).bind fun o=>sub true 4 o.cs i|_=>none)=_
    rw [hp]
    show (geto M i 0).bind _=_
    rw [geto,hM]
    simp only [hg,if_true,Option.bind_some,hcs]
    rfl
  have h2:resOf ⟨env,M⟩ (.t q)=some (.int .i64 e):=by
    show some (getE env q)=_
    rw [hq]
  have h3:resAll ⟨env,M⟩ fn.res=some (.tup [.agg [.sl a 1 x,.bool b,.sl c 1 y,.sl d 3 z],.int .i64 e]):=by
    rw [hres]
    show ([Res.c p true 4,.t q].mapM (resOf ⟨env,M⟩)).map AV.tup=_
    simp only [List.mapM_cons,List.mapM_nil,h1,h2]
    rfl
  rw [h3,hmd]
  exact ⟨rfl,rfl,rfl⟩
theorem out_noP {fn:IFn} {p q i u v w:Nat} {env:Env} {M:List AObj} {ob ou ov ow:AObj} {b:Bool} {e:Int} (hres:fn.res=[.c p true 4,.t q]) (hmd:fn.md=.pure) (hp:getE env p=.loc i 0 0) (hq:getE env q=.int .i64 e) (hM:M[i]?=some ob) (hg:ob.g=0) (hcs:ob.cs=[.arr u 0,.bool b,.arr v 0,.arr w 0])
    (hu:M[u]?=some ou) (hv:M[v]?=some ov) (hw:M[w]?=some ow) {a1 a2 a3:Nat} (eu:ou=⟨false,a1,1,0,0,[],false⟩) (ev:ov=⟨false,a2,1,0,0,[],false⟩) (ew:ow=⟨false,a3,3,0,0,[],false⟩) :
    Out fn [] (.tup [.agg [.sl 0 1 [],.bool b,.sl 0 1 [],.sl 0 3 []],.int .i64 e]) [] ⟨env,M⟩:=by
  subst eu ev ew
  unfold Out
  have h1:resOf ⟨env,M⟩ (.c p true 4)=some (.agg [.arr u 0,.bool b,.arr v 0,.arr w 0]):=by
    show (match getE env p with|.loc m g i=>(geto M m g).bind fun o=>sub true 4 o.cs i|_=>none)=_
    rw [hp]
    show (geto M i 0).bind _=_
    rw [geto,hM]
    simp only [hg,if_true,Option.bind_some,hcs]
    rfl
  have h2:resOf ⟨env,M⟩ (.t q)=some (.int .i64 e):=by
    show some (getE env q)=_
    rw [hq]
  have h3:resAll ⟨env,M⟩ fn.res=some (.tup [.agg [.arr u 0,.bool b,.arr v 0,.arr w 0],.int .i64 e]):=by
    rw [hres]
    show ([Res.c p true 4,.t q].mapM (resOf ⟨env,M⟩)).map AV.tup=_
    simp only [List.mapM_cons,List.mapM_nil,h1,h2]
    rfl
  rw [h3,hmd]
  refine ⟨rfl,rfl,?_⟩
  have s1:∀k,snap M (k+2) (.arr u 0)=some (.sl 0 1 []):=fun k=>(snap_arr (k:=k+1) hu rfl).trans rfl
  have s2:∀k,snap M (k+2) (.arr v 0)=some (.sl 0 1 []):=fun k=>(snap_arr (k:=k+1) hv rfl).trans rfl
  have s3:∀k,snap M (k+2) (.arr w 0)=some (.sl 0 3 []):=fun k=>(snap_arr (k:=k+1) hw rfl).trans rfl
  show (([AV.agg [.arr u 0,.bool b,.arr v 0,.arr w 0],.int .i64 e].mapM (snap M 8)).map AV.tup)=_
  have s4:snap M 8 (.agg [.arr u 0,.bool b,.arr v 0,.arr w 0])=some (.agg [.sl 0 1 [],.bool b,.sl 0 1 [],.sl 0 3 []]):=by
    show (([AV.arr u 0,.bool b,.arr v 0,.arr w 0].mapM (snap M 6)).map AV.agg)=_
    simp only [List.mapM_cons,List.mapM_nil,s1 4,s2 4,s3 4]
    rfl
  simp only [List.mapM_cons,List.mapM_nil,s4]
  rfl
section
variable {s s' t t':List Int} {ch ch':Bool} {A B:List Rat} {R C R' C':Nat} {lim:Int}
end
def ansD (t:Gd) (C:Nat):List Rat:=ansP ((List.range C).map t) C C
def uniL (R k:Nat):List Rat:=(List.range k).map fun i=>if i % (R+1)=0 then (1:Rat) else 0
theorem uniL_len {R k:Nat}:(uniL R k).length=k:=by simp [uniL]
theorem uniL_succ {R k:Nat}:uniL R (k+1)=uniL R k++[if k % (R+1)=0 then (1:Rat) else 0]:=by unfold uniL;rw [List.range_succ,List.map_append];rfl
theorem diag_mod {R i k:Nat} (hi:i<R) (hk:k<R):(i*R+k) % (R+1)=0↔k=i:=by
  by_cases h:i≤k
  · have e:i*R+k=(R+1)*i+(k - i):=by rw [Nat.add_mul,Nat.one_mul,Nat.mul_comm R];omega
    rw [e,Nat.mul_add_mod,Nat.mod_eq_of_lt (by omega)]
    omega
  · obtain ⟨j,rfl⟩:∃j,i=j+1:=⟨i - 1,by omega⟩
    have e:(j+1)*R+k=(R+1)*j+(R+k - j):=by rw [Nat.add_mul,Nat.add_mul,Nat.one_mul,Nat.one_mul,Nat.mul_comm R];omega
    rw [e,Nat.mul_add_mod,Nat.mod_eq_of_lt (by omega)]
    omega
theorem unit_grid {R:Nat}:gridA (uniL R (R*R)) R R=unitG R:=by
  unfold gridA unitG
  refine List.map_congr_left fun i hi=>?_
  have hi:=List.mem_range.1 hi
  refine List.ext_getElem (by simp [rowA,uniR]) fun k h1 h2=>?_
  have hk:k<R:=by simpa [rowA] using h1
  have hlt:i*R+k<R*R:=idx_ltA hi hk
  have hm:=diag_mod hi hk
  simp only [rowA,uniR,List.getElem_map,List.getElem_range,List.getElem_set,List.getElem_replicate]
  have e:(uniL R (R*R)).getD (i*R+k) 0=if (i*R+k) % (R+1)=0 then (1:Rat) else 0:=by
    simp [uniL,List.getD,hlt]
  rw [e]
  by_cases h:k=i
  · rw [if_pos (hm.2 h),if_pos h.symm]
  · rw [if_neg (fun g=>h (hm.1 g)),if_neg (fun g=>h g.symm)]
where
  idx_ltA {k j R C:Nat} (hk:k<R) (hj:j<C):k*C+j<R*C:=by
    have:(k+1)*C≤R*C:=Nat.mul_le_mul_right _ hk
    rw [Nat.add_mul,Nat.one_mul] at this
    omega
theorem inv_div {A:List Rat} {R C:Nat}:divS A (uniL R (R*R)) R C R=invS A R C:=by
  unfold divS invS
  rw [unit_grid]
theorem uniL_mem {R k:Nat} {a:Rat} (h:a∈uniL R k):a=1∨a=0:=by
  obtain ⟨i,_,rfl⟩:=List.mem_map.1 h
  split
  · exact .inl rfl
  · exact .inr rfl
theorem GrN.setO {M:List AObj} {n b:Nat} {f:Nat→Nat} {L:Nat→List Rat} (h:GrN M n b f L) {u:Nat} {o o':AObj} (hu:M[u]?=some o) (ho:o.box=false) (hty:o.ty≠66):GrN (M.set u o') n b f L:=by
  refine ⟨?_,fun i hi=>?_⟩
  · rw [List.getElem?_set_ne (fun e=>by
      subst e
      rw [h.box] at hu
      have:=Option.some.inj hu
      subst this
      cases ho)]
    exact h.box
  · obtain ⟨fr,hr⟩:=h.row i hi
    rw [List.getElem?_set_ne (fun e=>by
      subst e
      rw [hr] at hu
      have:=Option.some.inj hu
      subst this
      exact hty rfl)]
    exact ⟨fr,hr⟩
section
variable {s t:List Int} {ch:Bool} {A:List Rat} {R C:Nat} {lim:Int}
theorem c15_bad (ha:PagM s t ch A R C) (hchk:chkE s t ch A R C≠0) :
    Go.V.Call tab E 15 [.agg (plX s ch t (A.map mR)),.int .i64 lim] [] (.tup [.agg noP,.int .i64 (chkE s t ch A R C)]) []:=by
  refine Go.V.Call.mach i15 c15 rfl rfl rfl rfl ?_
  have h46:=c46_ok ha
  have hne:(chkE s t ch A R C != 0)=true:=by simpa using hchk
  generalize chkE s t ch A R C=e at *
  simp only [plX,runes,ints] at h46
  simp only [c15,plX,runes,ints,go_sem,FL,subP4]
  refine goP h46 ?_
  simp only [go_sem,FL,subP4,hne]
  simp only [i15,OT,reduceIte,Nat.reduceEqDiff,noP,plX,runes,subP4]
  rfl
theorem rev_take {i:Nat} (h:i<s.length):s.reverse.take (i+1)=s.reverse.take i++[s.getD (s.length - 1 - i) 0]:=by
  rw [takeAt (d:=0) (by rw [List.length_reverse];exact h)]
  congr 2
  simp only [List.getD]
  rw [List.getElem?_reverse h]
theorem c15_shape {M:List AObj} {n b u:Nat} {f:Nat→Nat} {L:Nat→List Rat} {o4:AObj} {l:List Nm} {env:Env} {Q:X→St→Prop} {ks:List Go.V.Item} (hG:GrN M n b f L) (hs:s.length≤8) (h0:M[0]?=some ⟨true,26,4,0,1,plX s ch t l,false⟩) (h4:M[4]?=some o4) (hu:M[u]?=some ⟨false,3,1,0,0,[],false⟩) (hun:4<u)
    (e1:getE env 1=.int .i64 lim) (e2:getE env 2=.loc 0 0 0) (e4:getE env 4=.loc 4 0 0) (e11:getE env 11=.arr b 0) (e12:getE env 12=.arr u 0) (e13:getE env 13=.int .i64 ((s.length:Int) - 1))
    (hgo:∀K:List AObj,GrN K n b f L→K[0]?=some ⟨true,26,4,0,1,plX s ch t l,false⟩→K[4]?=some o4→K[u]?=some ⟨false,3,1,s.length,s.length,nums .i64 s.reverse,false⟩→
      Mach (Go.V.Call tab E) Q ks .nrm ⟨[(1,.int .i64 lim),(2,.loc 0 0 0),(4,.loc 4 0 0),(11,.arr b 0),(12,.arr u s.length),(13,.int .i64 (-1)),(57,.bool false)],K⟩) :
    Mach (Go.V.Call tab E) Q (.code (.loop [1,2,4,11,12,13] none b15_1)::.endb 2::ks) .nrm ⟨env,M⟩:=by
  refine mLoop (fun N st=>∃(i:Nat) (K:List AObj) (p:Int),i≤s.length∧N=s.length - i∧p=(s.length:Int) - 1 - (i:Int)∧GrN K n b f L∧K[0]?=some ⟨true,26,4,0,1,plX s ch t l,false⟩∧K[4]?=some o4∧K[u]?=some ⟨false,3,1,i,i,nums .i64 (s.reverse.take i),false⟩∧
    st=⟨[(1,.int .i64 lim),(2,.loc 0 0 0),(4,.loc 4 0 0),(11,.arr b 0),(12,.arr u i),(13,.int .i64 p)],K⟩) s.length
    ⟨_,rfl,0,M,(s.length:Int) - 1,by omega,by omega,by omega,hG,h0,h4,hu,by simp only [List.map_cons,List.map_nil,e1,e2,e4,e11,e12,e13]⟩ ?_
  clear hG h0 h4 hu
  rintro N s0 ⟨i,K,p,hi,rfl,hp,hG,h0,h4,hu,rfl⟩
  have hul:=lt_of hu
  simp only [plX,runes,ints] at h0
  by_cases hlt:i<s.length
  · obtain ⟨q,hq⟩:∃q,q=s.length - 1 - i:=⟨_,rfl⟩
    obtain rfl:p=(q:Int):=by omega
    have hp0:(0:Int)≤(q:Int):=by omega
    have hqs:(q:Int)<(s.length:Int):=by omega
    have hp1:IntKind.i64.wrap ((q:Int) - 1)=(s.length:Int) - 1 - ((i+1:Nat):Int):=by rw [wrap_i64 (by omega) (by omega)];omega
    have g1:=sub_nums (k:=.i64) (l:=s) (i:=q) (by omega)
    have htk:=rev_take hlt
    rw [←hq] at htk
    have happ:nums .i64 (s.reverse.take i)++[.int .i64 (s.getD q 0)]=nums .i64 (s.reverse.take (i+1)):=by rw [htk];simp [nums]
    have y1:(i+1)*8≤140737488355328:=by omega
    have y2:i+1≤140737488355328:=by omega
    have nu:=fun Y=>getA hu Y
    have hGn:=fun (o o':AObj)=>(hG.app [o]).setO (nu [o]) rfl (by decide:(3:Nat)≠66) (o':=o')
    have n0:∀o o':AObj,((K++[o]).set u o')[0]?=some ⟨true,26,4,0,1,plX s ch t l,false⟩:=fun o o'=>by rw [List.getElem?_set_ne (by omega)];exact getA h0 _
    have n4:∀o o':AObj,((K++[o]).set u o')[4]?=some o4:=fun o o'=>by rw [List.getElem?_set_ne (by omega)];exact getA h4 _
    have nn:∀o o':AObj,((K++[o]).set u o')[u]?=some o':=fun o o'=>by rw [List.getElem?_set_self (by simp;omega)]
    generalize s.getD q 0=d at *
    simp only [b15_1,go_sem,FL,mapIA,h0,subP4a,hp0,hqs,g1,Int.toNat_natCast,List.flatten_cons,List.flatten_nil,Option.getD_some,getL,nu,y1,y2,happ,hp1]
    exact loopQ_go rfl (s.length - (i+1)) (by omega) ⟨i+1,_,_,by omega,rfl,rfl,hGn _ _,n0 _ _,n4 _ _,nn _ _,rfl⟩
  · obtain rfl:i=s.length:=by omega
    obtain rfl:p = -1:=by omega
    rw [List.take_of_length_le (by simp)] at hu
    have:=hgo K hG h0 h4 hu
    have hp0:¬(0:Int)≤-1:=by omega
    simp only [b15_1,go_sem,hp0]
    exact this
theorem set4 {M Y:List AObj} {o:AObj} (h:4<M.length):((M++Y).set 4 o)[4]?=some o:=by rw [List.getElem?_set_self (by simp;omega)]
theorem set4n {M Y:List AObj} {o:AObj} {k:Nat} (h:4<M.length):((M++Y).set 4 o)[M.length+k]?=Y[k]?:=by rw [List.getElem?_set_ne (by omega)];exact getLk
def invM (s:List Int) (ch:Bool) (A:List Rat) (R k:Nat):List AObj:=
  [⟨true,26,4,0,1,plX s ch [] (A.map mR),false⟩,⟨false,3,1,0,0,[],false⟩,⟨false,21,1,0,0,[],false⟩,⟨false,66,3,0,0,[],false⟩,⟨true,26,4,0,1,[.arr 1 0,.bool false,.arr 2 0,.arr 3 0],false⟩,
    ⟨false,3,1,0,2,[.int .i64 R,.int .i64 R],false⟩,⟨false,3,1,0,0,[],false⟩,⟨false,21,1,0,0,[],false⟩,⟨false,66,3,0,0,[],false⟩,⟨true,26,4,0,1,[.arr 5 0,.bool false,.arr 10 0,.arr 11 k],false⟩,
    ⟨false,21,1,0,0,[],false⟩,⟨false,66,3,k,k,nrs (uniL R k),false⟩]
set_option maxHeartbeats 2000000 in
theorem c15_core {K:Nat} (ha:PagM s [] ch A R C) (hchk:chkE s [] ch A R C=0) (hR:R≤32) (hA:∀a∈A,Sz 40 a) (hK:K=3333) (hF:Fine C (C+R) K C (sysD (invS A R C))) :
    Go.V.Call tab E 15 [.agg (plX s ch [] (A.map mR)),.int .i64 lim] []
      (match redD C C (sysD (invS A R C)) with
      | none=>.tup [.agg noP,.int .i64 22]
      | some t=>.tup [.agg (if shortD (ansD t C) lim then plX s.reverse false [] ((ansD t C).map mR) else noP),.int .i64 (if shortD (ansD t C) lim then 0 else 26)]) []:=by
  refine Go.V.Call.mach i15 c15 rfl rfl rfl rfl ?_
  have hck:=hchk
  unfold chkE at hck
  by_cases h2:2<s.length
  · rw [if_pos h2] at hck;cases hck
  rw [if_neg h2] at hck
  by_cases hbb:(ch&&decide (0<([]:List Int).length+A.length))=true
  · rw [if_pos hbb] at hck;cases hck
  rw [if_neg hbb] at hck
  by_cases hRC:R<C
  · rw [if_pos hRC] at hck;cases hck
  clear hck
  obtain ⟨hAl,_⟩:=ha.arr.ok (by omega) (by simpa using hbb)
  have hs8:=ha.arr.s8
  have h46:=c46_ok ha
  rw [hchk] at h46
  have h47:=c47_ok (s:=s) (t:=[]) (l:=A.map mR) (ch:=ch) ha.arr.s8
  have h48:=c48_ok (s:=s) (t:=[]) (l:=A.map mR) (ch:=ch) ha.arr.s8
  rw [ha.arr.r0] at h47
  rw [ha.arr.c0] at h48
  have hsz:(2*40+1)*(R+1)≤9999:=by omega
  have hRR:R*R≤32*32:=Nat.mul_le_mul hR hR
  have hU:∀a∈uniL R (R*R),Sz 40 a:=fun a h=>by
    rcases uniL_mem h with rfl|rfl
    · exact Sz.one' (by omega)
    · exact Sz.zero' (by omega)
  have h49:=c49_ok (s:=s) (s':=[(R:Int),(R:Int)]) (t:=[]) (t':=[]) (ch:=ch) (ch':=false) (A:=A) (B:=uniL R (R*R)) (C':=R) (e:=40) ha.arr.s8 (by simp) ha.arr.r0 ha.arr.c0 rfl hAl uniL_len (by omega) (by omega) (by omega) (by omega) hA hU hsz
  rw [inv_div] at h49
  have h50:=fun (Bs:List AObj) (hd:Bs.length=12)=>c50_ok (d:=12) (Kk:=K) (b:=C+Bs.length) (sysO_grn (Bs:=Bs) (n:=C) (L:=sysD (invS A R C))) hF (by omega) (by omega) (by omega) (by omega) (by omega) (by omega) (fun i _=>by omega)
  have h51:=fun (t:Gd) (he:redD C C (sysD (invS A R C))=some t)=>c51_ok (G:=(List.range C).map t) (s:=s.reverse) (lim:=lim) (n:=C) (Kk:=K) (fun r hr=>by
    obtain ⟨i,hi,rfl⟩:=List.mem_map.1 hr
    have:=(hF.last (Nat.le_refl _) he).1 i (List.mem_range.1 hi)
    omega) (fun r hr=>by
    obtain ⟨i,hi,rfl⟩:=List.mem_map.1 hr
    exact (hF.last (Nat.le_refl _) he).2 i (List.mem_range.1 hi)) (by omega) (by omega) (by simp;omega)
  have hgl:∀t:Gd,ansP ((List.range C).map t) C ((List.range C).map t).length=ansD t C:=fun t=>by rw [List.length_map,List.length_range];rfl
  have hsm12:∀{a b:List AObj},SameB 12 a b→11<a.length→11<b.length:=fun h hl=>by
    have:=h 11 (by omega)
    rw [List.getElem?_eq_getElem hl] at this
    exact lt_of this
  have hul:((uniL R (R*R)).map mR).length=R*R:=by rw [List.length_map,uniL_len]
  have hun:nmsC ((uniL R (R*R)).map mR)=nrs (uniL R (R*R)):=nrs_nms
  have w0:IntKind.i64.wrap ((R:Int)*(R:Int))=((R*R:Nat):Int):=by rw [←Int.natCast_mul,wrap_i64 (by omega) (by omega)]
  have w1:IntKind.i64.wrap ((R:Int)+1)=((R+1:Nat):Int):=by rw [wrap_i64 (by omega) (by omega)];omega
  have hy0:¬((R+1:Nat):Int)=0:=by omega
  have u0:nrs (uniL R 0)=[]:=rfl
  have h36:=fun (z:Int) (hz:In64 z)=>c36_ok (E:=I.E) (z:=z) hz
  simp only [numC_R] at h36
  have h36a:=h36 0 ⟨by omega,by omega⟩
  have h36b:=h36 1 ⟨by omega,by omega⟩
  rw [show ((0:Int):Rat)=0 from rfl] at h36a
  rw [show ((1:Int):Rat)=1 from rfl] at h36b
  simp only [plX,runes,ints,nums_nilA,List.length_nil,hul,hun] at h46 h47 h48 h49
  simp only [c15,plX,runes,ints,List.length_nil,nums_nilA,go_sem,FL,subP4]
  refine goP h46 ?_
  simp only [go_sem,FL,subP4,bne_self_eq_false]
  refine goP h47 ?_
  simp only [go_sem,FL,subP4,List.flatten_cons,List.flatten_nil,Option.getD_some,List.append_nil]
  refine mLoop (fun N st=>∃k:Nat,k≤R*R∧N=R*R - k∧st=⟨[(1,.int .i64 lim),(2,.loc 0 0 0),(4,.loc 4 0 0),(7,.int .i64 R),(8,.loc 9 0 0),(9,.int .i64 k)],invM s ch A R k⟩) (R*R)
    ⟨_,rfl,0,by omega,by omega,by simp [getE,invM,plX,runes,ints,nums_nilA,u0]⟩ ?_
  rintro N s0 ⟨k,hk,rfl,rfl⟩
  by_cases hlt:k<R*R
  · have hlt':(k:Int)<((R*R:Nat):Int):=by omega
    have hk1:IntKind.i64.wrap ((k:Int)+1)=((k+1:Nat):Int):=by rw [wrap_i64 (by omega) (by omega)];omega
    have hmod:(k:Int).tmod ((R+1:Nat):Int)=((k % (R+1):Nat):Int):=rfl
    have happ:=nrs_snoc (l:=uniL R k) (a:=if k % (R+1)=0 then (1:Rat) else 0)
    rw [←uniL_succ] at happ
    have y1:(k+1)*40≤140737488355328:=by omega
    have y2:k+1≤140737488355328:=by omega
    by_cases hz:k % (R+1)=0
    · have hz':(((k % (R+1):Nat):Int)==0)=true:=by rw [hz];rfl
      rw [if_pos hz] at happ
      simp only [numR3] at happ h36b
      simp only [b15_0,invM,plX,runes,ints,List.length_nil,nums_nilA,go_sem,FL,subP3,subP3',w0,w1,hlt',hy0,hmod,hz']
      refine goP h36b ?_
      simp only [go_sem,FL,subP3,subP3',List.flatten_cons,List.flatten_nil,Option.getD_some,y1,y2,happ,hk1]
      refine loopQ_go rfl (R*R - (k+1)) (by omega) ⟨k+1,by omega,rfl,?_⟩
      rfl
    · have hz':(((k % (R+1):Nat):Int)==0)=false:=by rw [beq_eq_false_iff_ne];omega
      rw [if_neg hz] at happ
      simp only [numR3] at happ h36a
      simp only [b15_0,invM,plX,runes,ints,List.length_nil,nums_nilA,go_sem,FL,subP3,subP3',w0,w1,hlt',hy0,hmod,hz']
      refine goP h36a ?_
      simp only [go_sem,FL,subP3,subP3',List.flatten_cons,List.flatten_nil,Option.getD_some,y1,y2,happ,hk1]
      refine loopQ_go rfl (R*R - (k+1)) (by omega) ⟨k+1,by omega,rfl,?_⟩
      rfl
  · obtain rfl:k=R*R:=by omega
    simp only [b15_0,k15_1,invM,plX,runes,ints,List.length_nil,nums_nilA,go_sem,FL,subP4,w0,Int.lt_irrefl]
    refine goB h49 sysO_made rfl ?_
    simp only [go_sem,FL,mapIA,subP4]
    cases hr:redD C C (sysD (invS A R C)) with
    | none=>
      simp only [hr] at h50 ⊢
      refine goM_ex (h50 [_,_,_,_,_,_,_,_,_,_,_,_] rfl) fun M' hsm=>?_
      have h11:=hsm12 hsm (by simp)
      have m4:=hsm 4 (by omega)
      simp only [List.cons_append,List.nil_append,List.getElem?_cons_succ,List.getElem?_cons_zero,storeOp,apartOf,freeze_nil,refsL,refs,List.flatMap_cons,List.flatMap_nil,List.append_nil,List.contains_nil,List.set_cons_zero,List.set_cons_succ,snap,snapL,fill_nums,flat_nums,nums_length] at m4
      simp only [go_sem,FL,mapIA,m4,List.append_assoc]
      exact out_noP (u:=M'.length) (v:=M'.length+1) (w:=M'.length+2) rfl rfl rfl rfl (set4 (by omega)) rfl rfl (set4n (k:=0) (by omega)) (set4n (k:=1) (by omega)) (set4n (k:=2) (by omega)) rfl rfl rfl
    | some t=>
      simp only [hr] at h50 ⊢
      have h51:=h51 t hr
      rw [hgl] at h51
      have h50s:=fun (Bs:List AObj) (hd:Bs.length=12)=>(let ⟨M',f',a,b,c⟩:=h50 Bs hd;(⟨M',a,b,f',c⟩:∃M',_∧SameB 12 _ M'∧∃f',GrN M' _ _ f' _))
      refine goM_ex (h50s [_,_,_,_,_,_,_,_,_,_,_,_] rfl) fun M' hsm=>?_
      obtain ⟨hsm,f',hG⟩:=hsm
      have h11:=hsm12 hsm (by simp)
      have m0:=hsm 0 (by omega)
      have m4:=hsm 4 (by omega)
      simp only [List.cons_append,List.nil_append,List.getElem?_cons_succ,List.getElem?_cons_zero,storeOp,apartOf,freeze_nil,refsL,refs,List.flatMap_cons,List.flatMap_nil,List.append_nil,List.contains_nil,List.set_cons_zero,List.set_cons_succ,snap,snapL,fill_nums,flat_nums,nums_length] at m0 m4
      have n0:=fun Y=>getA m0 Y
      have n4:=fun Y=>getA m4 Y
      have w2:IntKind.i64.wrap ((s.length:Int) - 1)=(s.length:Int) - 1:=wrap_i64 (by omega) (by omega)
      generalize hop:(⟨some 73,.callF 51 [.t 68,.t 70,.t 71,.t 72],none⟩:IOp)=op
      have shp:=fun (env:Env) (Q:X→St→Prop) (ks:List Go.V.Item)=>c15_shape (s:=s) (t:=[]) (ch:=ch) (lim:=lim) (env:=env) (Q:=Q) (ks:=ks) (hG.app [⟨false,3,1,0,0,[],false⟩]) hs8 (u:=M'.length) (l:=A.map mR) (n0 _) (n4 _) getL (by omega)
      simp only [plX,runes,ints,nums_nilA,List.length_nil] at shp
      simp only [go_sem,FL,mapIA,subP4,subP4a,m0,n0,w2]
      refine shp _ _ _ rfl rfl rfl rfl rfl rfl ?_
      intro K2 hG2 q0 q4 qu
      simp only [k15_0,hop,go_sem,FL,mapIA,subP4,q0]
      refine goP h48 ?_
      simp only [go_sem]
      subst hop
      refine goF_at (vs:=[gridD ((List.range C).map t),.int .i64 C,ints s.reverse,.int .i64 lim]) (snap4 ?_ ?_ ?_ ?_) h51 ?_
      · exact snap_grN hG2
      · rfl
      · refine (snap_arr (k:=9) qu rfl).trans ?_
        rw [ints,List.length_reverse]
        rfl
      · rfl
      refine (fun (hk:∀M3:List AObj,M3[4]?=_→Mach _ _ _ _ ⟨_,M3⟩)=>hk _ (frz_get q4 (notin4 (refs_grN hG2 q4 rfl (by simp)) (fun h=>by cases h) (refs_row qu rfl (by omega)) (fun h=>by cases h)))) fun M3 e4=>?_
      by_cases hsb:shortD (ansD t C) lim=true<;>(
        simp only [hsb,if_true,if_false,Bool.false_eq_true,noP,plX,runes,ints,nums_nilA,nmsC,List.flatMap_nil,List.length_nil]
        simp only [go_sem,e4]
        exact out_pag rfl rfl rfl rfl (getS e4) rfl rfl)
end
def mA (A:List Rat) (n:Nat):Mx:=fun k i=>A.getD (k*n+i) 0
section
variable {A:List Rat} {n:Nat}
end
theorem sq_arr {A:List Rat} {n:Nat} (hn:n≤4) (hA:A.length=n*n):ArrM [(n:Int),(n:Int)] [] false A n n∧chkE [(n:Int),(n:Int)] [] false A n n=0:=by
  have hb:n*n≤16:=Nat.mul_le_mul hn hn
  refine ⟨⟨by simp,rfl,rfl,by omega,by omega,by omega,by simp,fun _=>by simp [hA],fun _=>rfl⟩,?_⟩
  unfold chkE
  rw [if_neg (by simp),if_neg (by simp),if_neg (by omega),if_neg (by omega)]
theorem sz_sq {n:Nat} (hn:n≤4):4^(n+1)*((2*200+1)*(n+1)+2)≤30000000:=by
  rcases (show n=0∨n=1∨n=2∨n=3∨n=4 by omega) with rfl|rfl|rfl|rfl|rfl<;>decide
def fr18 (neg:Bool) (n d:Int):List AV:=[.sl 1 1 [.int .u32 n],.bool neg,.sl 1 1 [.int .u32 d]]
def ar18 (s:List Int) (l:List (Bool × Int × Int)):AV:=.agg [.sl s.length 1 (s.map (.int .i64)),.bool false,.sl 0 1 [],.sl l.length 3 (l.flatMap fun x=>fr18 x.1 x.2.1 x.2.2),.bool true]
set_option maxRecDepth 100000 in
theorem aw18b:Go.V.Call tab E 10 [ar18 [] [(false,4,1)],ar18 [] [(false,8,1)],.int .i64 4] [] (.tup [ar18 [] [(false,1,2)],.int .i64 0]) []:=Go.V.Call.run (ext:=ext) (fun h=>h) (fuel:=400) (n:=40) (by kernel_rfl)
def pg18 (s:List Int) (l:List (Bool × UInt8 × UInt8)):AV:=.agg [.sl s.length 1 (s.map (.int .i64)),.bool false,.sl 0 1 [],.sl l.length 3 (l.flatMap fun x=>[AV.bool x.1,.str ⟨#[x.2.1]⟩,.str ⟨#[x.2.2]⟩])]
def fs18 (neg:Bool) (n d:Int):List AV:=[.sl 1 1 [.int .u32 n],.bool neg,.sl 1 1 [.int .u32 d]]
def as18 (s:List Int) (l:List (Bool × Int × Int)):AV:=.agg [.sl s.length 1 (s.map (.int .i64)),.bool false,.sl 0 1 [],.sl l.length 3 (l.flatMap fun x=>fs18 x.1 x.2.1 x.2.2),.bool true]
set_option maxRecDepth 100000 in
theorem aw18d:Go.V.Call tab E 13 [as18 [] [(false,1,2)],.int .i64 0,pg18 [] [(false,49,50)],.int .i64 0] [] (.bool true) []:=Go.V.Call.run (ext:=ext) (fun h=>h) (fuel:=400) (n:=40) (by kernel_rfl)
set_option maxRecDepth 100000 in
theorem aw18c:Go.V.Call tab E 13 [as18 [2,2] [(true,2,1),(false,1,1),(false,3,2),(true,1,2)],.int .i64 0,pg18 [2,2] [(true,50,49),(false,49,49),(false,51,50),(true,49,50)],.int .i64 0] [] (.bool true) []:=Go.V.Call.run (ext:=ext) (fun h=>h) (fuel:=400) (n:=40) (by kernel_rfl)
theorem ax11:Go.V.Call tab E 34 [.sl 2 1 [.int .i64 2,.int .i64 2]] [] (as18 [2] [(false,2,1),(false,2,1)]) []:=Go.V.Call.run (ext:=ext) (fun h=>h) (fuel:=400) (n:=40) (by kernel_rfl)
theorem ax11b:Go.V.Call tab E 34 [.sl 4 1 [.int .i64 1,.int .i64 2,.int .i64 3,.int .i64 4]] [] (as18 [4] [(false,1,1),(false,2,1),(false,3,1),(false,4,1)]) []:=Go.V.Call.run (ext:=ext) (fun h=>h) (fuel:=400) (n:=40) (by kernel_rfl)
theorem ax29:Go.V.Call tab E 33 [as18 [2] [(false,2,1),(false,2,1)],as18 [4] [(false,1,1),(false,2,1),(false,3,1),(false,4,1)]] [] (.tup [as18 [2,2] [(false,1,1),(false,2,1),(false,3,1),(false,4,1)],.int .i64 0]) []:=Go.V.Call.run (ext:=ext) (fun h=>h) (fuel:=400) (n:=40) (by kernel_rfl)
theorem ax12:Go.V.Call tab E 35 [.int .i64 4] [] (as18 [] [(false,4,1)]) []:=Go.V.Call.run (ext:=ext) (fun h=>h) (fuel:=400) (n:=40) (by kernel_rfl)
theorem ax12b:Go.V.Call tab E 35 [.int .i64 8] [] (as18 [] [(false,8,1)]) []:=Go.V.Call.run (ext:=ext) (fun h=>h) (fuel:=400) (n:=40) (by kernel_rfl)
theorem ax58:Go.V.Call tab E 36 [.int .i64 (-2)] [] (.agg [.bool true,.str ⟨#[50]⟩,.str ⟨#[49]⟩]) []:=Go.V.Call.run (ext:=ext) (fun h=>h) (fuel:=400) (n:=40) (by kernel_rfl)
theorem ax58b:Go.V.Call tab E 36 [.int .i64 1] [] (.agg [.bool false,.str ⟨#[49]⟩,.str ⟨#[49]⟩]) []:=Go.V.Call.run (ext:=ext) (fun h=>h) (fuel:=400) (n:=40) (by kernel_rfl)
theorem ax_red:(redA 2 2 (invS [1,2,3,4] 2 2)).map (fun u=>ansL u 2 2)=some [-2,1,3/2,-1/2]:=by decide +kernel
theorem ax40:Go.V.Call tab E 14 [as18 [2,2] [(false,1,1),(false,2,1),(false,3,1),(false,4,1)],.int .i64 4] [] (.tup [as18 [2,2] [(true,2,1),(false,1,1),(false,3,2),(true,1,2)],.int .i64 0]) []:=by
  have l1:limG 1=[1]:=limG_one (d:=1) (by omega) (by omega)
  have l2:limG 2=[2]:=limG_one (d:=2) (by omega) (by omega)
  have l3:limG 3=[3]:=limG_one (d:=3) (by omega) (by omega)
  have l4:limG 4=[4]:=limG_one (d:=4) (by omega) (by omega)
  have h:=c14_core (lim:=4) (sq_arr (A:=[1,2,3,4]) (n:=2) (by omega) rfl).1 (sq_arr (A:=[1,2,3,4]) (n:=2) (by omega) rfl).2 (e:=200) (by omega) (fun a ha=>?_) (sz_sq (by omega))
  · have hm:=ax_red
    cases hr:redA 2 2 (invS [1,2,3,4] 2 2) with
    | none=>rw [hr] at hm;cases hm
    | some u=>
      rw [hr] at hm h
      have hu:ansL u 2 2=[-2,1,3/2,-1/2]:=Option.some.inj hm
      have hs:shortB [-2,1,3/2,-1/2] 4=true:=all_take.2 fun a ha=>by
        have hz:Sz 3 a:=by
          have:∀a∈([-2,1,3/2,-1/2]:List Rat),a.num.natAbs<2^3∧a.den<2^3:=by decide +kernel
          exact this a ha
        rw [rlimbs]
        have h1:(limG (rR a).2.1).length≤1:=limG_szB 1 hz.1 (by omega)
        have h2:(limG (dn (rR a).2.2)).length≤1:=by
          rw [(RV.self (r:=a)).2.2]
          exact limG_szB 1 hz.2 (by omega)
        omega
      have q1:([1,2,3,4]:List Rat).map rR=[(false,1,1),(false,2,1),(false,3,1),(false,4,1)]:=by decide +kernel
      have q2:([-2,1,3/2,-1/2]:List Rat).map rR=[(true,2,1),(false,1,1),(false,3,2),(true,1,2)]:=by decide +kernel
      simp only [hu,hs,if_true,q1,q2] at h
      simp only [arrX,ints,nums,runes,rtsC,rtC,ratG,us32,l1,l2,l3,l4,List.flatMap_cons,List.flatMap_nil] at h
      exact h
  · have:∀a∈([1,2,3,4]:List Rat),a.num.natAbs<2^3∧a.den<2^3:=by decide +kernel
    exact Sz.mono (this a ha) (by omega)
theorem c9_awake:Go.V.Call tab E 9 [] [] (.bool true) []:=by
  refine Go.V.Call.mach i9 c9 rfl rfl rfl rfl ?_
  have a1:=ax11
  have a2:=ax11b
  have a3:=ax29
  have a4:=ax12
  have a5:=ax12b
  have a6:=ax58
  have a7:=ax58b
  have a8:=ax40
  have a9:=aw18b
  have b1:=aw18c
  have b2:=aw18d
  simp only [as18,fs18,ar18,fr18,pg18,List.map_cons,List.map_nil,List.length_cons,List.length_nil,Nat.zero_add,List.flatMap_cons,List.flatMap_nil,List.cons_append,List.nil_append,List.append_nil] at a1 a2 a3 a4 a5 a8 a9 b1 b2
  simp only [Nat.reduceAdd] at a1 a2 a3 a4 a5 a8 a9 b1 b2
  simp only [c9,go_sem,FL,subA5,subP4,List.flatten_cons,List.flatten_nil,Option.getD_some,List.append_nil]
  refine goF a1 ?_
  simp only [go_sem,FL,subA5,subP4,List.flatten_cons,List.flatten_nil,Option.getD_some,List.append_nil]
  refine goF a2 ?_
  simp only [go_sem,FL,subA5,subP4,List.flatten_cons,List.flatten_nil,Option.getD_some,List.append_nil]
  refine goP a3 ?_
  simp only [go_sem,FL,subA5,subP4,List.flatten_cons,List.flatten_nil,Option.getD_some,List.append_nil]
  refine goF a8 ?_
  simp only [go_sem,FL,subA5,subP4,List.flatten_cons,List.flatten_nil,Option.getD_some,List.append_nil]
  refine goP a4 ?_
  simp only [go_sem,FL,subA5]
  refine goP a5 ?_
  simp only [go_sem,FL,subA5]
  refine goP a9 ?_
  simp only [go_sem,FL,subA5,subP4,List.flatten_cons,List.flatten_nil,Option.getD_some,List.append_nil]
  refine goP a6 ?_
  simp only [go_sem,FL,subA5]
  refine goP a7 ?_
  simp only [go_sem,FL,subA5,subP4,List.flatten_cons,List.flatten_nil,Option.getD_some,List.append_nil]
  refine goR b1 rfl ?_
  simp only [go_sem,FL,subA5,subP4,List.flatten_cons,List.flatten_nil,Option.getD_some,List.append_nil]
  refine goR b2 rfl ?_
  simp only [go_sem,FL,subA5]
  simp only [i9,OT,reduceIte,Nat.reduceEqDiff]
theorem c14_low {s:List Int} (hs1:s.length≤1) (hs64:∀d∈s,In64 d) {ch:Bool} {A:List Rat} {R C e:Nat} {lim:Int} (ha:ArrM s [] ch A R C) (hchk:chkE s [] ch A R C=0)
    (he:2≤e) (hA:∀a∈A,Sz e a) (hsz:4^(C+1)*((2*e+1)*(R+1)+2)≤30000000) :
    Go.V.Call tab E 14 [.agg (arrX s ch [] (A.map rR)),.int .i64 lim] []
      (match redA C C (invS A R C) with
      | none=>.tup [.agg noA,.int .i64 22]
      | some u=>.tup [.agg (if shortB (ansL u C R) lim then arrX s false [] ((ansL u C R).map rR) else noA),.int .i64 (if shortB (ansL u C R) lim then 0 else 26)]) []:=by
  refine Go.V.Call.mach i14 c14 rfl rfl rfl rfl ?_
  have hck:=hchk
  unfold chkE at hck
  rw [if_neg (show ¬2<s.length by omega)] at hck
  by_cases hbb:(ch&&decide (0<([]:List Int).length+A.length))=true
  · rw [if_pos hbb] at hck;cases hck
  rw [if_neg hbb] at hck
  by_cases hRC:R<C
  · rw [if_pos hRC] at hck;cases hck
  rw [if_neg hRC] at hck
  by_cases h32:32<R∨8<C
  · rw [if_pos h32] at hck;cases hck
  clear hck
  obtain ⟨hAl,_⟩:=ha.ok (by omega) (by simpa using hbb)
  have hal:=ha.al
  have h95:=c37_ok ha
  rw [hchk] at h95
  have h96a:=c40_ok (s:=s) (t:=[]) (A:=A) (ch:=ch) (R:=R) (C:=C) ha.s8 ha.r0 ha.c0 hAl ha.R4 ha.C4 hal
  have h97a:=c41_ok (s:=s) (t:=[]) (l:=A.map rR) (ch:=ch) ha.s8
  rw [ha.c0] at h97a
  have h44:=c53_X (s:=s) (t:=[]) (l:=A.map rR) (ch:=ch) (by omega)
  have hrow:∀{Y:List Rat} {K:Nat},∀r∈gridA Y R K,r.length=K:=fun r hr=>grid_row r hr
  have hp4:1≤4^(C+1):=Nat.pow_pos (by omega)
  have hsz1:(2*e+1)*(R+1)+2≤30000000:=Nat.le_trans (Nat.le_mul_of_pos_left _ hp4) hsz
  have hn0:0<C→0<(gridA A R C).length:=fun h=>by rw [grid_len];omega
  have h98x:=c42_X (G:=gridA A R C) (H:=unitG R) (W:=(List.range R).map (uniX R)) (n:=C) (m:=R) (e:=e) unit_rep (by rw [grid_len,unit_len]) (fun r hr=>Nat.le_of_eq (hrow r hr).symm) (fun r hr=>Nat.le_of_eq (unit_row r hr).symm) (grid_Sz (by omega) hA) (unit_Sz he) (by rw [grid_len];omega) hn0 (by omega) (by omega) (by rw [grid_len];omega)
  have h98n:=c42_ok (G:=gridA A R C) (H:=gridA A R C) (n:=C) (m:=C) (e:=e) rfl (fun r hr=>Nat.le_of_eq (hrow r hr).symm) (fun r hr=>Nat.le_of_eq (hrow r hr).symm) (grid_Sz (by omega) hA) (grid_Sz (by omega) hA) (by rw [grid_len];omega) hn0 (by omega) (by omega) (by rw [grid_len];omega)
  have hS:SzG C (invS A R C) ((2*e+1)*R+1):=fun r hr=>by
    have q1:=nrm_Sz (G:=gridA A R C) (H:=gridA A R C) (i:=r) (m:=C) (fun x hx=>by rw [hrow x hx];exact hr) (fun x hx=>Nat.le_of_eq (hrow x hx).symm) rfl (grid_Sz (by omega) hA) (grid_Sz (by omega) hA)
    have q2:=nrm_Sz (G:=gridA A R C) (H:=unitG R) (i:=r) (m:=R) (fun x hx=>by rw [hrow x hx];exact hr) (fun x hx=>Nat.le_of_eq (unit_row x hx).symm) (by rw [grid_len,unit_len]) (grid_Sz (by omega) hA) (unit_Sz he)
    rw [grid_len] at q1 q2
    exact ⟨q1,q2⟩
  have h99:=fun (Bs:List AObj) (hd:5≤Bs.length)=>c43_ok (d:=5) (M:=Bs++((gridM C (invS A R C).2).map (shiftO Bs.length)++(gridM C (invS A R C).1).map (shiftO (C+1+Bs.length)))) (s:=invS A R C) (e:=(2*e+1)*R+1) (m:=R) (two_of rfl) invS_len hS (by omega) (by omega)
    (Nat.le_trans (Nat.mul_le_mul_left _ (by rw [Nat.mul_add];omega)) hsz) ⟨by omega,by omega⟩ (fun i _=>⟨by omega,by omega⟩)
  have hC1:C=1:=by
    have h3:=ha.c0
    rw [show s.getD 1 1=1 by simp [List.getD,show s[1]?=none from List.getElem?_eq_none (by omega)]] at h3
    omega
  have hcs:count s=some ((C*R:Nat):Int):=by
    have hr0:=ha.r0
    rcases s with _|⟨x,_|⟨y,s⟩⟩
    · have:R=1:=by simp [List.getD] at hr0;omega
      subst this;subst hC1;rfl
    · have hx:x=R:=by simpa [List.getD] using hr0
      subst hx
      have hq:=divSh_count (s:=[0,0]) (s':=[0]) (C:=R) (C':=1)
      have hq2:=divSh_count (s:=[0]) (s':=[0,0]) (C:=1) (C':=R) (by omega) (by omega) (by simp) (by simp)
      rw [show divSh [0] [0,0] 1 R=[(R:Int)] from rfl] at hq2
      rw [hq2,hC1]
    · simp at hs1
  have h100:=fun (u:Gd × Gd)=>c44_ok (G:=(List.range C).map fun r=>dvR u R r R) (s:=s) (lim:=lim) hs64 (by omega) (by
      have:((List.range C).map fun r=>dvR u R r R).flatten.length=C*R:=ansL_len
      rw [this,fits,hcs];simp) (by simp;omega) (fun r hr=>by obtain ⟨i,_,rfl⟩:=List.mem_map.1 hr;rw [dvR_len];omega) (by
      have:((List.range C).map fun r=>dvR u R r R).flatten.length=C*R:=ansL_len
      rw [this]
      exact Nat.le_trans (Nat.mul_le_mul (show C≤8 by omega) (show R≤32 by omega)) (by omega))
  have gml:(gridM C (invS A R C).2).all made=true:=gridM_made
  have gml':(gridM C (invS A R C).1).all made=true:=gridM_made
  have eX:gridM C (fun i=>nrmR (gridA A R C) (unitG R) i R)=gridM C (invS A R C).2:=rfl
  have eN:gridM C (fun i=>nrmR (gridA A R C) (gridA A R C) i C)=gridM C (invS A R C).1:=rfl
  rw [eX] at h98x
  rw [eN] at h98n
  have hgm:((gridM C (invS A R C).2).map (shiftO 6)).length=C+1:=by rw [List.length_map,gridM_len]
  have hGA:gridG (gridA A R C)=.sl R 1 ((gridA A R C).map fun r=>.sl r.length 3 (rtsC (r.map rR))):=by rw [gridG,grid_len]
  rw [hGA] at h96a h98x h98n
  generalize (gridA A R C).map (fun r=>AV.sl r.length 3 (rtsC (r.map rR)))=GA at *
  have had:∀M:List AObj,adopt (List.replicate R (.nilsl 57 3)) M=((List.range R).map fun i=>AV.arr (M.length+i) 0,M++List.replicate R ⟨false,57,3,0,0,[],false⟩):=fun M=>adopt_rep
  have z0:(0:Int)≤(R:Int):=by omega
  have z1:24*R≤140737488355328:=by omega
  have z2:(R:Int)≤140737488355328:=by omega
  simp only [arrX,runes,ints,List.length_nil,nums_nilA] at h95 h96a h97a h44
  simp only [c14,arrX,runes,ints,List.length_nil,nums_nilA,go_sem,subA5]
  refine goR h95 rfl ?_
  simp only [go_sem,subA5,bne_self_eq_false]
  refine goF h96a ?_
  have hlr:(List.replicate R (⟨false,57,3,0,0,[],false⟩:AObj)).length=R:=List.length_replicate
  have hbx:(List.replicate R (⟨false,57,3,0,0,[],false⟩:AObj)++[⟨true,29,1,0,R,(List.range R).map fun i=>AV.arr (5+i) 0,false⟩])[R]?=some ⟨true,29,1,0,R,(List.range R).map fun i=>AV.arr (5+i) 0,false⟩:=by
    rw [List.getElem?_append_right (by simp)]
    simp
  simp only [go_sem,subA5,mapIA,had,z0,z1,z2,Int.toNat_natCast,hlr,hbx]
  have hnew:=fun (x0 x1 x2 x3 x4:AObj)=>NSt.new (M:=[x0,x1,x2,x3,x4]) (n:=R)
  refine c14_unit (n:=R) (lim:=lim) (by omega) ⟨(hnew _ _ _ _ _).box,(hnew _ _ _ _ _).row⟩ rfl rfl rfl rfl rfl rfl (by show AV.arr _ 0=AV.arr _ 0;congr 1;omega) rfl rfl ?_
  intro K f hK0 hK4 hKl hK
  clear hnew hlr hbx had z0 z1 z2
  generalize hop:(⟨some 47,.callO 42 [.t 42,.t 43,.t 45,.t 46],none⟩:IOp)=op
  simp only [k14_0,hop,go_sem,subA5,mapIA,hK0]
  refine goF h96a ?_
  simp only [freeze_nil]
  simp only [go_sem,subA5,mapIA,hK0]
  refine goR h97a rfl ?_
  simp only [go_sem,subA5,mapIA,hK0]
  subst hop
  refine goO_at (snap4 ?_ ?_ ?_ ?_) h98x gml rfl ?_
  · rfl
  · exact snap_grd hK
  · rfl
  · rfl
  refine (fun (hk:∀Bs:List AObj,Bs[0]?=some _→Bs[4]?=some _→Bs.length=K.length→Mach _ _ _ _ ⟨_,Bs++_⟩)=>hk _ (frz_get hK0 (notin4 (fun h=>by cases h) (refs_grd hK hK0 rfl (by omega)) (fun h=>by cases h) (fun h=>by cases h))) (frz_get hK4 (notin4 (fun h=>by cases h) (refs_grd hK hK4 rfl (by omega)) (fun h=>by cases h) (fun h=>by cases h))) (by simp [Go.V.freeze])) fun Bs hB0 hB4 hBl=>?_
  rw [←hBl]
  have h5:=lt_of hB4
  clear hK hK0 hK4 hKl hBl
  have n0:=fun Y=>getA hB0 Y
  have hgm:((gridM C (invS A R C).2).map (shiftO Bs.length)).length=C+1:=by rw [List.length_map,gridM_len]
  simp only [go_sem,subA5,mapIA,n0]
  refine goF h96a ?_
  simp only [freeze_nil]
  simp only [go_sem,subA5,mapIA,n0]
  refine goF h96a ?_
  simp only [freeze_nil]
  simp only [go_sem,subA5,mapIA,n0]
  refine goR h97a rfl ?_
  simp only [go_sem,subA5,mapIA,n0]
  refine goR h97a rfl ?_
  simp only [go_sem,subA5,mapIA,n0]
  refine goB h98n gml' rfl ?_
  simp only [freeze_nil]
  simp only [go_sem,subA5,mapIA,n0,hgm,List.append_assoc]
  rw [Nat.add_comm Bs.length (C+1)]
  have sR:∀d,shiftR d (.arr C 0)=.arr (C+d) 0:=fun _=>rfl
  simp only [sR]
  have h99:=h99 Bs (by omega)
  have h95:=h95
  clear h98n h98x h96a
  have o0:=getA hB0 ((gridM C (invS A R C).2).map (shiftO Bs.length)++(gridM C (invS A R C).1).map (shiftO (C+1+Bs.length)))
  have o4:=getA hB4 ((gridM C (invS A R C).2).map (shiftO Bs.length)++(gridM C (invS A R C).1).map (shiftO (C+1+Bs.length)))
  cases hr:redA C C (invS A R C) with
  | none=>
    simp only [hr] at h99 ⊢
    refine goM_ex h99 fun M' hsm=>?_
    have m4:=(hsm 4 (by omega)).trans o4
    simp only [go_sem,FL,mapIA,subA5,m4]
    exact out_arr rfl rfl rfl rfl (getS m4) rfl rfl
  | some u=>
    simp only [hr] at h99 ⊢
    refine goM_ex (P:=fun M'=>SameB 5 _ M'∧∃ia ib,Two M' _ _ _ ia ib _) (let ⟨M',ia,ib,a,b,c⟩:=h99;⟨M',a,b,ia,ib,c⟩) fun M' hsm=>?_
    obtain ⟨hsm,ia,ib,hT⟩:=hsm
    have m0:=(hsm 0 (by omega)).trans o0
    have m4:=(hsm 4 (by omega)).trans o4
    generalize hop2:(⟨some 75,.callF 44 [.t 72,.t 73,.t 74],none⟩:IOp)=op2
    have h22:(((s.length:Nat):Int)==2)=false:=by rw [beq_eq_false_iff_ne];omega
    simp only [go_sem,FL,mapIA,subA5,m0]
    refine goF h44 ?_
    simp only [freeze_nil]
    simp only [go_sem,FL,mapIA,subA5,m0,h22]
    subst hop2
    refine goF_at (vs:=[gridG ((List.range C).map fun r=>dvR u R r R),ints s,.int .i64 lim]) (snap3 ?_ ?_ ?_) (h100 u) ?_
    · exact snap_two hT
    · rfl
    · rfl
    refine (fun (hk:∀M4:List AObj,M4[4]?=some _→Mach _ _ _ _ ⟨_,M4⟩)=>hk _ (frz_get m4 (notin3 (refs_two hT m4 rfl (by omega)) (fun h=>by cases h) (fun h=>by cases h)))) fun M4 e4=>?_
    have eA:((List.range C).map fun r=>dvR u R r R).flatten=ansL u C R:=rfl
    rw [eA]
    by_cases hsb:shortB (ansL u C R) lim=true<;>(
      simp only [hsb,if_true,if_false,Bool.false_eq_true,arrX,runes,ints,noA]
      simp only [go_sem,e4]
      exact out_arr rfl rfl rfl rfl (getS e4) rfl rfl)
theorem dig_lt {l:List Int} {k m:Nat} (h:Dig l) (hl:l.length≤k) (hk:10^k≤2^m):sval l<2^m:=
  Nat.lt_of_lt_of_le (sval_lt h) (Nat.le_trans (Nat.pow_le_pow_right (by omega) hl) hk)
theorem light_pag {s t:List Int} {ch:Bool} {l:List Nm} (h:LightQ s ch t l):∃(R C:Nat) (A:List Rat),PagM s t ch A R C∧l.map toRt=A.map rR∧l=A.map mR∧(∀a∈A,Sd 40 20 a)∧(s.length≤2→R*C≤40):=by
  obtain ⟨h1,l1,l2,l3,l4,hS,hR⟩:=h
  have hc:∃n:Int,count s=some n∧n=((t.length+l.length:Nat):Int):=by
    unfold Shapes at hS
    split at hS
    · exact ⟨_,hS.1,by rw [hS.2];simp⟩
    · exact ⟨_,hS.1,by rw [hS.2];simp⟩
  obtain ⟨n,hc,hn⟩:=hc
  obtain ⟨b1,b2,b3⟩:=count_bound hc
  have hp:=count_prd hc
  have hr:∀x∈l,rR (ofN (toRt x))=toRt x:=fun x hx=>by
    have:=right_red (hR x hx)
    exact ofN_rR this.2.1 this.2.2.1 this.2.2.2
  have hg:∀i,0≤s.getD i 1∧s.getD i 1≤4096:=fun i=>by
    by_cases hi:i<s.length
    · have:=b2 (s.getD i 1) (by simp [List.getD,hi])
      exact this
    · rw [show s.getD i 1=1 by simp [List.getD,show s[i]?=none from List.getElem?_eq_none (by omega)]]
      exact ⟨by omega,by omega⟩
  obtain ⟨R,hR0⟩:=Int.eq_ofNat_of_zero_le (hg 0).1
  obtain ⟨C,hC0⟩:=Int.eq_ofNat_of_zero_le (hg 1).1
  have hR4:=(hg 0).2
  have hC4:=(hg 1).2
  have hlen:s.length≤2→t.length+l.length=R*C:=fun h2=>by
    have e:prd s=(R:Int)*(C:Int):=by
      rcases s with _|⟨a,_|⟨b,_|⟨c,s⟩⟩⟩
      · simp [List.getD] at hR0 hC0
        rw [←hR0,←hC0]
        rfl
      · simp [List.getD] at hR0 hC0
        rw [←hR0,←hC0]
        rfl
      · simp [List.getD] at hR0 hC0
        rw [←hR0,←hC0]
        simp [prd]
      · simp at h2
    rw [e,hn,←Int.natCast_mul] at hp
    omega
  have hall:∀x∈l,x.2.1.length≤12∧x.2.2.length≤6:=fun x hx=>h1 x (by rw [List.take_of_length_le (by omega)];exact hx)
  refine ⟨R,C,l.map fun x=>ofN (toRt x),⟨⟨b1,hR0,hC0,by omega,by omega,by rw [List.length_map];omega,by omega,fun h2=>by rw [List.length_map];exact hlen h2,fun hf=>?_⟩,fun ht=>?_⟩,?_,?_,fun a ha=>?_,fun h2=>?_⟩
  · subst hf;exact hS.2
  · subst ht
    have:l=[]:=List.eq_nil_of_length_eq_zero hS.2
    rw [this];rfl
  · rw [List.map_map]
    exact List.map_congr_left fun x hx=>(hr x hx).symm
  · rw [List.map_map]
    conv=>lhs;rw [←List.map_id l]
    exact List.map_congr_left fun x hx=>by
      show x=toNm (rR (ofN (toRt x)))
      rw [hr x hx,back_nm (hR x hx)]
  · obtain ⟨x,hx,rfl⟩:=List.mem_map.1 ha
    have e:=hr x hx
    have k1:(ofN (toRt x)).num.natAbs=sval x.2.1:=congrArg (fun z:Rt=>z.2.1) e
    have k2:(ofN (toRt x)).den=sval x.2.2:=congrArg (fun z:Rt=>z.2.2) e
    unfold Sd
    rw [k1,k2]
    obtain ⟨g1,g2,_⟩:=hR x hx
    exact ⟨dig_lt g1.1 (hall x hx).1 (by decide),dig_lt g2.1 (hall x hx).2 (by decide)⟩
  · have:=hlen h2
    rcases s with _|_
    all_goals
      unfold Shapes at hS
      split at hS
      · have h3:=hS.2;omega
      · have h3:=hS.2;rw [h3] at this;simp at this;omega
theorem Sd.sz {r:Rat} (h:Sd 40 20 r):Sz 40 r:=⟨h.1,Nat.lt_trans h.2 (by decide)⟩
theorem sz_prog {R C:Nat} (hRC:R*C≤40) (hCR:C≤R) (hR:R≤32) (hC:C≤8):4^(C+1)*((2*40+1)*(R+1)+2)≤30000000:=by
  rcases (show C=0∨C=1∨C=2∨C=3∨C=4∨C=5∨C=6∨C=7∨C=8 by omega) with h|h|h|h|h|h|h|h|h<;>subst h<;>(have:∀a b c:Nat,a≤c→b*a≤b*c:=fun a b c h=>Nat.mul_le_mul_left b h)<;>first
    | (refine Nat.le_trans (this _ _ ((2*40+1)*33+2) (by omega)) (by decide))
    | (refine Nat.le_trans (this _ _ ((2*40+1)*21+2) (by omega)) (by decide))
    | (refine Nat.le_trans (this _ _ ((2*40+1)*9+2) (by omega)) (by decide))
    | omega
theorem pow_K {K:Nat} (h:K≤6000):2^K≤lim2000:=by
  obtain ⟨m,hm⟩:∃m,m=2000:=⟨_,rfl⟩
  have e:lim2000=10^m:=by rw [hm];rfl
  rw [e]
  have h1:2^K≤2^(3*m):=Nat.pow_le_pow_right (by omega) (by omega)
  rw [Nat.pow_mul] at h1
  exact Nat.le_trans h1 (Nat.pow_le_pow_left (by decide) m)
theorem Sz.rtok {K:Nat} {a:Rat} (h:Sz K a) (hK:K≤6000):RtOk (rR a):=⟨Nat.lt_of_lt_of_le h.1 (pow_K hK),by rw [(RV.self (r:=a)).2.2];exact Nat.lt_of_lt_of_le h.2 (pow_K hK)⟩
theorem ans_eq {t:Gd} {u:Gd × Gd} {C m:Nat} (hl:LenD C (C+m) t) (h:∀r j,r<C→j<m→en t r (C+j)=en u.2 r j/en u.1 r r):ansD t C=ansL u C m:=by
  unfold ansD ansP ansL
  congr 1
  rw [List.take_of_length_le (by simp),List.map_map]
  refine List.map_congr_left fun r hr=>?_
  have hr:=List.mem_range.1 hr
  have h1:=hl r hr
  show (t r).drop C=dvR u m r m
  refine List.ext_getElem (by rw [List.length_drop,dvR_len];omega) fun j k1 k2=>?_
  have hj:j<m:=by rw [dvR_len] at k2;exact k2
  have e1:((t r).drop C)[j]=en t r (C+j):=by
    rw [List.getElem_drop]
    unfold en
    simp [List.getD,show C+j<(t r).length by omega]
  rw [e1,h r j hr hj]
  simp [dvR,hj]
theorem ansD_Sz {t:Gd} {C m K:Nat} (hS:∀r,r<C→∀x∈t r,Sz K x):∀a∈ansD t C,Sz K a:=fun a ha=>by
  unfold ansD ansP at ha
  obtain ⟨l,hl,ha⟩:=List.mem_flatten.1 ha
  obtain ⟨r,hr,rfl⟩:=List.mem_map.1 hl
  obtain ⟨i,hi,rfl⟩:=List.mem_map.1 (List.mem_of_mem_take hr)
  exact hS i (List.mem_range.1 hi) a (List.mem_of_mem_drop ha)
theorem chk_zero {s t:List Int} {ch:Bool} {A:List Rat} {R C:Nat} (h:chkE s t ch A R C=0):s.length≤2∧(ch&&decide (0<t.length+A.length))=false∧C≤R∧R≤32∧C≤8:=by
  unfold chkE at h
  by_cases h2:2<s.length
  · rw [if_pos h2] at h;cases h
  rw [if_neg h2] at h
  by_cases hb:(ch&&decide (0<t.length+A.length))=true
  · rw [if_pos hb] at h;cases h
  rw [if_neg hb] at h
  by_cases hr:R<C
  · rw [if_pos hr] at h;cases h
  rw [if_neg hr] at h
  by_cases h3:32<R∨8<C
  · rw [if_pos h3] at h;cases h
  exact ⟨by omega,by simpa using hb,by omega,by omega,by omega⟩
def ArrG (o:List AV):Prop:=∃a x b c y d z w,o=[.sl a 1 x,.bool b,.sl c 1 y,.sl d 3 z,.bool w]
def PagG (o:List AV):Prop:=∃a x b c y d z,o=[.sl a 1 x,.bool b,.sl c 1 y,.sl d 3 z]
theorem inv_shows {s t:List Int} {ch:Bool} {A:List Rat} {R C:Nat} {lim:Int} (hs:∀d∈s,In64 d) (ha:PagM s t ch A R C) (hA:∀a∈A,Sd 40 20 a) (hRC:s.length≤2→R*C≤40) :
    ∃ (o:List AV) (g:List AV) (f:Int),Go.V.Call tab E 14 [.agg (arrX s ch t (A.map rR)),.int .i64 lim] [] (.tup [.agg o,.int .i64 f]) []∧
      Go.V.Call tab E 15 [.agg (plX s ch t (A.map mR)),.int .i64 lim] [] (.tup [.agg g,.int .i64 f]) []∧Go.V.Call tab E 13 [.agg o,.int .i64 f,.agg g,.int .i64 f] [] (.bool true) []∧ArrG o∧PagG g:=by
  have hno:∀e:Int,e≠0→Go.V.Call tab E 13 [.agg noA,.int .i64 e,.agg noP,.int .i64 e] [] (.bool true) []:=fun e he=>c13_err he
  by_cases hchk:chkE s t ch A R C=0
  · obtain ⟨k1,k2,k3,k4,k5⟩:=chk_zero hchk
    obtain ⟨hAl,rfl⟩:=ha.arr.ok k1 k2
    obtain ⟨K,hK⟩:∃K,K=3333:=⟨_,rfl⟩
    have hRC2:=hRC k1
    have hU:∀a∈uniL R (R*R),Sd 40 20 a:=fun a h=>by
      rcases uniL_mem h with rfl|rfl
      · exact ⟨by decide,by decide⟩
      · exact ⟨by decide,by decide⟩
    obtain ⟨hF,hred⟩:=div_both (B:=uniL R (R*R)) (C':=R) hRC2 k3 k4 k5 hK hA hU
    rw [inv_div] at hF hred
    have h14:Go.V.Call tab E 14 [.agg (arrX s ch [] (A.map rR)),.int .i64 lim] []
      (match redA C C (invS A R C) with
      | none=>.tup [.agg noA,.int .i64 22]
      | some u=>.tup [.agg (if shortB (ansL u C R) lim then arrX s.reverse false [] ((ansL u C R).map rR) else noA),.int .i64 (if shortB (ansL u C R) lim then 0 else 26)]) []:=by
      by_cases hs1:s.length≤1
      · have e:s.reverse=s:=by
          rcases s with _|⟨a,_|⟨b,s⟩⟩
          · rfl
          · rfl
          · simp at hs1
        rw [e]
        exact c14_low hs1 hs ha.arr hchk (show 2≤40 by omega) (fun a h=>(hA a h).sz) (sz_prog hRC2 k3 k4 k5)
      · have e:s=[(R:Int),(C:Int)]:=by
          have h0:=ha.arr.r0
          have h1:=ha.arr.c0
          rcases s with _|⟨a,_|⟨b,_|⟨c,s⟩⟩⟩
          · simp at hs1
          · simp at hs1
          · simp [List.getD] at h0 h1
            rw [h0,h1]
          · simp at k1
        subst e
        exact c14_core ha.arr hchk (show 2≤40 by omega) (fun a h=>(hA a h).sz) (sz_prog hRC2 k3 k4 k5)
    have h15:=c15_core (lim:=lim) ha hchk k4 (fun a h=>(hA a h).sz) hK hF
    cases hr:redA C C (invS A R C) with
    | none=>
      rw [hr] at hred h14
      rw [hred] at h15
      exact ⟨noA,noP,22,h14,h15,hno _ (by omega),⟨_,_,_,_,_,_,_,_,rfl⟩,⟨_,_,_,_,_,_,_,rfl⟩⟩
    | some u=>
      rw [hr] at hred h14
      obtain ⟨v,hv,hl,hen⟩:=hred
      rw [hv] at h15
      dsimp only at h15
      have hl2:=hF.last (Nat.le_refl _) hv
      have e:=ans_eq hl hen
      have hsz:=ansD_Sz (m:=R) hl2.2
      rw [e] at h15 hsz
      have esd:shortD (ansL u C R) lim=shortB (ansL u C R) lim:=rfl
      rw [esd] at h15
      by_cases hsb:shortB (ansL u C R) lim=true
      · simp only [hsb,if_true] at h14 h15
        refine ⟨_,_,0,h14,h15,?_,⟨_,_,_,_,_,_,_,_,rfl⟩,⟨_,_,_,_,_,_,_,rfl⟩⟩
        have hal:(ansL u C R).length≤8*32:=by rw [ansL_len];exact Nat.mul_le_mul k5 k4
        have hy:=c13_yes (s:=s.reverse) (t:=[]) (ch:=false) (L:=(ansL u C R).map rR) (by simp;omega) (by simp) (by rw [List.length_map];omega) (fun x hx=>by
          obtain ⟨a,ha,rfl⟩:=List.mem_map.1 hx
          exact (hsz a ha).rtok (by omega))
        rw [List.map_map] at hy
        exact hy
      · simp only [hsb,if_false,Bool.false_eq_true] at h14 h15
        exact ⟨noA,noP,26,h14,h15,hno _ (by omega),⟨_,_,_,_,_,_,_,_,rfl⟩,⟨_,_,_,_,_,_,_,rfl⟩⟩
  · exact ⟨noA,noP,_,c14_bad ha.arr hchk,c15_bad ha hchk,hno _ hchk,⟨_,_,_,_,_,_,_,_,rfl⟩,⟨_,_,_,_,_,_,_,rfl⟩⟩
section
variable {s t s' t':List Int} {ch ch':Bool} {l l':List Nm} {z:Int}
theorem light_of (hs:∀d∈s,In64 d) (hu:∀x∈l,U8 x.2.1∧U8 x.2.2) (h:LightQ s ch t l):Go.V.Call tab E 11 [.agg (plX s ch t l)] [] (.agg (arrX s ch t (l.map toRt))) []:=by
  obtain ⟨_,l1,l2,l3,l4,hR⟩:=h
  have hU:∀x∈l,NmU x:=fun x hx=>⟨(hu x hx).1,(hu x hx).2,by have:=(l4 x hx).1;omega,by have:=(l4 x hx).2;omega⟩
  exact c11_ok hs (by omega) (by omega) (by omega) hU hR
theorem c4_ok (hs:∀d∈s,In64 d) (hu:∀x∈l,U8 x.2.1∧U8 x.2.2) (hz:0≤z∧z≤255):Go.V.Call tab E 4 [.agg (plX s ch t l),.int .u8 z] [] (.bool true) []:=by
  refine Go.V.Call.mach i4 c4 rfl rfl rfl rfl ?_
  have haw:=c9_awake
  have h8:=fun ok h=>c8_ok (s:=s) (t:=t) (l:=l) (ch:=ch) (ok:=ok) hs hu h
  by_cases hL:LightQ s ch t l
  · have g8:=h8 true ⟨fun _=>hL,fun _=>rfl⟩
    have h11:=light_of hs hu hL
    obtain ⟨R,C,A,ha,e1,e2,hA,hRC⟩:=light_pag hL
    obtain ⟨n,hn⟩:∃n:Nat,(n:Int)=z % 8:=⟨(z % 8).toNat,by omega⟩
    have f1:z.tmod 8=(n:Int):=by rw [Int.tmod_eq_emod_of_nonneg hz.1];omega
    have f2:IntKind.i64.wrap (n:Int)=(n:Int):=wrap_i64 (by omega) (by omega)
    have f3:IntKind.i64.wrap (1+(n:Int))=1+(n:Int):=wrap_i64 (by omega) (by omega)
    have f5:((8:Int)=0)=False:=by simp
    obtain ⟨o,g,f,p1,p2,p3,⟨_,_,_,_,_,_,_,_,rfl⟩,⟨_,_,_,_,_,_,_,rfl⟩⟩:=inv_shows (lim:=1+(n:Int)) hs ha hA hRC
    rw [e1] at h11
    rw [←e2] at p2
    generalize A.map rR=LA at *
    simp only [plX,arrX,runes,ints] at g8 h11 p1 p2
    simp only [c4,plX,runes,ints,go_sem,FL,subP4]
    refine goP g8 ?_
    simp only [go_sem,FL,subP4,f1,f2,f3,f5]
    refine goP h11 ?_
    simp only [go_sem,FL,subP4]
    refine goP p1 ?_
    simp only [go_sem,FL,subP4,subA5]
    refine goP p2 ?_
    simp only [go_sem,FL,subP4,subA5]
    refine goR p3 rfl ?_
    simp only [go_sem,FL]
    refine goP haw ?_
    simp only [go_sem]
    simp only [i4,OT,reduceIte,Nat.reduceEqDiff]
  · have g8:=h8 false ⟨fun h=>(by cases h),fun h=>absurd h hL⟩
    simp only [plX,runes,ints] at g8
    simp only [c4,plX,runes,ints,go_sem,FL,subP4]
    refine goP g8 ?_
    simp only [go_sem,FL,subP4]
    refine goP haw ?_
    simp only [go_sem]
    simp only [i4,OT,reduceIte,Nat.reduceEqDiff]
end
end Go.Proofs.YtlejgleocnemoabGreat.I
