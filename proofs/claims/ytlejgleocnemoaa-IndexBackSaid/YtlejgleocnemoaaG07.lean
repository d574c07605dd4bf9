/- The texts L11c L11d L11e L11f L11g L11w L11h L11i L02a L02b L02c L16a L16b L16c L11j L11k L11l L11m L11n, one behind the other. Conditions: each text's own. -/
import Derived.Test.YtlejgleocnemoaaG06
import Derived.Test.YtlejgleocnemoaaG04
set_option linter.unusedSimpArgs false
set_option linter.unusedVariables false
namespace Go.Proofs.Ytlejgleocnemoaa.I
open Go Go.V
attribute [local go_sem_proc ↓] reduceIte
attribute [local go_sem_proc] Nat.reduceEqDiff Nat.reduceAdd Nat.reduceMul Nat.reduceLeDiff Nat.reduceLT Int.reduceToNat Int.reduceLT Int.reduceLE reduceCtorEq Nat.reduceBEq
attribute [local go_sem] mNil nat0 beq_self_eq_true mSkip mRet mExit mReg mSeq mCond mTrue mFalse mBlock mLv mCodeE mCodeR mEndN mEndR mEndE mOps mSome mGuard mGtt mGff mGtf mGft mGu mCallP mCallR mCallF mCallO mCallZ mCallG mCallM mCallV loopQ_exit loopQ_ret mO_mov mO_newnil mO_pick mO_alloc mO_box mO_build mO_bsl mO_bslF mO_newnilB mO_bslB mO_lenB mO_appB mO_allocA mO_bslA mO_appA mO_ldb mO_faddrb mRsv mO_ldf mO_ld mO_st mO_sta mO_nilchk mO_bin mO_binb mO_binp mO_bins mO_neg mO_com mO_not mO_conv mO_mk mO_mk0 mO_mkB mO_s2b mO_b2s mO_cpy mO_cut mO_faddr mO_fld mO_iaddr mO_iaddrf mO_sidx mO_len mO_lenf mO_slen mO_scut mO_app mO_ext mO_mx mO_mn mO_mkfn evalOp cutOp argsE ev getE putE cellsOf adopt rowOf binV boolV nilV ar_add ar_sub ar_mul ar_quo ar_rem ar_eq ar_ne ar_lt ar_le ar_gt ar_ge ar_and ar_or ar_xor geto bound finRet finNrm ints List.length_cons List.length_nil List.length_append List.getElem?_cons_zero List.getElem?_cons_succ List.nil_append List.cons_append List.map_cons List.map_nil List.mapM_cons List.mapM_nil Option.map_some Option.map_none Option.bind_some Option.pure_def Option.bind_eq_bind List.drop_zero or_self or_false false_or or_true true_or true_and and_true and_self decide_true decide_false Bool.false_eq_true Bool.true_eq_false Bool.not_true Bool.not_false Nat.le_refl eq_self gt_iff_lt ge_iff_le ne_eq not_true_eq_false not_false_eq_true storeOp apartOf freeze_nil refsL refs List.flatMap_cons List.flatMap_nil List.append_nil List.contains_nil List.set_cons_zero List.set_cons_succ snap snapL fill_nums flat_nums nums_length Go.V.freeze List.mapIdx_cons List.mapIdx_nil List.contains_cons Bool.or_false Bool.false_or Bool.or_true Bool.true_or
def okB (x:SubN):Bool:=x.all || wholeB x.ch x.t (x.l.map toRt)
def vlS (x:SubN) (d o:Int):List Int:=if x.all then upL d.toNat o else (x.l.map toRt).map rv
def shS (x:SubN) (d:Int):List Int:=if x.all then [d] else x.s
def wV (s:List Int) (L:List SubN) (o:Int) (i:Nat):List Int:=vlS (sbAt L i) (s.getD i 0) o
def outS (s:List Int) (L:List SubN):Nat→List Int
  | 0=>[]
  | i+1=>outS s L i++shS (sbAt L i) (s.getD i 0)
def inB (d o v:Int):Bool:=decide (o≤v)&&decide (v - o<d)
def inAll (s:List Int) (L:List SubN) (o:Int):Bool:=(List.range L.length).all fun i=>(wV s L o i).all (inB (s.getD i 0) o)
def axE (s:List Int) (L:List SubN) (o:Int):Int:=
  if L.length≠s.length then 23 else if L.all okB=false then 22 else if inAll s L o=false then 25 else if 8<(outS s L L.length).length then 23 else if count (outS s L L.length)=none then 26 else 0
structure AxM (K:List AObj) (i:Nat) (f:Nat→Nat) (V:Nat→List Int):Prop where
  box:K[0]?=some ⟨true,24,1,i,i,(List.range i).map fun r=>.arr (f r) 0,false⟩
  row:∀r,r<i→K[f r]?=some (rowI (V r))
  inj:∀r s,r<i→s<i→f r=f s→r=s
theorem setLk {M Y:List AObj} {k:Nat} {o:AObj}:(M++Y).set (M.length+k) o=M++Y.set k o:=by
  rw [List.set_append_right _ _ (by omega)];congr 1;congr 1;omega
section
variable {K:List AObj} {i:Nat} {f:Nat→Nat} {V:Nat→List Int}
theorem AxM.app (h:AxM K i f V) (Y:List AObj):AxM (K++Y) i f V:=⟨getA h.box Y,fun r hr=>getA (h.row r hr) Y,h.inj⟩
theorem AxM.frz (h:AxM K i f V) {ns:List Nat} {m:Nat} (hm:0<m) (hf:∀r,r<i→f r<m) (hn:∀k,k<m→ns.contains k=false):AxM (Go.V.freeze ns K) i f V:=
  ⟨frz_get h.box (hn 0 hm),fun r hr=>frz_get (h.row r hr) (hn _ (hf r hr)),h.inj⟩
theorem AxM.hi (h:AxM K i f V) {p:Nat} {o:AObj} {m:Nat} (hm:0<m) (hf:∀r,r<i→f r<m) (hp:m≤p):AxM (K.set p o) i f V:=
  ⟨by rw [List.getElem?_set_ne (by omega)];exact h.box,fun r hr=>by rw [List.getElem?_set_ne (by have:=hf r hr;omega)];exact h.row r hr,h.inj⟩
theorem AxM.pos (h:AxM K i f V) {r:Nat} (hr:r<i):f r≠0:=fun e=>by
  have h1:=h.row r hr
  rw [e,h.box] at h1
  have:=congrArg AObj.box (Option.some.inj h1)
  simp [rowI] at this
theorem AxM.congr {V':Nat→List Int} (h:AxM K i f V) (he:∀r,r<i→V r=V' r):AxM K i f V':=⟨h.box,fun r hr=>by rw [←he r hr];exact h.row r hr,h.inj⟩
theorem AxM.add (h:AxM K i f V) {n:Nat} {l:List Int} (hn:K[n]?=some (rowI l)) (hf:∀r,r<i→f r<n) (h0:0<n) :
    AxM (K.set 0 ⟨true,24,1,i+1,i+1,((List.range i).map fun r=>.arr (f r) 0)++[.arr n 0],false⟩) (i+1) (fun r=>if r<i then f r else n) (fun r=>if r<i then V r else l):=by
  refine ⟨?_,fun r hr=>?_,fun r s hr hs he=>?_⟩
  · have e1:(List.range i).map (fun r=>AV.arr (f r) 0)=(List.range i).map fun r=>AV.arr (if r<i then f r else n) 0:=List.map_congr_left fun r hr=>by
      have:=List.mem_range.1 hr
      simp only [if_pos this]
    rw [List.getElem?_set_self (lt_of h.box),List.range_succ,List.map_append,e1]
    simp
  · by_cases hri:r<i
    · simp only [if_pos hri]
      rw [List.getElem?_set_ne (h.pos hri).symm]
      exact h.row r hri
    · simp only [if_neg hri]
      rw [List.getElem?_set_ne (by omega)]
      exact hn
  · by_cases h1:r<i
    · by_cases h2:s<i
      · simp only [if_pos h1,if_pos h2] at he
        exact h.inj r s h1 h2 he
      · simp only [if_pos h1,if_neg h2] at he
        have:=hf r h1
        omega
    · by_cases h2:s<i
      · simp only [if_neg h1,if_pos h2] at he
        have:=hf s h2
        omega
      · omega
theorem AxM.wr (h:AxM K i f V) {p:Nat} (hp:p<i) {l:List Int}:AxM (K.set (f p) (rowI l)) i f (fun r=>if r=p then l else V r):=by
  refine ⟨by rw [List.getElem?_set_ne (h.pos hp)];exact h.box,fun r hr=>?_,h.inj⟩
  by_cases hrp:r=p
  · subst hrp
    rw [if_pos rfl,List.getElem?_set_self (lt_of (h.row r hr))]
  · rw [if_neg hrp,List.getElem?_set_ne (fun e=>hrp (h.inj r p hr hp e.symm))]
    exact h.row r hr
theorem AxM.snp8 (h:AxM K i f V):snap K 8 (.arr 0 i)=some (rows ((List.range i).map V)):=by
  have e:∀r,r<i→snap K 6 (.arr (f r) 0)=some (ints (V r)):=fun r hr=>(snap_arr (k:=5) (h.row r hr) rfl).trans rfl
  rw [snap_arr (k:=7) h.box rfl]
  have e2:snapL K 7 true ((List.range i).map fun r=>AV.arr (f r) 0)=((List.range i).map fun r=>AV.arr (f r) 0).mapM (snap K 6):=rfl
  have e3:∀l:List Nat,(∀r∈l,r<i)→(l.map fun r=>AV.arr (f r) 0).mapM (snap K 6)=some (l.map fun r=>ints (V r)):=fun l=>by
    induction l with
    | nil=>intro _;rfl
    | cons a l ih=>
      intro hl
      rw [List.map_cons,List.mapM_cons,e a (hl a (by simp)),ih (fun r hr=>hl r (by simp [hr]))]
      rfl
  rw [e2,e3 _ (fun r hr=>List.mem_range.1 hr)]
  simp only [Option.map_some,rows,List.length_map,List.length_range,List.map_map]
  rfl
theorem sub_ax {r:Nat} (hr:r<i):sub false 1 ((List.range i).map fun r=>AV.arr (f r) 0) (r*1)=some (.arr (f r) 0):=by
  simp only [sub,List.length_map,List.length_range,Nat.mul_one,Bool.false_eq_true,if_false,if_true]
  rw [if_pos (by omega)]
  simp [hr]
end
def mixV (W:Nat→List Int) (o:Int) (i k:Nat):Nat→List Int:=fun r=>if r<i then (W r).map (· - o) else if r=i then ((W r).take k).map (· - o)++(W r).drop k else W r
theorem mixV_len {W:Nat→List Int} {o:Int} {i k:Nat} (hk:k≤(W i).length):(mixV W o i k i).length=(W i).length:=by
  unfold mixV
  rw [if_neg (by omega),if_pos rfl,List.length_append,List.length_map,List.length_take,List.length_drop]
  omega
theorem mixV_get {W:Nat→List Int} {o:Int} {i k:Nat} (hk:k<(W i).length):(mixV W o i k i).getD k 0=(W i).getD k 0:=by
  unfold mixV
  rw [if_neg (by omega),if_pos rfl]
  simp only [List.getD]
  rw [List.getElem?_append_right (by simp;omega)]
  simp [show min k (W i).length=k by omega]
theorem mixV_put {W:Nat→List Int} {o:Int} {i k:Nat} (hk:k<(W i).length):(mixV W o i k i).take k++((W i).getD k 0 - o)::(mixV W o i k i).drop (k+1)=mixV W o i (k+1) i:=by
  unfold mixV
  rw [if_neg (by omega),if_pos rfl,if_neg (by omega),if_pos rfl]
  have h1:(((W i).take k).map (· - o)).length=k:=by simp;omega
  rw [List.take_append_of_le_length (by omega),List.take_of_length_le (by omega),List.drop_append,List.drop_eq_nil_of_le (by omega),List.nil_append,h1,List.drop_drop,takeAt (d:=0) hk,List.map_append,List.append_assoc]
  congr 2
  rw [show k+(k+1 - k)=k+1 by omega]
  rfl
theorem mixV_zero {W:Nat→List Int} {o:Int}:mixV W o 0 0=W:=by
  funext r
  unfold mixV
  rw [if_neg (by omega)]
  split
  · simp
  · rfl
theorem mixV_next {W:Nat→List Int} {o:Int} {i:Nat}:mixV W o i (W i).length=mixV W o (i+1) 0:=by
  funext r
  unfold mixV
  by_cases h1:r<i
  · rw [if_pos h1,if_pos (by omega)]
  · rw [if_neg h1]
    by_cases h2:r=i
    · subst h2
      rw [if_pos rfl,if_pos (by omega)]
      simp
    · rw [if_neg h2,if_neg (by omega)]
      split
      · simp
      · rfl
theorem c63_two {s out:List Int} {o:Int} {n:Nat} {W:Nat→List Int} {M:List AObj} {f:Nat→Nat} {R:AV} {env:Env} (hA:AxM M n f W) (hn:n=s.length) (hn8:n≤8) (ho:0≤o∧o≤1) (hlen:∀i,i<n→(W i).length≤4096) (hin:∀i,i<n→∀v∈W i,In64 v)
    (hbad:(∃i,i<n∧∃v,v∈W i∧inB (s.getD i 0) o v=false)→R=.tup [.sl 0 1 [],.sl 0 1 [],.int .i64 25])
    (e0:getE env 0=ints s) (e1:getE env 1=.int .i64 o) (e9:getE env 9=.arr 0 n) (e10:getE env 10=ints out) (e62:getE env 62=.arr 0 n) (e63:getE env 63=.int .i64 n) (e64:getE env 64=.int .i64 0)
    (hgo:∀M',(∀i,i<n→∀v∈W i,inB (s.getD i 0) o v=true)→AxM M' n f (fun i=>(W i).map (· - o))→Mach (Go.V.Call tab E) (Go.V.Fin i63 [] R []) [.code k63_1] .nrm ⟨[(0,ints s),(1,.int .i64 o),(9,.arr 0 n),(10,ints out),(62,.arr 0 n),(63,.int .i64 n),(64,.int .i64 n),(65,.bool false)],M'⟩) :
    Mach (Go.V.Call tab E) (Go.V.Fin i63 [] R []) (.code (.loop [0,1,9,10,62,63,64] none b63_1)::.endb 2::[.code k63_1]) .nrm ⟨env,M⟩:=by
  refine mLoop (fun N st=>∃(i:Nat) (K:List AObj),i≤n∧N=n - i∧(∀j,j<i→∀v∈W j,inB (s.getD j 0) o v=true)∧AxM K n f (mixV W o i 0)∧
    st=⟨[(0,ints s),(1,.int .i64 o),(9,.arr 0 n),(10,ints out),(62,.arr 0 n),(63,.int .i64 n),(64,.int .i64 i)],K⟩) n
    ⟨_,rfl,0,M,by omega,by omega,fun j hj=>by omega,by rw [mixV_zero];exact hA,by simp only [List.map_cons,List.map_nil,e0,e1,e9,e10,e62,e63,e64];rfl⟩ ?_
  clear hA
  rintro N s0 ⟨i,K,hi,rfl,hdone,hK,rfl⟩
  by_cases hin':i<n
  · have hi':(i:Int)<(n:Int):=by omega
    have hi0:(0:Int)≤(i:Int):=by omega
    have hi1:IntKind.i64.wrap ((i:Int)+1)=((i+1:Nat):Int):=by rw [wrap_i64 (by omega) (by omega)];omega
    have his:(i:Int)<(s.length:Int):=by omega
    have hb:=hK.box
    have hr:=hK.row i hin'
    have g1:=sub_ax (f:=f) hin'
    have gs:=sub_nums (k:=.i64) (l:=s) (i:=i) (by omega)
    have hml:=mixV_len (W:=W) (o:=o) (i:=i) (k:=0) (by omega)
    have hWl:=hlen i hin'
    simp only [rowI,hml] at hr
    simp only [b63_1,ints,go_sem,FL,mapIA,hi',hi0,hb,g1,hr,Int.toNat_natCast]
    refine mLoop (fun N st=>∃(k:Nat) (K:List AObj),k≤(W i).length∧N=(W i).length - k∧(∀q,q<k→inB (s.getD i 0) o ((W i).getD q 0)=true)∧AxM K n f (mixV W o i k)∧
      st=⟨[(0,ints s),(1,.int .i64 o),(9,.arr 0 n),(10,ints out),(15,.int .i64 i),(16,.arr (f i) 0),(62,.arr 0 n),(63,.int .i64 n),(64,.int .i64 i),(69,.arr (f i) 0),(70,.int .i64 (W i).length),(71,.int .i64 k)],K⟩) (W i).length
      ⟨_,rfl,0,K,by omega,by omega,fun q hq=>by omega,hK,rfl⟩ ?_
    clear hK hb hr hml
    rintro N s0 ⟨k,K,hk,rfl,hq,hK,rfl⟩
    by_cases hkl:k<(W i).length
    · have hk':(k:Int)<((W i).length:Int):=by omega
      have hk0:(0:Int)≤(k:Int):=by omega
      have hk1:IntKind.i64.wrap ((k:Int)+1)=((k+1:Nat):Int):=by rw [wrap_i64 (by omega) (by omega)];omega
      have hr:=hK.row i hin'
      have hml:=mixV_len (W:=W) (o:=o) (i:=i) (k:=k) (by omega)
      have g2:=sub_nums (k:=.i64) (l:=mixV W o i k i) (i:=k) (by omega)
      rw [mixV_get hkl] at g2
      have hput:=mixV_put (W:=W) (o:=o) (i:=i) hkl
      have hmem:(W i).getD k 0∈W i:=by simp [List.getD,hkl]
      have hv:=hin i hin' _ hmem
      have hwr:=hK.wr hin' (l:=mixV W o i (k+1) i)
      have hwr2:=hwr.congr (V':=mixV W o i (k+1)) (fun r _=>by
        by_cases hri:r=i
        · subst hri;rw [if_pos rfl]
        · rw [if_neg hri]
          unfold mixV
          by_cases h1:r<i
          · rw [if_pos h1,if_pos h1]
          · rw [if_neg h1,if_neg h1,if_neg hri,if_neg hri])
      have hml2:=mixV_len (W:=W) (o:=o) (i:=i) (k:=k+1) (by omega)
      simp only [rowI,hml] at hr
      rw [rowI,hml2] at hwr2
      have hln:k*1+1≤(mixV W o i k i).length:=by rw [hml];omega
      clear hwr
      generalize hve:(W i).getD k 0=v at *
      by_cases hlo:v<o
      · have:=hbad ⟨i,hin',v,hmem,by unfold inB;rw [decide_eq_false (by omega)];rfl⟩
        subst this
        simp only [b63_2,ints,go_sem,FL,mapIA,hk',hk0,hr,g2,Int.toNat_natCast,hlo]
        simp only [i63,OT,reduceIte,Nat.reduceEqDiff]
      · have hw:IntKind.i64.wrap (v - o)=v - o:=wrap_i64 (by have:=hv.2;omega) (by have:=hv.2;omega)
        by_cases hhi:s.getD i 0≤v - o
        · have:=hbad ⟨i,hin',v,hmem,by unfold inB;rw [decide_eq_true (by omega),decide_eq_false (by omega)];rfl⟩
          subst this
          simp only [b63_2,ints,go_sem,FL,mapIA,hk',hk0,hr,g2,Int.toNat_natCast,hlo,hw,hi0,his,gs,hhi]
          simp only [i63,OT,reduceIte,Nat.reduceEqDiff]
        · have hinb:inB (s.getD i 0) o v=true:=by unfold inB;rw [decide_eq_true (by omega),decide_eq_true (by omega)];rfl
          simp only [b63_2,ints,go_sem,mapIA,hk',hk0,hr,g2,Int.toNat_natCast,hlo,hw,hi0,his,gs,hhi,hput,hln,hk1]
          refine loopQ_go rfl ((W i).length - (k+1)) (by omega) ⟨k+1,_,by omega,rfl,fun q hqk=>?_,hwr2,rfl⟩
          by_cases hqe:q=k
          · subst hqe;rw [hve];exact hinb
          · exact hq q (by omega)
    · obtain rfl:k=(W i).length:=by omega
      rw [mixV_next] at hK
      simp only [b63_2,k63_0,ints,go_sem,Int.lt_irrefl,hi1]
      refine loopQ_go rfl (n - (i+1)) (by omega) ⟨i+1,K,by omega,rfl,fun j hj v hv=>?_,hK,rfl⟩
      by_cases hji:j=i
      · subst hji
        obtain ⟨q,hql,rfl⟩:=List.getElem_of_mem hv
        have:=hq q hql
        simpa [List.getD,hql] using this
      · exact hdone j (by omega) v hv
  · obtain rfl:i=n:=by omega
    have:=hgo K hdone (hK.congr fun r hr=>by unfold mixV;rw [if_pos hr])
    simp only [b63_1,ints,go_sem,Int.lt_irrefl] at this ⊢
    exact this
structure SubL (s:List Int) (L:List SubN):Prop where
  s64:∀x∈L,∀d∈x.s,In64 d
  u8:∀x∈L,∀y∈x.l,U8 y.2.1∧U8 y.2.2
  li:∀x∈L,LightP x.s x.ch x.t x.l 60
  l20:L.length≤20
  dim:∀d∈s,0≤d∧d≤4096
  sl:s.length≤8
theorem SubL.nn {s:List Int} {L:List SubN} (h:SubL s L) {i:Nat}:0≤s.getD i 0∧s.getD i 0≤4096:=by
  by_cases hi:i<s.length
  · exact h.dim _ (by simp [List.getD,hi])
  · rw [show s.getD i 0=0 by simp [List.getD,show s[i]?=none from List.getElem?_eq_none (by omega)]]
    exact ⟨by omega,by omega⟩
theorem SubL.wlen {s:List Int} {L:List SubN} {o:Int} (h:SubL s L) {i:Nat} (hi:i<L.length):(wV s L o i).length≤4096:=by
  unfold wV vlS
  have:=(h.nn (i:=i)).2
  split
  · rw [upL_len];omega
  · have:=(h.li _ (sbAt_mem hi)).2.1
    simp;omega
theorem SubL.w64 {s:List Int} {L:List SubN} {o:Int} (ho:0≤o∧o≤1) (h:SubL s L) {i:Nat}:∀v∈wV s L o i,In64 v:=fun v hv=>by
  unfold wV vlS at hv
  have:=h.nn (i:=i)
  split at hv
  · obtain ⟨j,hj,rfl⟩:=List.mem_map.1 hv
    have:=List.mem_range.1 hj
    exact ⟨by omega,by omega⟩
  · obtain ⟨x,_,rfl⟩:=List.mem_map.1 hv
    exact rv_64
theorem outS_len {s:List Int} {L:List SubN} (h:SubL s L):∀{i:Nat},i≤L.length→(outS s L i).length≤i*8
  | 0,_=>by simp [outS]
  | i+1,hi=>by
    have ih:=outS_len h (i:=i) (by omega)
    have:=(h.li _ (sbAt_mem (show i<L.length by omega))).2.2.1
    rw [outS,List.length_append]
    unfold shS
    split
    · simp;omega
    · omega
theorem outS_64 {s:List Int} {L:List SubN} (h:SubL s L):∀{i:Nat},i≤L.length→∀d∈outS s L i,In64 d
  | 0,_,d,hd=>by simp [outS] at hd
  | i+1,hi,d,hd=>by
    rw [outS] at hd
    rcases List.mem_append.1 hd with hd|hd
    · exact outS_64 h (by omega) d hd
    · unfold shS at hd
      split at hd
      · obtain rfl:=List.mem_singleton.1 hd
        have:=h.nn (i:=i)
        exact ⟨by omega,by omega⟩
      · exact h.s64 _ (sbAt_mem (by omega)) d hd
theorem axE_rank {s:List Int} {L:List SubN} {o:Int} (h:L.length≠s.length):axE s L o=23:=if_pos h
theorem axE_dom {s:List Int} {L:List SubN} {o:Int} (h:L.length=s.length) {i:Nat} (hi:i<L.length) (hb:okB (sbAt L i)=false):axE s L o=22:=by
  unfold axE
  have:L.all okB=false:=by
    rw [←Bool.not_eq_true,List.all_eq_true]
    intro hh
    rw [hh _ (sbAt_mem hi)] at hb
    cases hb
  rw [if_neg (by omega),if_pos this]
theorem all_ok {L:List SubN} (h:∀i,i<L.length→okB (sbAt L i)=true):L.all okB=true:=by
  rw [List.all_eq_true]
  intro x hx
  obtain ⟨i,hi,rfl⟩:=List.getElem_of_mem hx
  have:=h i hi
  simpa [sbAt,List.getD,hi] using this
theorem inAll_true {s:List Int} {L:List SubN} {o:Int} (h:∀i,i<L.length→∀v∈wV s L o i,inB (s.getD i 0) o v=true):inAll s L o=true:=by
  unfold inAll
  rw [List.all_eq_true]
  intro i hi
  rw [List.all_eq_true]
  exact h i (List.mem_range.1 hi)
theorem axE_idx {s:List Int} {L:List SubN} {o:Int} (h:L.length=s.length) (ha:∀i,i<L.length→okB (sbAt L i)=true) (hb:∃i,i<L.length∧∃v,v∈wV s L o i∧inB (s.getD i 0) o v=false):axE s L o=25:=by
  unfold axE
  have:inAll s L o=false:=by
    obtain ⟨i,hi,v,hv,hf⟩:=hb
    unfold inAll
    rw [←Bool.not_eq_true,List.all_eq_true]
    intro hh
    have:=hh i (List.mem_range.2 hi)
    rw [List.all_eq_true] at this
    rw [this v hv] at hf
    cases hf
  rw [if_neg (by omega),if_neg (by rw [all_ok ha];simp),if_pos this]
theorem axE_end {s:List Int} {L:List SubN} {o:Int} (h:L.length=s.length) (ha:∀i,i<L.length→okB (sbAt L i)=true) (hb:∀i,i<L.length→∀v∈wV s L o i,inB (s.getD i 0) o v=true) :
    axE s L o=if 8<(outS s L L.length).length then 23 else if count (outS s L L.length)=none then 26 else 0:=by
  unfold axE
  rw [if_neg (by omega),if_neg (by rw [all_ok ha];simp),if_neg (by rw [inAll_true hb];simp)]
def axR (s:List Int) (L:List SubN) (o:Int):AV:=.tup [if axE s L o=0 then rows ((List.range L.length).map fun i=>(wV s L o i).map (· - o)) else .sl 0 1 [],if axE s L o=0 then ints (outS s L L.length) else .sl 0 1 [],.int .i64 (axE s L o)]
theorem axR_err {s:List Int} {L:List SubN} {o:Int} {e:Int} (h:axE s L o=e) (he:e≠0):axR s L o=.tup [.sl 0 1 [],.sl 0 1 [],.int .i64 e]:=by
  unfold axR
  rw [h,if_neg he,if_neg he]
theorem out_ax {n:Nat} {M:List AObj} {V:List (List Int)} {m:Nat} {cs:List AV} {r:Env} (h:snap M 8 (.arr 0 n)=some (rows V)) :
    Out i63 [] (.tup [rows V,.sl m 1 cs,.int .i64 0]) [] ⟨(8,.int .i64 0)::(7,.sl m 1 cs)::(6,.arr 0 n)::r,M⟩:=by
  unfold Out
  have h3:resAll ⟨(8,.int .i64 0)::(7,.sl m 1 cs)::(6,.arr 0 n)::r,M⟩ i63.res=some (.tup [.arr 0 n,.sl m 1 cs,.int .i64 0]):=rfl
  rw [h3]
  refine ⟨rfl,rfl,?_⟩
  show (([AV.arr 0 n,.sl m 1 cs,.int .i64 0].mapM (snap M 8)).map AV.tup)=_
  simp only [List.mapM_cons,List.mapM_nil,h]
  rfl
theorem subS0 {a b c d e f:AV}:sub false 1 [a,b,c,d,e,f] 0=some a:=rfl
theorem subS1 {a b c d e f:AV}:sub true 5 [a,b,c,d,e,f] 1=some (.agg [b,c,d,e,f]):=rfl
theorem subS1' {a b c d e f:AV}:sub true 5 [a,b,c,d,e,f] (0+1)=some (.agg [b,c,d,e,f]):=rfl
set_option maxHeartbeats 4000000 in
theorem c63_ok {s:List Int} {L:List SubN} {o:Int} (ho:0≤o∧o≤1) (hS:SubL s L) :
    Go.V.Call tab E 63 [ints s,.int .i64 o,.sl L.length 6 (sbsA L)] [] (axR s L o) []:=by
  refine Go.V.Call.mach i63 c63 rfl rfl rfl rfl ?_
  have hsl:=hS.sl
  have hl20:=hS.l20
  by_cases hln:L.length=s.length
  case neg=>
    rw [axR_err (axE_rank hln) (by omega)]
    have hne:((L.length:Int) != (s.length:Int))=true:=by rw [bne_iff_ne];omega
    simp only [c63,ints,go_sem,FL,hne]
    simp only [i63,OT,reduceIte,Nat.reduceEqDiff]
  have hne:((L.length:Int) != (s.length:Int))=false:=by rw [bne_eq_false_iff_eq];omega
  have hon:∀i,i<L.length→In64 (s.getD i 0):=fun i hi=>by have:=hS.nn (i:=i);exact ⟨by omega,by omega⟩
  simp only [c63,ints,go_sem,FL,hne]
  refine mLoop (fun N st=>∃(i:Nat) (K:List AObj) (f:Nat→Nat),i≤L.length∧N=L.length - i∧(∀j,j<i→okB (sbAt L j)=true)∧AxM K i f (wV s L o)∧
    st=⟨[(0,ints s),(1,.int .i64 o),(9,.arr 0 i),(10,ints (outS s L i)),(26,.sl L.length 6 (sbsA L)),(27,.int .i64 L.length),(28,.int .i64 i)],K⟩) L.length
    ⟨_,rfl,0,[⟨true,24,1,0,0,[],false⟩],fun _=>0,by omega,by omega,fun j hj=>by omega,⟨rfl,fun r hr=>by omega,fun r s hr=>by omega⟩,by simp [getE,outS,ints,nums]⟩ ?_
  rintro N s0 ⟨i,K,f,hi,rfl,hdone,hK,rfl⟩
  by_cases hin:i<L.length
  · have hi':(i:Int)<(L.length:Int):=by omega
    have hi0:(0:Int)≤(i:Int):=by omega
    have his:(i:Int)<(s.length:Int):=by omega
    have hi1:IntKind.i64.wrap ((i:Int)+1)=((i+1:Nat):Int):=by rw [wrap_i64 (by omega) (by omega)];omega
    have hx:=sbA_at hin
    have hm:=sbAt_mem hin
    have hli:=hS.li _ hm
    have gs:=sub_nums (k:=.i64) (l:=s) (i:=i) (by omega)
    have hK0:=lt_of hK.box
    have hf:∀r,r<i→f r<K.length:=fun r hr=>lt_of (hK.row r hr)
    have hout:=outS_len hS (i:=i) (by omega)
    obtain ⟨D,hD⟩:∃D:Nat,s.getD i 0=(D:Int):=Int.eq_ofNat_of_zero_le (hS.nn (i:=i)).1
    have hD4:D≤4096:=by have:=(hS.nn (i:=i)).2;omega
    obtain ⟨s1,ch1,t1,l1,hq⟩:∃s1 ch1 t1 l1,(s1,ch1,t1,l1)=(if (sbAt L i).all then ([(D:Int)],false,([]:List Int),(upL D o).map zR) else ((sbAt L i).s,(sbAt L i).ch,(sbAt L i).t,(sbAt L i).l.map toRt)):=⟨_,_,_,_,rfl⟩
    have hup64:∀z∈upL D o,In64 z:=fun z hz=>by
      obtain ⟨j,hj,rfl⟩:=List.mem_map.1 hz
      have:=List.mem_range.1 hj
      exact ⟨by omega,by omega⟩
    have hs1:shS (sbAt L i) (s.getD i 0)=s1:=by
      unfold shS
      cases ha:(sbAt L i).all with
      | true=>rw [ha] at hq;simp only [if_true,Prod.mk.injEq] at hq;rw [if_pos rfl,hq.1,hD]
      | false=>rw [ha] at hq;simp only [Bool.false_eq_true,if_false,Prod.mk.injEq] at hq;rw [if_neg (by simp),hq.1]
    have hw1:okB (sbAt L i)=wholeB ch1 t1 l1∧(okB (sbAt L i)=true→l1.map rv=wV s L o i)∧t1.length≤60∧l1.length≤4096∧s1.length≤8:=by
      unfold okB wV vlS
      cases ha:(sbAt L i).all with
      | true=>
        rw [ha] at hq
        simp only [if_true,Prod.mk.injEq] at hq
        obtain ⟨rfl,rfl,rfl,rfl⟩:=hq
        refine ⟨?_,fun _=>?_,by simp,by rw [List.length_map,upL_len];omega,by simp⟩
        · rw [Bool.true_or]
          symm
          rw [wholeB_iff]
          refine ⟨by simp,fun x hx=>?_⟩
          obtain ⟨z,hz,rfl⟩:=List.mem_map.1 hx
          rw [rint_zR (hup64 z hz)];rfl
        · rw [if_pos rfl,map_rv_zR hup64,hD]
          rfl
      | false=>
        rw [ha] at hq
        simp only [Bool.false_eq_true,if_false,Prod.mk.injEq] at hq
        obtain ⟨rfl,rfl,rfl,rfl⟩:=hq
        refine ⟨by rw [Bool.false_or],fun _=>by rw [if_neg (by simp)],by have:=hli.1;omega,by have:=hli.2.1;rw [List.length_map];omega,hli.2.2.1⟩
    obtain ⟨hw0,hw1,ht60,hl60,hs8⟩:=hw1
    have h100:=fun okk h=>c91_X (s:=s1) (t:=t1) (l:=l1) (ch:=ch1) (ok:=okk) (by omega) (by omega) h
    have h48:=c44_X (s:=s1) (t:=t1) (l:=l1) (ch:=ch1) (by omega)
    have h69:=c43_ok (L:=[outS s L i,s1]) (by simp) (by simp [lensum];omega)
    have h109:=c120_ok (n:=D) (o:=o) hD4 ho
    have h45:=c11_X (l:=upL D o) (by rw [upL_len];omega) hup64
    have hob:outS s L (i+1)=outS s L i++s1:=by rw [outS,hs1]
    have hkx:okB (sbAt L i)=true→(∀j,j<i+1→okB (sbAt L j)=true):=fun h j hj=>by
      by_cases hji:j=i
      · subst hji;exact h
      · exact hdone j (by omega)
    have hdomx:okB (sbAt L i)=false→axE s L o=22:=fun h=>axE_dom hln hin h
    have hall:(sbAt L i).all=true→(s1,ch1,t1,l1)=([(D:Int)],false,([]:List Int),(upL D o).map zR):=fun h=>by rw [hq,if_pos h]
    have hnal:(sbAt L i).all=false→sbA (sbAt L i)=.bool false::arrX s1 ch1 t1 l1:=fun h=>by
      rw [h] at hq
      simp only [Bool.false_eq_true,if_false,Prod.mk.injEq] at hq
      obtain ⟨rfl,rfl,rfl,rfl⟩:=hq
      rw [sbA,h]
    have hyal:(sbAt L i).all=true→∃a b c d,sbA (sbAt L i)=.bool true::arrX a b c d:=fun h=>⟨_,_,_,_,by rw [sbA,h]⟩
    rw [hD] at gs
    clear hq hli hs1 hup64 hon hS
    generalize sbAt L i=x at *
    simp only [arrX,runes,ints] at h100 h48
    simp only [upL_len,ints,arrX,runes] at h45
    simp only [rows,List.map_cons,List.map_nil,ints,List.length_cons,List.length_nil,Nat.zero_add,Nat.reduceAdd,List.flatten_cons,List.flatten_nil,List.append_nil,←hob] at h69
    simp only [rowI,upL_len] at h109
    have hw1:=hw1
    generalize hop2:(⟨some 60,.callF 43 [.t 59],none⟩:IOp)=op2
    cases hal:x.all
    case' true=>
      obtain ⟨a1,b1,d1,e1,hsb⟩:=hyal hal
      have hall:=hall hal
      simp only [Prod.mk.injEq] at hall
      obtain ⟨rfl,rfl,rfl,rfl⟩:=hall
      rw [hsb] at hx
      simp only [arrX,runes,ints] at hx
      generalize hop:(⟨some 41,.callF 11 [.t 40],none⟩:IOp)=op
      simp only [b63_0,hop,hop2,ints,go_sem,FL,mapIA,hi',hi0,hx,Int.toNat_natCast,List.append_assoc,getLk,setLk,Nat.add_assoc,his,gs,subS0]
      refine goO h109 rfl rfl ?_
      simp only [go_sem,FL,mapIA,List.append_assoc]
      subst hop
      refine goF_at (vs:=[.sl D 1 (nums .i64 (upL D o))]) (snap1 ?_) h45 ?_
      · exact (snap_arr (k:=9) (ob:=⟨false,3,1,0,D,nums .i64 (upL D o),false⟩) (getLs 4 (by rfl)) rfl).trans rfl
      refine (fun (hk:∀M1:List AObj,AxM M1 i f (wV s L o)→M1[K.length+3]?=some ⟨true,97,6,0,1,.bool true::[.sl a1.length 1 (nums .i64 a1),.bool b1,.sl d1.length 1 (nums .i32 d1),.sl e1.length 3 (rtsC e1),.bool true],false⟩→K.length+5≤M1.length→Mach _ _ _ _ ⟨_,M1⟩)=>hk _ ((hK.app _).frz hK0 hf fun k hk=>notin1 ?_) (frz_get (getLs 3 (by rfl)) (notin1 ?_)) ?_) fun M1 hA1 hb1 hl1=>?_
      · exact refs_row (o:=⟨false,3,1,0,D,nums .i64 (upL D o),false⟩) (getLs 4 (by rfl)) rfl (by omega)
      · exact refs_row (o:=⟨false,3,1,0,D,nums .i64 (upL D o),false⟩) (getLs 4 (by rfl)) rfl (by omega)
      · simp [Go.V.freeze]
      have q1:=fun o':AObj=>getS (o':=o') hb1
      simp only [go_sem,FL,mapIA,hb1,q1,subS1,subS1',List.length_map,upL_len]
      refine (fun (hk:∀M:List AObj,AxM M i f (wV s L o)→M[K.length+3]?=some ⟨true,97,6,0,1,[.bool true,.sl 1 1 (nums .i64 [(D:Int)]),.bool false,.sl 0 1 (nums .i32 []),.sl D 3 (rtsC ((upL D o).map zR)),.bool true],false⟩→K.length+4≤M.length→MachA _ _ _ _ _ _ _ _ _ ⟨_,M⟩)=>hk _ (hA1.hi hK0 hf (by omega)) (q1 _) (by simp;omega)) fun M hA hb hl=>?_
      simp only [List.length_cons,List.length_nil,Nat.zero_add,List.length_map,upL_len] at h100 h48
    case' false=>
      rw [hnal hal] at hx
      simp only [arrX,runes,ints] at hx
      simp only [b63_0,hop2,ints,go_sem,FL,mapIA,hi',hi0,hx,Int.toNat_natCast,List.append_assoc,getLk,setLk,Nat.add_assoc,subS0,subS1,subS1']
      refine (fun (hk:∀M:List AObj,AxM M i f (wV s L o)→M[K.length+3]?=some ⟨true,97,6,0,1,[.bool false,.sl s1.length 1 (nums .i64 s1),.bool ch1,.sl t1.length 1 (nums .i32 t1),.sl l1.length 3 (rtsC l1),.bool true],false⟩→K.length+4≤M.length→MachA _ _ _ _ _ _ _ _ _ ⟨_,M⟩)=>hk _ (hK.app _) (getLs 3 (by rfl)) (by simp)) fun M hA hb hl=>?_
    all_goals
      have h:=h100 (okB x) (by rw [hw0];first|exact wholeB_iff|(rw [wholeB_iff];simp only [List.length_nil,List.length_map,upL_len,Nat.zero_add]))
      cases hok:okB x
      case false=>
        rw [hok] at h
        rw [axR_err (hdomx hok) (by omega)]
        refine goO h rfl rfl ?_
        simp only [go_sem,FL,mapIA]
        simp only [i63,OT,reduceIte,Nat.reduceEqDiff]
      case true=>
        rw [hok] at h
        have hw2:=hw1 hok
        have hkx:=hkx hok
        rw [if_pos rfl,hw2] at h
        have hM0:=hA.box
        have n0:=fun Y=>getA hM0 Y
        have nbx:=fun o Y=>getA0 hb (by omega) o Y
        have y1:(i+1)*24≤140737488355328:=by omega
        have y2:i+1≤140737488355328:=by omega
        have hfM:∀r,r<i→f r<M.length:=fun r hr=>lt_of (hA.row r hr)
        have hadd:=fun Y=>((hA.app (rowI (wV s L o i)::Y)).add (n:=M.length) (l:=wV s L o i) getL hfM (by omega)).congr (V':=wV s L o) (fun r hr=>by
          by_cases hri:r<i
          · rw [if_pos hri]
          · obtain rfl:r=i:=by omega
            rw [if_neg hri])
        simp only [rowI] at h hadd
        refine goO h rfl rfl ?_
        simp only [go_sem,FL,mapIA,List.append_assoc,getLk,getL,setLk,Nat.add_assoc,n0,nbx,y1,y2,subS1,subS1',List.flatten_cons,List.flatten_nil,List.append_nil]
        refine goF h48 ?_
        refine (fun (hk:∀(M5:List AObj) (f':Nat→Nat),AxM M5 (i+1) f' (wV s L o)→Mach _ _ _ _ ⟨_,M5⟩)=>hk _ _ (by rw [freeze_nil];exact hadd _)) fun M5 f' hA5=>?_
        have hf5:∀r,r<i+1→f' r<M5.length:=fun r hr=>lt_of (hA5.row r hr)
        have h05:=lt_of hA5.box
        simp only [go_sem,FL,mapIA,List.flatten_cons,List.flatten_nil,List.append_nil]
        subst hop2
        refine goF_at (snap1 ?_) h69 ?_
        · exact (snap_arr (k:=9) getL rfl).trans rfl
        refine (fun (hk:∀M6:List AObj,AxM M6 (i+1) f' (wV s L o)→Mach _ _ _ _ ⟨_,M6⟩)=>hk _ ((hA5.app _).frz h05 hf5 fun k hk=>notin1 ?_)) fun M6 hA6=>?_
        · exact refs_rows getL (by omega)
        simp only [go_sem,hi1]
        exact loopQ_go rfl (L.length - (i+1)) (by omega) ⟨i+1,M6,f',by omega,rfl,hkx,hA6,rfl⟩
  · obtain rfl:i=L.length:=by omega
    have hM0:=hK.box
    have hnn:L.length=s.length:=hln
    have hout:=outS_len hS (i:=L.length) (Nat.le_refl _)
    have h90:=c83_ok (E:=I.E) (s:=outS s L L.length) (outS_64 hS (Nat.le_refl _)) (by omega)
    simp only [b63_0,k63_2,ints,go_sem,FL,Int.lt_irrefl,hM0]
    refine c63_two (o:=o) (out:=outS s L L.length) hK hln (by omega) ho (fun i hi=>hS.wlen hi) (fun i hi=>hS.w64 ho) (fun hb=>axR_err (axE_idx hln hdone hb) (by omega)) rfl rfl rfl rfl rfl rfl rfl ?_
    intro M' hin hA
    have hE:=axE_end hln hdone hin
    have hsn:=hA.snp8
    by_cases h8:8<(outS s L L.length).length
    · rw [if_pos h8] at hE
      rw [axR_err hE (by omega)]
      have h8':(8:Int)<((outS s L L.length).length:Int):=by omega
      simp only [k63_1,ints,go_sem,FL,h8']
      simp only [i63,OT,reduceIte,Nat.reduceEqDiff]
    rw [if_neg h8] at hE
    have h8':¬(8:Int)<((outS s L L.length).length:Int):=by omega
    by_cases hc:count (outS s L L.length)=none
    · rw [if_pos hc] at hE
      rw [axR_err hE (by omega)]
      rw [hc,optP] at h90
      simp only [ints] at h90
      simp only [k63_1,ints,go_sem,FL,h8']
      refine goP h90 ?_
      simp only [go_sem,FL]
      simp only [i63,OT,reduceIte,Nat.reduceEqDiff]
    · rw [if_neg hc] at hE
      obtain ⟨m,hm⟩:=Option.ne_none_iff_exists'.1 hc
      rw [hm,optP] at h90
      unfold axR
      rw [hE,if_pos rfl,if_pos rfl]
      generalize outS s L L.length=out at *
      simp only [ints] at h90
      simp only [k63_1,ints,go_sem,FL,h8']
      refine goP h90 ?_
      simp only [go_sem,FL]
      exact out_ax hsn
def axD (s:List Int) (L:List SubN) (o:Int):AV:=.tup [if axE s L o=0 then ints (outS s L L.length) else .sl 0 1 [],if axE s L o=0 then rows ((List.range L.length).map (wV s L o)) else .sl 0 1 [],.int .i64 (axE s L o)]
def rwC (W:Nat→List Int) (i:Nat):List AV:=(List.range i).map fun r=>ints (W r)
def adM (s:List Int) (L:List SubN) (o:Int) (i:Nat):List AObj:=
  [⟨false,3,1,0,0,[],false⟩,⟨false,24,1,0,0,[],false⟩,⟨false,3,1,i,(outS s L i).length,nums .i64 (outS s L i),false⟩,⟨false,24,1,i,i,rwC (wV s L o) i,false⟩]
structure PlcH (s:List Int) (V:List (List Int)):Prop where
  cn:count s≠none
  len:V.length=s.length
  vin:∀i,i<s.length→∀v∈V.getD i [],0≤v∧v<s.getD i 0
  big:pmL V V.length≤30000000
section
variable {s:List Int} {V:List (List Int)}
theorem PlcH.strP (h:PlcH s V):str s=I.strP s:=str_P fun k=>by
  obtain ⟨_,_,_,_,h3,h4⟩:=count_parts h.cn k
  exact ⟨h3,h4⟩
theorem PlcH.st (h:PlcH s V) (i:Nat):0≤(str s).getD i 0∧(str s).getD i 0≤4096:=by
  rw [h.strP]
  by_cases hi:i<s.length
  · rw [strP_get hi]
    obtain ⟨_,_,_,_,h3,h4⟩:=count_parts h.cn (i+1)
    exact ⟨h3,h4⟩
  · rw [show (I.strP s).getD i 0=0 by simp [List.getD,show (I.strP s)[i]?=none from List.getElem?_eq_none (by rw [strP_len];omega)]]
    exact ⟨by omega,by omega⟩
theorem PlcH.sl (h:PlcH s V):s.length≤8:=(count_iff.2 h.cn).1
theorem PlcH.v4 (h:PlcH s V) (i:Nat):∀v∈V.getD i [],0≤v∧v≤4096:=fun v hv=>by
  by_cases hi:i<s.length
  · have h1:=h.vin i hi v hv
    obtain ⟨m,hm⟩:=Option.ne_none_iff_exists'.1 h.cn
    have h2:=(count_bound hm).2.1 (s.getD i 0) (by simp [List.getD,hi])
    omega
  · rw [show V.getD i []=[] by simp [List.getD,show V[i]?=none from List.getElem?_eq_none (by rw [h.len];omega)]] at hv
    cases hv
theorem PlcH.bl (h:PlcH s V) {st:List Int} {i:Nat} (hi:i≤V.length):(crsN st V i).length≤30000000:=Nat.le_trans crsN_le (Nat.le_trans (pmL_mono hi) h.big)
theorem pmL_pos {V:List (List Int)}:∀{i:Nat},1≤pmL V i
  | 0=>Nat.le_refl _
  | i+1=>by rw [pmL];exact Nat.mul_pos pmL_pos (by omega)
theorem PlcH.vl (h:PlcH s V) {i:Nat} (hi:i<V.length):(V.getD i []).length≤30000000:=by
  have h1:=Nat.le_trans (pmL_mono (V:=V) (show i+1≤V.length by omega)) h.big
  rw [pmL] at h1
  have h2:=Nat.mul_le_mul (pmL_pos (V:=V) (i:=i)) (Nat.le_refl (max 1 (V.getD i []).length))
  omega
end
def crP (A row:List Int) (c:Int) (k:Nat):List Int:=(A.take k).flatMap fun f=>row.map fun n=>f+n*c
theorem crP_succ {A row:List Int} {c:Int} {k:Nat} (h:k<A.length):crP A row c (k+1)=crP A row c k++row.map fun n=>A.getD k 0+n*c:=by
  unfold crP
  rw [takeAt (d:=0) h,List.flatMap_append];simp
def crW (P row:List Int) (f c:Int) (q:Nat):List Int:=P++(row.take q).map fun n=>f+n*c
theorem crW_zero {P row:List Int} {f c:Int}:crW P row f c 0=P:=by simp [crW]
theorem crW_succ {P row:List Int} {f c:Int} {q:Nat} (h:q<row.length):crW P row f c (q+1)=crW P row f c q++[f+row.getD q 0*c]:=by
  unfold crW
  rw [takeAt (d:=0) h,List.map_append,List.append_assoc];rfl
theorem crW_all {P row:List Int} {f c:Int}:crW P row f c row.length=P++row.map fun n=>f+n*c:=by unfold crW;rw [List.take_length]
theorem crW_len {P row:List Int} {f c:Int} {q:Nat} (h:q≤row.length):(crW P row f c q).length=P.length+q:=by
  unfold crW
  rw [List.length_append,List.length_map,List.length_take];omega
theorem crP_len {A row:List Int} {c:Int} {k:Nat}:(crP A row c k).length≤k*row.length:=by
  unfold crP
  have:∀l:List Int,(l.flatMap fun f=>row.map fun n=>f+n*c).length=l.length*row.length:=fun l=>by
    induction l with
    | nil=>simp
    | cons f l ih=>rw [List.flatMap_cons,List.length_append,ih,List.length_map,List.length_cons,Nat.add_mul];omega
  rw [this,List.length_take]
  exact Nat.mul_le_mul_right _ (by omega)
set_option maxHeartbeats 2000000 in
theorem c65_ok {s:List Int} {V:List (List Int)} (h:PlcH s V):Go.V.Call tab E 65 [ints s,rows V] [] (ints (crsN (str s) V V.length)) []:=by
  refine Go.V.Call.mach i65 c65 rfl rfl rfl rfl ?_
  have hs8:=h.sl
  have hVl:=h.len
  have h111:=c121_ok (E:=I.E) (s:=s) (by omega)
  have hst:=str_len (s:=s)
  simp only [ints] at h111
  simp only [c65,rows,ints,go_sem,FL]
  refine goP h111 ?_
  simp only [go_sem,FL]
  refine mLoop (fun N st=>∃i:Nat,i≤V.length∧N=V.length - i∧st=⟨[(5,ints (str s)),(6,ints (crsN (str s) V i)),(17,rows V),(18,.int .i64 V.length),(19,.int .i64 i)],[⟨false,3,1,0,0,[],false⟩]⟩) V.length
    ⟨_,by simp only [headOf,keepOne,go_sem,List.contains_cons,Nat.reduceBEq,Bool.or_false,Bool.false_or];exact if_pos rfl,0,by omega,by omega,by simp [ints,rows,nums,crsN]⟩ ?_
  rintro N s0 ⟨i,hi,rfl,rfl⟩
  by_cases hin:i<V.length
  · have hi':(i:Int)<(V.length:Int):=by omega
    have hi0:(0:Int)≤(i:Int):=by omega
    have hi1:IntKind.i64.wrap ((i:Int)+1)=((i+1:Nat):Int):=by rw [wrap_i64 (by omega) (by omega)];omega
    have hist:(i:Int)<((str s).length:Int):=by omega
    have g1:=sub_rows (L:=V) hin
    have gs:=sub_nums (k:=.i64) (l:=str s) (i:=i) (by omega)
    have hcs:=h.st i
    have hv4:=h.v4 i
    have hAb:=crsN_bnd (B:=0) (st:=str s) (V:=V) h.st h.v4 (i:=i)
    have hAl:=h.bl (st:=str s) hi
    have hAl2:=h.bl (st:=str s) (show i+1≤V.length by omega)
    have hnx:crsN (str s) V (i+1)=crP (crsN (str s) V i) (V.getD i []) ((str s).getD i 0) (crsN (str s) V i).length:=by
      rw [crsN,crP,List.take_length]
    have hln:=crsN_len (st:=str s) (V:=V) (i:=i)
    rw [hln] at hAl2
    have hrl:=h.vl hin
    generalize hA:crsN (str s) V i=A at *
    generalize hrow:V.getD i []=row at *
    generalize hc:(str s).getD i 0=c at *
    have w1:IntKind.i64.wrap ((A.length:Int)*(row.length:Int))=((A.length*row.length:Nat):Int):=by rw [←Int.natCast_mul,wrap_i64 (by omega) (by omega)]
    have z0:(0:Int)≤((A.length*row.length:Nat):Int):=by omega
    have z1:8*(A.length*row.length)≤140737488355328:=by omega
    have z2:((A.length*row.length:Nat):Int)≤140737488355328:=by omega
    simp only [ints] at g1
    simp only [b65_0,rows,ints,go_sem,FL,hi',hi0,g1,Int.toNat_natCast,w1,z0,z1,z2]
    refine mLoop (fun N st=>∃k:Nat,k≤A.length∧N=A.length - k∧st=⟨[(5,ints (str s)),(7,.int .i64 i),(8,ints row),(9,.arr 1 (crP A row c k).length),(17,rows V),(18,.int .i64 V.length),(19,.int .i64 i),(30,ints A),(31,.int .i64 A.length),(32,.int .i64 k)],
        [⟨false,3,1,0,0,[],false⟩,⟨false,3,1,(crP A row c k).length,(crP A row c k).length,nums .i64 (crP A row c k),false⟩]⟩) A.length
      ⟨_,rfl,0,by omega,by omega,by simp [getE,ints,rows,crP,nums]⟩ ?_
    rintro N s0 ⟨k,hk,rfl,rfl⟩
    by_cases hkA:k<A.length
    · have hk':(k:Int)<(A.length:Int):=by omega
      have hk0:(0:Int)≤(k:Int):=by omega
      have hk1:IntKind.i64.wrap ((k:Int)+1)=((k+1:Nat):Int):=by rw [wrap_i64 (by omega) (by omega)];omega
      have g2:=sub_nums (k:=.i64) (l:=A) (i:=k) hkA
      have hfm:A.getD k 0∈A:=by simp [List.getD,hkA]
      have hfb:=hAb _ hfm
      have hsu:=crP_succ (row:=row) (c:=c) hkA
      have hPl:=crP_len (A:=A) (row:=row) (c:=c) (k:=k)
      have hPb:k*row.length+row.length≤A.length*row.length:=by
        have:=Nat.mul_le_mul_right row.length (show k+1≤A.length by omega)
        rw [Nat.add_mul,Nat.one_mul] at this
        exact this
      simp only [b65_1,rows,ints,go_sem,FL,hk',hk0,g2,Int.toNat_natCast]
      generalize hf:A.getD k 0=f at *
      generalize hP:crP A row c k=P at *
      have hP0:=crW_zero (P:=P) (row:=row) (f:=f) (c:=c)
      refine mLoop (fun N st=>∃q:Nat,q≤row.length∧N=row.length - q∧st=⟨[(5,ints (str s)),(7,.int .i64 i),(8,ints row),(9,.arr 1 (crW P row f c q).length),(11,.int .i64 f),(17,rows V),(18,.int .i64 V.length),(19,.int .i64 i),(30,ints A),(31,.int .i64 A.length),(32,.int .i64 k),(36,ints row),(37,.int .i64 row.length),(38,.int .i64 q)],
          [⟨false,3,1,0,0,[],false⟩,⟨false,3,1,(crW P row f c q).length,(crW P row f c q).length,nums .i64 (crW P row f c q),false⟩]⟩) row.length
        ⟨_,rfl,0,by omega,by omega,by simp [getE,ints,rows,hP0]⟩ ?_
      rintro N s0 ⟨q,hq,rfl,rfl⟩
      by_cases hqr:q<row.length
      · have hq':(q:Int)<(row.length:Int):=by omega
        have hq0:(0:Int)≤(q:Int):=by omega
        have hq1:IntKind.i64.wrap ((q:Int)+1)=((q+1:Nat):Int):=by rw [wrap_i64 (by omega) (by omega)];omega
        have g3:=sub_nums (k:=.i64) (l:=row) (i:=q) hqr
        have hnb:=hv4 (row.getD q 0) (by simp [List.getD,hqr])
        have htk:=crW_succ (P:=P) (f:=f) (c:=c) hqr
        have hWl:=crW_len (P:=P) (f:=f) (c:=c) hq
        have hWl2:=crW_len (P:=P) (f:=f) (c:=c) (show q+1≤row.length by omega)
        have hWe:(crW P row f c (q+1)).length=(crW P row f c q).length+1:=by omega
        have m1:=Int.mul_nonneg hnb.1 hcs.1
        have m2:=Int.mul_le_mul hnb.2 hcs.2 hcs.1 (by omega)
        have w2:IntKind.i64.wrap (row.getD q 0*c)=row.getD q 0*c:=wrap_i64 (by omega) (by omega)
        have w3:IntKind.i64.wrap (f+row.getD q 0*c)=f+row.getD q 0*c:=wrap_i64 (by omega) (by omega)
        have happ:nums .i64 (crW P row f c q)++[.int .i64 (f+row.getD q 0*c)]=nums .i64 (crW P row f c (q+1)):=by rw [htk];simp [nums]
        have y1:((crW P row f c q).length+1)*8≤140737488355328:=by omega
        have y2:(crW P row f c q).length+1≤140737488355328:=by omega
        simp only [b65_2,rows,ints,go_sem,FL,hq',hq0,g3,hi0,hist,gs,hc,Int.toNat_natCast,w2,w3,List.flatten_cons,List.flatten_nil,Option.getD_some,List.append_nil,y1,y2,happ,hq1]
        refine loopQ_go rfl (row.length - (q+1)) (by omega) ⟨q+1,by omega,rfl,?_⟩
        rw [hWe]
        rfl
      · obtain rfl:q=row.length:=by omega
        have e3:crW P row f c row.length=crP A row c (k+1):=by rw [crW_all,hsu]
        rw [e3]
        simp only [b65_2,k65_0,rows,ints,go_sem,FL,Int.lt_irrefl,hk1]
        exact loopQ_go rfl (A.length - (k+1)) (by omega) ⟨k+1,by omega,rfl,rfl⟩
    · obtain rfl:k=A.length:=by omega
      rw [←hnx]
      simp only [b65_1,k65_1,k65_2,rows,ints,go_sem,FL,Int.lt_irrefl,hi1]
      exact loopQ_go (by simp only [headOf,keepOne,go_sem,List.contains_cons,Nat.reduceBEq,Bool.or_false,Bool.false_or];exact if_pos rfl) (V.length - (i+1)) (by omega) ⟨i+1,by omega,rfl,rfl⟩
  · obtain rfl:i=V.length:=by omega
    simp only [b65_0,k65_3,rows,ints,go_sem,FL,Int.lt_irrefl]
    simp only [i65,OT,reduceIte,Nat.reduceEqDiff]
def tuP (T:List (List Int)) (row:List Int) (o:Int) (k:Nat):List (List Int):=(T.take k).flatMap fun u=>row.map fun n=>u++[n - o]
def tuW (P:List (List Int)) (row u:List Int) (o:Int) (q:Nat):List (List Int):=P++(row.take q).map fun n=>u++[n - o]
theorem prd_ap:∀{s t:List Int},prd (s++t)=prd s*prd t
  | [],t=>by rw [List.nil_append,prd,Int.one_mul]
  | d::ds,t=>by rw [List.cons_append,prd,prd,prd_ap,Int.mul_assoc]
theorem axE_zero {s:List Int} {L:List SubN} {o:Int} (h:axE s L o=0):L.length=s.length∧(∀i,i<L.length→okB (sbAt L i)=true)∧(∀i,i<L.length→∀v∈wV s L o i,inB (s.getD i 0) o v=true)∧(outS s L L.length).length≤8∧count (outS s L L.length)≠none:=by
  unfold axE at h
  by_cases h1:L.length≠s.length
  · rw [if_pos h1] at h;cases h
  rw [if_neg h1] at h
  by_cases h2:L.all okB=false
  · rw [if_pos h2] at h;cases h
  rw [if_neg h2] at h
  by_cases h3:inAll s L o=false
  · rw [if_pos h3] at h;cases h
  rw [if_neg h3] at h
  by_cases h4:8<(outS s L L.length).length
  · rw [if_pos h4] at h;cases h
  rw [if_neg h4] at h
  by_cases h5:count (outS s L L.length)=none
  · rw [if_pos h5] at h;cases h
  refine ⟨by omega,fun i hi=>?_,fun i hi v hv=>?_,by omega,h5⟩
  · rw [Bool.not_eq_false,List.all_eq_true] at h2
    exact h2 _ (sbAt_mem hi)
  · unfold inAll at h3
    rw [Bool.not_eq_false,List.all_eq_true] at h3
    have:=h3 i (List.mem_range.2 hi)
    rw [List.all_eq_true] at this
    exact this v hv
def wW (s:List Int) (L:List SubN) (o:Int):List (List Int):=(List.range L.length).map (wV s L o)
theorem wW_len {s:List Int} {L:List SubN} {o:Int}:(wW s L o).length=L.length:=by simp [wW]
theorem wW_get {s:List Int} {L:List SubN} {o:Int} {i:Nat} (h:i<L.length):(wW s L o).getD i []=wV s L o i:=by simp [wW,List.getD,h]
theorem les_W {s:List Int} {L:List SubN} {o:Int}:lesO o (wW s L o)=(List.range L.length).map fun i=>(wV s L o i).map (· - o):=by
  unfold lesO wW
  rw [List.map_map];rfl
theorem wV_len {s:List Int} {L:List SubN} {o:Int} (hS:SubL s L) {i:Nat} (hi:i<L.length) (hok:okB (sbAt L i)=true):((wV s L o i).length:Int)=prd (shS (sbAt L i) (s.getD i 0))∧(wV s L o i).length≤max 1 ((sbAt L i).t.length+(sbAt L i).l.length)*max 1 (s.getD i 0).toNat:=by
  have hn:=hS.nn (i:=i)
  have hli:=hS.li _ (sbAt_mem hi)
  unfold wV vlS shS
  cases ha:(sbAt L i).all with
  | true=>
    rw [if_pos rfl,if_pos rfl,upL_len]
    refine ⟨by rw [prd,prd,Int.mul_one];omega,?_⟩
    exact Nat.le_trans (Nat.le_max_right 1 _) (Nat.le_mul_of_pos_left _ (by omega))
  | false=>
    rw [if_neg (by simp),if_neg (by simp),List.length_map,List.length_map]
    refine ⟨?_,Nat.le_trans (by omega) (Nat.le_mul_of_pos_right _ (show 0<max 1 (s.getD i 0).toNat by omega))⟩
    unfold okB at hok
    rw [ha,Bool.false_or,wholeB_iff] at hok
    have hSh:=hli.2.2.2.2.1
    unfold Shapes at hSh
    cases hc:(sbAt L i).ch with
    | true=>
      rw [hc,if_pos rfl] at hSh
      have h0:(sbAt L i).t.length=0:=by
        have:=hok.1
        rw [hc] at this
        by_cases h:(sbAt L i).t.length=0
        · exact h
        · exact absurd ⟨rfl,by omega⟩ this
      rw [hSh.2,←count_prd hSh.1,h0]
    | false=>
      rw [hc,if_neg (by simp)] at hSh
      rw [←count_prd hSh.1]
theorem mprd_take {s:List Int} {i:Nat} (h:i<s.length) (hd:0≤s.getD i 0):mprd (s.take (i+1))=mprd (s.take i)*((max 1 (s.getD i 0).toNat:Nat):Int):=by
  rw [takeAt (d:=0) h,mprd_append,mprd,mprd,Int.mul_one]
  congr 1
  omega
theorem pm_bound {s:List Int} {L:List SubN} {o:Int} (hS:SubL s L) (hl:L.length=s.length) (hok:∀i,i<L.length→okB (sbAt L i)=true):∀{i:Nat},i≤L.length→(pmL (lesO o (wW s L o)) i:Int)≤(prS L i:Int)*mprd (s.take i)
  | 0,_=>by simp [pmL,prS,mprd]
  | i+1,hi=>by
    have ih:=pm_bound hS hl hok (o:=o) (i:=i) (by omega)
    have hn:=hS.nn (i:=i)
    have hw:=(wV_len hS (o:=o) (show i<L.length by omega) (hok i (by omega))).2
    have hg:((lesO o (wW s L o)).getD i []).length=(wV s L o i).length:=by rw [lesO_get,wW_get (by omega),List.length_map]
    rw [pmL,hg,prS,mprd_take (by omega) hn.1]
    have ha1:1≤max 1 ((sbAt L i).t.length+(sbAt L i).l.length):=by omega
    generalize max 1 ((sbAt L i).t.length+(sbAt L i).l.length)=a at *
    have hb1:1≤max 1 (s.getD i 0).toNat:=by omega
    generalize max 1 (s.getD i 0).toNat=b at *
    have hm:max 1 (wV s L o i).length≤a*b:=by
      have:=Nat.mul_le_mul ha1 hb1
      omega
    have h1:=Int.mul_le_mul ih (Int.ofNat_le.2 hm) (by omega) (by have:=mprd_pos (s:=s.take i);exact Int.mul_nonneg (by omega) (by omega))
    rw [Int.natCast_mul,Int.natCast_mul]
    refine Int.le_trans h1 (Int.le_of_eq ?_)
    rw [Int.natCast_mul]
    generalize (prS L i:Int)=p
    generalize mprd (s.take i)=m
    rw [Int.mul_assoc,Int.mul_assoc,←Int.mul_assoc m,Int.mul_comm m,Int.mul_assoc]
structure SubO (s:List Int) (L:List SubN):Prop where
  sub:SubL s L
  pr:prS L L.length≤5000
  cn:count s≠none
theorem SubO.plc {s:List Int} {L:List SubN} {o:Int} (h:SubO s L) (he:axE s L o=0):PlcH s (lesO o (wW s L o)):=by
  obtain ⟨h1,h2,h3,_,_⟩:=axE_zero he
  refine ⟨h.cn,by rw [lesO_len,wW_len];exact h1,fun i hi v hv=>?_,?_⟩
  · rw [lesO_get,wW_get (by omega)] at hv
    obtain ⟨w,hw,rfl⟩:=List.mem_map.1 hv
    have:=h3 i (by omega) w hw
    unfold inB at this
    simp only [Bool.and_eq_true,decide_eq_true_eq] at this
    omega
  · have hb:=pm_bound h.sub h1 h2 (o:=o) (Nat.le_refl _)
    rw [lesO_len,wW_len]
    have hm:=(count_iff.2 h.cn).2.2
    rw [h1,List.take_length,←h1] at hb
    have hp:=h.pr
    have h5:=Int.mul_le_mul (Int.ofNat_le.2 hp) hm (by have:=mprd_pos (s:=s);omega) (by omega)
    omega
def ksV (s:List Int) (L:List SubN) (o:Int):List Int:=crsN (str s) (lesO o (wW s L o)) L.length
theorem ks_prd {s:List Int} {L:List SubN} {o:Int} (hS:SubL s L) (hok:∀i,i<L.length→okB (sbAt L i)=true):∀{i:Nat},i≤L.length→((crsN (str s) (lesO o (wW s L o)) i).length:Int)=prd (outS s L i)
  | 0,_=>by simp [crsN,outS,prd]
  | i+1,hi=>by
    have hg:((lesO o (wW s L o)).getD i []).length=(wV s L o i).length:=by rw [lesO_get,wW_get (by omega),List.length_map]
    rw [crsN_len,outS,prd_ap,hg,Int.natCast_mul,ks_prd hS hok (by omega),(wV_len hS (by omega) (hok i (by omega))).1]
theorem SubO.cnt {s:List Int} {L:List SubN} {o:Int} (h:SubO s L) (he:axE s L o=0):count (outS s L L.length)=some ((ksV s L o).length:Int):=by
  obtain ⟨_,h2,_,_,h5⟩:=axE_zero he
  obtain ⟨m,hm⟩:=Option.ne_none_iff_exists'.1 h5
  rw [hm,count_prd hm,ksV,ks_prd h.sub h2 (Nat.le_refl _)]
section
variable {s t:List Int} {ch:Bool} {l:List Nm} {L:List SubN} {o:Int}
def idxA (s t:List Int) (ch:Bool) (l:List Rt) (L:List SubN) (o:Int):List AV:=if axE s L o=0 then arrX (outS s L L.length) ch (picksT ch t (ksV s L o)) (picksR ch l (ksV s L o)) else noA
def idxP (s t:List Int) (ch:Bool) (l:List Nm) (L:List SubN) (o:Int):List AV:=if axE s L o=0 then plX (outS s L L.length) ch (picksT ch t (ksV s L o)) (picksN ch l (ksV s L o)) else noP
theorem c20_ok {l:List Rt} (ho:0≤o∧o≤1) (h:SubO s L) (ht:t.length≤1000000) (hl:l.length≤1000000) :
    Go.V.Call tab E 20 [.agg (arrX s ch t l),.int .i64 o,.sl L.length 6 (sbsA L)] [] (.tup [.agg (idxA s t ch l L o),.int .i64 (axE s L o)]) []:=by
  refine Go.V.Call.mach i20 c20 rfl rfl rfl rfl ?_
  have hs8:=h.sub.sl
  have h48:=c44_X (s:=s) (t:=t) (l:=l) (ch:=ch) (by omega)
  have h47:=c63_ok ho h.sub
  by_cases he:axE s L o=0
  · have hp:=h.plc he
    have h50:=c65_ok hp
    have hV:(lesO o (wW s L o)).length=L.length:=by rw [lesO_len,wW_len]
    rw [hV] at h50
    have h5:ints (crsN (str s) (lesO o (wW s L o)) L.length)=ints (ksV s L o):=rfl
    rw [h5] at h50
    have hcnt:=h.cnt he
    have hkl:(ksV s L o).length≤30000000:=hp.bl (by rw [hV];exact Nat.le_refl _)
    obtain ⟨_,_,_,ho8,_⟩:=axE_zero he
    have h49:=c64_ok (s:=s) (t:=t) (s':=outS s L L.length) (ks:=ksV s L o) (l:=l) (ch:=ch) (outS_64 h.sub (Nat.le_refl _)) (by omega) (by omega) (by omega) (by omega)
    rw [fits_of hcnt,if_pos rfl] at h49
    unfold axR at h47
    rw [he,if_pos rfl,if_pos rfl,←les_W] at h47
    unfold idxA
    rw [he,if_pos rfl]
    generalize outS s L L.length=out at *
    generalize picksR ch l (ksV s L o)=PR at *
    generalize picksT ch t (ksV s L o)=PT at *
    generalize ksV s L o=ks at *
    generalize lesO o (wW s L o)=V at *
    simp only [arrX,runes,ints,rows] at h48 h47 h50 h49
    simp only [c20,arrX,runes,ints,go_sem,FL,subA5]
    refine goP h48 ?_
    simp only [go_sem,FL,subA5]
    refine goP h47 ?_
    simp only [go_sem,FL,subA5,bne_self_eq_false]
    refine goP h48 ?_
    simp only [go_sem,FL,subA5]
    refine goP h50 ?_
    simp only [go_sem,FL,subA5]
    refine goP h49 ?_
    simp only [go_sem,FL,subA5]
    simp only [i20,OT,reduceIte,Nat.reduceEqDiff,subA5]
  · have hne:(axE s L o != 0)=true:=by simpa using he
    unfold axR at h47
    rw [if_neg he,if_neg he] at h47
    unfold idxA
    rw [if_neg he]
    generalize axE s L o=e at *
    simp only [arrX,runes,ints] at h48 h47
    simp only [c20,arrX,runes,ints,go_sem,FL,subA5]
    refine goP h48 ?_
    simp only [go_sem,FL,subA5]
    refine goP h47 ?_
    simp only [go_sem,FL,subA5,hne]
    simp only [i20,OT,reduceIte,Nat.reduceEqDiff,subA5,noA]
end
theorem c18_awake:Go.V.Call tab E 18 [] [] (.bool true) []:=Go.V.Call.run (ext:=ext) (fun h=>h) (fuel:=1000) (n:=60) (by kernel_rfl)
structure PagI (s t:List Int) (ch:Bool) (l:List Nm):Prop where
  li:LightP s ch t l 200
  s64:∀d∈s,In64 d
  u8:∀x∈l,U8 x.2.1∧U8 x.2.2
section
variable {s t:List Int} {ch:Bool} {l:List Nm}
theorem PagI.cn (h:PagI s t ch l):count s≠none:=by
  have hSh:=h.li.2.2.2.2.1
  unfold Shapes at hSh
  split at hSh
  · rw [hSh.1];simp
  · rw [hSh.1];simp
theorem PagI.chs (h:PagI s t ch l):(ch=true→l=[])∧(ch=false→t=[]):=by
  have hSh:=h.li.2.2.2.2.1
  unfold Shapes at hSh
  refine ⟨fun hc=>?_,fun hc=>?_⟩
  · subst hc;exact List.eq_nil_of_length_eq_zero hSh.2
  · subst hc;exact hSh.2
theorem PagI.nmu (h:PagI s t ch l):∀x∈l,NmU x:=fun x hx=>by
  have:=h.li.2.2.2.1 x hx
  exact ⟨(h.u8 x hx).1,(h.u8 x hx).2,by omega,by omega⟩
theorem PagI.of (h:PagI s t ch l):Go.V.Call tab E 19 [.agg (plX s ch t l)] [] (.agg (arrX s ch t (l.map toRt))) []:=by
  have hli:=h.li
  exact c19_ok h.s64 (by have:=hli.2.2.1;omega) (by have:=hli.1;omega) (by have:=hli.2.1;omega) h.nmu hli.2.2.2.2
theorem PagI.lens (h:PagI s t ch l):t.length≤200∧l.length≤200∧s.length≤8:=by
  have hli:=h.li
  exact ⟨by have:=hli.1;omega,by have:=hli.2.1;omega,hli.2.2.1⟩
end
theorem subO_of {s t:List Int} {ch:Bool} {l:List Nm} {L:List SubN} (h:PagI s t ch l) (hL:SubsP L) (h64:∀x∈L,∀d∈x.s,In64 d) (hu8:∀x∈L,∀y∈x.l,U8 y.2.1∧U8 y.2.2):SubO s L:=by
  obtain ⟨m,hm⟩:=Option.ne_none_iff_exists'.1 h.cn
  refine ⟨⟨h64,hu8,fun x hx=>?_,hL.1,(count_bound hm).2.1,(count_bound hm).1⟩,?_,h.cn⟩
  · obtain ⟨i,hi,rfl⟩:=List.getElem_of_mem hx
    have:=(hL.2 i hi).1
    simpa [sbAt,List.getD,hi] using this
  · rcases Nat.eq_zero_or_pos L.length with h0|h0
    · rw [h0];simp [prS]
    · have:=(hL.2 (L.length - 1) (by omega)).2
      rw [show L.length - 1+1=L.length by omega] at this
      exact this
def wr {α:Type} (t v:List α) (ks:List Int) (one:Bool):Nat→List α
  | 0=>t
  | k+1=>match v[if one then 0 else k]? with
    | some x=>(wr t v ks one k).set (ks.getD k 0).toNat x
    | none=>wr t v ks one k
theorem wr_len {α:Type} {t v:List α} {ks:List Int} {one:Bool}:∀{k:Nat},(wr t v ks one k).length=t.length
  | 0=>rfl
  | k+1=>by
    rw [wr]
    split
    · rw [List.length_set];exact wr_len
    · exact wr_len
theorem wr_none {α:Type} {t:List α} {ks:List Int} {one:Bool}:∀{k:Nat},wr t [] ks one k=t
  | 0=>rfl
  | k+1=>by rw [wr];simp;exact wr_none
theorem wr_succ {α:Type} {t v:List α} {ks:List Int} {one:Bool} {k:Nat} (d:α) (h:(if one then 0 else k)<v.length):wr t v ks one (k+1)=(wr t v ks one k).set (ks.getD k 0).toNat (v.getD (if one then 0 else k) d):=by
  rw [wr,List.getElem?_eq_getElem h]
  simp [List.getD,h]
theorem fill_flat {α:Type} {f:α→List AV} (hf:∀x,(f x).length=3) {z:α}:∀{l:List α} {i:Nat},i<l.length→fillIn (l.flatMap f) (i*3) (f z)=(l.set i z).flatMap f
  | [],i,h=>by simp at h
  | a::l,0,h=>by
    unfold fillIn
    rw [Nat.zero_mul,Nat.zero_add,hf,List.flatMap_cons,List.set_cons_zero,List.flatMap_cons,List.drop_left' (hf a)]
    simp
  | a::l,i+1,h=>by
    have ih:=fill_flat hf (z:=z) (l:=l) (i:=i) (by simpa using h)
    unfold fillIn at ih ⊢
    rw [List.flatMap_cons,List.set_cons_succ,List.flatMap_cons,←ih,show (i+1)*3=(f a).length+i*3 by rw [hf];omega,List.take_length_add_append,show (f a).length+i*3+(f z).length=(f a).length+(i*3+(f z).length) by omega,List.drop_length_add_append]
    simp
theorem fill_nums1 {k:IntKind} {l:List Int} {i:Nat} {v:Int} (h:i<l.length):fillIn (nums k l) (i*1) [.int k v]=nums k (l.set i v):=by
  rw [fill_one (by simp [nums];exact h)]
  simp [nums,List.map_set]
theorem c71_X {s t:List Int} (hs:∀d∈s,In64 d) (hsl:(s.length:Int)≤1000000000000) (ht:(t.length:Int)≤1000000000000):Go.V.Call tab E 71 [ints s,runes t] [] (.tup [if fits s t.length then .agg (arrX s true t []) else .agg noA,.bool (fits s t.length)]) []:=c71_ok hs hsl ht
def stE (s vs:List Int) (ch vch:Bool) (L:List SubN) (o:Int):Int:=
  if axE s L o≠0 then axE s L o
  else if vs≠[]∧vs.length≠(outS s L L.length).length then 23
  else if vs≠[]∧vs≠outS s L L.length then 24
  else if ksV s L o=[] then 0
  else if vch≠ch then 22 else 0
def stA (s t:List Int) (ch:Bool) (l:List Rt) (vs vt:List Int) (vch:Bool) (vl:List Rt) (L:List SubN) (o:Int):List AV:=
  if stE s vs ch vch L o=0 then arrX s ch (wr t vt (ksV s L o) (decide (vs=[])) (ksV s L o).length) (wr l vl (ksV s L o) (decide (vs=[])) (ksV s L o).length) else noA
def stP (s t:List Int) (ch:Bool) (l:List Nm) (vs vt:List Int) (vch:Bool) (vl:List Nm) (L:List SubN) (o:Int):List AV:=
  if stE s vs ch vch L o=0 then plX s ch (wr t vt (ksV s L o) (decide (vs=[])) (ksV s L o).length) (wr l vl (ksV s L o) (decide (vs=[])) (ksV s L o).length) else noP
def WrO (t vt:List Int) (ch one:Bool) (n m:Nat) (ks:List Int):Prop:=∀i,i<ks.length→(0≤ks.getD i 0∧(ks.getD i 0).toNat<(if ch then t.length else n))∧(if one then 0 else i)<(if ch then vt.length else m)
section
variable {E:CallRel}
end
section
variable {E:CallRel}
end
def R9d (l:List Int):Prop:=∀x∈l,0≤x∧x≤9
section
variable {E:CallRel}
end
section
variable {E:CallRel}
end
def wdI (z:Int):List AV:=wdC (decide (z<0)) z.natAbs
def numR (r:Rat):List AV:=numG (decide (r.num<0)) r.num.natAbs r.den
theorem Sz.pos {i:Nat} {r:Rat} (h:Sz i r):1≤i:=by
  rcases Nat.eq_zero_or_pos i with h0|h0
  · subst h0
    have:=h.2
    have:=r.den_nz
    simp at *
    omega
  · exact h0
section
variable {E:CallRel}
end
def flr (r:Rat):Int:=r.num/(r.den:Int)
def restR (b r:Rat):Rat:=if b=0 then r else r + -(b*((flr (r/b):Int):Rat))
theorem flr_lt {r:Rat} {k:Nat} (h:Sz k r):(flr r).natAbs<2^(k+1):=by
  have hd:=r.den_nz
  have h1:flr r*(r.den:Int)≤r.num:=Int.ediv_mul_le _ (by omega)
  have h2:r.num<(flr r+1)*(r.den:Int):=Int.lt_ediv_add_one_mul_self _ (by omega)
  have hn:=h.1
  have hp:0<2^k:=Nat.pow_pos (by omega)
  rw [Nat.pow_succ]
  generalize flr r=f at *
  have hd1:(1:Int)≤(r.den:Int):=by omega
  by_cases hf:0≤f
  · have:f*1≤f*(r.den:Int):=Int.mul_le_mul_of_nonneg_left hd1 hf
    omega
  · have h3:(-(f+1))*1≤(-(f+1))*(r.den:Int):=Int.mul_le_mul_of_nonneg_left hd1 (by omega)
    have h4:(-(f+1))*(r.den:Int) = -((f+1)*(r.den:Int)):=Int.neg_mul _ _
    omega
theorem Sz.int {z:Int} {k:Nat} (h:z.natAbs<2^k) (hk:1≤k):Sz k (z:Rat):=by
  refine ⟨by rw [Rat.num_intCast];exact h,?_⟩
  rw [Rat.den_intCast]
  exact Nat.one_lt_two_pow (by omega)
theorem rnum_ne {b:Rat} (h:b≠0):b.num≠0:=fun hh=>h (Rat.num_eq_zero.1 hh)
theorem Sz.rest {b r:Rat} {i j:Nat} (hr:Sz i r) (hb:Sz j b):Sz (2*i+2*j+2) (restR b r):=by
  unfold restR
  split
  · exact hr.mono (by omega)
  · rename_i h0
    have h1:=hr.div hb (rnum_ne h0)
    have h2:=Sz.int (flr_lt h1) (by omega)
    exact (hr.add (hb.mul h2).neg).mono (by omega)
section
variable {E:CallRel}
end
section
variable {E:CallRel}
end
def badA (ch:Bool) (t:List Int) (l:List Rt):Bool:=ch&&decide (0<t.length+l.length)
def roomE (s:List Int):Int:=if 8<s.length then 23 else if count s=none then 26 else 0
def roomN (s:List Int):Int:=if 8<s.length then 0 else (count s).getD 0
theorem c52_X {s:List Int} {l:List Rt} (hs:∀d∈s,In64 d) (hsl:(s.length:Int)≤1000000000000) (hl:(l.length:Int)≤1000000000000):Go.V.Call tab E 52 [ints s,.sl l.length 3 (rtsC l)] [] (.tup [if fits s l.length then .agg (arrX s false [] l) else .agg noA,.bool (fits s l.length)]) []:=by
  refine Go.V.Call.mach i52 c52 rfl rfl rfl rfl ?_
  simp only [c52,go_sem,FL]
  refine goP (c83_ok hs (by omega)) ?_
  cases hc:count s with
  | none=>
    have hf:fits s l.length=false:=by simp [fits,hc]
    simp only [optP,go_sem,FL]
    simp only [i52,OT,reduceIte,Nat.reduceEqDiff,subA5,hf,noA,Bool.false_eq_true]
  | some m=>
    by_cases hm:m=(l.length:Int)
    · subst hm
      have hf:fits s l.length=true:=by simp [fits,hc]
      simp only [optP,go_sem,FL,bne_self_eq_false]
      refine goO (c102_ok hsl) rfl rfl ?_
      simp only [go_sem,FL]
      refine goO (c112_X hl) rfl rfl ?_
      simp only [go_sem,FL]
      simp only [i52,OT,reduceIte,Nat.reduceEqDiff,subA5,hf,arrX,runes]
      rfl
    · have hf:fits s l.length=false:=by simp [fits,hc,hm]
      have hm':(m != (l.length:Int))=true:=by simpa using hm
      simp only [optP,go_sem,FL,hm']
      simp only [i52,OT,reduceIte,Nat.reduceEqDiff,subA5,hf,noA,Bool.false_eq_true]
section
variable {s t vs vt:List Int} {ch vch:Bool} {L:List SubN} {o:Int}
theorem runeAt_nat {t:List Int} {j:Nat} (h:j<t.length):runeAt t (j:Int)=t.getD j 0:=by
  unfold runeAt;rw [if_pos ⟨by omega,by omega⟩];rfl
theorem pickR_nat {l:List Rt} {j:Nat} (h:j<l.length):pickR l (j:Int)=l.getD j (false,0,0):=by
  unfold pickR;rw [if_pos ⟨by omega,by omega⟩];rfl
def nx:IR→IR
  | .seq _ (.lv _ x)=>x
  | .rsv _ _ _ x=>x
  | x=>x
set_option maxHeartbeats 1000000 in
theorem c21_tail {l vl:List Rt} {ks:List Int} {one:Bool} {V:List (List Int)} {R:AV} (hs8:s.length≤8) (hvs:vs.length≤8) (ht:t.length≤1000000) (hl:l.length≤1000000) (hvt:vt.length≤1000000) (hvl:vl.length≤1000000) (h64:∀d∈s,In64 d) (hSh:Shapes s ch t l.length) (hSv:Shapes vs vch vt vl.length) (hkl:ks.length≤30000000)
    (hk:vch=ch→WrO t vt ch one l.length vl.length ks)
    (hR:R=if ks=[] then .tup [.agg (arrX s ch t l),.int .i64 0] else if vch=ch then .tup [.agg (arrX s ch (wr t vt ks one ks.length) (wr l vl ks one ks.length)),.int .i64 0] else .tup [.agg noA,.int .i64 22]) :
    Mach (Go.V.Call tab E) (Go.V.Fin i21 [] R []) [.code (nx (nx (nx (nx (nx (nx c21))))))] .nrm ⟨[(4,.loc 0 0 0),(5,.loc 1 0 0),(8,.loc 5 0 0),(13,.bool one),(14,ints ks)],[⟨true,28,5,0,1,arrX s ch t l,false⟩,⟨true,28,5,0,1,arrX vs vch vt vl,false⟩,⟨false,3,1,0,0,[],false⟩,⟨false,21,1,0,0,[],false⟩,⟨false,59,3,0,0,[],false⟩,⟨true,28,5,0,1,[.arr 2 0,.bool false,.arr 3 0,.arr 4 0,.bool false],false⟩]⟩:=by
  have h48:=c44_X (s:=s) (t:=t) (l:=l) (ch:=ch) (by omega)
  have h58:=c68_ok (s:=s) (t:=t) (l:=l) (ch:=ch)
  have h58v:=c68_ok (s:=vs) (t:=vt) (l:=vl) (ch:=vch)
  have h59:=c69_X (s:=s) (t:=t) (l:=l) (ch:=ch) (by omega)
  have h60:=c70_ok (s:=s) (t:=t) (l:=l) (ch:=ch) (by omega)
  simp only [arrX,runes,ints,rows] at h48 h58 h58v h59 h60
  simp only [c21,nx,arrX,runes,ints,go_sem,FL,subA5]
  by_cases hks:ks=[]
  · rw [if_pos hks] at hR
    subst hR
    have hz:((ks.length:Int)==0)=true:=by rw [hks];rfl
    simp only [arrX,runes,ints,go_sem,FL,subA5,hz]
    simp only [i21,OT,reduceIte,Nat.reduceEqDiff,subA5]
  · rw [if_neg hks] at hR
    have hz:((ks.length:Int)==0)=false:=by cases ks with|nil=>exact absurd rfl hks|cons a b=>simp;omega
    simp only [arrX,runes,ints,go_sem,FL,subA5,hz]
    refine goP h58v ?_
    simp only [go_sem,FL,subA5]
    refine goP h58 ?_
    simp only [go_sem,FL,subA5]
    by_cases hc:vch=ch
    · subst hc
      rw [if_pos rfl] at hR
      have hkk:=hk rfl
      subst hR
      simp only [go_sem,FL,subA5,bne_self_eq_false]
      refine goO h59 rfl rfl ?_
      simp only [go_sem,FL,subA5]
      refine goO h60 rfl rfl ?_
      simp only [go_sem,FL,subA5]
      refine mLoop (fun N st=>∃k:Nat,k≤ks.length∧N=ks.length - k∧st=⟨[(4,.loc 0 0 0),(5,.loc 1 0 0),(8,.loc 5 0 0),(13,.bool one),(15,.arr 6 0),(16,.arr 7 0),(81,ints ks),(82,.int .i64 ks.length),(83,.int .i64 k)],
        [⟨true,28,5,0,1,arrX s vch t l,false⟩,⟨true,28,5,0,1,arrX vs vch vt vl,false⟩,⟨false,3,1,0,0,[],false⟩,⟨false,21,1,0,0,[],false⟩,⟨false,59,3,0,0,[],false⟩,⟨true,28,5,0,1,[.arr 2 0,.bool false,.arr 3 0,.arr 4 0,.bool false],false⟩,
          ⟨false,21,1,0,t.length,nums .i32 (wr t vt ks one k),false⟩,⟨false,59,3,0,l.length,rtsC (wr l vl ks one k),false⟩]⟩) ks.length ⟨_,by simp only [headOf,keepOne,go_sem,List.contains_cons,Nat.reduceBEq,Bool.or_false,Bool.false_or];exact if_pos rfl,0,by omega,by omega,by simp [ints,arrX,runes,wr]⟩ ?_
      rintro N s0 ⟨k,hk,rfl,rfl⟩
      by_cases hkn:k<ks.length
      · have hk':(k:Int)<(ks.length:Int):=by omega
        have hk0:(0:Int)≤(k:Int):=by omega
        have hk1:IntKind.i64.wrap ((k:Int)+1)=((k+1:Nat):Int):=by rw [wrap_i64 (by omega) (by omega)];omega
        have g1:=sub_nums (k:=.i64) (l:=ks) (i:=k) hkn
        obtain ⟨⟨p0,p1⟩,p2⟩:=hkk k hkn
        have hwl:(wr t vt ks one k).length=t.length:=wr_len
        have hwn:(wr l vl ks one k).length=l.length:=wr_len
        have h61:=fun k=>c24_ok (s:=vs) (t:=vt) (l:=vl) (ch:=vch) (k:=k) (by omega)
        have h62:=fun k=>c25_ok (s:=vs) (t:=vt) (l:=vl) (ch:=vch) (k:=k) (by omega)
        have hj:((if one then 0 else k:Nat):Int)=if one then 0 else (k:Int):=by cases one<;>rfl
        simp only [arrX,runes,ints] at h61 h62
        obtain ⟨p,hp⟩:∃p:Nat,ks.getD k 0=(p:Int):=⟨(ks.getD k 0).toNat,by omega⟩
        rw [hp] at g1 p0 p1
        rw [Int.toNat_natCast] at p1
        unfold Shapes at hSh hSv
        cases vch with
        | true=>
          rw [if_pos rfl] at hSh hSv p1 p2
          have hr:=runeAt_nat p2
          have hvl0:vl=[]:=List.eq_nil_of_length_eq_zero hSv.2
          have hfi:fillIn (nums .i32 (wr t vt ks one k)) (p*1) [.int .i32 (runeAt vt (if one then 0 else (k:Int)))]=nums .i32 (wr t vt ks one (k+1)):=by
            rw [fill_nums1 (by omega),wr_succ 0 p2,hp,Int.toNat_natCast,←hj,hr]
          have hno:wr l vl ks one (k+1)=wr l vl ks one k:=by rw [hvl0,wr_none,wr_none]
          have hpi:(p:Int)<(t.length:Int):=by omega
          have hpl:p*1+1≤(wr t vt ks one k).length:=by omega
          unfold fillIn at hfi
          simp only [List.length_singleton] at hfi
          rcases one with _|_
          all_goals
            simp only [if_true,if_false,Bool.false_eq_true] at hfi
            simp only [b21_0,arrX,runes,ints,go_sem,FL,subA5,hk',hk0,g1,Int.toNat_natCast]
            refine goP h58 ?_
            simp only [go_sem,FL,subA5]
            refine goP (h61 _) ?_
            simp only [go_sem,FL,subA5,hk1,p0,hpi,Int.toNat_natCast,hfi,hpl]
            refine loopQ_go (by simp only [headOf,keepOne,go_sem,List.contains_cons,Nat.reduceBEq,Bool.or_false,Bool.false_or];exact if_pos rfl) (ks.length - (k+1)) (by omega) ⟨k+1,by omega,rfl,?_⟩
            rw [hno]
            rfl
        | false=>
          simp only [Bool.false_eq_true,if_false] at hSh hSv p1 p2
          have hr:=pickR_nat p2
          have hvt0:vt=[]:=hSv.2
          have hfi:fillIn (rtsC (wr l vl ks one k)) (p*3) (rtC (pickR vl (if one then 0 else (k:Int))))=rtsC (wr l vl ks one (k+1)):=by
            rw [rtsC,fill_flat (fun _=>rfl) (by omega),wr_succ (false,0,0) p2,hp,Int.toNat_natCast,←hj,hr];rfl
          have hno:wr t vt ks one (k+1)=wr t vt ks one k:=by rw [hvt0,wr_none,wr_none]
          have hpi:(p:Int)<(l.length:Int):=by omega
          have hpl:p*3+3≤(rtsC (wr l vl ks one k)).length:=by rw [rtsC,flat_len (fun _=>rfl)];omega
          unfold fillIn at hfi
          simp only [rtC,ratG,us32,List.length_cons,List.length_nil,Nat.zero_add,Nat.reduceAdd] at hfi
          rcases one with _|_
          all_goals
            simp only [if_true,if_false,Bool.false_eq_true] at hfi
            simp only [b21_0,arrX,runes,ints,go_sem,FL,subA5,hk',hk0,g1,Int.toNat_natCast]
            refine goP h58 ?_
            simp only [go_sem,FL,subA5]
            refine goP (h62 _) ?_
            simp only [go_sem,FL,subA5,hk1,p0,hpi,Int.toNat_natCast,hfi,hpl,rtC,ratG,us32]
            refine loopQ_go (by simp only [headOf,keepOne,go_sem,List.contains_cons,Nat.reduceBEq,Bool.or_false,Bool.false_or];exact if_pos rfl) (ks.length - (k+1)) (by omega) ⟨k+1,by omega,rfl,?_⟩
            rw [hno]
            rfl
      · obtain rfl:k=ks.length:=by omega
        have hwl:(wr t vt ks one ks.length).length=t.length:=wr_len
        have hwn:(wr l vl ks one ks.length).length=l.length:=wr_len
        unfold Shapes at hSh hSv
        cases vch with
        | true=>
          rw [if_pos rfl] at hSh hSv
          have hvl0:vl=[]:=List.eq_nil_of_length_eq_zero hSv.2
          have hl0:l=[]:=List.eq_nil_of_length_eq_zero hSh.2
          have h63:=c71_X (s:=s) (t:=wr t vt ks one ks.length) h64 (by omega) (by omega)
          rw [hwl,fits_of hSh.1,if_pos rfl] at h63
          have hno:wr l vl ks one ks.length=[]:=by rw [hvl0,wr_none,hl0]
          simp only [hno,arrX,runes,ints,hwl] at h63 ⊢
          simp only [b21_0,k21_0,arrX,runes,ints,go_sem,FL,subA5,Int.lt_irrefl]
          refine goP h58 ?_
          simp only [go_sem,FL,subA5]
          refine goP h48 ?_
          simp only [go_sem,FL,subA5]
          refine goF h63 ?_
          simp only [go_sem,FL,subA5]
          simp only [i21,OT,reduceIte,Nat.reduceEqDiff,subA5,hwl]
        | false=>
          rw [if_neg (by simp)] at hSh hSv
          have hvt0:vt=[]:=hSv.2
          have ht0:t=[]:=hSh.2
          have h64:=c52_X (s:=s) (l:=wr l vl ks one ks.length) h64 (by omega) (by omega)
          rw [hwn,fits_of hSh.1,if_pos rfl] at h64
          have hno:wr t vt ks one ks.length=[]:=by rw [hvt0,wr_none,ht0]
          simp only [hno,arrX,runes,ints,hwn] at h64 ⊢
          simp only [b21_0,k21_0,arrX,runes,ints,go_sem,FL,subA5,Int.lt_irrefl]
          refine goP h58 ?_
          simp only [go_sem,FL,subA5]
          refine goP h48 ?_
          simp only [go_sem,FL,subA5]
          refine goF h64 ?_
          simp only [go_sem,FL,subA5]
          simp only [i21,OT,reduceIte,Nat.reduceEqDiff,subA5,hwn]
    · rw [if_neg hc] at hR
      subst hR
      have hb:(vch==ch)=false:=by simpa using hc
      simp only [go_sem,FL,subA5,hb,Bool.not_false]
      simp only [i21,OT,reduceIte,Nat.reduceEqDiff,subA5,noA]
theorem stR {s t:List Int} {ch vch:Bool} {l:List Rt} {ks:List Int} {one:Bool} {vt:List Int} {vl:List Rt} :
    (AV.tup [.agg (if (if ks=[] then (0:Int) else if vch≠ch then 22 else 0)=0 then arrX s ch (wr t vt ks one ks.length) (wr l vl ks one ks.length) else noA),.int .i64 (if ks=[] then (0:Int) else if vch≠ch then 22 else 0)]) =
      if ks=[] then .tup [.agg (arrX s ch t l),.int .i64 0] else if vch=ch then .tup [.agg (arrX s ch (wr t vt ks one ks.length) (wr l vl ks one ks.length)),.int .i64 0] else .tup [.agg noA,.int .i64 22]:=by
  by_cases hk:ks=[]
  · subst hk;rfl
  · by_cases hc:vch=ch
    · simp [hk,hc]
    · simp [hk,hc]
set_option maxHeartbeats 1000000 in
theorem c21_ok {l vl:List Rt} (ho:0≤o∧o≤1) (h:SubO s L) (hw:stE s vs ch vch L o=0→vch=ch→WrO t vt ch (decide (vs=[])) l.length vl.length (ksV s L o)) (h64:∀d∈s,In64 d) (hSh:Shapes s ch t l.length) (hSv:Shapes vs vch vt vl.length) (ht:t.length≤1000000) (hl:l.length≤1000000) (hvt:vt.length≤1000000) (hvl:vl.length≤1000000) (hvs:vs.length≤8) :
    Go.V.Call tab E 21 [.agg (arrX s ch t l),.agg (arrX vs vch vt vl),.int .i64 o,.sl L.length 6 (sbsA L)] [] (.tup [.agg (stA s t ch l vs vt vch vl L o),.int .i64 (stE s vs ch vch L o)]) []:=by
  refine Go.V.Call.mach i21 c21 rfl rfl rfl rfl ?_
  have hs8:=h.sub.sl
  have h48:=c44_X (s:=s) (t:=t) (l:=l) (ch:=ch) (by omega)
  have h48v:=c44_X (s:=vs) (t:=vt) (l:=vl) (ch:=vch) (by omega)
  have h56:=c66_X (s:=vs) (t:=vt) (l:=vl) (ch:=vch) (by omega)
  have h58:=c68_ok (s:=s) (t:=t) (l:=l) (ch:=ch)
  have h58v:=c68_ok (s:=vs) (t:=vt) (l:=vl) (ch:=vch)
  have h59:=c69_X (s:=s) (t:=t) (l:=l) (ch:=ch) (by omega)
  have h60:=c70_ok (s:=s) (t:=t) (l:=l) (ch:=ch) (by omega)
  have h47:=c63_ok ho h.sub
  simp only [arrX,runes,ints,rows] at h48 h48v h56 h58 h58v h47 h59 h60
  by_cases he:axE s L o=0
  · have hp:=h.plc he
    have h50:=c65_ok hp
    have hV:(lesO o (wW s L o)).length=L.length:=by rw [lesO_len,wW_len]
    rw [hV] at h50
    have h5:ints (crsN (str s) (lesO o (wW s L o)) L.length)=ints (ksV s L o):=rfl
    rw [h5] at h50
    have hcnt:=h.cnt he
    have hkl:(ksV s L o).length≤30000000:=hp.bl (by rw [hV];exact Nat.le_refl _)
    obtain ⟨_,_,_,ho8,_⟩:=axE_zero he
    have hE:stE s vs ch vch L o=if vs≠[]∧vs.length≠(outS s L L.length).length then 23
      else if vs≠[]∧vs≠outS s L L.length then 24
      else if ksV s L o=[] then 0
      else if vch≠ch then 22 else 0:=by rw [stE,if_neg (by simpa using he)]
    have h57:=c67_ok (E:=E) (s:=vs) (t:=outS s L L.length) (by omega) (by omega)
    unfold axR at h47
    rw [he,if_pos rfl,if_pos rfl,←les_W] at h47
    have hone:decide ((vs.length:Int)=0)=decide (vs=[]):=by cases vs<;>simp;omega
    unfold stA
    generalize hEe:stE s vs ch vch L o=e at *
    generalize outS s L L.length=out at *
    generalize ksV s L o=ks at *
    generalize lesO o (wW s L o)=V at *
    simp only [rows,ints] at h47 h50 h57
    simp only [c21,arrX,runes,ints,go_sem,FL,subA5]
    refine goP h48 ?_
    simp only [go_sem,FL,subA5]
    refine goP h47 ?_
    simp only [go_sem,FL,subA5,bne_self_eq_false]
    refine goP h56 ?_
    simp only [go_sem,FL,subA5]
    by_cases hz:vs=[]
    · have hb:((vs.length:Int)==0)=true:=by rw [hz];rfl
      have hd:decide (vs=[])=true:=by simpa using hz
      rw [if_neg (by simp [hz]),if_neg (by simp [hz])] at hE
      simp only [go_sem,FL,subA5,hb,Bool.not_true]
      refine goP h48 ?_
      simp only [go_sem,FL,subA5]
      refine goP h50 ?_
      have tl:=c21_tail (V:=V) (one:=true) (R:=.tup [.agg (if e=0 then arrX s ch (wr t vt ks (decide (vs=[])) ks.length) (wr l vl ks (decide (vs=[])) ks.length) else noA),.int .i64 e]) hs8 hvs ht hl hvt hvl h64 hSh hSv hkl (fun hc=>by rw [←hd];exact hw (by rw [hE];split;rfl;rw [if_neg (by simpa using hc)]) hc) (by rw [hE,hd];exact stR)
      simp only [c21,nx,arrX,runes,ints,go_sem,FL,subA5] at tl ⊢
      exact tl
    · have hb:((vs.length:Int)==0)=false:=by cases vs with|nil=>exact absurd rfl hz|cons a b=>simp;omega
      have hd:decide (vs=[])=false:=by simpa using hz
      simp only [go_sem,FL,subA5,hb,Bool.not_false]
      refine goP h56 ?_
      simp only [go_sem,FL,subA5]
      by_cases h23:vs.length=out.length
      · have hq:((vs.length:Int) != (out.length:Int))=false:=by simp;omega
        simp only [go_sem,FL,subA5,hq]
        refine goP h48v ?_
        simp only [go_sem,FL,subA5]
        refine goP h57 ?_
        simp only [go_sem,FL,subA5]
        by_cases h24:vs=out
        · rw [if_neg (by simp [h23]),if_neg (by simp [h24])] at hE
          simp only [go_sem,FL,subA5,decide_eq_true h24,Bool.not_true]
          refine goP h48 ?_
          simp only [go_sem,FL,subA5]
          refine goP h50 ?_
          have tl:=c21_tail (V:=V) (one:=false) (R:=.tup [.agg (if e=0 then arrX s ch (wr t vt ks (decide (vs=[])) ks.length) (wr l vl ks (decide (vs=[])) ks.length) else noA),.int .i64 e]) hs8 hvs ht hl hvt hvl h64 hSh hSv hkl (fun hc=>by rw [←hd];exact hw (by rw [hE];split;rfl;rw [if_neg (by simpa using hc)]) hc) (by rw [hE,hd];exact stR)
          simp only [c21,nx,arrX,runes,ints,go_sem,FL,subA5] at tl ⊢
          exact tl
        · rw [if_neg (by simp [h23]),if_pos ⟨hz,h24⟩] at hE
          subst hE
          simp only [go_sem,FL,subA5,decide_eq_false h24,Bool.not_false]
          simp only [i21,OT,reduceIte,Nat.reduceEqDiff,subA5,noA]
          rfl
      · have hq:((vs.length:Int) != (out.length:Int))=true:=by simp;omega
        rw [if_pos ⟨hz,h23⟩] at hE
        subst hE
        simp only [go_sem,FL,subA5,hq]
        simp only [i21,OT,reduceIte,Nat.reduceEqDiff,subA5,noA]
        rfl
  · have hne:(axE s L o != 0)=true:=by simpa using he
    have hE:stE s vs ch vch L o=axE s L o:=by rw [stE,if_pos he]
    unfold axR at h47
    rw [if_neg he,if_neg he] at h47
    unfold stA
    rw [hE,if_neg he]
    generalize axE s L o=e at *
    simp only [c21,arrX,runes,ints,go_sem,FL,subA5]
    refine goP h48 ?_
    simp only [go_sem,FL,subA5]
    refine goP h47 ?_
    simp only [go_sem,FL,subA5,hne]
    simp only [i21,OT,reduceIte,Nat.reduceEqDiff,subA5,noA]
end
section
variable {s t vs vt:List Int} {ch vch:Bool} {L:List SubN} {o:Int}
end
theorem crs_in {s:List Int} {V:List (List Int)} (h:PlcH s V):∀{i:Nat},i≤s.length→∀f∈crsN (str s) V i,0≤f∧f+prd (s.drop i)≤prd s
  | 0,_,f,hf=>by
    obtain rfl:=List.mem_singleton.1 hf
    rw [List.drop_zero]
    exact ⟨by omega,by omega⟩
  | i+1,hi,f,hf=>by
    obtain ⟨g,hg,hf⟩:=List.mem_flatMap.1 hf
    obtain ⟨n,hn,rfl⟩:=List.mem_map.1 hf
    obtain ⟨g1,g2⟩:=crs_in h (i:=i) (by omega) g hg
    obtain ⟨n1,n2⟩:=h.vin i (by omega) n hn
    have hc:=(h.st i).1
    have hs:(str s).getD i 0=prd (s.drop (i+1)):=by rw [h.strP];exact strP_get (by omega)
    have hd:s.drop i=s.getD i 0::s.drop (i+1):=by
      rw [List.drop_eq_getElem_cons (by omega)]
      simp [List.getD,show i<s.length by omega]
    rw [hd,prd] at g2
    rw [hs] at hc ⊢
    generalize prd (s.drop (i+1))=c at *
    have h1:=Int.mul_le_mul_of_nonneg_right (show n+1≤s.getD i 0 by omega) hc
    rw [Int.add_mul,Int.one_mul] at h1
    exact ⟨Int.add_nonneg g1 (Int.mul_nonneg n1 hc),by omega⟩
theorem ks_in {s:List Int} {L:List SubN} {o:Int} (h:SubO s L) (he:axE s L o=0):∀k∈ksV s L o,0≤k∧k<prd s:=fun k hk=>by
  have hl:=(axE_zero he).1
  have:=crs_in (h.plc he) (i:=L.length) (by omega) k hk
  rw [hl,List.drop_length,prd] at this
  omega
theorem stE_zero {s vs:List Int} {ch vch:Bool} {L:List SubN} {o:Int} (h:stE s vs ch vch L o=0):axE s L o=0∧(vs≠[]→vs=outS s L L.length):=by
  unfold stE at h
  by_cases h1:axE s L o=0
  · rw [if_neg (by simpa using h1)] at h
    refine ⟨h1,fun hz=>?_⟩
    by_cases h2:vs.length=(outS s L L.length).length
    · rw [if_neg (fun h=>h.2 h2)] at h
      by_cases h3:vs=outS s L L.length
      · exact h3
      · rw [if_pos ⟨hz,h3⟩] at h;cases h
    · rw [if_pos ⟨hz,h2⟩] at h;cases h
  · rw [if_pos h1] at h;exact absurd h h1
theorem wrO_of {s t vs vt:List Int} {ch vch:Bool} {n m:Nat} {L:List SubN} {o:Int} (h:SubO s L) (hS:Shapes s ch t n) (hV:Shapes vs vch vt m) (he:stE s vs ch vch L o=0) (hc:vch=ch):WrO t vt ch (decide (vs=[])) n m (ksV s L o):=by
  subst hc
  obtain ⟨h1,h2⟩:=stE_zero he
  intro i hi
  have hk:=ks_in h h1 ((ksV s L o).getD i 0) (by simp [List.getD,hi])
  have hcn:=h.cnt h1
  unfold Shapes at hS hV
  cases vch with
  | true=>
    rw [if_pos rfl] at hS hV ⊢
    rw [if_pos rfl]
    have hp:=count_prd hS.1
    refine ⟨⟨hk.1,by omega⟩,?_⟩
    by_cases hz:vs=[]
    · rw [decide_eq_true hz,if_pos rfl]
      rw [hz] at hV
      have:(1:Int)=(vt.length:Int):=Option.some.inj ((show count []=some 1 by rfl).symm.trans hV.1)
      omega
    · rw [decide_eq_false hz,if_neg (by simp)]
      have hh:=hV.1
      rw [h2 hz,hcn] at hh
      have:=Option.some.inj hh
      omega
  | false=>
    simp only [Bool.false_eq_true,if_false] at hS hV ⊢
    have hp:=count_prd hS.1
    refine ⟨⟨hk.1,by omega⟩,?_⟩
    by_cases hz:vs=[]
    · rw [decide_eq_true hz,if_pos rfl]
      rw [hz] at hV
      have:(1:Int)=(m:Int):=Option.some.inj ((show count []=some 1 by rfl).symm.trans hV.1)
      omega
    · rw [decide_eq_false hz,if_neg (by simp)]
      have hh:=hV.1
      rw [h2 hz,hcn] at hh
      have:=Option.some.inj hh
      omega
theorem wr_back {α:Type} {t v:List α} {ks:List Int} {one:Bool} {d:α} (hk:∀i,i<ks.length→0≤ks.getD i 0∧(ks.getD i 0).toNat<t.length) (hv:v=ks.map fun k=>t.getD k.toNat d) (h1:one=true→ks.length≤1):∀{k:Nat},k≤ks.length→wr t v ks one k=t
  | 0,_=>rfl
  | k+1,h=>by
    have hj:(if one then 0 else k)=k:=by
      cases one with
      | false=>rfl
      | true=>have:=h1 rfl;rw [if_pos rfl];omega
    have hlt:(if one then 0 else k)<v.length:=by rw [hj,hv,List.length_map];omega
    rw [wr_succ d hlt,wr_back hk hv h1 (by omega),hj]
    have h2:=(hk k (by omega)).2
    have hg:v.getD k d=t.getD (ks.getD k 0).toNat d:=by
      rw [hv]
      simp [List.getD,show k<ks.length by omega]
    rw [hg]
    generalize (ks.getD k 0).toNat=p at *
    simp only [List.getD,List.getElem?_eq_getElem h2,Option.getD_some,List.set_getElem_self]
theorem wr_all {α:Type} {t v:List α} {ks:List Int} {d:α} (hv:0<v.length) (hk:∀i,i<ks.length→0≤ks.getD i 0∧(ks.getD i 0).toNat<t.length):∀{k:Nat},k≤ks.length→∀j,j<k→(wr t v ks true k).getD (ks.getD j 0).toNat d=v.getD 0 d
  | 0,_,j,h=>by omega
  | k+1,h,j,hj=>by
    have hlt:(if true then 0 else k)<v.length:=hv
    have h2:=(hk k (by omega)).2
    rw [wr_succ d hlt,if_pos rfl]
    by_cases he:(ks.getD j 0).toNat=(ks.getD k 0).toNat
    · rw [he]
      simp only [List.getD] at h2 ⊢
      rw [List.getElem?_set_self (by rw [wr_len];exact h2)]
      rfl
    · have hjk:j<k:=by
        rcases Nat.lt_or_ge j k with h|h
        · exact h
        · obtain rfl:j=k:=by omega
          exact absurd rfl he
      have ih:=wr_all (d:=d) hv hk (k:=k) (by omega) j hjk
      simp only [List.getD] at ih he ⊢
      rw [List.getElem?_set_ne (fun e=>he e.symm)]
      exact ih
section
variable {s t vs vt:List Int} {ch:Bool} {l vl:List Rt} {L:List SubN} {o:Int}
theorem ks_lt (h:SubO s L) (he:axE s L o=0) (hS:Shapes s ch t l.length):∀i,i<(ksV s L o).length→0≤(ksV s L o).getD i 0∧((ksV s L o).getD i 0).toNat<(if ch then t.length else l.length):=fun i hi=>by
  have hk:=ks_in h he ((ksV s L o).getD i 0) (by simp [List.getD,hi])
  unfold Shapes at hS
  cases ch with
  | true=>
    rw [if_pos rfl] at hS ⊢
    have hp:=count_prd hS.1
    exact ⟨hk.1,by omega⟩
  | false=>
    simp only [Bool.false_eq_true,if_false] at hS ⊢
    have hp:=count_prd hS.1
    exact ⟨hk.1,by omega⟩
theorem pkT_len {ks:List Int}:(picksT ch t ks).length=if ch then ks.length else 0:=by unfold picksT;split<;>simp
theorem pkR_len {ks:List Int}:(picksR ch l ks).length=if ch then 0 else ks.length:=by unfold picksR;split<;>simp
theorem SubO.shO (h:SubO s L) (he:axE s L o=0):Shapes (outS s L L.length) ch (picksT ch t (ksV s L o)) (picksR ch l (ksV s L o)).length:=by
  have hc:=h.cnt he
  unfold Shapes
  rw [pkR_len,pkT_len]
  cases ch with
  | true=>exact ⟨hc,rfl⟩
  | false=>exact ⟨hc,rfl⟩
theorem SubO.kl (h:SubO s L) (he:axE s L o=0):(ksV s L o).length≤4096:=by
  have hc:=h.cnt he
  have h1:=(count_bound hc).2.2 (outS s L L.length).length
  rw [List.take_length,←count_prd hc] at h1
  omega
theorem st_back (h:SubO s L) (he:axE s L o=0) (hS:Shapes s ch t l.length) (hch:(ch=true→l=[])∧(ch=false→t=[])) :
    stE s (outS s L L.length) ch ch L o=0∧stA s t ch l (outS s L L.length) (picksT ch t (ksV s L o)) ch (picksR ch l (ksV s L o)) L o=arrX s ch t l:=by
  have h0:stE s (outS s L L.length) ch ch L o=0:=by
    unfold stE
    rw [if_neg (by simpa using he),if_neg (by simp),if_neg (by simp)]
    split
    · rfl
    · simp
  refine ⟨h0,?_⟩
  have hk:=ks_lt h he hS
  have h1:decide (outS s L L.length=[])=true→(ksV s L o).length≤1:=fun hd=>by
    have hc:=h.cnt he
    rw [of_decide_eq_true hd] at hc
    have:=Option.some.inj ((show count []=some 1 by rfl).symm.trans hc)
    omega
  unfold stA
  rw [if_pos h0]
  cases ch with
  | true=>
    have e1:=hch.1 rfl
    subst e1
    have:=wr_back (t:=t) (v:=picksT true t (ksV s L o)) (ks:=ksV s L o) (one:=decide (outS s L L.length=[])) (d:=0) hk (by
      simp only [picksT,if_true]
      refine List.map_congr_left fun k hkm=>?_
      obtain ⟨i,hi,rfl⟩:=List.getElem_of_mem hkm
      have:=hk i hi
      simp only [List.getD,List.getElem?_eq_getElem hi,Option.getD_some,if_true] at this
      unfold pickT
      rw [if_pos ⟨this.1,by omega⟩]) h1 (Nat.le_refl _)
    rw [this,show picksR true ([]:List Rt) (ksV s L o)=[] from rfl,wr_none]
  | false=>
    have e1:=hch.2 rfl
    subst e1
    have:=wr_back (t:=l) (v:=picksR false l (ksV s L o)) (ks:=ksV s L o) (one:=decide (outS s L L.length=[])) (d:=(false,0,0)) hk (by
      simp only [picksR,Bool.false_eq_true,if_false]
      refine List.map_congr_left fun k hkm=>?_
      obtain ⟨i,hi,rfl⟩:=List.getElem_of_mem hkm
      have:=hk i hi
      simp only [List.getD,List.getElem?_eq_getElem hi,Option.getD_some,Bool.false_eq_true,if_false] at this
      unfold pickR
      rw [if_pos ⟨this.1,by omega⟩];rfl) h1 (Nat.le_refl _)
    rw [this,show picksT false ([]:List Int) (ksV s L o)=[] from rfl,wr_none]
theorem stE_one (he:axE s L o=0):stE s [] ch ch L o=0:=by
  unfold stE
  rw [if_neg (by simpa using he),if_neg (by simp),if_neg (by simp)]
  split
  · rfl
  · simp
theorem one_rune (h:SubO s L) (he:axE s L o=0) (hS:Shapes s true t l.length) (hv:0<vt.length) {i:Nat} (hi:i<(ksV s L o).length) :
    runeAt (picksT true (wr t vt (ksV s L o) true (ksV s L o).length) (ksV s L o)) i=vt.getD 0 0:=by
  have hk:=ks_lt h he hS
  rw [if_pos rfl] at hk
  rw [runeAt_nat (by rw [pkT_len,if_pos rfl];exact hi),←wr_all (d:=0) hv hk (Nat.le_refl _) i hi]
  have h1:=hk i hi
  simp only [picksT,if_true,List.getD,List.getElem?_map,List.getElem?_eq_getElem hi,Option.map_some,Option.getD_some] at h1 ⊢
  unfold pickT
  rw [if_pos ⟨h1.1,by rw [wr_len];omega⟩]
  simp [List.getD]
theorem one_rat (h:SubO s L) (he:axE s L o=0) (hS:Shapes s false t l.length) (hv:0<vl.length) {i:Nat} (hi:i<(ksV s L o).length) :
    pickR (picksR false (wr l vl (ksV s L o) true (ksV s L o).length) (ksV s L o)) i=vl.getD 0 (false,0,0):=by
  have hk:=ks_lt h he hS
  simp only [Bool.false_eq_true,if_false] at hk
  rw [pickR_nat (by rw [pkR_len,if_neg (by simp)];exact hi),←wr_all (d:=(false,0,0)) hv hk (Nat.le_refl _) i hi]
  have h1:=hk i hi
  simp only [picksR,Bool.false_eq_true,if_false,List.getD,List.getElem?_map,List.getElem?_eq_getElem hi,Option.map_some,Option.getD_some] at h1 ⊢
  unfold pickR
  rw [if_pos ⟨h1.1,by rw [wr_len];omega⟩]
  simp [List.getD,rtAt]
end
theorem num_right {x:Nm} (h:RightN x.1 x.2.1 x.2.2):Go.V.Call tab E 26 [.agg (rtC (toRt x))] [] (.agg (nmC x)) []:=by
  have h1:=right_ok h
  have h2:=c26_gen (E:=E) (n:=(toRt x).1) h1.1 h1.2
  have h3:numG (toRt x).1 (toRt x).2.1 (dn (toRt x).2.2)=nmC x:=by rw [nmC_dec,back_nm h]
  rw [h3] at h2
  exact h2
theorem num_ne0 {b:Bool} {x y:List Int}:structV .ne [0,2,2] (.agg [.bool b,.str (bs x),.str (bs y)]) (.agg [.bool b,.str (bs x),.str (bs y)])=some (.bool false):=by
  simp [structV,scalarsEq,kindOf,scalEq,beqBA]
section
variable {s t vs vt:List Int} {ch vch:Bool} {l vl:List Nm} {L:List SubN}
set_option maxHeartbeats 1000000 in
theorem c4_core (hI:PagI s t ch l) (hJ:PagI vs vt vch vl) (hO:SubO s L) (h16:Go.V.Call tab E 16 [.sl L.length 5 (sbsN L)] [] (.tup [.sl L.length 6 (sbsA L),.bool true]) [])
    (h17:Go.V.Call tab E 17 [.agg (plX s ch t l),.int .i64 200] [] (.bool true) []) (h17v:Go.V.Call tab E 17 [.agg (plX vs vch vt vl),.int .i64 200] [] (.bool true) []) :
    Go.V.Call tab E 4 [.agg (plX s ch t l),.agg (plX vs vch vt vl),.sl L.length 5 (sbsN L)] [] (.bool true) []:=by
  refine Go.V.Call.mach i4 c4 rfl rfl rfl rfl ?_
  have haw:=c18_awake
  have h19:=hI.of
  have h19v:=hJ.of
  obtain ⟨l1,l2,l3⟩:=hI.lens
  obtain ⟨m1,m2,m3⟩:=hJ.lens
  have hS:=hI.li.2.2.2.2.1
  have hV:=hJ.li.2.2.2.2.1
  have hR:=hI.li.2.2.2.2.2
  have hRv:=hJ.li.2.2.2.2.2
  have h20:=c20_ok (s:=s) (t:=t) (ch:=ch) (l:=l.map toRt) (L:=L) (o:=0) (by omega) hO (by omega) (by rw [List.length_map];omega)
  have hSm:Shapes s ch t (l.map toRt).length:=by rw [List.length_map];exact hS
  have hcm:(ch=true→l.map toRt=[])∧(ch=false→t=[]):=⟨fun h=>by rw [hI.chs.1 h];rfl,hI.chs.2⟩
  by_cases he:axE s L 0=0
  · have hb:=st_back (o:=0) hO he hSm hcm
    have hcnt:=hO.cnt he
    have hkl:=hO.kl he
    obtain ⟨_,_,_,ho8,_⟩:=axE_zero he
    have hks:=ks_lt (o:=0) hO he hSm
    have hSo:=hO.shO (t:=t) (ch:=ch) (l:=l.map toRt) he
    have h21b:=c21_ok (s:=s) (t:=t) (ch:=ch) (l:=l.map toRt) (vs:=outS s L L.length) (vt:=picksT ch t (ksV s L 0)) (vch:=ch) (vl:=picksR ch (l.map toRt) (ksV s L 0)) (L:=L) (o:=0) (by omega) hO (fun he hc=>wrO_of hO hSm hSo he hc) hI.s64 hSm hSo (by omega) (by rw [List.length_map];omega) (by rw [pkT_len];split<;>omega) (by rw [pkR_len];split<;>omega) ho8
    rw [hb.1,hb.2] at h21b
    have h22:=c22_ok (s:=s) (t:=t) (l:=l.map toRt) (ch:=ch) (s':=s) (t':=t) (l':=l.map toRt) (ch':=ch) (by omega) (by omega) (by rw [List.length_map];omega) (by omega) (by omega) (by rw [List.length_map];omega) (fun x hx=>by obtain ⟨y,hy,rfl⟩:=List.mem_map.1 hx;exact right_red (hR y hy)) (fun x hx=>by obtain ⟨y,hy,rfl⟩:=List.mem_map.1 hx;exact right_red (hR y hy))
    rw [decide_eq_true ⟨rfl,rfl,rfl,rfl⟩] at h22
    unfold idxA at h20
    rw [he,if_pos rfl] at h20
    simp only [plX,arrX,runes,ints] at h17 h17v h19 h19v h20 h21b h22
    simp only [c4,plX,runes,ints,go_sem,FL,subP4]
    refine goP h16 ?_
    simp only [go_sem,FL,subP4]
    refine goP h17 ?_
    simp only [go_sem,FL,subP4]
    refine goP h17v ?_
    simp only [go_sem,FL,subP4]
    refine goP h19 ?_
    simp only [go_sem,FL,subP4,subA5]
    refine goF h20 ?_
    simp only [go_sem,FL,subP4,subA5,bne_self_eq_false]
    refine goF h21b ?_
    simp only [go_sem,FL,subP4,subA5,bne_self_eq_false]
    refine goR h22 rfl ?_
    simp only [go_sem,FL,subP4,subP4a,subA5,bne_self_eq_false]
    by_cases hz:vs=[]
    · by_cases hc:vch=ch
      · subst hz
        subst hc
        have hVm:Shapes [] vch vt (vl.map toRt).length:=by rw [List.length_map];exact hV
        have h21v:=c21_ok (s:=s) (t:=t) (ch:=vch) (l:=l.map toRt) (vs:=[]) (vt:=vt) (vch:=vch) (vl:=vl.map toRt) (L:=L) (o:=0) (by omega) hO (fun he hc=>wrO_of hO hSm hVm he hc) hI.s64 hSm hVm (by omega) (by rw [List.length_map];omega) (by omega) (by rw [List.length_map];omega) (by simp)
        unfold stA at h21v
        rw [stE_one he,if_pos rfl,decide_eq_true rfl] at h21v
        have h20d:=c20_ok (s:=s) (t:=wr t vt (ksV s L 0) true (ksV s L 0).length) (ch:=vch) (l:=wr (l.map toRt) (vl.map toRt) (ksV s L 0) true (ksV s L 0).length) (L:=L) (o:=0) (by omega) hO (by rw [wr_len];omega) (by rw [wr_len,List.length_map];omega)
        unfold idxA at h20d
        rw [he,if_pos rfl] at h20d
        have hlen:∀(X:List Int) (Y:List Rt),(picksT vch X (ksV s L 0)).length+(picksR vch Y (ksV s L 0)).length=(ksV s L 0).length:=fun X Y=>by rw [pkT_len,pkR_len];split<;>omega
        have h23:=fun (X:List Int) (Y:List Rt)=>c23_X (s:=outS s L L.length) (t:=picksT vch X (ksV s L 0)) (l:=picksR vch Y (ksV s L 0)) (ch:=vch) (by have:=hlen X Y;omega) (by have:=hlen X Y;omega)
        simp only [hlen] at h23
        simp only [arrX,runes,ints] at h21v h20d h23
        have hl0:(([]:List Int).length:Int)=0:=rfl
        simp only [go_sem,FL,subP4,subP4a,subP4b,subA5,hl0,List.length_nil,bne_self_eq_false,beq_self_eq_true,Bool.not_true]
        refine goP h19v ?_
        simp only [go_sem,FL,subP4,subA5,bne_self_eq_false]
        refine goF h21v ?_
        simp only [go_sem,FL,subP4,subA5,bne_self_eq_false]
        refine goF h20d ?_
        simp only [go_sem,FL,subP4,subA5,bne_self_eq_false]
        refine goR (h23 _ _) rfl ?_
        simp only [go_sem,FL,subP4,subA5,bne_self_eq_false]
        refine goR (h23 _ _) rfl ?_
        simp only [go_sem,FL,subP4,subA5,bne_self_eq_false]
        cases vch with
        | true=>
          have hv0:0<vt.length:=by
            unfold Shapes at hVm
            rw [if_pos rfl] at hVm
            have:(1:Int)=(vt.length:Int):=Option.some.inj ((show count []=some 1 by rfl).symm.trans hVm.1)
            omega
          have hv0':(0:Int)<(vt.length:Int):=by omega
          have gv:=sub_nums (k:=.i32) (l:=vt) (i:=0) hv0
          simp only [Nat.zero_mul] at gv
          refine mLoop (fun N st=>∃k:Nat,k≤(ksV s L 0).length∧N=(ksV s L 0).length - k∧st=⟨[(3,.loc 0 0 0),(4,.loc 1 0 0),(16,.loc 21 0 0),(18,.int .i64 k)],[⟨true,37,4,0,1,plX s true t l,false⟩,⟨true,37,4,0,1,plX [] true vt vl,false⟩,⟨false,3,1,0,0,[],false⟩,⟨false,21,1,0,0,[],false⟩,⟨false,59,3,0,0,[],false⟩,⟨true,28,5,0,1,arrX s true t (l.map toRt),false⟩,⟨false,3,1,0,0,[],false⟩,⟨false,21,1,0,0,[],false⟩,⟨false,59,3,0,0,[],false⟩,⟨true,28,5,0,1,arrX (outS s L L.length) true (picksT true t (ksV s L 0)) (picksR true (l.map toRt) (ksV s L 0)),false⟩,⟨false,3,1,0,0,[],false⟩,⟨false,21,1,0,0,[],false⟩,⟨false,59,3,0,0,[],false⟩,⟨true,28,5,0,1,arrX s true t (l.map toRt),false⟩,⟨false,3,1,0,0,[],false⟩,⟨false,21,1,0,0,[],false⟩,⟨false,59,3,0,0,[],false⟩,⟨true,28,5,0,1,arrX s true (wr t vt (ksV s L 0) true (ksV s L 0).length) (wr (l.map toRt) (vl.map toRt) (ksV s L 0) true (ksV s L 0).length),false⟩,⟨false,3,1,0,0,[],false⟩,⟨false,21,1,0,0,[],false⟩,⟨false,59,3,0,0,[],false⟩,⟨true,28,5,0,1,arrX (outS s L L.length) true (picksT true (wr t vt (ksV s L 0) true (ksV s L 0).length) (ksV s L 0)) (picksR true (wr (l.map toRt) (vl.map toRt) (ksV s L 0) true (ksV s L 0).length) (ksV s L 0)),false⟩]⟩) (ksV s L 0).length ⟨_,by simp only [headOf,keepOne,go_sem,List.contains_cons,Nat.reduceBEq,Bool.or_false,Bool.false_or];exact if_pos rfl,0,by omega,by omega,by simp [ints,plX,arrX,runes,nums]⟩ ?_
          rintro N s0 ⟨k,hk,rfl,rfl⟩
          by_cases hkn:k<(ksV s L 0).length
          · have hk':(k:Int)<((ksV s L 0).length:Int):=by omega
            have hk0:(0:Int)≤(k:Int):=by omega
            have hk1:IntKind.i64.wrap ((k:Int)+1)=((k+1:Nat):Int):=by rw [wrap_i64 (by omega) (by omega)];omega
            have h24:=c24_ok (s:=outS s L L.length) (t:=picksT true (wr t vt (ksV s L 0) true (ksV s L 0).length) (ksV s L 0)) (l:=picksR true (wr (l.map toRt) (vl.map toRt) (ksV s L 0) true (ksV s L 0).length) (ksV s L 0)) (ch:=true) (k:=(k:Int)) (by rw [pkT_len,if_pos rfl];omega)
            rw [one_rune hO he hSm hv0 hkn] at h24
            simp only [arrX,runes,ints] at h24
            simp only [b4_0,plX,arrX,runes,ints,go_sem,FL,subP4,subP4a,subP4b,subP4c,subP3',subP3,subA5]
            refine goR (h23 _ _) rfl ?_
            simp only [go_sem,FL,subP4,subP4a,subP4b,subP4c,subP3',subP3,subA5,hk']
            refine goR h24 rfl ?_
            simp only [go_sem,FL,subP4,subP4a,subP4b,subP4c,subP3',subP3,subA5,hv0',Int.le_refl,Int.toNat_zero,Nat.zero_mul,gv,bne_self_eq_false,Bool.not_true,hk1]
            exact loopQ_go (by simp only [headOf,keepOne,go_sem,List.contains_cons,Nat.reduceBEq,Bool.or_false,Bool.false_or];exact if_pos rfl) ((ksV s L 0).length - (k+1)) (by omega) ⟨k+1,by omega,rfl,rfl⟩
          · obtain rfl:k=(ksV s L 0).length:=by omega
            simp only [b4_0,k4_0,plX,arrX,runes,ints,go_sem,FL,subP4,subP4a,subP4b,subP4c,subP3',subP3,subA5,Int.lt_irrefl]
            refine goR (h23 _ _) rfl ?_
            simp only [go_sem,FL,subP4,subP4a,subP4b,subP4c,subP3',subP3,subA5,Int.lt_irrefl]
            refine goP haw ?_
            simp only [go_sem]
            simp only [i4,OT,reduceIte,Nat.reduceEqDiff]
        | false=>
          have hv0:0<vl.length:=by
            unfold Shapes at hV
            rw [if_neg (by simp)] at hV
            have:(1:Int)=(vl.length:Int):=Option.some.inj ((show count []=some 1 by rfl).symm.trans hV.1)
            omega
          have hv0':(0:Int)<(vl.length:Int):=by omega
          have hv1:0<(vl.map toRt).length:=by rw [List.length_map];exact hv0
          have gv:=sub_nms (l:=vl) (i:=0) hv0
          simp only [Nat.zero_mul] at gv
          have hRx:RightN (nmAt vl 0).1 (nmAt vl 0).2.1 (nmAt vl 0).2.2:=hRv _ (by simp [nmAt,List.getD,hv0])
          have h26:=num_right hRx
          refine mLoop (fun N st=>∃k:Nat,k≤(ksV s L 0).length∧N=(ksV s L 0).length - k∧st=⟨[(3,.loc 0 0 0),(4,.loc 1 0 0),(16,.loc 21 0 0),(18,.int .i64 k)],[⟨true,37,4,0,1,plX s false t l,false⟩,⟨true,37,4,0,1,plX [] false vt vl,false⟩,⟨false,3,1,0,0,[],false⟩,⟨false,21,1,0,0,[],false⟩,⟨false,59,3,0,0,[],false⟩,⟨true,28,5,0,1,arrX s false t (l.map toRt),false⟩,⟨false,3,1,0,0,[],false⟩,⟨false,21,1,0,0,[],false⟩,⟨false,59,3,0,0,[],false⟩,⟨true,28,5,0,1,arrX (outS s L L.length) false (picksT false t (ksV s L 0)) (picksR false (l.map toRt) (ksV s L 0)),false⟩,⟨false,3,1,0,0,[],false⟩,⟨false,21,1,0,0,[],false⟩,⟨false,59,3,0,0,[],false⟩,⟨true,28,5,0,1,arrX s false t (l.map toRt),false⟩,⟨false,3,1,0,0,[],false⟩,⟨false,21,1,0,0,[],false⟩,⟨false,59,3,0,0,[],false⟩,⟨true,28,5,0,1,arrX s false (wr t vt (ksV s L 0) true (ksV s L 0).length) (wr (l.map toRt) (vl.map toRt) (ksV s L 0) true (ksV s L 0).length),false⟩,⟨false,3,1,0,0,[],false⟩,⟨false,21,1,0,0,[],false⟩,⟨false,59,3,0,0,[],false⟩,⟨true,28,5,0,1,arrX (outS s L L.length) false (picksT false (wr t vt (ksV s L 0) true (ksV s L 0).length) (ksV s L 0)) (picksR false (wr (l.map toRt) (vl.map toRt) (ksV s L 0) true (ksV s L 0).length) (ksV s L 0)),false⟩]⟩) (ksV s L 0).length ⟨_,by simp only [headOf,keepOne,go_sem,List.contains_cons,Nat.reduceBEq,Bool.or_false,Bool.false_or];exact if_pos rfl,0,by omega,by omega,by simp [ints,plX,arrX,runes,nums]⟩ ?_
          rintro N s0 ⟨k,hk,rfl,rfl⟩
          by_cases hkn:k<(ksV s L 0).length
          · have hk':(k:Int)<((ksV s L 0).length:Int):=by omega
            have hk0:(0:Int)≤(k:Int):=by omega
            have hk1:IntKind.i64.wrap ((k:Int)+1)=((k+1:Nat):Int):=by rw [wrap_i64 (by omega) (by omega)];omega
            have h25:=c25_ok (s:=outS s L L.length) (t:=picksT false (wr t vt (ksV s L 0) true (ksV s L 0).length) (ksV s L 0)) (l:=picksR false (wr (l.map toRt) (vl.map toRt) (ksV s L 0) true (ksV s L 0).length) (ksV s L 0)) (ch:=false) (k:=(k:Int)) (by rw [pkR_len,if_neg (by simp)];omega)
            rw [one_rat hO he hSm hv1 hkn,show (vl.map toRt).getD 0 (false,0,0)=toRt (nmAt vl 0) from rtAt_map hv0] at h25
            generalize nmAt vl 0=x at *
            simp only [nmC] at gv
            simp only [arrX,runes,ints,rtC,ratG,us32,nmC] at h25 h26
            simp only [b4_0,plX,arrX,runes,ints,go_sem,FL,subP4,subP4a,subP4b,subP4c,subP3',subP3,subA5]
            refine goR (h23 _ _) rfl ?_
            simp only [go_sem,FL,subP4,subP4a,subP4b,subP4c,subP3',subP3,subA5,hk',hv0',Int.le_refl,Int.toNat_zero,Nat.zero_mul,gv,Bool.not_false]
            refine goF h25 ?_
            simp only [go_sem,FL,subP4,subP4a,subP4b,subP4c,subP3',subP3,subA5]
            refine goP h26 ?_
            simp only [go_sem,FL,subP4,subP4a,subP4b,subP4c,subP3',subP3,subA5,bne_self_eq_false,beq_self_eq_true,Bool.not_true,hk1,num_ne0,Option.map_some]
            exact loopQ_go (by simp only [headOf,keepOne,go_sem,List.contains_cons,Nat.reduceBEq,Bool.or_false,Bool.false_or];exact if_pos rfl) ((ksV s L 0).length - (k+1)) (by omega) ⟨k+1,by omega,rfl,rfl⟩
          · obtain rfl:k=(ksV s L 0).length:=by omega
            simp only [b4_0,k4_0,plX,arrX,runes,ints,go_sem,FL,subP4,subP4a,subP4b,subP4c,subP3',subP3,subA5,Int.lt_irrefl]
            refine goR (h23 _ _) rfl ?_
            simp only [go_sem,FL,subP4,subP4a,subP4b,subP4c,subP3',subP3,subA5,Int.lt_irrefl]
            refine goP haw ?_
            simp only [go_sem]
            simp only [i4,OT,reduceIte,Nat.reduceEqDiff]
      · have hb:(vch==ch)=false:=by simpa using hc
        have hl0:((vs.length:Int) != 0)=false:=by rw [hz];rfl
        simp only [go_sem,FL,subP4,subP4a,subP4b,subA5,hl0,hb,Bool.not_false]
        refine goP haw ?_
        simp only [go_sem]
        simp only [i4,OT,reduceIte,Nat.reduceEqDiff]
    · have hl0:((vs.length:Int) != 0)=true:=by cases vs with|nil=>exact absurd rfl hz|cons a b=>simp;omega
      simp only [go_sem,FL,subP4,subP4a,subP4b,subA5,hl0]
      refine goP haw ?_
      simp only [go_sem]
      simp only [i4,OT,reduceIte,Nat.reduceEqDiff]
  · have hne:(axE s L 0 != 0)=true:=by simpa using he
    unfold idxA at h20
    rw [if_neg he] at h20
    generalize axE s L 0=e at *
    simp only [plX,arrX,runes,ints,noA] at h17 h17v h19 h20
    simp only [c4,plX,runes,ints,go_sem,FL,subP4]
    refine goP h16 ?_
    simp only [go_sem,FL,subP4]
    refine goP h17 ?_
    simp only [go_sem,FL,subP4]
    refine goP h17v ?_
    simp only [go_sem,FL,subP4]
    refine goP h19 ?_
    simp only [go_sem,FL,subP4,subA5]
    refine goF h20 ?_
    simp only [go_sem,FL,subP4,subA5,hne]
    refine goP haw ?_
    simp only [go_sem]
    simp only [i4,OT,reduceIte,Nat.reduceEqDiff]
theorem c4_ok (hs:∀d∈s,In64 d) (hu:∀x∈l,U8 x.2.1∧U8 x.2.2) (hvs:∀d∈vs,In64 d) (hvu:∀x∈vl,U8 x.2.1∧U8 x.2.2) (h64:∀x∈L,∀d∈x.s,In64 d) (hu8:∀x∈L,∀y∈x.l,U8 y.2.1∧U8 y.2.2) :
    Go.V.Call tab E 4 [.agg (plX s ch t l),.agg (plX vs vch vt vl),.sl L.length 5 (sbsN L)] [] (.bool true) []:=by
  have haw:=c18_awake
  have h9:=fun okk h=>c16_ok (L:=L) (ok:=okk) h64 hu8 h
  have h10:=fun okk h=>c17_ok (s:=s) (t:=t) (l:=l) (ch:=ch) (ok:=okk) (most:=200) (by omega) hs hu h
  have h10v:=fun okk h=>c17_ok (s:=vs) (t:=vt) (l:=vl) (ch:=vch) (ok:=okk) (most:=200) (by omega) hvs hvu h
  by_cases hL:SubsP L
  · have g9:=h9 true ⟨fun _=>hL,fun _=>rfl⟩
    rw [if_pos rfl] at g9
    by_cases hP:LightP s ch t l 200
    · have g10:=h10 true ⟨fun _=>hP,fun _=>rfl⟩
      by_cases hQ:LightP vs vch vt vl 200
      · have g10v:=h10v true ⟨fun _=>hQ,fun _=>rfl⟩
        have hI:PagI s t ch l:=⟨hP,hs,hu⟩
        exact c4_core hI ⟨hQ,hvs,hvu⟩ (subO_of hI hL h64 hu8) g9 g10 g10v
      · have g10v:=h10v false ⟨fun h=>(by cases h),fun h=>absurd h hQ⟩
        refine Go.V.Call.mach i4 c4 rfl rfl rfl rfl ?_
        simp only [plX,runes,ints] at g10 g10v
        simp only [c4,plX,runes,ints,go_sem,FL,subP4]
        refine goP g9 ?_
        simp only [go_sem,FL,subP4]
        refine goP g10 ?_
        simp only [go_sem,FL,subP4]
        refine goP g10v ?_
        simp only [go_sem,FL,subP4]
        refine goP haw ?_
        simp only [go_sem]
        simp only [i4,OT,reduceIte,Nat.reduceEqDiff]
    · have g10:=h10 false ⟨fun h=>(by cases h),fun h=>absurd h hP⟩
      refine Go.V.Call.mach i4 c4 rfl rfl rfl rfl ?_
      simp only [plX,runes,ints] at g10
      simp only [c4,plX,runes,ints,go_sem,FL,subP4]
      refine goP g9 ?_
      simp only [go_sem,FL,subP4]
      refine goP g10 ?_
      simp only [go_sem,FL,subP4]
      refine goP haw ?_
      simp only [go_sem]
      simp only [i4,OT,reduceIte,Nat.reduceEqDiff]
  · have g9:=h9 false ⟨fun h=>(by cases h),fun h=>absurd h hL⟩
    rw [if_neg (by simp)] at g9
    refine Go.V.Call.mach i4 c4 rfl rfl rfl rfl ?_
    simp only [c4,plX,runes,ints,go_sem,FL,subP4]
    refine goP g9 ?_
    simp only [go_sem,FL,subP4]
    refine goP haw ?_
    simp only [go_sem]
    simp only [i4,OT,reduceIte,Nat.reduceEqDiff]
end
end Go.Proofs.Ytlejgleocnemoaa.I
