/- The texts L01r L03a L03b L06h LNum L06i L06j L06k L06l L06m L06n L03c L06o LRat LDet LSol LRed LInv LBnd LElm, one behind the other. Conditions: each text's own. -/
import Derived.Test.YtlejgleocnemoabGreatG06
import Derived.Test.YtlejgleocnemoabGreatG05
import Derived.Test.YtlejgleocnemoabGreatG02
import Derived.Deep.Slices
import Derived.Deep.Fields
import Derived.ChangeArms
set_option linter.unusedSimpArgs false
set_option linter.unusedVariables false
namespace Go.Proofs.YtlejgleocnemoabGreat.I
open Go Go.V
attribute [local go_sem_proc ↓] reduceIte
attribute [local go_sem_proc] Nat.reduceEqDiff Nat.reduceAdd Nat.reduceMul Nat.reduceLeDiff Nat.reduceLT Int.reduceToNat Int.reduceLT Int.reduceLE reduceCtorEq Nat.reduceBEq
attribute [local go_sem] mNil nat0 beq_self_eq_true mSkip mRet mExit mReg mSeq mCond mTrue mFalse mBlock mLv mCodeE mCodeR mEndN mEndR mEndE mOps mSome mGuard mGtt mGff mGtf mGft mGu mCallP mCallR mCallF mCallO mCallZ mCallG mCallM mCallV loopQ_exit loopQ_ret mO_mov mO_newnil mO_pick mO_alloc mO_box mO_build mO_bsl mO_bslF mO_newnilB mO_bslB mO_lenB mO_appB mO_allocA mO_bslA mO_appA mO_ldb mO_faddrb mRsv mO_ldf mO_ld mO_st mO_sta mO_nilchk mO_bin mO_binb mO_binp mO_bins mO_neg mO_com mO_not mO_conv mO_mk mO_mk0 mO_mkB mO_s2b mO_b2s mO_cpy mO_cut mO_faddr mO_fld mO_iaddr mO_iaddrf mO_sidx mO_len mO_lenf mO_slen mO_scut mO_app mO_ext mO_mx mO_mn mO_mkfn evalOp cutOp argsE ev getE putE cellsOf adopt rowOf binV boolV nilV ar_add ar_sub ar_mul ar_quo ar_rem ar_eq ar_ne ar_lt ar_le ar_gt ar_ge ar_and ar_or ar_xor geto bound finRet finNrm ints List.length_cons List.length_nil List.length_append List.getElem?_cons_zero List.getElem?_cons_succ List.nil_append List.cons_append List.map_cons List.map_nil List.mapM_cons List.mapM_nil Option.map_some Option.map_none Option.bind_some Option.pure_def Option.bind_eq_bind List.drop_zero or_self or_false false_or or_true true_or true_and and_true and_self decide_true decide_false Bool.false_eq_true Bool.true_eq_false Bool.not_true Bool.not_false Nat.le_refl eq_self gt_iff_lt ge_iff_le ne_eq not_true_eq_false not_false_eq_true storeOp apartOf freeze_nil refsL refs List.flatMap_cons List.flatMap_nil List.append_nil List.contains_nil List.set_cons_zero List.set_cons_succ snap snapL fill_nums flat_nums nums_length Go.V.freeze List.mapIdx_cons List.mapIdx_nil List.contains_cons Bool.or_false Bool.false_or Bool.or_true Bool.true_or
theorem wrap_u8 {n:Int} (h1:0≤n) (h2:n≤255):IntKind.u8.wrap n=n:=by
  simp only [IntKind.wrap,IntKind.bits,IntKind.signed]
  simp
  omega
theorem tmodN (a b:Nat):((a:Nat):Int).tmod ((b:Nat):Int)=((a % b:Nat):Int):=by rw [Int.tmod_eq_emod_of_nonneg (Int.natCast_nonneg a),←Int.natCast_emod]
theorem tdivN (a b:Nat):((a:Nat):Int).tdiv ((b:Nat):Int)=((a/b:Nat):Int):=by rw [Int.tdiv_eq_ediv_of_nonneg (Int.natCast_nonneg a),←Int.natCast_ediv]
theorem tmod16 (a:Nat):((a:Nat):Int).tmod 65536=((a % 65536:Nat):Int):=by rw [Int.tmod_eq_emod_of_nonneg (Int.natCast_nonneg a)];omega
theorem tdiv16 (a:Nat):((a:Nat):Int).tdiv 65536=((a/65536:Nat):Int):=by rw [Int.tdiv_eq_ediv_of_nonneg (Int.natCast_nonneg a)];omega
def gval (l:List Int):Nat:=l.foldl (fun a x=>a*1000000000+x.toNat) 0
theorem gval_snoc {l:List Int} {x:Int}:gval (l++[x])=gval l*1000000000+x.toNat:=by simp [gval]
def R9 (l:List Int):Prop:=∀x∈l,0≤x∧x<1000000000
theorem R9_nil:R9 []:=fun x hx=>by simp at hx
theorem R9_snoc {l:List Int} {x:Int} (h:R9 l) (hx:0≤x∧x<1000000000):R9 (l++[x]):=fun y hy=>by
  rcases List.mem_append.1 hy with h1|h1
  · exact h y h1
  · simp at h1;subst h1;exact hx
def GrI (l:List Int) (i:Nat) (g:List Int) (n:Nat):Prop:=R9 g∧g.length≤i∧∃j,n<10^j∧j≤8∧sval (l.take i)=gval g*10^j+n∧
  ((g≠[]∧(l.length - i+j) % 9=0)∨(g=[]∧j=i∧(l.length % 9=0∨i<l.length % 9)))
theorem GrI.zero {l:List Int}:GrI l 0 [] 0:=⟨R9_nil,by simp,0,by simp,by omega,by simp [sval_nil,gval],.inr ⟨rfl,rfl,by omega⟩⟩
theorem GrI.small {l g:List Int} {i n:Nat} (h:GrI l i g n):n<100000000:=by
  obtain ⟨_,_,j,h1,h2,_⟩:=h
  have hp:10^j≤100000000:=by simpa using Nat.pow_le_pow_right (n:=10) (i:=j) (j:=8) (by omega) h2
  omega
theorem GrI.cut {l g:List Int} {i n d:Nat} (h:GrI l i g n) (hi:i<l.length) (hx:l.getD i 0=48+(d:Int)) (hd:d≤9) (hc:(l.length - i - 1) % 9=0):GrI l (i+1) (g++[((n*10+d:Nat):Int)]) 0:=by
  obtain ⟨h0,hgl,j,h1,h2,h3,h4⟩:=h
  have hp:10^(j+1)≤1000000000:=by simpa using Nat.pow_le_pow_right (n:=10) (i:=j+1) (j:=9) (by omega) (by omega)
  rw [Nat.pow_succ] at hp
  have hs:sval (l.take (i+1))=10*sval (l.take i)+d:=by rw [take_snoc hi,sval_snoc,hx];omega
  refine ⟨R9_snoc h0 (by omega),by rw [List.length_append];simp;omega,0,by simp,by omega,?_,.inl ⟨by simp,by omega⟩⟩
  rw [hs,h3,gval_snoc]
  rcases h4 with ⟨h4,h5⟩|⟨h4,h5,h6⟩
  · have hj:j=8:=by omega
    subst hj
    simp only [Int.toNat_natCast,Nat.pow_zero,Nat.reducePow]
    omega
  · subst h4
    simp only [gval,List.foldl_nil,Int.toNat_natCast,Nat.pow_zero]
    omega
theorem GrI.go {l g:List Int} {i n d:Nat} (h:GrI l i g n) (hi:i<l.length) (hx:l.getD i 0=48+(d:Int)) (hd:d≤9) (hc:(l.length - i - 1) % 9≠0):GrI l (i+1) g (n*10+d):=by
  obtain ⟨h0,hgl,j,h1,h2,h3,h4⟩:=h
  have hs:sval (l.take (i+1))=10*sval (l.take i)+d:=by rw [take_snoc hi,sval_snoc,hx];omega
  refine ⟨h0,by omega,j+1,by rw [Nat.pow_succ];omega,?_,?_,?_⟩
  · rcases h4 with ⟨h4,h5⟩|⟨h4,h5,h6⟩
    · by_cases hj:j=8
      · subst hj;omega
      · omega
    · by_cases hj:j=8
      · subst hj;omega
      · omega
  · rw [hs,h3,Nat.pow_succ,Nat.mul_add,←Nat.mul_assoc,Nat.mul_comm 10,Nat.mul_assoc,Nat.mul_comm 10]
    omega
  · rcases h4 with ⟨h4,h5⟩|⟨h4,h5,h6⟩
    · exact .inl ⟨h4,by omega⟩
    · exact .inr ⟨h4,by omega,by omega⟩
theorem GrI.done {l g:List Int} {n:Nat} (h:GrI l l.length g n):gval g=sval l:=by
  obtain ⟨h0,hgl,j,h1,h2,h3,h4⟩:=h
  have hj:j=0:=by rcases h4 with ⟨h4,h5⟩|⟨h4,h5,h6⟩<;>omega
  subst hj
  rw [List.take_length] at h3
  simp at h1 h3
  omega
section
variable {E:CallRel}
theorem c171_ok {l:List Int} (hd:Dig l) (hll:l.length≤1000000000):∃g,R9 g∧gval g=sval l∧g.length≤l.length∧Go.V.Call tab E 171 [.str (bs l)] [] (.sl g.length 1 (nums .i64 g)) []:=by
  suffices h:Mach (Go.V.Call tab E) (fun x st=>∃g,(R9 g∧gval g=sval l∧g.length≤l.length)∧Fin i171 [] (.sl g.length 1 (nums .i64 g)) [] x st) [.code c171] .nrm ⟨argsE 0 [.str (bs l)],[]⟩ by
    obtain ⟨x,st,h1,h4⟩:=wp_exec h
    rw [mNil] at h4
    obtain ⟨g,⟨g1,g2,g3⟩,h2⟩:=h4
    exact ⟨g,g1,g2,g3,Go.V.Call.go i171 c171 rfl rfl rfl rfl (exec_wp h1 h2)⟩
  simp only [c171,go_sem,bs_size]
  refine mLoop (fun N st=>∃(i:Nat) (g:List Int) (n:Nat),i≤l.length∧N=l.length - i∧GrI l i g n∧
    st=⟨[(0,.str (bs l)),(3,.arr 1 g.length),(4,.int .i64 n),(5,.int .i64 ((l.length - i:Nat):Int)),(6,.int .i64 i)],[⟨false,3,1,0,0,[],false⟩,⟨false,3,1,g.length,g.length,nums .i64 g,false⟩]⟩) l.length
    ⟨_,rfl,0,[],0,by omega,by omega,GrI.zero,by simp [getE,nums]⟩ ?_
  rintro N s0 ⟨i,g,n,hi,rfl,hg,rfl⟩
  by_cases hlt:i<l.length
  · have hlt':(i:Int)<(l.length:Int):=by omega
    have hi0:(0:Int)≤(i:Int):=by omega
    have hi1:IntKind.i64.wrap ((i:Int)+1)=((i+1:Nat):Int):=by rw [wrap_i64 (by omega) (by omega)];omega
    have hgb:=bs_getK hlt
    have hmem:l.getD i 0∈l:=by simp [List.getD,hlt]
    have hx:=hd _ hmem
    obtain ⟨d,hxd,hd9⟩:∃d:Nat,l.getD i 0=48+(d:Int)∧d≤9:=⟨(l.getD i 0 - 48).toNat,by omega,by omega⟩
    have hu8:=u8n (x:=48+(d:Int)) (by omega)
    rw [hxd] at hgb
    have hs:=hg.small
    have w1:IntKind.i64.wrap ((n:Int)*10)=(n:Int)*10:=wrap_i64 (by omega) (by omega)
    have w2:IntKind.u8.wrap (48+(d:Int) - 48)=(d:Int):=by rw [wrap_u8 (by omega) (by omega)];omega
    have w3:IntKind.i64.wrap (d:Int)=(d:Int):=wrap_i64 (by omega) (by omega)
    have w4:IntKind.i64.wrap ((n:Int)*10+(d:Int))=((n*10+d:Nat):Int):=by rw [wrap_i64 (by omega) (by omega)];omega
    have w5:IntKind.i64.wrap (((l.length - i:Nat):Int) - 1)=((l.length - (i+1):Nat):Int):=by rw [wrap_i64 (by omega) (by omega)];omega
    have w6:(((l.length - (i+1):Nat):Int)).tmod 9=(((l.length - (i+1)) % 9:Nat):Int):=tmodN _ 9
    have q9:¬((9:Int)=0):=by decide
    by_cases hc:(l.length - i - 1) % 9=0
    · have hc':((((l.length - (i+1)) % 9:Nat):Int)==0)=true:=by rw [beq_iff_eq];omega
      have hgl:=hg.2.1
      have e1:(g.length+1)*8≤140737488355328:=by omega
      have e2:g.length+1≤140737488355328:=by omega
      have hcut:=hg.cut hlt hxd hd9 hc
      simp only [b171_0,go_sem,bs_size,hlt',hi0,Int.toNat_natCast,hgb,hu8,hxd,hi1,w1,w2,w3,w4,w5,w6,q9,hc',e1,e2,List.flatten_cons,List.flatten_nil,Option.getD_some]
      refine loopQ_go rfl (l.length - (i+1)) (by omega) ⟨i+1,_,0,by omega,rfl,hcut,?_⟩
      simp only [nums,List.map_append,List.map_cons,List.map_nil,List.length_append,List.length_cons,List.length_nil]
      rfl
    · have hc':((((l.length - (i+1)) % 9:Nat):Int)==0)=false:=by rw [beq_eq_false_iff_ne];omega
      have hcut:=hg.go hlt hxd hd9 hc
      simp only [b171_0,go_sem,bs_size,hlt',hi0,Int.toNat_natCast,hgb,hu8,hxd,hi1,w1,w2,w3,w4,w5,w6,q9,hc']
      exact loopQ_go rfl (l.length - (i+1)) (by omega) ⟨i+1,_,_,by omega,rfl,hcut,rfl⟩
  · have hlt':¬(i:Int)<(l.length:Int):=by omega
    obtain rfl:i=l.length:=by omega
    simp only [b171_0,k171_0,go_sem,bs_size,hlt',Int.lt_irrefl]
    refine ⟨g,⟨hg.1,hg.done,hg.2.1⟩,?_⟩
    simp only [i171,OT,reduceIte,Nat.reduceEqDiff]
def bl (n:Nat):Nat:=if h:n=0 then 0 else bl (n/2)+1
  termination_by n
  decreasing_by exact Nat.div_lt_self (Nat.pos_of_ne_zero h) (by omega)
theorem bl_zero:bl 0=0:=by rw [bl];rfl
theorem bl_pos {n:Nat} (h:n≠0):bl n=bl (n/2)+1:=by rw [bl,dif_neg h]
theorem bl_shift:∀{k n:Nat},2^k≤n→bl n=k+bl (n/2^k)
  | 0,n,_=>by simp
  | k+1,n,h=>by
    have hp:0<2^k:=Nat.pow_pos (by omega)
    rw [Nat.pow_succ] at h
    have h1:2^k≤n/2:=by omega
    rw [bl_pos (by omega),bl_shift h1,Nat.div_div_eq_div_mul,Nat.pow_succ,Nat.mul_comm 2]
    omega
theorem bl_le:∀{k n:Nat},n<2^k→bl n≤k
  | 0,n,h=>by
    have:n=0:=by simpa using h
    subst this;rw [bl_zero];omega
  | k+1,n,h=>by
    by_cases h0:n=0
    · subst h0;rw [bl_zero];omega
    · rw [bl_pos h0]
      have:=bl_le (k:=k) (n:=n/2) (by rw [Nat.pow_succ] at h;omega)
      omega
theorem bl_limG:∀{m v:Nat},v≤m→(bl v+31)/32=(limG v).length:=by
  intro m
  induction m with
  | zero => intro v h;obtain rfl:v=0:=by omega
            rw [bl_zero,limG_zero];rfl
  | succ m ih=>
    intro v h
    by_cases h0:v=0
    · subst h0;rw [bl_zero,limG_zero];rfl
    · rw [limG_pos h0,List.length_cons]
      by_cases hb:4294967296≤v
      · have:=bl_shift (k:=32) (n:=v) (by simpa using hb)
        rw [show (2:Nat)^32=4294967296 from rfl] at this
        rw [this,←ih (by omega)]
        omega
      · rw [show v/4294967296=0 by omega,limG_zero]
        have h1:=bl_le (k:=32) (n:=v) (by simp;omega)
        have h2:=bl_pos h0
        simp
        omega
def PassI (l:List Int) (k:Nat) (q:List Int) (r:Nat):Prop:=R9 q∧q.length≤k∧r<65536∧gval (l.take k)=65536*gval q+r∧(q≠[]→0<gval q)
theorem PassI.zero {l:List Int}:PassI l 0 [] 0:=⟨R9_nil,by simp,by omega,by simp [gval],fun h=>absurd rfl h⟩
theorem gval_take {l:List Int} {k:Nat} (h:k<l.length):gval (l.take (k+1))=gval (l.take k)*1000000000+(l.getD k 0).toNat:=by rw [take_snoc h,gval_snoc]
theorem PassI.add {l q:List Int} {k r x:Nat} (h:PassI l k q r) (hk:k<l.length) (hx:l.getD k 0=(x:Int)) (hx9:x<1000000000) (hc:q≠[]∨0<(r*1000000000+x)/65536) :
    PassI l (k+1) (q++[(((r*1000000000+x)/65536:Nat):Int)]) ((r*1000000000+x) % 65536):=by
  obtain ⟨h0,h1,h2,h3,h4⟩:=h
  refine ⟨R9_snoc h0 (by omega),by rw [List.length_append];simp;omega,by omega,?_,fun _=>?_⟩
  · rw [gval_take hk,gval_snoc,h3,hx,Int.toNat_natCast,Int.toNat_natCast]
    omega
  · rw [gval_snoc,Int.toNat_natCast]
    by_cases hq:q=[]
    · rcases hc with hc|hc
      · exact absurd hq hc
      · omega
    · have:=h4 hq;omega
theorem PassI.skip {l:List Int} {k r x:Nat} (h:PassI l k [] r) (hk:k<l.length) (hx:l.getD k 0=(x:Int)) (hc:¬0<(r*1000000000+x)/65536) :
    PassI l (k+1) [] ((r*1000000000+x) % 65536):=by
  obtain ⟨h0,h1,h2,h3,h4⟩:=h
  refine ⟨h0,by simp,by omega,?_,fun h=>absurd rfl h⟩
  have h0:gval []=0:=rfl
  rw [h0] at h3
  rw [gval_take hk,hx,Int.toNat_natCast,h0]
  omega
theorem pass_facts {r x:Nat} (hr:r<65536) (hx:x<1000000000):IntKind.i64.wrap ((r:Int)*1000000000)=(r:Int)*1000000000∧
    IntKind.i64.wrap ((r:Int)*1000000000+(x:Int))=((r*1000000000+x:Nat):Int)∧
    IntKind.i64.wrap (((r*1000000000+x)/65536:Nat):Int)=(((r*1000000000+x)/65536:Nat):Int):=by
  refine ⟨wrap_i64 (by omega) (by omega),?_,?_⟩
  · rw [wrap_i64 (by omega) (by omega)];omega
  · have hT:(r*1000000000+x)/65536<1000000000:=by omega
    generalize (r*1000000000+x)/65536=T at hT
    exact wrap_i64 (by omega) (by omega)
def PB (v m:Nat):Prop:=v<65536^m
theorem PB.step {v m i:Nat} (h:PB v (m - i)) (hi:i<m) (hq:0<v/65536):PB (v/65536) (m - (i+1))∧i+1<m:=by
  unfold PB at h ⊢
  have h1:v/65536<65536^(m - (i+1)):=by
    rw [show m - i=(m - (i+1))+1 by omega,Nat.pow_succ] at h
    rw [Nat.div_lt_iff_lt_mul (by omega)]
    exact h
  refine ⟨h1,?_⟩
  by_cases hc:i+1<m
  · exact hc
  · rw [show m - (i+1)=0 by omega,Nat.pow_zero] at h1
    clear h
    omega
theorem c161_ok {l:List Int} (hd:Dig l) (hll:l.length≤1000000000) {m:Nat} (hm0:0<m) (hm:m≤10000) (hV:sval l<65536^m):Go.V.Call tab E 161 [.str (bs l)] [] (.int .i64 ((bl (sval l):Nat):Int)) []:=by
  obtain ⟨g,g1,g2,g3,h141⟩:=c171_ok (E:=E) hd hll
  refine Go.V.Call.mach i161 c161 rfl rfl rfl rfl ?_
  simp only [c161,go_sem]
  refine goP h141 ?_
  simp only [go_sem]
  refine mLoop (fun N st=>∃(i:Nat) (g:List Int),i<m∧N=m - i∧R9 g∧g.length≤1000000000∧PB (gval g) (m - i)∧bl (sval l)=16*i+bl (gval g)∧
    st=⟨[(3,.sl g.length 1 (nums .i64 g)),(4,.int .i64 ((16*i:Nat):Int)),(5,.int .i64 i)],[]⟩) m
    ⟨_,rfl,0,g,by omega,by omega,g1,by omega,by rw [g2];exact hV,by rw [g2];omega,by simp [getE]⟩ ?_
  clear hV
  rintro N s0 ⟨i,g,hi,rfl,hR,hgl,hlt,hb,rfl⟩
  have hi':(i:Int)<10000:=by omega
  simp only [b161_0,go_sem,hi']
  refine mLoop (fun N st=>∃(k:Nat) (q:List Int) (r:Nat),k≤g.length∧N=g.length - k∧PassI g k q r∧
    st=⟨[(3,.sl g.length 1 (nums .i64 g)),(4,.int .i64 ((16*i:Nat):Int)),(5,.int .i64 i),(6,.arr 0 q.length),(7,.int .i64 r),(8,.int .i64 k)],[⟨false,3,1,q.length,q.length,nums .i64 q,false⟩]⟩) g.length
    ⟨_,rfl,0,[],0,by omega,by omega,PassI.zero,by simp [getE,nums]⟩ ?_
  rintro N s0 ⟨k,q,r,hk,rfl,hp,rfl⟩
  by_cases hkl:k<g.length
  · have hkl':(k:Int)<(g.length:Int):=by omega
    have hk0:(0:Int)≤(k:Int):=by omega
    have hk1:IntKind.i64.wrap ((k:Int)+1)=((k+1:Nat):Int):=by rw [wrap_i64 (by omega) (by omega)];omega
    have hN:g.length - (k+1)<g.length - k:=by omega
    have hsub:=sub_nums (k:=.i64) hkl
    have hx9:=hR (g.getD k 0) (by simp [List.getD,hkl])
    obtain ⟨x,hx⟩:∃x:Nat,g.getD k 0=(x:Int):=⟨(g.getD k 0).toNat,by omega⟩
    have hr:=hp.2.2.1
    have hql:=hp.2.1
    have e1:(q.length+1)*8≤140737488355328:=by omega
    have e2:q.length+1≤140737488355328:=by omega
    have hx9':x<1000000000:=by omega
    obtain ⟨w1,w2,w5⟩:=pass_facts hr hx9'
    have w3:=tmod16 (r*1000000000+x)
    have w4:=tdiv16 (r*1000000000+x)
    have qn:¬((65536:Int)=0):=by decide
    by_cases hq:q=[]
    · subst hq
      have hq1:¬(0:Int)<(([]:List Int).length:Int):=by simp
      by_cases hc:0<(r*1000000000+x)/65536
      · have hc':(0:Int)<(((r*1000000000+x)/65536:Nat):Int):=Int.natCast_pos.2 hc
        have hadd:=hp.add hkl hx hx9' (.inr hc)
        simp only [b161_1,go_sem,hkl',hk0,hsub,hx,Int.toNat_natCast,w1,w2,w3,w4,w5,qn,hk1,hc',e1,e2,List.flatten_cons,List.flatten_nil,Option.getD_some,Int.lt_irrefl,Int.ofNat_zero]
        refine loopQ_go rfl (g.length - (k+1)) hN ⟨k+1,_,_,hkl,rfl,hadd,?_⟩
        simp only [nums,List.map_append,List.map_cons,List.map_nil,List.length_append,List.length_cons,List.length_nil]
        rfl
      · have hc':¬(0:Int)<(((r*1000000000+x)/65536:Nat):Int):=fun h=>hc (Int.natCast_pos.1 h)
        have hadd:=hp.skip hkl hx hc
        simp only [b161_1,go_sem,hkl',hk0,hsub,hx,Int.toNat_natCast,w1,w2,w3,w4,w5,qn,hk1,hc',e1,e2,List.flatten_cons,List.flatten_nil,Option.getD_some,Int.lt_irrefl,Int.ofNat_zero]
        exact loopQ_go rfl (g.length - (k+1)) hN ⟨k+1,_,_,hkl,rfl,hadd,rfl⟩
    · have hq0:q.length≠0:=fun h=>hq (List.length_eq_zero_iff.1 h)
      have hq1:(0:Int)<(q.length:Int):=by clear w1 w2 w3 w4 w5;omega
      have hadd:=hp.add hkl hx hx9' (.inl hq)
      simp only [b161_1,go_sem,hkl',hk0,hsub,hx,Int.toNat_natCast,w1,w2,w3,w4,w5,qn,hk1,hq1,e1,e2,List.flatten_cons,List.flatten_nil,Option.getD_some]
      refine loopQ_go rfl (g.length - (k+1)) hN ⟨k+1,_,_,hkl,rfl,hadd,?_⟩
      simp only [nums,List.map_append,List.map_cons,List.map_nil,List.length_append,List.length_cons,List.length_nil]
      rfl
  · have hkl':¬(k:Int)<(g.length:Int):=by omega
    obtain rfl:k=g.length:=by omega
    obtain ⟨p1,p2,p3,p4,p5⟩:=hp
    rw [List.take_length] at p4
    by_cases hq:q=[]
    · subst hq
      have hq1:(((([]:List Int).length:Nat):Int)==0)=true:=rfl
      have hgr:gval g=r:=by rw [p4];simp [gval]
      have hbr:bl r≤16:=bl_le (by simpa using p3)
      simp only [b161_1,k161_2,go_sem,hkl',hq1,Int.ofNat_zero,Int.lt_irrefl]
      refine mLoop (fun N st=>∃(r' n:Nat),N=r'∧r'<65536∧n+bl r'=16*i+bl r∧st=⟨[(4,.int .i64 n),(7,.int .i64 r')],[⟨false,3,1,0,0,[],false⟩]⟩) r
        ⟨_,rfl,r,16*i,rfl,p3,rfl,by simp [getE,nums]⟩ ?_
      rintro N s0 ⟨r',n,rfl,hr',hn,rfl⟩
      by_cases h0:N=0
      · subst h0
        have h0':¬(0:Int)<((0:Nat):Int):=by omega
        rw [bl_zero] at hn
        simp only [b161_2,k161_0,go_sem,h0',Int.ofNat_zero,Int.lt_irrefl]
        have hfin:bl (sval l)=n:=by rw [hb,hgr];omega
        simp only [i161,OT,reduceIte,Nat.reduceEqDiff,hfin]
      · have h0':(0:Int)<((N:Nat):Int):=by omega
        have w1:((N:Nat):Int).tdiv 2=((N/2:Nat):Int):=tdivN _ 2
        have w2:IntKind.i64.wrap ((N/2:Nat):Int)=((N/2:Nat):Int):=wrap_i64 (by omega) (by omega)
        have hbn:bl N≤16:=bl_le (by simpa using hr')
        have w3:IntKind.i64.wrap ((n:Int)+1)=((n+1:Nat):Int):=by rw [wrap_i64 (by omega) (by omega)];omega
        rw [bl_pos h0] at hn
        have q2:¬((2:Int)=0):=by decide
        simp only [b161_2,go_sem,h0',w1,w2,w3,q2]
        exact loopQ_go rfl (N/2) (by omega) ⟨N/2,n+1,rfl,by omega,by omega,rfl⟩
    · have hq0:q.length≠0:=fun h=>hq (List.length_eq_zero_iff.1 h)
      have hq1:((q.length:Int)==0)=false:=by rw [beq_eq_false_iff_ne];omega
      have hqp:=p5 hq
      have hdiv:gval q=gval g/65536:=by omega
      obtain ⟨hpow,him⟩:=hlt.step hi (by rw [←hdiv];exact hqp)
      rw [←hdiv] at hpow
      have hbl:=bl_shift (k:=16) (n:=gval g) (by simp;omega)
      rw [show (2:Nat)^16=65536 from rfl,←hdiv] at hbl
      have w1:IntKind.i64.wrap (((16*i:Nat):Int)+16)=((16*(i+1):Nat):Int):=by rw [wrap_i64 (by omega) (by omega)];omega
      have w2:IntKind.i64.wrap ((i:Int)+1)=((i+1:Nat):Int):=by rw [wrap_i64 (by omega) (by omega)];omega
      simp only [b161_1,k161_2,k161_1,k161_3,go_sem,hkl',hq1,w1,w2,Int.lt_irrefl]
      refine loopQ_go (by simp only [headOf,keepOne,go_sem,List.contains_cons,Nat.reduceBEq,Bool.or_false,Bool.false_or];exact if_pos rfl) (m - (i+1)) (by omega) ⟨i+1,q,him,rfl,p1,by omega,hpow,by omega,rfl⟩
theorem c136_ok {l:List Int} (hd:Dig l) (hll:l.length≤1000000000) {m:Nat} (hm0:0<m) (hm:m≤10000) (hV:sval l<65536^m):Go.V.Call tab E 136 [.str (bs l)] [] (.int .i64 (((limG (sval l)).length:Nat):Int)) []:=by
  refine Go.V.Call.mach i136 c136 rfl rfl rfl rfl ?_
  have hb:bl (sval l)≤160000:=by
    have:bl (sval l)≤16*m:=bl_le (by rw [Nat.pow_mul];exact hV)
    omega
  have hlm:=bl_limG (Nat.le_refl (sval l))
  have w1:IntKind.i64.wrap (((bl (sval l):Nat):Int)+31)=((bl (sval l)+31:Nat):Int):=by rw [wrap_i64 (by omega) (by omega)];omega
  have w2:(((bl (sval l)+31:Nat):Int)).tdiv 32=(((limG (sval l)).length:Nat):Int):=by rw [←hlm];exact tdivN _ 32
  have w3:IntKind.i64.wrap (((limG (sval l)).length:Nat):Int)=(((limG (sval l)).length:Nat):Int):=wrap_i64 (by omega) (by omega)
  simp only [c136,go_sem]
  refine goP (c161_ok hd hll hm0 hm hV) ?_
  have q32:¬((32:Int)=0):=by decide
  simp only [go_sem,w1,w2,w3,q32]
  simp only [i136,OT,reduceIte,Nat.reduceEqDiff]
end
section
variable {E:CallRel}
end
def ratG (n:Bool) (p q:Nat):List AV:=[us32 (limG p),.bool n,us32 (limG q)]
def numG (n:Bool) (p q:Nat):List AV:=[.bool n,.str (dec p),.str (dec q)]
def dn (q:Nat):Nat:=if q=0 then 1 else q
section
variable {E:CallRel}
theorem c145_nat {n:Nat}:Go.V.Call tab E 145 [natC n] [] (.bool (decide (n=0))) []:=by
  have h:=c145_ok (E:=E) (l:=limG n)
  by_cases h0:n=0
  · subst h0
    rw [limG_zero] at h
    rw [natC,limG_zero,decide_eq_true rfl]
    exact h
  · have:(((limG n).length:Int)==0)=false:=by
      rw [beq_eq_false_iff_ne]
      intro h1
      exact h0 (limG_len0 (by omega))
    rw [this] at h
    rw [decide_eq_false h0]
    exact h
theorem c117_gen {n:Bool} {p:Nat}:Go.V.Call tab E 117 [.agg [us32 (limG p),.bool n]] [] (.bool n) []:=by
  refine Go.V.Call.mach i117 c117 rfl rfl rfl rfl ?_
  simp only [c117,us32,go_sem,sub,FL]
  simp only [i117,OT,reduceIte,Nat.reduceEqDiff]
theorem c152_gen {n:Bool} {p:Nat}:Go.V.Call tab E 152 [.agg [us32 (limG p),.bool n]] [] (natC p) []:=by
  refine Go.V.Call.mach i152 c152 rfl rfl rfl rfl ?_
  simp only [c152,natC,us32,go_sem,sub,FL]
  simp only [i152,OT,reduceIte,Nat.reduceEqDiff,sub,FL,List.length_cons,List.length_nil,Nat.le_refl,us32]
theorem c111_gen {n:Bool} {p q:Nat}:Go.V.Call tab E 111 [.agg (ratG n p q)] [] (natC (dn q)) []:=by
  refine Go.V.Call.mach i111 c111 rfl rfl rfl rfl ?_
  have h124:=c145_nat (E:=E) (n:=q)
  simp only [natC,us32] at h124
  simp only [c111,natC,ratG,us32,go_sem,sub,FL]
  refine goP h124 ?_
  by_cases h:q=0
  · subst h
    have h90:=c99_nat (E:=E) (n:=1) (by omega)
    simp only [natC,us32] at h90
    simp only [dn,us32,go_sem,sub,FL]
    refine goP h90 ?_
    simp only [us32,go_sem,sub,FL]
    simp only [i111,OT,reduceIte,Nat.reduceEqDiff,sub,FL,List.length_cons,List.length_nil,Nat.le_refl,us32]
  · simp only [dn,us32,go_sem,sub,FL,h]
    simp only [i111,OT,reduceIte,Nat.reduceEqDiff,sub,FL,List.length_cons,List.length_nil,Nat.le_refl,us32]
theorem dgs_small {n:Nat} (h:n<lim2000):(dgs n).length≤1000000:=by
  by_cases h0:n=0
  · subst h0;rw [dgs_zero];simp
  · have:=lim2000_len h
    unfold decL at this
    rw [if_neg h0,List.length_reverse,asc_len] at this
    omega
theorem c118_lim {n:Nat} (h:n<lim2000):Go.V.Call tab E 118 [natC n] [] (.str (dec n)) []:=
  c118_ok (Nat.le_trans (lim2000_limbs h) (by omega)) (dgs_small h)
theorem c75_gen {n:Bool} {p q:Nat} (hp:p<lim2000) (hq:dn q<lim2000):Go.V.Call tab E 75 [.agg (ratG n p q)] [] (.agg (numG n p (dn q))) []:=by
  have h99:=c118_lim (E:=E) hp
  have h991:=c118_lim (E:=E) hq
  have h98:=c117_gen (E:=E) (n:=n) (p:=p)
  have h100:=c111_gen (E:=E) (n:=n) (p:=p) (q:=q)
  simp only [natC,us32,ratG] at h99 h991 h98 h100
  refine Go.V.Call.mach i75 c75 rfl rfl rfl rfl ?_
  simp only [c75,ratG,us32,go_sem,sub,FL]
  refine goP h98 ?_
  simp only [us32,go_sem,sub,FL]
  refine goP h99 ?_
  simp only [us32,go_sem,sub,FL]
  refine goP h100 ?_
  simp only [us32,go_sem,sub,FL]
  refine goP h991 ?_
  simp only [us32,go_sem,sub,FL]
  simp only [i75,OT,reduceIte,Nat.reduceEqDiff,sub,FL,List.length_cons,List.length_nil,Nat.le_refl,numG]
theorem c109_ok {n:Bool} {p:Nat}:Go.V.Call tab E 109 [.bool n,natC p] [] (.agg [us32 (limG p),.bool (n&&decide (p≠0))]) []:=by
  refine Go.V.Call.mach i109 c109 rfl rfl rfl rfl ?_
  have h124:=c145_nat (E:=E) (n:=p)
  simp only [natC,us32] at h124
  cases n with
  | false=>
    simp only [c109,natC,us32,go_sem,sub,FL]
    simp only [i109,OT,reduceIte,Nat.reduceEqDiff,sub,FL,List.length_cons,List.length_nil,Nat.le_refl,us32,Bool.false_and]
  | true=>
    simp only [c109,natC,us32,go_sem,sub,FL]
    refine goP h124 ?_
    by_cases h:p=0
    · subst h
      simp only [us32,go_sem,sub,FL]
      simp only [i109,OT,reduceIte,Nat.reduceEqDiff,sub,FL,List.length_cons,List.length_nil,Nat.le_refl,us32,Bool.true_and,decide_false,not_true_eq_false,ne_eq]
    · simp only [us32,go_sem,sub,FL,h]
      simp only [i109,OT,reduceIte,Nat.reduceEqDiff,sub,FL,List.length_cons,List.length_nil,Nat.le_refl,us32,Bool.true_and,decide_true,h,not_false_eq_true,ne_eq]
theorem c122_ok {n1 n2:Bool} {p q:Nat} (hq:q≠0) (hpl:(limG p).length≤1000000) (hql:(limG q).length≤1000000) :
    Go.V.Call tab E 122 [.agg [us32 (limG p),.bool n1],.agg [us32 (limG q),.bool n2]] [] (.tup [.agg (ratG ((n1 != n2)&&decide (p/Nat.gcd p q≠0)) (p/Nat.gcd p q) (q/Nat.gcd p q)),.bool true]) []:=by
  refine Go.V.Call.mach i122 c122 rfl rfl rfl rfl ?_
  have h124:=c145_nat (E:=E) (n:=q)
  rw [decide_eq_false hq] at h124
  have h136:=c152_gen (E:=E) (n:=n2) (p:=q)
  have h135:=c151_ok (E:=E) hpl hql
  have hg0:Nat.gcd p q≠0:=fun h=>hq (Nat.eq_zero_of_gcd_eq_zero_right h)
  have hgl:(limG (Nat.gcd p q)).length≤1000000:=by
    have:=limG_mono (Nat.gcd_le_right p (Nat.pos_of_ne_zero hq))
    omega
  have h137p:=c153_ok (E:=E) hpl hgl hg0
  have h137q:=c153_ok (E:=E) hql hgl hg0
  generalize Nat.gcd p q=g at *
  have h981:=c117_gen (E:=E) (n:=n1) (p:=p)
  have h982:=c117_gen (E:=E) (n:=n2) (p:=q)
  have h118:=c109_ok (E:=E) (n:=n1 != n2) (p:=p/g)
  generalize p/g=x at *
  generalize q/g=y at *
  simp only [natC,us32] at h124 h136 h135 h137p h137q h981 h982 h118
  have hb:boolV .ne (.bool n1) (.bool n2)=some (.bool (n1 != n2)):=by cases n1<;>cases n2<;>rfl
  simp only [c122,natC,us32,go_sem,sub,FL]
  refine goP h124 ?_
  simp only [us32,go_sem,sub,FL]
  refine goP h136 ?_
  simp only [us32,go_sem,sub,FL]
  refine goP h135 ?_
  simp only [us32,go_sem,sub,FL]
  refine goF h137p ?_
  simp only [us32,go_sem,sub,FL]
  refine goF h137q ?_
  simp only [us32,go_sem,sub,FL]
  refine goP h981 ?_
  simp only [us32,go_sem,sub,FL]
  refine goP h982 ?_
  simp only [us32,go_sem,sub,FL,hb]
  refine goF h118 ?_
  simp only [us32,go_sem,sub,FL]
  simp only [i122,OT,reduceIte,Nat.reduceEqDiff,sub,FL,List.length_cons,List.length_nil,Nat.le_refl,ratG,us32]
theorem c122_zero {n1 n2:Bool} {p:Nat}:Go.V.Call tab E 122 [.agg [us32 (limG p),.bool n1],.agg [us32 (limG 0),.bool n2]] [] (.tup [.agg (ratG false 0 0),.bool false]) []:=by
  have h124:=c145_nat (E:=E) (n:=0)
  rw [decide_eq_true rfl] at h124
  simp only [natC,us32,limG_zero] at h124
  simp only [ratG,us32,limG_zero]
  refine Go.V.Call.mach i122 c122 rfl rfl rfl rfl ?_
  simp only [c122,natC,us32,go_sem,sub,FL]
  refine goP h124 ?_
  simp only [us32,go_sem,sub,FL]
  simp only [i122,OT,reduceIte,Nat.reduceEqDiff,sub,FL,List.length_cons,List.length_nil,Nat.le_refl,ratG,us32]
  rfl
def RightN (n:Bool) (a b:List Int):Prop:=RightS a∧RightS b∧trimS a=a∧trimS b=b∧b≠[48]∧Nat.gcd (sval a) (sval b)=1∧¬(n=true∧a=[48])
theorem right_dec {a:List Int} (h:RightS a) (ht:trimS a=a):bs a=dec (sval a):=by
  rw [dec_eq,←trimS_dec h.1 (fun h0=>by have:=h.2.1;rw [h0] at this;simp at this),ht]
theorem right_zero {a:List Int} (h:RightS a) (ht:trimS a=a):sval a=0↔a=[48]:=by
  have h1:a=decL (sval a):=by
    rw [←trimS_dec h.1 (fun h0=>by have:=h.2.1;rw [h0] at this;simp at this),ht]
  refine ⟨fun h0=>?_,fun h0=>by rw [h0];rfl⟩
  rw [h1,h0]
  rfl
theorem trim_decL (n:Nat):trimS (decL n)=decL n:=by rw [trimS_dec (decL_dig n) (decL_ne n),sval_decL]
theorem str_eq' {a b:List Int} (ha:U8 a) (hb:U8 b):strOp .eq (bs a) (bs b)=some (.bool (decide (a=b))):=by simp only [strOp,str_eq ha hb]
theorem str_ne' {a b:List Int} (ha:U8 a) (hb:U8 b):strOp .ne (bs a) (bs b)=some (.bool (!decide (a=b))):=by simp only [strOp,str_eq ha hb]
theorem U8_48 {x:Int} (h:0≤x∧x<256):U8 [x]:=fun y hy=>by simp at hy;omega
theorem trimS_u8 {l:List Int} (h:U8 l):U8 (trimS l):=by
  induction l with
  | nil=>exact h
  | cons x l ih=>
    cases l with
    | nil=>exact h
    | cons y l=>
      rw [trimS]
      split
      · exact ih (U8_cons.1 h).2
      · exact h
theorem c120_ok {n ok:Bool} {a b:List Int} (ha:U8 a) (hb:U8 b) (hal:a.length≤1000000000) (hbl:b.length≤1000000000) (hok:ok=true↔RightN n a b) :
    Go.V.Call tab E 120 [.agg [.bool n,.str (bs a),.str (bs b)]] [] (.bool ok) []:=by
  refine Go.V.Call.mach i120 c120 rfl rfl rfl rfl ?_
  have hfalse:¬RightN n a b→ok=false:=fun h=>by rw [←Bool.not_eq_true,hok];exact h
  have e48:(⟨#[48]⟩:ByteArray)=bs [48]:=rfl
  have e49:(⟨#[49]⟩:ByteArray)=bs [49]:=rfl
  by_cases hRa:RightS a
  · have h119a:=c147_ok (E:=E) (b:=true) ha hal ⟨fun _=>hRa,fun _=>rfl⟩
    by_cases hRb:RightS b
    · have h119b:=c147_ok (E:=E) (b:=true) hb hbl ⟨fun _=>hRb,fun _=>rfl⟩
      have h120a:=c148_S (E:=E) ha hal
      have h120b:=c148_S (E:=E) hb hbl
      have na:=str_ne' (trimS_u8 ha) ha
      have nb:=str_ne' (trimS_u8 hb) hb
      have eb:=str_eq' hb (U8_48 (x:=48) (by omega))
      have ea:=str_eq' ha (U8_48 (x:=48) (by omega))
      rw [←e48] at eb ea
      by_cases hta:trimS a=a
      · by_cases htb:trimS b=b
        · by_cases hb48:b=[48]
          · have:=hfalse (fun h=>h.2.2.2.2.1 hb48)
            subst this
            rw [decide_eq_true hta,Bool.not_true] at na
            rw [decide_eq_true htb,Bool.not_true] at nb
            rw [decide_eq_true hb48] at eb
            simp only [c120,go_sem,sub,FL]
            refine goP h119a ?_
            simp only [go_sem,sub,FL]
            refine goP h119b ?_
            simp only [go_sem,sub,FL]
            refine goP h120a ?_
            simp only [go_sem,sub,FL,na]
            refine goP h120b ?_
            simp only [go_sem,sub,FL,nb,eb]
            simp only [i120,OT,reduceIte,Nat.reduceEqDiff]
          · have h121:=c149_ok (E:=E) (a:=sval a) (b:=sval b) (Right_lim hRa) (Right_lim hRb)
            rw [←right_dec hRa hta,←right_dec hRb htb,dec_eq] at h121
            have eg:=str_eq' (decL_dig (Nat.gcd (sval a) (sval b))).u8 (U8_48 (x:=49) (by omega))
            rw [←e49] at eg
            have hg1:decL (Nat.gcd (sval a) (sval b))=[49]↔Nat.gcd (sval a) (sval b)=1:=⟨fun h=>by rw [←sval_decL (Nat.gcd _ _),h];rfl,fun h=>by rw [h,decL_digit (by omega)];rfl⟩
            rw [decide_eq_true hta,Bool.not_true] at na
            rw [decide_eq_true htb,Bool.not_true] at nb
            rw [decide_eq_false hb48] at eb
            have fin:ok=(decide (decL (Nat.gcd (sval a) (sval b))=[49]) && !(n&&decide (a=[48]))):=by
              rw [Bool.eq_iff_iff,hok]
              simp only [RightN,Bool.and_eq_true,decide_eq_true_eq,Bool.not_eq_true',Bool.and_eq_false_iff,decide_eq_false_iff_not,hg1]
              constructor
              · rintro ⟨_,_,_,_,_,h6,h7⟩
                refine ⟨h6,?_⟩
                cases n with
                | false=>exact .inl rfl
                | true=>exact .inr (fun h=>h7 ⟨rfl,h⟩)
              · rintro ⟨h6,h7⟩
                refine ⟨hRa,hRb,hta,htb,hb48,h6,?_⟩
                rintro ⟨rfl,h8⟩
                rcases h7 with h7|h7
                · cases h7
                · exact h7 h8
            simp only [c120,go_sem,sub,FL]
            refine goP h119a ?_
            simp only [go_sem,sub,FL]
            refine goP h119b ?_
            simp only [go_sem,sub,FL]
            refine goP h120a ?_
            simp only [go_sem,sub,FL,na]
            refine goP h120b ?_
            simp only [go_sem,sub,FL,nb,eb]
            refine goP h121 ?_
            subst fin
            by_cases hg:decL (Nat.gcd (sval a) (sval b))=[49]
            · rw [decide_eq_true hg] at eg ⊢
              cases n with
              | false=>
                simp only [go_sem,sub,FL,eg]
                simp only [i120,OT,reduceIte,Nat.reduceEqDiff,Bool.false_and,Bool.not_false,Bool.true_and]
              | true=>
                cases hd:decide (a=[48])
                · rw [hd] at ea
                  simp only [go_sem,sub,FL,eg,ea]
                  simp only [i120,OT,reduceIte,Nat.reduceEqDiff,Bool.true_and,Bool.not_false]
                · rw [hd] at ea
                  simp only [go_sem,sub,FL,eg,ea]
                  simp only [i120,OT,reduceIte,Nat.reduceEqDiff,Bool.true_and,Bool.not_true]
            · rw [decide_eq_false hg] at eg ⊢
              simp only [go_sem,sub,FL,eg]
              simp only [i120,OT,reduceIte,Nat.reduceEqDiff,Bool.false_and]
        · have:=hfalse (fun h=>htb h.2.2.2.1)
          subst this
          rw [decide_eq_true hta,Bool.not_true] at na
          rw [decide_eq_false htb,Bool.not_false] at nb
          simp only [c120,go_sem,sub,FL]
          refine goP h119a ?_
          simp only [go_sem,sub,FL]
          refine goP h119b ?_
          simp only [go_sem,sub,FL]
          refine goP h120a ?_
          simp only [go_sem,sub,FL,na]
          refine goP h120b ?_
          simp only [go_sem,sub,FL,nb]
          simp only [i120,OT,reduceIte,Nat.reduceEqDiff]
      · have:=hfalse (fun h=>hta h.2.2.1)
        subst this
        rw [decide_eq_false hta,Bool.not_false] at na
        simp only [c120,go_sem,sub,FL]
        refine goP h119a ?_
        simp only [go_sem,sub,FL]
        refine goP h119b ?_
        simp only [go_sem,sub,FL]
        refine goP h120a ?_
        simp only [go_sem,sub,FL,na]
        simp only [i120,OT,reduceIte,Nat.reduceEqDiff]
    · have h119b:=c147_ok (E:=E) (b:=false) hb hbl ⟨fun h=>(by cases h),fun h=>absurd h hRb⟩
      have:=hfalse (fun h=>hRb h.2.1)
      subst this
      simp only [c120,go_sem,sub,FL]
      refine goP h119a ?_
      simp only [go_sem,sub,FL]
      refine goP h119b ?_
      simp only [go_sem,sub,FL]
      simp only [i120,OT,reduceIte,Nat.reduceEqDiff]
  · have h119a:=c147_ok (E:=E) (b:=false) ha hal ⟨fun h=>(by cases h),fun h=>absurd h hRa⟩
    have:=hfalse (fun h=>hRa h.1)
    subst this
    simp only [c120,go_sem,sub,FL]
    refine goP h119a ?_
    simp only [go_sem,sub,FL]
    simp only [i120,OT,reduceIte,Nat.reduceEqDiff]
end
theorem beq_bs {a b:List Int} (ha:U8 a) (hb:U8 b):(bs a==bs b)=decide (a=b):=by
  by_cases h:a=b
  · subst h
    rw [beqBA,decide_eq_true rfl]
  · rw [decide_eq_false h]
    have h2:u8l a≠u8l b:=fun e=>h (u8l_inj ha hb e)
    show (((u8l a).toArray:Array UInt8)==(u8l b).toArray)=false
    simpa using h2
theorem num_same {n m:Bool} {a b c d:List Int} (ha:U8 a) (hb:U8 b) (hc:U8 c) (hd:U8 d) :
    structV .eq [0,2,2] (.agg [.bool n,.str (bs a),.str (bs b)]) (.agg [.bool m,.str (bs c),.str (bs d)])=some (.bool (decide (n=m∧a=c∧b=d))):=by
  have h1:([AV.bool n,AV.str (bs a),AV.str (bs b)]).map kindOf=[0,2,2]:=rfl
  have h2:([AV.bool m,AV.str (bs c),AV.str (bs d)]).map kindOf=[0,2,2]:=rfl
  simp only [structV,h1,h2,and_self,if_true,scalarsEq,scalEq,beq_bs ha hc,beq_bs hb hd]
  by_cases e1:n=m
  · have:(n==m)=true:=by rw [e1];cases m<;>rfl
    rw [this]
    by_cases e2:a=c
    · rw [decide_eq_true e2]
      by_cases e3:b=d
      · rw [decide_eq_true e3];simp [e1,e2,e3]
      · rw [decide_eq_false e3];simp [e3]
    · rw [decide_eq_false e2];simp [e2]
  · have:(n==m)=false:=by revert e1;cases n<;>cases m<;>simp
    rw [this];simp [e1]
section
variable {E:CallRel}
theorem c91_ok {n ok:Bool} {a b:List Int} (ha:U8 a) (hb:U8 b) (hal:a.length≤1000000000) (hbl:b.length≤1000000000) (hok:ok=true↔RightN n a b) :
    ∃(n':Bool) (p q:Nat),(ok=true→n'=n∧p=sval a∧q=sval b)∧Go.V.Call tab E 91 [.agg [.bool n,.str (bs a),.str (bs b)]] [] (.tup [.agg (ratG n' p q),.bool ok]) []:=by
  have hfalse:¬RightN n a b→ok=false:=fun h=>by rw [←Bool.not_eq_true,hok];exact h
  have pa:∀b':Bool,(b'=true↔RightS a)→_:=fun b' h=>c128_ok (E:=E) (b:=b') ha hal h
  have pb:∀b':Bool,(b'=true↔RightS b)→_:=fun b' h=>c128_ok (E:=E) (b:=b') hb hbl h
  by_cases hRa:RightS a
  · have h116a:=pa true ⟨fun _=>hRa,fun _=>rfl⟩
    by_cases hRb:RightS b
    · have h116b:=pb true ⟨fun _=>hRb,fun _=>rfl⟩
      simp only [if_true] at h116a h116b
      have h118a:=c109_ok (E:=E) (n:=n) (p:=sval a)
      have h118b:=c109_ok (E:=E) (n:=false) (p:=sval b)
      have la:=lim2000_limbs (Right_lim hRa)
      have lb:=lim2000_limbs (Right_lim hRb)
      by_cases hq:sval b=0
      · have:=hfalse (fun h=>h.2.2.2.2.1 ((right_zero hRb h.2.2.2.1).1 hq))
        subst this
        refine ⟨false,0,0,fun h=>(by cases h),?_⟩
        rw [hq] at h116b h118b
        have h117:=c122_zero (E:=E) (n1:=n&&decide (sval a≠0)) (n2:=false&&decide (0≠0)) (p:=sval a)
        simp only [natC,us32,ratG] at h116a h116b h118a h118b h117 ⊢
        refine Go.V.Call.mach i91 c91 rfl rfl rfl rfl ?_
        simp only [c91,us32,go_sem,sub,FL]
        refine goP h116a ?_
        simp only [us32,go_sem,sub,FL]
        refine goP h116b ?_
        simp only [us32,go_sem,sub,FL]
        refine goF h118a ?_
        simp only [us32,go_sem,sub,FL]
        refine goF h118b ?_
        simp only [us32,go_sem,sub,FL]
        refine goP h117 ?_
        simp only [us32,go_sem,sub,FL,List.all_cons,List.all_nil,Nat.reduceBNe,Bool.and_true]
        simp only [i91,OT,reduceIte,Nat.reduceEqDiff,sub,FL,List.length_cons,List.length_nil,Nat.le_refl,us32]
      · have hqp:=Nat.pos_of_ne_zero hq
        have h117:=c122_ok (E:=E) (n1:=n&&decide (sval a≠0)) (n2:=false&&decide (sval b≠0)) (p:=sval a) (q:=sval b) hq (by omega) (by omega)
        have hgp:0<Nat.gcd (sval a) (sval b):=Nat.gcd_pos_of_pos_right _ hqp
        have hy0:sval b/Nat.gcd (sval a) (sval b)≠0:=by
          have h1:=Nat.gcd_le_right (sval a) hqp
          have:=(Nat.div_pos h1 hgp)
          omega
        have hxl:sval a/Nat.gcd (sval a) (sval b)<lim2000:=Nat.lt_of_le_of_lt (Nat.div_le_self _ _) (Right_lim hRa)
        have hyl:sval b/Nat.gcd (sval a) (sval b)<lim2000:=Nat.lt_of_le_of_lt (Nat.div_le_self _ _) (Right_lim hRb)
        have hdn:dn (sval b/Nat.gcd (sval a) (sval b))=sval b/Nat.gcd (sval a) (sval b):=by rw [dn,if_neg hy0]
        have hdiv1:sval b/Nat.gcd (sval a) (sval b)=sval b→Nat.gcd (sval a) (sval b)=1:=fun h=>by
          rcases Nat.lt_or_ge 1 (Nat.gcd (sval a) (sval b)) with h1|h1
          · have:=Nat.div_lt_self hqp h1
            omega
          · omega
        refine ⟨((n&&decide (sval a≠0)) != (false&&decide (sval b≠0)))&&decide (sval a/Nat.gcd (sval a) (sval b)≠0),sval a/Nat.gcd (sval a) (sval b),sval b/Nat.gcd (sval a) (sval b),?_,?_⟩
        rotate_left
        · have h74:=c75_gen (E:=E) (n:=((n&&decide (sval a≠0)) != (false&&decide (sval b≠0)))&&decide (sval a/Nat.gcd (sval a) (sval b)≠0)) hxl (by rw [hdn];exact hyl)
          have hsame:=num_same (n:=((n&&decide (sval a≠0)) != (false&&decide (sval b≠0)))&&decide (sval a/Nat.gcd (sval a) (sval b)≠0)) (m:=n) (decL_dig (sval a/Nat.gcd (sval a) (sval b))).u8 (decL_dig (sval b/Nat.gcd (sval a) (sval b))).u8 ha hb
          have hokd:decide ((((n&&decide (sval a≠0)) != (false&&decide (sval b≠0)))&&decide (sval a/Nat.gcd (sval a) (sval b)≠0))=n∧decL (sval a/Nat.gcd (sval a) (sval b))=a∧decL (sval b/Nat.gcd (sval a) (sval b))=b)=ok:=by
            rw [Bool.eq_iff_iff,hok,decide_eq_true_eq]
            constructor
            · rintro ⟨e1,e2,e3⟩
              have s1:=congrArg sval e2
              rw [sval_decL] at s1
              have s2:=congrArg sval e3
              rw [sval_decL] at s2
              refine ⟨hRa,hRb,by rw [←e2];exact trim_decL _,by rw [←e3];exact trim_decL _,?_,hdiv1 s2,?_⟩
              · rintro rfl
                exact hq rfl
              · rintro ⟨rfl,rfl⟩
                have:sval [48]=0:=rfl
                rw [this] at e1
                simp at e1
            · rintro ⟨_,_,t1,t2,_,g1,g2⟩
              rw [g1,Nat.div_one,Nat.div_one]
              refine ⟨?_,?_,?_⟩
              · cases n with
                | false=>simp
                | true=>
                  have:sval a≠0:=fun h=>g2 ⟨rfl,(right_zero hRa t1).1 h⟩
                  simp [this]
              · rw [←trimS_dec hRa.1 (fun h0=>by have:=hRa.2.1;rw [h0] at this;simp at this),t1]
              · rw [←trimS_dec hRb.1 (fun h0=>by have:=hRb.2.1;rw [h0] at this;simp at this),t2]
          rw [hokd,←dec_eq,←dec_eq] at hsame
          rw [hdn] at h74
          simp only [natC,us32,ratG,numG] at h116a h116b h118a h118b h117 h74 ⊢
          refine Go.V.Call.mach i91 c91 rfl rfl rfl rfl ?_
          simp only [c91,us32,go_sem,sub,FL]
          refine goP h116a ?_
          simp only [us32,go_sem,sub,FL]
          refine goP h116b ?_
          simp only [us32,go_sem,sub,FL]
          refine goF h118a ?_
          simp only [us32,go_sem,sub,FL]
          refine goF h118b ?_
          simp only [us32,go_sem,sub,FL]
          refine goP h117 ?_
          simp only [us32,go_sem,sub,FL]
          refine goR h74 rfl ?_
          simp only [us32,go_sem,sub,FL,hsame,List.all_cons,List.all_nil,Nat.reduceBNe,Bool.and_true]
          simp only [i91,OT,reduceIte,Nat.reduceEqDiff,sub,FL,List.length_cons,List.length_nil,Nat.le_refl,us32]
        · intro ht
          obtain ⟨_,_,t1,t2,_,g1,g2⟩:=hok.1 ht
          rw [g1,Nat.div_one,Nat.div_one]
          refine ⟨?_,rfl,rfl⟩
          cases n with
          | false=>simp
          | true=>
            have:sval a≠0:=fun h=>g2 ⟨rfl,(right_zero hRa t1).1 h⟩
            simp [this]
    · have h116b:=pb false ⟨fun h=>(by cases h),fun h=>absurd h hRb⟩
      have:=hfalse (fun h=>hRb h.2.1)
      subst this
      refine ⟨false,0,0,fun h=>(by cases h),?_⟩
      simp only [if_true,if_false,Bool.false_eq_true] at h116a h116b
      simp only [natC,us32,ratG,limG_zero] at h116a h116b ⊢
      refine Go.V.Call.mach i91 c91 rfl rfl rfl rfl ?_
      simp only [c91,us32,go_sem,sub,FL]
      refine goP h116a ?_
      simp only [us32,go_sem,sub,FL]
      refine goP h116b ?_
      simp only [us32,go_sem,sub,FL]
      simp only [i91,OT,reduceIte,Nat.reduceEqDiff,sub,FL,List.length_cons,List.length_nil,Nat.le_refl,us32]
      rfl
  · have h116a:=pa false ⟨fun h=>(by cases h),fun h=>absurd h hRa⟩
    have:=hfalse (fun h=>hRa h.1)
    subst this
    have h116b:∃(x:Nat) (t:Bool),Go.V.Call tab E 128 [.str (bs b)] [] (.tup [natC x,.bool t]) []:=by
      by_cases hRb:RightS b
      · exact ⟨_,_,pb true ⟨fun _=>hRb,fun _=>rfl⟩⟩
      · exact ⟨_,_,pb false ⟨fun h=>(by cases h),fun h=>absurd h hRb⟩⟩
    obtain ⟨x,t,h116b⟩:=h116b
    refine ⟨false,0,0,fun h=>(by cases h),?_⟩
    simp only [if_true,if_false,Bool.false_eq_true] at h116a
    simp only [natC,us32,ratG,limG_zero] at h116a h116b ⊢
    refine Go.V.Call.mach i91 c91 rfl rfl rfl rfl ?_
    simp only [c91,us32,go_sem,sub,FL]
    refine goP h116a ?_
    simp only [us32,go_sem,sub,FL]
    refine goP h116b ?_
    simp only [us32,go_sem,sub,FL]
    simp only [i91,OT,reduceIte,Nat.reduceEqDiff,sub,FL,List.length_cons,List.length_nil,Nat.le_refl,us32]
    rfl
end
abbrev Nm:=Bool × List Int × List Int
abbrev Rt:=Bool × Nat × Nat
def nmC (x:Nm):List AV:=[.bool x.1,.str (bs x.2.1),.str (bs x.2.2)]
def rtC (x:Rt):List AV:=ratG x.1 x.2.1 x.2.2
def nmsC (l:List Nm):List AV:=l.flatMap nmC
def rtsC (l:List Rt):List AV:=l.flatMap rtC
def nmAt (l:List Nm) (i:Nat):Nm:=l.getD i (false,[],[])
def rtAt (l:List Rt) (i:Nat):Rt:=l.getD i (false,0,0)
def arrX (s:List Int) (ch:Bool) (t:List Int) (l:List Rt):List AV:=[ints s,.bool ch,runes t,.sl l.length 3 (rtsC l),.bool true]
def plX (s:List Int) (ch:Bool) (t:List Int) (l:List Nm):List AV:=[ints s,.bool ch,runes t,.sl l.length 3 (nmsC l)]
def toNm (x:Rt):Nm:=(x.1,decL x.2.1,decL (dn x.2.2))
def toRt (x:Nm):Rt:=(x.1,sval x.2.1,sval x.2.2)
theorem flat_len {α:Type} {f:α→List AV} (hf:∀x,(f x).length=3):∀{l:List α},(l.flatMap f).length=l.length*3
  | []=>rfl
  | z::l=>by rw [List.flatMap_cons,List.length_append,hf,flat_len hf,List.length_cons];omega
theorem flat_get {α:Type} {f:α→List AV} (hf:∀x,(f x).length=3) {d:α}:∀{l:List α} {i:Nat},i<l.length→((l.flatMap f).drop (i*3)).take 3=f (l.getD i d)
  | [],i,h=>by simp at h
  | z::l,0,_=>by
    rw [List.flatMap_cons,Nat.zero_mul,List.drop_zero,List.take_append_of_le_length (by rw [hf];omega),List.take_of_length_le (by rw [hf];omega)]
    rfl
  | z::l,i+1,h=>by
    rw [List.flatMap_cons,Nat.succ_mul,List.drop_append,List.drop_eq_nil_of_le (by rw [hf];omega),hf,Nat.add_sub_cancel,List.nil_append,flat_get hf (d:=d) (by simpa using h)]
    simp
theorem sub_flat {α:Type} {f:α→List AV} (hf:∀x,(f x).length=3) {d:α} {l:List α} {i:Nat} (h:i<l.length):sub true 3 (l.flatMap f) (i*3)=some (.agg (f (l.getD i d))):=by
  simp only [sub,flat_len hf,if_true]
  rw [if_pos (by omega),flat_get hf h]
theorem sub_flat1 {α:Type} {f:α→List AV} (hf:∀x,(f x).length=3) {d:α} {l:List α} {i k:Nat} (h:i<l.length) (hk:k<3):sub false 1 (l.flatMap f) (i*3+k)=(f (l.getD i d))[k]?:=by
  simp only [sub,flat_len hf,if_true,Bool.false_eq_true,if_false]
  rw [if_pos (by omega),←flat_get hf h,List.getElem?_take,if_pos hk,List.getElem?_drop]
theorem sub_nms {l:List Nm} {i:Nat} (h:i<l.length):sub true 3 (nmsC l) (i*3)=some (.agg (nmC (nmAt l i))):=sub_flat (fun _=>rfl) h
theorem sub_rts {l:List Rt} {i:Nat} (h:i<l.length):sub true 3 (rtsC l) (i*3)=some (.agg (rtC (rtAt l i))):=sub_flat (fun _=>rfl) h
theorem sub_nms1 {l:List Nm} {i:Nat} (h:i<l.length):sub false 1 (nmsC l) (i*3+1)=some (.str (bs (nmAt l i).2.1)):=sub_flat1 (fun _=>rfl) h (by omega)
theorem sub_nms2 {l:List Nm} {i:Nat} (h:i<l.length):sub false 1 (nmsC l) (i*3+2)=some (.str (bs (nmAt l i).2.2)):=sub_flat1 (fun _=>rfl) h (by omega)
theorem takeAt {α:Type} {l:List α} {i:Nat} {d:α} (h:i<l.length):l.take (i+1)=l.take i++[l.getD i d]:=by
  rw [List.take_add_one,List.getElem?_eq_getElem h]
  simp [List.getD,h]
theorem nmsC_snoc {l:List Nm} {x:Nm}:nmsC (l++[x])=nmsC l++nmC x:=by simp [nmsC]
theorem rtsC_snoc {l:List Rt} {x:Rt}:rtsC (l++[x])=rtsC l++rtC x:=by simp [rtsC]
theorem nmC_dec {x:Rt}:numG x.1 x.2.1 (dn x.2.2)=nmC (toNm x):=by
  simp only [numG,nmC,toNm,dec_eq]
theorem subX1 {a b c d e:AV}:sub false 1 [a,b,c,d,e] 1=some b:=rfl
theorem c23_X {s t:List Int} {l:List Rt} {ch:Bool} (ht:(t.length:Int)≤1000000000000) (hl:(l.length:Int)≤1000000000000):Go.V.Call tab E 23 [.agg (arrX s ch t l)] [] (.int .i64 ((t.length+l.length:Nat):Int)) []:=by
  refine Go.V.Call.mach i23 c23 rfl rfl rfl rfl ?_
  have w:IntKind.i64.wrap ((t.length:Int)+(l.length:Int))=((t.length+l.length:Nat):Int):=by rw [wrap_i64 (by omega) (by omega)];omega
  simp only [c23,arrX,runes,go_sem,sub,FL,w]
  simp only [i23,OT,reduceIte,Nat.reduceEqDiff]
theorem c53_X {s t:List Int} {l:List Rt} {ch:Bool} (hs:(s.length:Int)≤1000000000000):Go.V.Call tab E 53 [.agg (arrX s ch t l)] [] (ints s) []:=by
  refine Go.V.Call.mach i53 c53 rfl rfl rfl rfl ?_
  simp only [c53,arrX,runes,go_sem,sub,FL]
  refine goO (c89_ok hs) rfl rfl ?_
  simp only [go_sem,FL]
  simp only [i53,OT,reduceIte,Nat.reduceEqDiff]
theorem c74_X {s t:List Int} {l:List Rt} {ch:Bool} (ht:(t.length:Int)≤1000000000000):Go.V.Call tab E 74 [.agg (arrX s ch t l)] [] (.arr 0 0) [⟨false,21,1,0,t.length,nums .i32 t,false⟩]:=by
  refine Go.V.Call.mach i74 c74 rfl rfl rfl rfl ?_
  simp only [c74,arrX,runes,go_sem,sub,FL]
  refine goO (c90_ok ht) rfl rfl ?_
  simp only [go_sem,FL]
  simp only [i74,OT,reduceIte,Nat.reduceEqDiff,ownOut,ownL,ownV,scalar,List.contains_nil,List.length_nil,List.length_cons,List.nil_append,List.cons_append,storeOp,apartOf,freeze_nil,refsL,refs,List.flatMap_cons,List.flatMap_nil,List.append_nil,List.contains_nil,List.set_cons_zero,List.set_cons_succ,snap,snapL,fill_nums,flat_nums,nums_length,reduceCtorEq,Bool.false_eq_true,and_self,not_false_eq_true,beq_self_eq_true,Nat.zero_add]
def pickR (l:List Rt) (k:Int):Rt:=if 0≤k∧k<l.length then rtAt l k.toNat else (false,0,0)
theorem c24_ok {s t:List Int} {l:List Rt} {ch:Bool} {k:Int} (hl:(l.length:Int)≤1000000000000):Go.V.Call tab E 24 [.agg (arrX s ch t l),.int .i64 k] [] (.agg (rtC (pickR l k))) []:=by
  have hz:rtC (false,0,0)=[.sl 0 1 [],.bool false,.sl 0 1 []]:=by
    simp only [rtC,ratG,limG_zero,us32];rfl
  by_cases h1:k<0
  · have hp:pickR l k=(false,0,0):=by rw [pickR,if_neg (by omega)]
    rw [hp,hz]
    refine Go.V.Call.mach i24 c24 rfl rfl rfl rfl ?_
    simp only [c24,arrX,runes,go_sem,sub,FL,h1]
    simp only [i24,OT,reduceIte,Nat.reduceEqDiff,sub,FL,List.length_cons,List.length_nil,Nat.le_refl]
  · by_cases h2:(l.length:Int)≤k
    · have hp:pickR l k=(false,0,0):=by rw [pickR,if_neg (by omega)]
      rw [hp,hz]
      refine Go.V.Call.mach i24 c24 rfl rfl rfl rfl ?_
      simp only [c24,arrX,runes,go_sem,sub,FL,h1,h2]
      simp only [i24,OT,reduceIte,Nat.reduceEqDiff,sub,FL,List.length_cons,List.length_nil,Nat.le_refl]
    · have hp:pickR l k=rtAt l k.toNat:=by rw [pickR,if_pos (by omega)]
      rw [hp]
      obtain ⟨j,rfl⟩:=Int.eq_ofNat_of_zero_le (show 0≤k by omega)
      rw [Int.toNat_natCast]
      have hsub:=sub_rts (l:=l) (i:=j) (by omega)
      have h3:(0:Int)≤(j:Int):=by omega
      have h4:(j:Int)<(l.length:Int):=by omega
      have subA3':∀{a b c d e:AV},sub false 1 [a,b,c,d,e] (0+3)=some d:=fun {a b c d e}=>rfl
      refine Go.V.Call.mach i24 c24 rfl rfl rfl rfl ?_
      simp only [c24,arrX,runes,go_sem,subA3,subA3',FL,h1,h2,h3,h4,Int.toNat_natCast,hsub,rtC,ratG,us32]
      simp only [i24,OT,reduceIte,Nat.reduceEqDiff,sub,FL,List.length_cons,List.length_nil,Nat.le_refl,us32]
theorem c129_ok:Go.V.Call tab E 129 [] [] (.agg (nmC (false,[48],[49]))) []:=by
  refine Go.V.Call.mach i129 c129 rfl rfl rfl rfl ?_
  simp only [c129,go_sem,sub,FL]
  simp only [i129,OT,reduceIte,Nat.reduceEqDiff,sub,FL,List.length_cons,List.length_nil,Nat.le_refl,nmC]
  rfl
def RtOk (x:Rt):Prop:=x.2.1<lim2000∧dn x.2.2<lim2000
theorem c30_X {s t:List Int} {l:List Rt} {ch:Bool} (hs:(s.length:Int)≤1000000000000) (ht:(t.length:Int)≤1000000000000) (hl:(l.length:Int)≤1000000000000) (hz:∀z∈l,RtOk z):Go.V.Call tab E 30 [.agg (arrX s ch t l)] [] (.agg (plX s ch t (l.map toNm))) []:=by
  refine Go.V.Call.mach i30 c30 rfl rfl rfl rfl ?_
  have h69:=c53_X (s:=s) (t:=t) (l:=l) (ch:=ch) hs
  have h76:=c74_X (s:=s) (t:=t) (l:=l) (ch:=ch) ht
  simp only [arrX,runes,ints] at h69 h76
  simp only [c30,arrX,runes,go_sem,subA5,subX1,subA3,FL]
  refine goP h69 ?_
  simp only [go_sem,subA5,subX1,subA3,FL]
  refine goZ (r':=runes t) h76 rfl ?_
  simp only [runes,go_sem,subA5,subX1,subA3,FL]
  refine mLoop (fun N st=>∃(i:Nat),i≤l.length∧N=l.length - i∧
    st=⟨[(2,.loc 4 0 0),(3,.loc 8 0 0),(14,.sl l.length 3 (rtsC l)),(15,.int .i64 l.length),(16,.int .i64 i)],
      [⟨true,31,5,0,1,arrX s ch t l,false⟩,⟨false,3,1,0,0,[],false⟩,⟨false,21,1,0,0,[],false⟩,⟨false,66,3,0,0,[],false⟩,⟨true,26,4,0,1,[.arr 1 0,.bool false,.arr 2 0,.arr 3 0],false⟩,
       ⟨false,3,1,0,0,[],false⟩,⟨false,21,1,0,0,[],false⟩,⟨false,66,3,0,0,[],false⟩,⟨true,26,4,0,1,[ints s,.bool ch,runes t,.arr 9 i],false⟩,⟨false,66,3,i,i,nmsC ((l.take i).map toNm),false⟩]⟩) l.length
    ⟨_,rfl,0,by omega,by omega,by simp [getE,ints,runes,arrX,nmsC]⟩ ?_
  rintro N s0 ⟨i,hi,rfl,rfl⟩
  by_cases hlt:i<l.length
  · have hlt':(i:Int)<(l.length:Int):=by omega
    have hi0:(0:Int)≤(i:Int):=by omega
    have hi1:IntKind.i64.wrap ((i:Int)+1)=((i+1:Nat):Int):=by rw [wrap_i64 (by omega) (by omega)];omega
    have hsub:=sub_rts hlt
    obtain ⟨hz1,hz2⟩:RtOk (rtAt l i):=hz _ (by simp [rtAt,List.getD,hlt])
    have htk:l.take (i+1)=l.take i++[rtAt l i]:=takeAt hlt
    have hmt:nmsC ((l.take (i+1)).map toNm)=nmsC ((l.take i).map toNm)++nmC (toNm (rtAt l i)):=by rw [htk,List.map_append,List.map_cons,List.map_nil,nmsC_snoc]
    have e1:(i+1)*40≤140737488355328:=by omega
    have e2:i+1≤140737488355328:=by omega
    have h74:=c75_gen (E:=E) (n:=(rtAt l i).1) hz1 hz2
    rw [nmC_dec] at h74
    generalize rtAt l i=x at *
    simp only [ratG,us32,nmC] at h74
    simp only [b30_0,arrX,runes,go_sem,hlt',hi0,Int.toNat_natCast,hsub,rtC,ratG,us32,subT3,subP3,subP3',FL]
    refine goR h74 rfl ?_
    simp only [go_sem,FL,hi1,e1,e2,List.flatten_cons,List.flatten_nil,Option.getD_some,subP3,subP3']
    refine loopQ_go rfl (l.length - (i+1)) (by omega) ⟨i+1,by omega,rfl,?_⟩
    rw [hmt]
    rfl
  · have hlt':¬(i:Int)<(l.length:Int):=by omega
    obtain rfl:i=l.length:=by omega
    simp only [b30_0,k30_0,arrX,runes,go_sem,hlt',List.take_length,subP4,FL]
    simp only [i30,OT,reduceIte,Nat.reduceEqDiff,plX,runes,subP4,List.length_map]
theorem c73_gen {t u:List Int} (ht:(t.length:Int)≤1000000000000) (hu:(u.length:Int)≤1000000000000):Go.V.Call tab E 73 [runes t,runes u] [] (.bool (decide (t=u))) []:=by
  refine Go.V.Call.mach i73 c73 rfl rfl rfl rfl ?_
  by_cases hl:t.length=u.length
  · have q:((t.length:Int) != (u.length:Int))=false:=by rw [bne_eq_false_iff_eq];omega
    simp only [c73,runes,go_sem,q]
    refine mLoop (fun N st=>∃(k:Nat),k≤t.length∧N=t.length - k∧t.take k=u.take k∧
      st=⟨[(0,runes t),(1,runes u),(5,.int .i64 k)],[]⟩) t.length ⟨_,rfl,0,by omega,by omega,rfl,rfl⟩ ?_
    rintro N s0 ⟨k,hk,rfl,htu,rfl⟩
    by_cases hlt:k<t.length
    · have hlt':(k:Int)<(t.length:Int):=by omega
      have hlt2:(k:Int)<(u.length:Int):=by omega
      have hk0:(0:Int)≤(k:Int):=by omega
      have hk1:IntKind.i64.wrap ((k:Int)+1)=((k+1:Nat):Int):=by rw [wrap_i64 (by omega) (by omega)];omega
      have hsub:=sub_nums (k:=.i32) hlt
      have hsub2:=sub_nums (k:=.i32) (l:=u) (i:=k) (by omega)
      have h1:=take_snoc hlt
      have h2:=take_snoc (l:=u) (m:=k) (by omega)
      by_cases hxy:t.getD k 0=u.getD k 0
      · have q2:(t.getD k 0 != u.getD k 0)=false:=by rw [bne_eq_false_iff_eq];exact hxy
        simp only [b73_0,runes,go_sem,hlt',hlt2,hk0,Int.toNat_natCast,hsub,hsub2,q2,hk1]
        exact loopQ_go rfl (t.length - (k+1)) (by omega) ⟨k+1,by omega,rfl,by rw [h1,h2,htu,hxy],rfl⟩
      · have q2:(t.getD k 0 != u.getD k 0)=true:=by rw [bne_iff_ne];exact hxy
        have hne:¬t=u:=fun h=>hxy (by rw [h])
        simp only [b73_0,runes,go_sem,hlt',hlt2,hk0,Int.toNat_natCast,hsub,hsub2,q2]
        simp only [i73,OT,reduceIte,Nat.reduceEqDiff,decide_eq_false hne]
    · have hlt':¬(k:Int)<(t.length:Int):=by omega
      have he:t=u:=by
        rw [List.take_of_length_le (by omega),List.take_of_length_le (by omega)] at htu
        exact htu
      subst he
      simp only [b73_0,k73_0,runes,go_sem,hlt']
      simp only [i73,OT,reduceIte,Nat.reduceEqDiff,decide_true]
  · have q:((t.length:Int) != (u.length:Int))=true:=by rw [bne_iff_ne];omega
    have hne:¬t=u:=fun h=>hl (by rw [h])
    simp only [c73,runes,go_sem,q]
    simp only [i73,OT,reduceIte,Nat.reduceEqDiff,decide_eq_false hne]
end Go.Proofs.YtlejgleocnemoabGreat.I

namespace Go.Proofs.YtlejgleocnemoabGreat.I
open Go Go.V Go.ChangeShapes Go.WideShapes Go.Deep
section
variable {H:Type} {enc:TypeId × Value→H} {P:Program} {w:World} {spare:Nat→Bool} {held:Bool}
theorem open_num1 {e:TypeId} {f0 f1 f2:Field} {fuel:Nat} {a:Addr} {cs:List Value} {y:DataW H × List MemPlace} (he:P.underlying e=some (.struct #[f0,f1,f2])) (hone:oneCellFields P #[f0,f1,f2]=true)
    (h0:P.underlying f0.type=some .bool) (h1:P.underlying f1.type=some .string) (h2:P.underlying f2.type=some .string) (hc:w.cells? 0 a 3=some cs) (h:DataW.trod enc P w 0 spare held fuel e cs=some y) :
    ∃q:Nm,(w.cell? (a.add 0)=some (.bool q.1)∧w.cell? (a.add 1)=some (.string (bs q.2.1))∧w.cell? (a.add 2)=some (.string (bs q.2.2)))∧U8 q.2.1∧U8 q.2.2∧q.2.1.length≤maxLen∧q.2.2.length≤maxLen:=by
  obtain ⟨_,hlen,hcell⟩:=World.cells?_some hc
  obtain ⟨xs,k,_,_,_,hxl,hf⟩:=DataW.trod_struct he h
  obtain ⟨o0,k0⟩:=hone_of hone 0 f0 rfl
  obtain ⟨o1,k1⟩:=hone_of hone 1 f1 rfl
  obtain ⟨o2,k2⟩:=hone_of hone 2 f2 rfl
  match xs,hxl,cs,hlen with
  | [y0,y1,y2],_,[v0,v1,v2],_=>
    have g0:=hf 0 f0 rfl
    have g1:=hf 1 f1 rfl
    have g2:=hf 2 f2 rfl
    simp [o0,k0] at g0
    simp [o1,k1] at g1
    simp [o2,k2] at g2
    obtain ⟨b,hb,_⟩:=DataW.trod_bool h0 g0
    obtain ⟨s1,hs1,_,hm1⟩:=DataW.trod_string h1 g1
    obtain ⟨s2,hs2,_,hm2⟩:=DataW.trod_string h2 g2
    obtain ⟨l1,hu1,rfl⟩:=bs_all s1
    obtain ⟨l2,hu2,rfl⟩:=bs_all s2
    simp only [List.cons.injEq,and_true] at hb hs1 hs2
    subst hb;subst hs1;subst hs2
    have c0:=hcell 0 (by omega)
    have c1:=hcell 1 (by omega)
    have c2:=hcell 2 (by omega)
    rw [bs_size] at hm1 hm2
    exact ⟨(b,l1,l2),⟨by simpa using c0,by simpa using c1,by simpa using c2⟩,hu1,hu2,hm1,hm2⟩
theorem open_nums {t e:TypeId} {f0 f1 f2:Field} {fuel:Nat} {cs:List Value} {x:DataW H × List MemPlace} (ht:P.underlying t=some (.slice e)) (he:P.underlying e=some (.struct #[f0,f1,f2])) (hone:oneCellFields P #[f0,f1,f2]=true)
    (hC:P.cellsOf e=3) (h0:P.underlying f0.type=some .bool) (h1:P.underlying f1.type=some .string) (h2:P.underlying f2.type=some .string) (h:DataW.trod enc P w 0 spare held fuel t cs=some x) :
    ∃(a:Option Addr) (len cap:Nat) (l:List Nm),cs=[.slice a len cap]∧l.length=len∧len≤maxLen∧(∀q∈l,U8 q.2.1∧U8 q.2.2∧q.2.1.length≤maxLen∧q.2.2.length≤maxLen)∧RG w (fun b=>b<w.heap.size) (.sl l.length 3 (nmsC l)) (.slice a len cap):=by
  rcases open_slice ht h with ⟨rfl,_⟩|⟨a,len,cap,m,n,D,Pl,rfl,_,hl,hm,hmm,_,hx⟩
  · exact ⟨none,0,0,[],rfl,rfl,Nat.zero_le _,fun q hq=>by simp at hq,.sl0⟩
  have hlm:len≤m:=by rw [hmm];split<;>omega
  rw [hC] at hx
  have each:∀i,i<len→∃q:Nm,(w.cell? (a.add (i*3))=some (.bool q.1)∧w.cell? (a.add (i*3+1))=some (.string (bs q.2.1))∧w.cell? (a.add (i*3+2))=some (.string (bs q.2.2)))∧U8 q.2.1∧U8 q.2.2∧q.2.1.length≤maxLen∧q.2.2.length≤maxLen:=fun i hi=>by
    obtain ⟨cs',hc,hy⟩:=hx i (by omega)
    obtain ⟨q,⟨g0,g1,g2⟩,hq⟩:=open_num1 he hone h0 h1 h2 hc hy
    rw [add_add] at g0 g1 g2
    exact ⟨q,⟨g0,g1,g2⟩,hq⟩
  obtain ⟨f,hf⟩:=choose_lt (α:=Nm) each
  refine ⟨some a,len,cap,(List.range len).map f,rfl,by simp,Nat.le_trans hl hm,fun q hq=>?_,?_⟩
  · obtain ⟨i,hi,rfl⟩:=List.mem_map.1 hq
    exact (hf i (List.mem_range.1 hi)).2
  · have hll:((List.range len).map f).length=len:=by simp
    rw [hll]
    by_cases hz:len=0
    · subst hz;exact .sl0
    obtain ⟨b,o,sp⟩:=a
    have hc0:=(hf 0 (by omega)).1.1
    have hsp:sp=none:=by
      simp only [Addr.add,Nat.zero_mul,if_true,World.cell?] at hc0
      split at hc0
      · split at hc0
        · cases hc0
        · rename_i hh;simpa using hh
      · cases hc0
    subst hsp
    have addE:∀i,(⟨b,o,none⟩:Addr).add i=⟨b,o+i,none⟩:=fun i=>by
      unfold Addr.add
      split
      · rename_i h;rw [h];rfl
      · rfl
    have hb:b<w.heap.size:=by
      rw [addE] at hc0
      unfold World.cell? at hc0
      split at hc0
      · rename_i hh;exact (Array.getElem?_eq_some_iff.1 hh).1
      · cases hc0
    have hat:∀i,i<len→((List.range len).map f).getD i (false,[],[])=f i:=fun i hi=>by simp [List.getD,hi]
    have vlen:∀l:List Nm,(l.flatMap fun q=>[Value.bool q.1,.string (bs q.2.1),.string (bs q.2.2)]).length=l.length*3:=fun l=>by
      induction l with
      | nil=>rfl
      | cons q l ih=>rw [List.flatMap_cons,List.length_append,ih,List.length_cons];simp;omega
    have vget:∀(l:List Nm) (i k:Nat),i<l.length→k<3→(l.flatMap fun q=>[Value.bool q.1,.string (bs q.2.1),.string (bs q.2.2)])[i*3+k]?=([Value.bool (l.getD i (false,[],[])).1,.string (bs (l.getD i (false,[],[])).2.1),.string (bs (l.getD i (false,[],[])).2.2)])[k]?:=fun l=>by
      induction l with
      | nil=>intro i k h;simp at h
      | cons q l ih=>
        intro i k hi hk
        cases i with
        | zero=>rw [List.flatMap_cons,Nat.zero_mul,Nat.zero_add,List.getElem?_append_left (by simp;omega)];rfl
        | succ i=>
          rw [List.flatMap_cons,List.getElem?_append_right (by simp;omega)]
          have e:(i+1)*3+k - [Value.bool q.1,.string (bs q.2.1),.string (bs q.2.2)].length=i*3+k:=by simp;omega
          rw [e,ih i k (by simpa using hi) hk]
          rfl
    have cget:∀(l:List Nm) (i k:Nat),i<l.length→k<3→(nmsC l)[i*3+k]?=(nmC (l.getD i (false,[],[])))[k]?:=fun l i k hi hk=>by
      rw [←flat_get (f:=nmC) (fun _=>rfl) hi,List.getElem?_take,if_pos hk,List.getElem?_drop]
      rfl
    have split3:∀j,j<len*3→∃i k,i<len∧k<3∧j=i*3+k:=fun j hj=>⟨j/3,j % 3,by omega,by omega,by omega⟩
    refine .sl (vs:=((List.range len).map f).flatMap fun q=>[Value.bool q.1,.string (bs q.2.1),.string (bs q.2.2)]) (by omega) hl (by rw [nmsC,flat_len (fun _=>rfl),hll]) (by rw [vlen,nmsC,flat_len (fun _=>rfl)]) hb (fun u hu=>?_) (fun j u hu=>?_) (fun j c u hc hu=>?_)
    · obtain ⟨q,_,hq⟩:=List.mem_flatMap.1 hu
      simp only [List.mem_cons,List.not_mem_nil,or_false] at hq
      rcases hq with rfl|rfl|rfl<;>rfl
    · have hj:=(List.getElem?_eq_some_iff.1 hu).1
      rw [vlen,hll] at hj
      obtain ⟨i,k,hi,hk,rfl⟩:=split3 j hj
      rw [vget _ i k (by rw [hll];exact hi) hk,hat i hi] at hu
      obtain ⟨⟨g0,g1,g2⟩,_⟩:=hf i hi
      rw [addE] at g0 g1 g2
      match k,hk with
      | 0,_=>simp at hu;subst hu;exact g0
      | 1,_=>simp at hu;subst hu;exact g1
      | 2,_=>simp at hu;subst hu;exact g2
    · have hj:=(List.getElem?_eq_some_iff.1 hu).1
      rw [vlen,hll] at hj
      obtain ⟨i,k,hi,hk,rfl⟩:=split3 j hj
      rw [vget _ i k (by rw [hll];exact hi) hk] at hu
      rw [cget _ i k (by rw [hll];exact hi) hk] at hc
      match k,hk with
      | 0,_=>simp [nmC] at hu hc;subst hu;subst hc;exact .bool
      | 1,_=>simp [nmC] at hu hc;subst hu;subst hc;exact .str
      | 2,_=>simp [nmC] at hu hc;subst hu;subst hc;exact .str
end
end Go.Proofs.YtlejgleocnemoabGreat.I

namespace Go.Proofs.YtlejgleocnemoabGreat.I
open Go Go.V
attribute [local go_sem_proc ↓] reduceIte
attribute [local go_sem_proc] Nat.reduceEqDiff Nat.reduceAdd Nat.reduceMul Nat.reduceLeDiff Nat.reduceLT Int.reduceToNat Int.reduceLT Int.reduceLE reduceCtorEq Nat.reduceBEq
attribute [local go_sem] mNil nat0 beq_self_eq_true mSkip mRet mExit mReg mSeq mCond mTrue mFalse mBlock mLv mCodeE mCodeR mEndN mEndR mEndE mOps mSome mGuard mGtt mGff mGtf mGft mGu mCallP mCallR mCallF mCallO mCallZ mCallG mCallM mCallV loopQ_exit loopQ_ret mO_mov mO_newnil mO_pick mO_alloc mO_box mO_build mO_bsl mO_bslF mO_newnilB mO_bslB mO_lenB mO_appB mO_allocA mO_bslA mO_appA mO_ldb mO_faddrb mRsv mO_ldf mO_ld mO_st mO_sta mO_nilchk mO_bin mO_binb mO_binp mO_bins mO_neg mO_com mO_not mO_conv mO_mk mO_mk0 mO_mkB mO_s2b mO_b2s mO_cpy mO_cut mO_faddr mO_fld mO_iaddr mO_iaddrf mO_sidx mO_len mO_lenf mO_slen mO_scut mO_app mO_ext mO_mx mO_mn mO_mkfn evalOp cutOp argsE ev getE putE cellsOf adopt rowOf binV boolV nilV ar_add ar_sub ar_mul ar_quo ar_rem ar_eq ar_ne ar_lt ar_le ar_gt ar_ge ar_and ar_or ar_xor geto bound finRet finNrm ints List.length_cons List.length_nil List.length_append List.getElem?_cons_zero List.getElem?_cons_succ List.nil_append List.cons_append List.map_cons List.map_nil List.mapM_cons List.mapM_nil Option.map_some Option.map_none Option.bind_some Option.pure_def Option.bind_eq_bind List.drop_zero or_self or_false false_or or_true true_or true_and and_true and_self decide_true decide_false Bool.false_eq_true Bool.true_eq_false Bool.not_true Bool.not_false Nat.le_refl eq_self gt_iff_lt ge_iff_le ne_eq not_true_eq_false not_false_eq_true storeOp apartOf freeze_nil refsL refs List.flatMap_cons List.flatMap_nil List.append_nil List.contains_nil List.set_cons_zero List.set_cons_succ snap snapL fill_nums flat_nums nums_length Go.V.freeze List.mapIdx_cons List.mapIdx_nil List.contains_cons Bool.or_false Bool.false_or Bool.or_true Bool.true_or
def NmU (x:Nm):Prop:=U8 x.2.1∧U8 x.2.2∧x.2.1.length≤1000000000∧x.2.2.length≤1000000000
theorem num_ne {x y:Nm} (hx:NmU x) (hy:NmU y):structV .ne [0,2,2] (.agg (nmC x)) (.agg (nmC y))=some (.bool (!decide (x=y))):=by
  have h:=num_same (n:=x.1) (m:=y.1) hx.1 hx.2.1 hy.1 hy.2.1
  have h1:(nmC x).map kindOf=[0,2,2]:=rfl
  have h2:(nmC y).map kindOf=[0,2,2]:=rfl
  have h3:([AV.bool x.1,AV.str (bs x.2.1),AV.str (bs x.2.2)]).map kindOf=[0,2,2]:=rfl
  have h4:([AV.bool y.1,AV.str (bs y.2.1),AV.str (bs y.2.2)]).map kindOf=[0,2,2]:=rfl
  simp only [structV,h3,h4,and_self,if_true] at h
  simp only [structV,h1,h2,and_self,if_true,nmC]
  have hd:decide (x.1=y.1∧x.2.1=y.2.1∧x.2.2=y.2.2)=decide (x=y):=by
    congr 1
    obtain ⟨a,b,c⟩:=x
    obtain ⟨a',b',c'⟩:=y
    simp only [Prod.mk.injEq]
  rw [hd] at h
  cases hs:scalarsEq [AV.bool x.1,AV.str (bs x.2.1),AV.str (bs x.2.2)] [AV.bool y.1,AV.str (bs y.2.1),AV.str (bs y.2.2)] with
  | none=>rw [hs] at h;cases h
  | some r=>
    rw [hs] at h
    simp only [Option.bind_some,Option.some.injEq,AV.bool.injEq] at h
    subst h
    rfl
theorem subP4b {a b c d:AV}:sub false 1 [a,b,c,d] 1=some b:=rfl
theorem subP4c {a b c d:AV}:sub false 1 [a,b,c,d] 2=some c:=rfl
theorem subP4a {a b c d:AV}:sub false 1 [a,b,c,d] 0=some a:=rfl
theorem c28_gen {s s' t t':List Int} {l l':List Nm} {ch ch':Bool} (hs:(s.length:Int)≤1000000000000) (ht:(t.length:Int)≤1000000000000) (hl:(l.length:Int)≤1000000000000)
    (hs':(s'.length:Int)≤1000000000000) (ht':(t'.length:Int)≤1000000000000) (hl':(l'.length:Int)≤1000000000000) (hu:∀x∈l,NmU x) (hu':∀x∈l',NmU x) :
    Go.V.Call tab E 28 [.agg (plX s ch t l),.agg (plX s' ch' t' l')] [] (.bool (decide (ch=ch'∧s=s'∧t=t'∧l=l'))) []:=by
  refine Go.V.Call.mach i28 c28 rfl rfl rfl rfl ?_
  have hb:(ch==ch')=decide (ch=ch'):=by cases ch<;>cases ch'<;>rfl
  have h23:=c72_ok (E:=E) (s:=s) (t:=s') (by omega) (by omega)
  have h75:=c73_gen ht ht'
  simp only [ints,runes] at h23 h75
  by_cases e1:ch=ch'
  · rw [decide_eq_true e1] at hb
    by_cases e2:s=s'
    · rw [decide_eq_true e2] at h23
      by_cases e3:t=t'
      · rw [decide_eq_true e3] at h75
        by_cases e4:l.length=l'.length
        · have q4:((l.length:Int) != (l'.length:Int))=false:=by rw [bne_eq_false_iff_eq];omega
          simp only [c28,plX,runes,ints,go_sem,subP4a,subP4b,subP4c,subP3,subP3',FL,hb]
          refine goP h23 ?_
          simp only [go_sem,subP4a,subP4b,subP4c,subP3,subP3',FL]
          refine goP h75 ?_
          simp only [go_sem,subP4a,subP4b,subP4c,subP3,subP3',FL,q4]
          refine mLoop (fun N st=>∃(k:Nat),k≤l.length∧N=l.length - k∧l.take k=l'.take k∧
            st=⟨[(2,.loc 0 0 0),(3,.loc 1 0 0),(5,.int .i64 k)],[⟨true,26,4,0,1,plX s ch t l,false⟩,⟨true,26,4,0,1,plX s' ch' t' l',false⟩]⟩) l.length ⟨_,rfl,0,by omega,by omega,rfl,rfl⟩ ?_
          rintro N s0 ⟨k,hk,rfl,htk,rfl⟩
          by_cases hlt:k<l.length
          · have hlt':(k:Int)<(l.length:Int):=by omega
            have hlt2:(k:Int)<(l'.length:Int):=by omega
            have hk0:(0:Int)≤(k:Int):=by omega
            have hk1:IntKind.i64.wrap ((k:Int)+1)=((k+1:Nat):Int):=by rw [wrap_i64 (by omega) (by omega)];omega
            have hsub:=sub_nms hlt
            have hsub2:=sub_nms (l:=l') (i:=k) (by omega)
            have h1:l.take (k+1)=l.take k++[nmAt l k]:=takeAt hlt
            have h2:l'.take (k+1)=l'.take k++[nmAt l' k]:=takeAt (by omega)
            have hn:=num_ne (x:=nmAt l k) (y:=nmAt l' k) (hu _ (by simp [nmAt,List.getD,hlt])) (hu' _ (by simp [nmAt,List.getD,show k<l'.length by omega]))
            by_cases hxy:nmAt l k=nmAt l' k
            · rw [decide_eq_true hxy,Bool.not_true] at hn
              simp only [b28_0,plX,runes,ints,go_sem,subP3,subP3',hlt',hlt2,hk0,Int.toNat_natCast,hsub,hsub2,hn,hk1]
              exact loopQ_go rfl (l.length - (k+1)) (by omega) ⟨k+1,by omega,rfl,by rw [h1,h2,htk,hxy],rfl⟩
            · rw [decide_eq_false hxy,Bool.not_false] at hn
              have hne:¬(ch=ch'∧s=s'∧t=t'∧l=l'):=fun h=>hxy (by rw [h.2.2.2])
              simp only [b28_0,plX,runes,ints,go_sem,subP3,subP3',hlt',hlt2,hk0,Int.toNat_natCast,hsub,hsub2,hn]
              simp only [i28,OT,reduceIte,Nat.reduceEqDiff,decide_eq_false hne]
          · have hlt':¬(k:Int)<(l.length:Int):=by omega
            have he:l=l':=by
              rw [List.take_of_length_le (by omega),List.take_of_length_le (by omega)] at htk
              exact htk
            have hall:ch=ch'∧s=s'∧t=t'∧l=l':=⟨e1,e2,e3,he⟩
            simp only [b28_0,k28_0,plX,runes,ints,go_sem,subP3,subP3',hlt']
            simp only [i28,OT,reduceIte,Nat.reduceEqDiff,decide_eq_true hall]
        · have q4:((l.length:Int) != (l'.length:Int))=true:=by rw [bne_iff_ne];omega
          have hne:¬(ch=ch'∧s=s'∧t=t'∧l=l'):=fun h=>e4 (by rw [h.2.2.2])
          simp only [c28,plX,runes,ints,go_sem,subP4a,subP4b,subP4c,subP3,subP3',FL,hb]
          refine goP h23 ?_
          simp only [go_sem,subP4a,subP4b,subP4c,subP3,subP3',FL]
          refine goP h75 ?_
          simp only [go_sem,subP4a,subP4b,subP4c,subP3,subP3',FL,q4]
          simp only [i28,OT,reduceIte,Nat.reduceEqDiff,decide_eq_false hne]
      · rw [decide_eq_false e3] at h75
        have hne:¬(ch=ch'∧s=s'∧t=t'∧l=l'):=fun h=>e3 h.2.2.1
        simp only [c28,plX,runes,ints,go_sem,subP4a,subP4b,subP4c,subP3,subP3',FL,hb]
        refine goP h23 ?_
        simp only [go_sem,subP4a,subP4b,subP4c,subP3,subP3',FL]
        refine goP h75 ?_
        simp only [go_sem,subP4a,subP4b,subP4c,subP3,subP3',FL]
        simp only [i28,OT,reduceIte,Nat.reduceEqDiff,decide_eq_false hne]
    · rw [decide_eq_false e2] at h23
      have hne:¬(ch=ch'∧s=s'∧t=t'∧l=l'):=fun h=>e2 h.2.1
      simp only [c28,plX,runes,ints,go_sem,subP4a,subP4b,subP4c,subP3,subP3',FL,hb]
      refine goP h23 ?_
      simp only [go_sem,subP4a,subP4b,subP4c,subP3,subP3',FL]
      simp only [i28,OT,reduceIte,Nat.reduceEqDiff,decide_eq_false hne]
  · rw [decide_eq_false e1] at hb
    have hne:¬(ch=ch'∧s=s'∧t=t'∧l=l'):=fun h=>e1 h.1
    simp only [c28,plX,runes,ints,go_sem,subP4a,subP4b,subP4c,subP3,subP3',FL,hb]
    simp only [i28,OT,reduceIte,Nat.reduceEqDiff,decide_eq_false hne]
def Shapes (s:List Int) (ch:Bool) (t:List Int) (n:Nat):Prop:=if ch then count s=some (t.length:Int)∧n=0 else count s=some (n:Int)∧t=[]
def RightP (s:List Int) (ch:Bool) (t:List Int) (l:List Nm):Prop:=Shapes s ch t l.length∧∀x∈l,RightN x.1 x.2.1 x.2.2
theorem Shapes_iff {s t:List Int} {ch:Bool} {n:Nat}:Shapes s ch t n↔∃m,count s=some m∧(ch=true→(t.length:Int)=m∧n=0)∧(ch=false→(n:Int)=m∧t.length=0):=by
  cases ch with
  | true=>
    have e:Shapes s true t n↔count s=some (t.length:Int)∧n=0:=by simp [Shapes]
    rw [e]
    exact ⟨fun ⟨h1,h2⟩=>⟨_,h1,fun _=>⟨rfl,h2⟩,fun h=>(by cases h)⟩,fun ⟨m,h1,h2,_⟩=>⟨by rw [(h2 rfl).1];exact h1,(h2 rfl).2⟩⟩
  | false=>
    have e:Shapes s false t n↔count s=some (n:Int)∧t=[]:=by simp [Shapes]
    rw [e]
    exact ⟨fun ⟨h1,h2⟩=>⟨_,h1,fun h=>(by cases h),fun _=>⟨rfl,by rw [h2];rfl⟩⟩,fun ⟨m,h1,_,h2⟩=>⟨by rw [(h2 rfl).1];exact h1,List.length_eq_zero_iff.1 (h2 rfl).2⟩⟩
theorem c76_ok {s t:List Int} {l:List Nm} {ch ok:Bool} (hs:∀d∈s,In64 d) (hsl:(s.length:Int)≤1000000000000) (ht:(t.length:Int)≤1000000000000) (hl:(l.length:Int)≤1000000000000) (hu:∀x∈l,NmU x) (hok:ok=true↔RightP s ch t l) :
    Go.V.Call tab E 76 [.agg (plX s ch t l)] [] (.bool ok) []:=by
  refine Go.V.Call.mach i76 c76 rfl rfl rfl rfl ?_
  have hfalse:¬RightP s ch t l→ok=false:=fun h=>by rw [←Bool.not_eq_true,hok];exact h
  have h17:=c119_ok (E:=E) hs (by omega)
  simp only [ints] at h17
  have bad:¬Shapes s ch t l.length→ok=false:=fun h=>hfalse (fun hr=>h hr.1)
  cases hc:count s with
  | none=>
    have:=bad (fun h=>by obtain ⟨m,h1,_⟩:=Shapes_iff.1 h;rw [hc] at h1;cases h1)
    subst this
    rw [hc] at h17
    simp only [optP] at h17
    simp only [c76,plX,runes,ints,go_sem,subP4a,subP4b,subP4c,subP3,subP3',FL]
    refine goP h17 ?_
    simp only [go_sem,subP4a,subP4b,subP4c,subP3,subP3',FL]
    simp only [i76,OT,reduceIte,Nat.reduceEqDiff]
  | some m=>
    rw [hc] at h17
    simp only [optP] at h17
    by_cases hsh:Shapes s ch t l.length
    · obtain ⟨m',h1,h2,h3⟩:=Shapes_iff.1 hsh
      rw [hc] at h1
      simp only [Option.some.injEq] at h1
      subst h1
      cases ch with
      | true=>
        obtain ⟨h4,h5⟩:=h2 rfl
        subst h4
        have hl0:l=[]:=List.length_eq_zero_iff.1 h5
        subst hl0
        have hokt:ok=true:=hok.2 ⟨hsh,fun x hx=>by simp at hx⟩
        subst hokt
        simp only [c76,plX,runes,ints,go_sem,subP4a,subP4b,subP4c,subP3,subP3',FL]
        refine goP h17 ?_
        simp only [go_sem,subP4a,subP4b,subP4c,subP3,subP3',FL,bne_self_eq_false]
        refine mLoop (fun N st=>N=0∧st=⟨[(1,.loc 0 0 0),(5,.int .i64 0)],[⟨true,26,4,0,1,plX s true t [],false⟩]⟩) 0 ⟨_,rfl,rfl,rfl⟩ ?_
        rintro N s0 ⟨rfl,rfl⟩
        simp only [b76_0,k76_0,plX,runes,ints,go_sem,subP3,subP3',Int.lt_irrefl]
        simp only [i76,OT,reduceIte,Nat.reduceEqDiff]
      | false=>
        obtain ⟨h4,h5⟩:=h3 rfl
        subst h4
        have ht0:t=[]:=List.length_eq_zero_iff.1 h5
        subst ht0
        simp only [c76,plX,runes,ints,go_sem,subP4a,subP4b,subP4c,subP3,subP3',FL]
        refine goP h17 ?_
        simp only [go_sem,subP4a,subP4b,subP4c,subP3,subP3',FL,bne_self_eq_false]
        refine mLoop (fun N st=>∃(k:Nat),k≤l.length∧N=l.length - k∧(∀x∈l.take k,RightN x.1 x.2.1 x.2.2)∧
          st=⟨[(1,.loc 0 0 0),(5,.int .i64 k)],[⟨true,26,4,0,1,plX s false [] l,false⟩]⟩) l.length ⟨_,rfl,0,by omega,by omega,fun x hx=>by simp at hx,rfl⟩ ?_
        rintro N s0 ⟨k,hk,rfl,hr,rfl⟩
        by_cases hlt:k<l.length
        · have hlt':(k:Int)<(l.length:Int):=by omega
          have hk0:(0:Int)≤(k:Int):=by omega
          have hk1:IntKind.i64.wrap ((k:Int)+1)=((k+1:Nat):Int):=by rw [wrap_i64 (by omega) (by omega)];omega
          have hsub:=sub_nms hlt
          have h1:l.take (k+1)=l.take k++[nmAt l k]:=takeAt hlt
          have hmem:nmAt l k∈l:=by simp [nmAt,List.getD,hlt]
          obtain ⟨u1,u2,u3,u4⟩:=hu _ hmem
          have h96:=fun ok h=>c120_ok (E:=E) (n:=(nmAt l k).1) (ok:=ok) u1 u2 u3 u4 h
          by_cases hrn:RightN (nmAt l k).1 (nmAt l k).2.1 (nmAt l k).2.2
          · have h96t:=h96 true ⟨fun _=>hrn,fun _=>rfl⟩
            simp only [b76_0,plX,runes,ints,go_sem,subP3,subP3',hlt',hk0,Int.toNat_natCast,hsub,nmC]
            refine goP h96t ?_
            simp only [go_sem,hk1]
            refine loopQ_go rfl (l.length - (k+1)) (by omega) ⟨k+1,by omega,rfl,?_,rfl⟩
            intro x hx
            rw [h1] at hx
            rcases List.mem_append.1 hx with hx|hx
            · exact hr x hx
            · simp at hx;subst hx;exact hrn
          · have h96f:=h96 false ⟨fun h=>(by cases h),fun h=>absurd h hrn⟩
            have:=hfalse (fun h=>hrn (h.2 _ hmem))
            subst this
            simp only [b76_0,plX,runes,ints,go_sem,subP3,subP3',hlt',hk0,Int.toNat_natCast,hsub,nmC]
            refine goP h96f ?_
            simp only [go_sem]
            simp only [i76,OT,reduceIte,Nat.reduceEqDiff]
        · have hlt':¬(k:Int)<(l.length:Int):=by omega
          rw [List.take_of_length_le (by omega)] at hr
          have hokt:ok=true:=hok.2 ⟨hsh,hr⟩
          subst hokt
          simp only [b76_0,k76_0,plX,runes,ints,go_sem,subP3,subP3',hlt']
          simp only [i76,OT,reduceIte,Nat.reduceEqDiff]
    · have:=bad hsh
      subst this
      rw [Shapes_iff] at hsh
      cases ch with
      | true=>
        by_cases h1:(t.length:Int)=m
        · have h2:¬l.length=0:=fun h=>hsh ⟨m,hc,fun _=>⟨h1,h⟩,fun h=>by cases h⟩
          have q1:((t.length:Int) != m)=false:=by rw [bne_eq_false_iff_eq];exact h1
          have q2:((l.length:Int) != 0)=true:=by rw [bne_iff_ne];omega
          simp only [c76,plX,runes,ints,go_sem,subP4a,subP4b,subP4c,subP3,subP3',FL]
          refine goP h17 ?_
          simp only [go_sem,subP4a,subP4b,subP4c,subP3,subP3',FL,q1,q2]
          simp only [i76,OT,reduceIte,Nat.reduceEqDiff]
        · have q1:((t.length:Int) != m)=true:=by rw [bne_iff_ne];exact h1
          simp only [c76,plX,runes,ints,go_sem,subP4a,subP4b,subP4c,subP3,subP3',FL]
          refine goP h17 ?_
          simp only [go_sem,subP4a,subP4b,subP4c,subP3,subP3',FL,q1]
          simp only [i76,OT,reduceIte,Nat.reduceEqDiff]
      | false=>
        by_cases h1:(l.length:Int)=m
        · have h2:¬t.length=0:=fun h=>hsh ⟨m,hc,fun h=>(by cases h),fun _=>⟨h1,h⟩⟩
          have q1:((l.length:Int) != m)=false:=by rw [bne_eq_false_iff_eq];exact h1
          have q2:((t.length:Int) != 0)=true:=by rw [bne_iff_ne];omega
          simp only [c76,plX,runes,ints,go_sem,subP4a,subP4b,subP4c,subP3,subP3',FL]
          refine goP h17 ?_
          simp only [go_sem,subP4a,subP4b,subP4c,subP3,subP3',FL,q1,q2]
          simp only [i76,OT,reduceIte,Nat.reduceEqDiff]
        · have q1:((l.length:Int) != m)=true:=by rw [bne_iff_ne];exact h1
          simp only [c76,plX,runes,ints,go_sem,subP4a,subP4b,subP4c,subP3,subP3',FL]
          refine goP h17 ?_
          simp only [go_sem,subP4a,subP4b,subP4c,subP3,subP3',FL,q1]
          simp only [i76,OT,reduceIte,Nat.reduceEqDiff]
theorem subA1' {a b c d e:AV}:sub false 1 [a,b,c,d,e] (0+3)=some d:=rfl
theorem c45_ok {s t:List Int} {l:List Nm} {ch ok:Bool} (hs:∀d∈s,In64 d) (hsl:(s.length:Int)≤1000000000000) (ht:(t.length:Int)≤1000000000000) (hl:(l.length:Int)≤1000000000000) (hu:∀x∈l,NmU x) (hok:ok=true↔RightP s ch t l) :
    Go.V.Call tab E 45 [.agg (plX s ch t l)] [] (.tup [.agg (if ok then arrX s ch t (l.map toRt) else noA),.bool ok]) []:=by
  refine Go.V.Call.mach i45 c45 rfl rfl rfl rfl ?_
  have hfalse:¬RightP s ch t l→ok=false:=fun h=>by rw [←Bool.not_eq_true,hok];exact h
  have h35:=c78_ok (E:=E) hs (by omega)
  have h85:=c89_ok hsl
  have h92:=c90_ok ht
  simp only [ints,runes] at h35 h85 h92
  have bad:¬Shapes s ch t l.length→ok=false:=fun h=>hfalse (fun hr=>h hr.1)
  cases hc:count s with
  | none=>
    have:=bad (fun h=>by obtain ⟨m,h1,_⟩:=Shapes_iff.1 h;rw [hc] at h1;cases h1)
    subst this
    rw [hc] at h35
    simp only [optP] at h35
    simp only [c45,plX,runes,ints,go_sem,subP4a,subP4b,subP4c,subP3,subP3',FL]
    refine goP h35 ?_
    simp only [go_sem,subP4a,subP4b,subP4c,subP3,subP3',FL]
    simp only [i45,OT,reduceIte,Nat.reduceEqDiff,subA5,noA,Bool.false_eq_true,if_false]
  | some m=>
    rw [hc] at h35
    simp only [optP] at h35
    by_cases hsh:Shapes s ch t l.length
    · obtain ⟨m',h1,h2,h3⟩:=Shapes_iff.1 hsh
      rw [hc] at h1
      simp only [Option.some.injEq] at h1
      subst h1
      cases ch with
      | true=>
        obtain ⟨h4,h5⟩:=h2 rfl
        subst h4
        have hl0:l=[]:=List.length_eq_zero_iff.1 h5
        subst hl0
        have hokt:ok=true:=hok.2 ⟨hsh,fun x hx=>by simp at hx⟩
        subst hokt
        simp only [c45,plX,runes,ints,go_sem,subP4a,subP4b,subP4c,subP3,subP3',FL]
        refine goP h35 ?_
        simp only [go_sem,subP4a,subP4b,subP4c,subP3,subP3',FL,bne_self_eq_false,Int.lt_irrefl]
        refine goZ (r':=ints s) h85 rfl ?_
        simp only [ints,go_sem,subP4a,subP4b,subP4c,subP3,subP3',FL]
        refine goZ (r':=runes t) h92 rfl ?_
        simp only [runes,go_sem,subP4a,subP4b,subP4c,subP3,subP3',FL]
        refine mLoop (fun N st=>N=0∧st=⟨[(2,.loc 4 0 0),(6,.loc 8 0 0),(65,.sl 0 3 (nmsC [])),(66,.int .i64 0),(67,.int .i64 0)],
          [⟨true,26,4,0,1,plX s true t [],false⟩,⟨false,3,1,0,0,[],false⟩,⟨false,21,1,0,0,[],false⟩,⟨false,57,3,0,0,[],false⟩,⟨true,31,5,0,1,[.arr 1 0,.bool false,.arr 2 0,.arr 3 0,.bool false],false⟩,
           ⟨false,3,1,0,0,[],false⟩,⟨false,21,1,0,0,[],false⟩,⟨false,57,3,0,0,[],false⟩,⟨true,31,5,0,1,[ints s,.bool true,runes t,.arr 9 0,.bool true],false⟩,⟨false,57,3,0,0,[],false⟩]⟩) 0 ⟨_,rfl,rfl,rfl⟩ ?_
        rintro N s0 ⟨rfl,rfl⟩
        simp only [b45_0,k45_0,plX,runes,ints,go_sem,subA5,Int.lt_irrefl,FL]
        simp only [i45,OT,reduceIte,Nat.reduceEqDiff,subA5,arrX,runes,if_true,List.map_nil]
        rfl
      | false=>
        obtain ⟨h4,h5⟩:=h3 rfl
        subst h4
        have ht0:t=[]:=List.length_eq_zero_iff.1 h5
        subst ht0
        simp only [c45,plX,runes,ints,go_sem,subP4a,subP4b,subP4c,subP3,subP3',FL]
        refine goP h35 ?_
        simp only [go_sem,subP4a,subP4b,subP4c,subP3,subP3',FL,bne_self_eq_false,Int.lt_irrefl]
        refine goZ (r':=ints s) h85 rfl ?_
        simp only [ints,go_sem,subP4a,subP4b,subP4c,subP3,subP3',FL]
        refine goZ (r':=runes []) h92 rfl ?_
        simp only [runes,go_sem,subP4a,subP4b,subP4c,subP3,subP3',FL]
        refine mLoop (fun N st=>∃i:Nat,i≤l.length∧N=l.length - i∧(∀x∈l.take i,RightN x.1 x.2.1 x.2.2)∧st=⟨[(2,.loc 4 0 0),(6,.loc 8 0 0),(65,.sl l.length 3 (nmsC l)),(66,.int .i64 l.length),(67,.int .i64 i)],
          [⟨true,26,4,0,1,plX s false [] l,false⟩,⟨false,3,1,0,0,[],false⟩,⟨false,21,1,0,0,[],false⟩,⟨false,57,3,0,0,[],false⟩,⟨true,31,5,0,1,[.arr 1 0,.bool false,.arr 2 0,.arr 3 0,.bool false],false⟩,
           ⟨false,3,1,0,0,[],false⟩,⟨false,21,1,0,0,[],false⟩,⟨false,57,3,0,0,[],false⟩,⟨true,31,5,0,1,[ints s,.bool false,runes [],.arr 9 i,.bool true],false⟩,⟨false,57,3,i,i,rtsC ((l.take i).map toRt),false⟩]⟩) l.length
          ⟨_,rfl,0,by omega,by omega,fun x hx=>by simp at hx,by simp [getE,ints,runes,plX,rtsC]⟩ ?_
        rintro N s0 ⟨i,hi,rfl,hr,rfl⟩
        by_cases hlt:i<l.length
        · have hlt':(i:Int)<(l.length:Int):=by omega
          have hi0:(0:Int)≤(i:Int):=by omega
          have hi1:IntKind.i64.wrap ((i:Int)+1)=((i+1:Nat):Int):=by rw [wrap_i64 (by omega) (by omega)];omega
          have hsub:=sub_nms hlt
          have hmem:nmAt l i∈l:=by simp [nmAt,List.getD,hlt]
          obtain ⟨u1,u2,u3,u4⟩:=hu _ hmem
          have htk:l.take (i+1)=l.take i++[nmAt l i]:=takeAt hlt
          have hmt:rtsC ((l.take (i+1)).map toRt)=rtsC ((l.take i).map toRt)++rtC (toRt (nmAt l i)):=by rw [htk,List.map_append,List.map_cons,List.map_nil,rtsC_snoc]
          have e1:(i+1)*56≤140737488355328:=by omega
          have e2:i+1≤140737488355328:=by omega
          have h95:=fun ok h=>c91_ok (E:=E) (n:=(nmAt l i).1) (ok:=ok) u1 u2 u3 u4 h
          by_cases hrn:RightN (nmAt l i).1 (nmAt l i).2.1 (nmAt l i).2.2
          · obtain ⟨n',p',q',hn',h95t⟩:=h95 true ⟨fun _=>hrn,fun _=>rfl⟩
            obtain ⟨rfl,rfl,rfl⟩:=hn' rfl
            simp only [ratG,us32] at h95t
            simp only [b45_0,plX,runes,ints,go_sem,subT3,hlt',hi0,Int.toNat_natCast,hsub,nmC,FL]
            refine goP h95t ?_
            simp only [go_sem,subA1',subA3,subT3,FL,hi1,e1,e2,List.flatten_cons,List.flatten_nil,Option.getD_some]
            refine loopQ_go rfl (l.length - (i+1)) (by omega) ⟨i+1,by omega,rfl,?_,?_⟩
            · intro x hx
              rw [htk] at hx
              rcases List.mem_append.1 hx with hx|hx
              · exact hr x hx
              · simp at hx;subst hx;exact hrn
            · rw [hmt]
              rfl
          · obtain ⟨n',p',q',hn',h95f⟩:=h95 false ⟨fun h=>(by cases h),fun h=>absurd h hrn⟩
            have:=hfalse (fun h=>hrn (h.2 _ hmem))
            subst this
            simp only [ratG,us32] at h95f
            simp only [b45_0,plX,runes,ints,go_sem,subT3,hlt',hi0,Int.toNat_natCast,hsub,nmC,FL]
            refine goP h95f ?_
            simp only [go_sem,subA5,subT3,FL]
            simp only [i45,OT,reduceIte,Nat.reduceEqDiff,subA5,noA,Bool.false_eq_true,if_false]
        · have hlt':¬(i:Int)<(l.length:Int):=by omega
          obtain rfl:i=l.length:=by omega
          rw [List.take_length] at hr
          have hokt:ok=true:=hok.2 ⟨hsh,hr⟩
          subst hokt
          simp only [b45_0,k45_0,plX,runes,ints,go_sem,subA5,hlt',List.take_length,FL]
          simp only [i45,OT,reduceIte,Nat.reduceEqDiff,subA5,arrX,runes,if_true,List.length_map]
          rfl
    · have:=bad hsh
      subst this
      rw [Shapes_iff] at hsh
      cases ch with
      | true=>
        by_cases h1:(t.length:Int)=m
        · have h2:¬l.length=0:=fun h=>hsh ⟨m,hc,fun _=>⟨h1,h⟩,fun h=>by cases h⟩
          have q1:((t.length:Int) != m)=false:=by rw [bne_eq_false_iff_eq];exact h1
          have q2:(0:Int)<(l.length:Int):=by omega
          simp only [c45,plX,runes,ints,go_sem,subP4a,subP4b,subP4c,subP3,subP3',FL]
          refine goP h35 ?_
          simp only [go_sem,subP4a,subP4b,subP4c,subP3,subP3',FL,q1,q2]
          simp only [i45,OT,reduceIte,Nat.reduceEqDiff,subA5,noA,Bool.false_eq_true,if_false]
        · have q1:((t.length:Int) != m)=true:=by rw [bne_iff_ne];exact h1
          simp only [c45,plX,runes,ints,go_sem,subP4a,subP4b,subP4c,subP3,subP3',FL]
          refine goP h35 ?_
          simp only [go_sem,subP4a,subP4b,subP4c,subP3,subP3',FL,q1]
          simp only [i45,OT,reduceIte,Nat.reduceEqDiff,subA5,noA,Bool.false_eq_true,if_false]
      | false=>
        by_cases h1:(l.length:Int)=m
        · have h2:¬t.length=0:=fun h=>hsh ⟨m,hc,fun h=>(by cases h),fun _=>⟨h1,h⟩⟩
          have q1:((l.length:Int) != m)=false:=by rw [bne_eq_false_iff_eq];exact h1
          have q2:(0:Int)<(t.length:Int):=by omega
          simp only [c45,plX,runes,ints,go_sem,subP4a,subP4b,subP4c,subP3,subP3',FL]
          refine goP h35 ?_
          simp only [go_sem,subP4a,subP4b,subP4c,subP3,subP3',FL,q1,q2]
          simp only [i45,OT,reduceIte,Nat.reduceEqDiff,subA5,noA,Bool.false_eq_true,if_false]
        · have q1:((l.length:Int) != m)=true:=by rw [bne_iff_ne];exact h1
          simp only [c45,plX,runes,ints,go_sem,subP4a,subP4b,subP4c,subP3,subP3',FL]
          refine goP h35 ?_
          simp only [go_sem,subP4a,subP4b,subP4c,subP3,subP3',FL,q1]
          simp only [i45,OT,reduceIte,Nat.reduceEqDiff,subA5,noA,Bool.false_eq_true,if_false]
theorem c11_ok {s t:List Int} {l:List Nm} {ch:Bool} (hs:∀d∈s,In64 d) (hsl:(s.length:Int)≤1000000000000) (ht:(t.length:Int)≤1000000000000) (hl:(l.length:Int)≤1000000000000) (hu:∀x∈l,NmU x) (hr:RightP s ch t l) :
    Go.V.Call tab E 11 [.agg (plX s ch t l)] [] (.agg (arrX s ch t (l.map toRt))) []:=by
  refine Go.V.Call.mach i11 c11 rfl rfl rfl rfl ?_
  have h65:=c45_ok (ok:=true) hs hsl ht hl hu ⟨fun _=>hr,fun _=>rfl⟩
  simp only [if_true,plX,arrX,runes,ints] at h65
  simp only [c11,plX,runes,ints,go_sem,subP4,FL]
  refine goP h65 ?_
  simp only [go_sem,subA5,FL]
  simp only [i11,OT,reduceIte,Nat.reduceEqDiff,subA5,arrX,runes]
def LightP (s:List Int) (ch:Bool) (t:List Int) (l:List Nm) (most:Int):Prop:=(t.length:Int)≤most∧(l.length:Int)≤most∧s.length≤8∧(∀x∈l,x.2.1.length≤40∧x.2.2.length≤40)∧RightP s ch t l
theorem c32_ok {s t:List Int} {l:List Nm} {ch ok:Bool} {most:Int} (hm:0≤most∧most≤1000000) (hs:∀d∈s,In64 d)
    (hu:∀x∈l,U8 x.2.1∧U8 x.2.2) (hok:ok=true↔LightP s ch t l most) :
    Go.V.Call tab E 32 [.agg (plX s ch t l),.int .i64 most] [] (.bool ok) []:=by
  refine Go.V.Call.mach i32 c32 rfl rfl rfl rfl ?_
  have hfalse:¬LightP s ch t l most→ok=false:=fun h=>by rw [←Bool.not_eq_true,hok];exact h
  by_cases h1:most<(t.length:Int)
  · have:=hfalse (fun h=>by have:=h.1;omega)
    subst this
    simp only [c32,plX,runes,ints,go_sem,subP4a,subP4b,subP4c,subP3,subP3',FL,h1]
    simp only [i32,OT,reduceIte,Nat.reduceEqDiff]
  by_cases h2:most<(l.length:Int)
  · have:=hfalse (fun h=>by have:=h.2.1;omega)
    subst this
    simp only [c32,plX,runes,ints,go_sem,subP4a,subP4b,subP4c,subP3,subP3',FL,h1,h2]
    simp only [i32,OT,reduceIte,Nat.reduceEqDiff]
  by_cases h3:(8:Int)<(s.length:Int)
  · have:=hfalse (fun h=>by have:=h.2.2.1;omega)
    subst this
    simp only [c32,plX,runes,ints,go_sem,subP4a,subP4b,subP4c,subP3,subP3',FL,h1,h2,h3]
    simp only [i32,OT,reduceIte,Nat.reduceEqDiff]
  simp only [c32,plX,runes,ints,go_sem,subP4a,subP4b,subP4c,subP3,subP3',FL,h1,h2,h3]
  refine mLoop (fun N st=>∃k:Nat,k≤l.length∧N=l.length - k∧(∀x∈l.take k,x.2.1.length≤40∧x.2.2.length≤40)∧st=⟨[(2,.loc 0 0 0),(5,.int .i64 k)],[⟨true,26,4,0,1,plX s ch t l,false⟩]⟩) l.length
    ⟨_,rfl,0,by omega,by omega,fun x hx=>by simp at hx,rfl⟩ ?_
  rintro N s0 ⟨k,hk,rfl,hr,rfl⟩
  by_cases hlt:k<l.length
  · have hlt':(k:Int)<(l.length:Int):=by omega
    have hk0:(0:Int)≤(k:Int):=by omega
    have hk1:IntKind.i64.wrap ((k:Int)+1)=((k+1:Nat):Int):=by rw [wrap_i64 (by omega) (by omega)];omega
    have hs1:=sub_nms1 hlt
    have hs2:=sub_nms2 hlt
    have hmem:nmAt l k∈l:=by simp [nmAt,List.getD,hlt]
    have htk:l.take (k+1)=l.take k++[nmAt l k]:=takeAt hlt
    by_cases g1:(40:Int)<((nmAt l k).2.1.length:Int)
    · have:=hfalse (fun h=>by have:=(h.2.2.2.1 _ hmem).1;omega)
      subst this
      simp only [b32_0,plX,runes,ints,go_sem,subP3,subP3',hlt',hk0,Int.toNat_natCast,hs1,hs2,bs_size,g1]
      simp only [i32,OT,reduceIte,Nat.reduceEqDiff]
    · by_cases g2:(40:Int)<((nmAt l k).2.2.length:Int)
      · have:=hfalse (fun h=>by have:=(h.2.2.2.1 _ hmem).2;omega)
        subst this
        simp only [b32_0,plX,runes,ints,go_sem,subP3,subP3',hlt',hk0,Int.toNat_natCast,hs1,hs2,bs_size,g1,g2]
        simp only [i32,OT,reduceIte,Nat.reduceEqDiff]
      · simp only [b32_0,plX,runes,ints,go_sem,subP3,subP3',hlt',hk0,Int.toNat_natCast,hs1,hs2,bs_size,g1,g2,hk1]
        refine loopQ_go rfl (l.length - (k+1)) (by omega) ⟨k+1,by omega,rfl,?_,rfl⟩
        intro x hx
        rw [htk] at hx
        rcases List.mem_append.1 hx with hx|hx
        · exact hr x hx
        · simp at hx;subst hx;omega
  · have hlt':¬(k:Int)<(l.length:Int):=by omega
    rw [List.take_of_length_le (by omega)] at hr
    have h66:=c76_ok (s:=s) (t:=t) (l:=l) (ch:=ch) (ok:=ok) hs (by omega) (by omega) (by omega) (fun x hx=>⟨(hu x hx).1,(hu x hx).2,by have:=(hr x hx).1;omega,by have:=(hr x hx).2;omega⟩) (by
      rw [hok]
      exact ⟨fun h=>h.2.2.2.2,fun h=>⟨by omega,by omega,by omega,hr,h⟩⟩)
    simp only [plX,runes,ints] at h66
    simp only [b32_0,k32_0,plX,runes,ints,go_sem,subP4,subP3,subP3',hlt']
    refine goP h66 ?_
    simp only [go_sem]
    simp only [i32,OT,reduceIte,Nat.reduceEqDiff]
theorem dn_pos {q:Nat} (h:q≠0):dn q=q:=by
  unfold dn
  rw [if_neg h]
theorem back_nm {x:Nm} (h:RightN x.1 x.2.1 x.2.2):toNm (toRt x)=x:=by
  obtain ⟨n,a,b⟩:=x
  obtain ⟨hRa,hRb,t1,t2,hb48,_,_⟩:=h
  have ea:decL (sval a)=a:=by rw [←trimS_dec hRa.1 (fun h0=>by have:=hRa.2.1;rw [h0] at this;simp at this)];exact t1
  have eb:decL (sval b)=b:=by rw [←trimS_dec hRb.1 (fun h0=>by have:=hRb.2.1;rw [h0] at this;simp at this)];exact t2
  have hq:sval b≠0:=fun h=>hb48 ((right_zero hRb t2).1 h)
  have hd:=dn_pos hq
  simp only [toNm,toRt]
  rw [hd,ea,eb]
theorem right_ok {x:Nm} (h:RightN x.1 x.2.1 x.2.2):RtOk (toRt x):=by
  obtain ⟨hRa,hRb,t1,t2,hb48,_,_⟩:=h
  refine ⟨Right_lim hRa,?_⟩
  have hq:sval x.2.2≠0:=fun h=>hb48 ((right_zero hRb t2).1 h)
  show dn (sval x.2.2)<lim2000
  rw [dn_pos hq]
  exact Right_lim hRb
def whC (n:Bool) (p:Nat):List AV:=[us32 (limG p),.bool n]
theorem subW2 {a b:AV}:sub true 2 [a,b] 0=some (.agg [a,b]):=rfl
theorem subW0 {a b:AV}:sub true 1 [a,b] 0=some (.agg [a]):=rfl
theorem subW1 {a b:AV}:sub false 1 [a,b] 1=some b:=rfl
section
variable {E:CallRel}
theorem c67_ok {n:Bool} {p q:Nat}:Go.V.Call tab E 67 [.agg (ratG n p q)] [] (.agg (whC false (dn q))) []:=by
  refine Go.V.Call.mach i67 c67 rfl rfl rfl rfl ?_
  have h100:=c111_gen (E:=E) (n:=n) (p:=p) (q:=q)
  have h118:=c109_ok (E:=E) (n:=false) (p:=dn q)
  simp only [ratG,natC,us32,Bool.false_and] at h100 h118
  simp only [c67,ratG,us32,go_sem,FL,subT3]
  refine goP h100 ?_
  simp only [us32,go_sem,FL]
  refine goP h118 ?_
  simp only [us32,go_sem,FL]
  simp only [i67,OT,reduceIte,Nat.reduceEqDiff,subW2,whC,us32]
theorem c66_ok {n m:Bool} {p q:Nat} (hp:(limG p).length≤1000000) (hq:(limG q).length≤1000000):Go.V.Call tab E 66 [.agg (whC n p),.sl 1 2 (whC m q)] [] (.agg (whC ((n != m)&&decide (p*q≠0)) (p*q))) []:=by
  refine Go.V.Call.mach i66 c66 rfl rfl rfl rfl ?_
  have h133:=c110_ok (E:=E) hp hq
  have h118:=c109_ok (E:=E) (n:=n != m) (p:=p*q)
  have hb:boolV .ne (.bool n) (.bool m)=some (.bool (n != m)):=by cases n<;>cases m<;>rfl
  simp only [natC,us32] at h133 h118
  simp only [c66,whC,us32,go_sem,FL,subW2]
  refine mLoop (fun N st=>∃(i:Nat) (b:Bool) (v:Nat),(i=0∧b=n∧v=p∨i=1∧b=((n != m)&&decide (p*q≠0))∧v=p*q)∧N=1 - i∧
    st=⟨[(2,.loc 0 0 0),(4,.loc 2 0 0),(7,.sl 1 2 (whC m q)),(8,.int .i64 1),(9,.int .i64 i)],[⟨true,55,2,0,1,whC b v,false⟩,⟨false,162,1,0,0,[],false⟩,⟨true,55,2,0,1,[.arr 1 0,.bool false],false⟩]⟩) 1
    ⟨_,rfl,0,n,p,.inl ⟨rfl,rfl,rfl⟩,by omega,by simp [getE,whC,us32]⟩ ?_
  rintro N s0 ⟨i,b,v,hiv,rfl,rfl⟩
  rcases hiv with ⟨rfl,rfl,rfl⟩|⟨rfl,rfl,rfl⟩
  · have hs2:sub true 2 (whC m q) (0*2)=some (.agg (whC m q)):=rfl
    have hs2':sub true 2 (whC m q) 0=some (.agg (whC m q)):=rfl
    have w1:IntKind.i64.wrap (0+1)=1:=by decide
    have h01:(0:Int)<((1:Nat):Int):=by omega
    simp only [whC,us32] at hs2 hs2'
    simp only [b66_0,whC,us32,go_sem,FL,subW2,subW0,subW1,h01,hs2,hs2']
    refine goF h133 ?_
    simp only [us32,go_sem,FL,subW2,subW0,subW1]
    refine goP h118 ?_
    simp only [us32,go_sem,FL,subW2,subW0,subW1,w1]
    exact loopQ_go rfl 0 (by omega) ⟨1,_,_,.inr ⟨rfl,rfl,rfl⟩,by omega,rfl⟩
  · have g:¬((1:Nat):Int)<1:=by omega
    simp only [b66_0,k66_0,whC,us32,go_sem,FL,subW2,subW0,subW1,Int.lt_irrefl,g]
    simp only [i66,OT,reduceIte,Nat.reduceEqDiff,subW2,whC,us32]
end
def RtRed (x:Rt):Prop:=RtOk x∧x.2.2≠0∧Nat.gcd x.2.1 x.2.2=1∧(x.1=true→x.2.1≠0)
theorem right_red {x:Nm} (h:RightN x.1 x.2.1 x.2.2):RtRed (toRt x):=by
  have h':=h
  obtain ⟨hRa,hRb,t1,t2,hb48,g1,g2⟩:=h'
  refine ⟨right_ok h,fun h=>hb48 ((right_zero hRb t2).1 h),g1,fun hn h0=>g2 ⟨hn,(right_zero hRa t1).1 h0⟩⟩
theorem subT2 {a b c:AV}:sub true 2 [a,b,c] 0=some (.agg [a,b]):=rfl
theorem subT1' {a b c:AV}:sub true 1 [a,b,c] 0=some (.agg [a]):=rfl
def wint (n:Bool) (p:Nat):Option Int:=if n=true then (if p≤9223372036854775808 then some (-(p:Int)) else none) else if p<9223372036854775808 then some (p:Int) else none
def rint (x:Rt):Option Int:=if dn x.2.2=1 then wint x.1 x.2.1 else none
section
variable {E:CallRel}
theorem c126_ok {n:Nat}:Go.V.Call tab E 126 [natC n] [] (.int .i64 (((limG n).length:Nat):Int)) []:=by
  refine Go.V.Call.mach i126 c126 rfl rfl rfl rfl ?_
  simp only [c126,natC,us32,go_sem,sub,FL]
  simp only [i126,OT,reduceIte,Nat.reduceEqDiff]
def rlimbs (x:Rt):Nat:=max (limG x.2.1).length (limG (dn x.2.2)).length
theorem c87_ok {x:Rt}:Go.V.Call tab E 87 [.agg (rtC x)] [] (.int .i64 ((rlimbs x:Nat):Int)) []:=by
  obtain ⟨n,p,q⟩:=x
  refine Go.V.Call.mach i87 c87 rfl rfl rfl rfl ?_
  have h104:=c126_ok (E:=E) (n:=p)
  have h104':=c126_ok (E:=E) (n:=dn q)
  have h100:=c111_gen (E:=E) (n:=n) (p:=p) (q:=q)
  simp only [natC,ratG,us32] at h104 h104' h100
  have hmx:(if ((limG p).length:Int)<((limG (dn q)).length:Int) then ((limG (dn q)).length:Int) else ((limG p).length:Int))=((rlimbs (n,p,q):Nat):Int):=by
    simp only [rlimbs,Nat.max_def]
    split<;>split<;>omega
  simp only [c87,rtC,ratG,us32,go_sem,subT3,subT1',FL]
  refine goP h104 ?_
  simp only [go_sem,subT3]
  refine goP h100 ?_
  simp only [go_sem]
  refine goP h104' ?_
  simp only [go_sem,hmx]
  simp only [i87,OT,reduceIte,Nat.reduceEqDiff]
def wdC (n:Bool) (p:Nat):List AV:=[.bool n,.str (dec p)]
theorem subD2 {a b:AV}:sub true 2 [a,b] 0=some (.agg [a,b]):=rfl
theorem subD0 {a b:AV}:sub false 1 [a,b] 0=some a:=rfl
theorem subD1 {a b:AV}:sub false 1 [a,b] 1=some b:=rfl
theorem subN0 {a b c:AV}:sub false 1 [a,b,c] 0=some a:=rfl
theorem subN1 {a b c:AV}:sub false 1 [a,b,c] 1=some b:=rfl
theorem subN2 {a b c:AV}:sub false 1 [a,b,c] 2=some c:=rfl
theorem dec_zero:dec 0=⟨#[48]⟩:=rfl
theorem dec_one:dec 1=⟨#[49]⟩:=by rw [dec_eq,decL_digit (by omega)];rfl
theorem dec_ne {a b:Nat}:strOp .ne (dec a) (dec b)=some (.bool (!decide (a=b))):=by
  rw [dec_eq,dec_eq]
  simp only [strOp,str_eq (decL_dig a).u8 (decL_dig b).u8]
  congr 3
  by_cases h:a=b
  · subst h;simp
  · rw [decide_eq_false h,decide_eq_false]
    intro hh
    exact h (by rw [←sval_decL a,hh,sval_decL])
theorem c159_ok {n:Bool} {p:Nat} (hp:(decL p).length≤1000000000):Go.V.Call tab E 159 [.bool n,.str (dec p)] [] (.agg (wdC (n&&decide (p≠0)) p)) []:=by
  refine Go.V.Call.mach i159 c159 rfl rfl rfl rfl ?_
  have h120:=c148_dig (E:=E) (decL_dig p) (decL_ne p) hp
  rw [sval_decL,←dec_eq] at h120
  have hne:=dec_ne (a:=p) (b:=0)
  rw [dec_zero] at hne
  have hd:(!decide (p=0))=decide (p≠0):=by simp
  simp only [c159,go_sem,FL]
  refine goP h120 ?_
  cases n with
  | true=>
    simp only [go_sem,FL,hne,hd]
    simp only [i159,OT,reduceIte,Nat.reduceEqDiff,subD2,wdC,Bool.true_and]
  | false=>
    simp only [go_sem,FL]
    simp only [i159,OT,reduceIte,Nat.reduceEqDiff,subD2,wdC,Bool.false_and]
theorem c134_ok {x:Rt} (hp:(decL x.2.1).length≤1000000000):Go.V.Call tab E 134 [.agg (numG x.1 x.2.1 (dn x.2.2))] [] (.agg (wdC (x.1&&decide (x.2.1≠0)) x.2.1)) []:=by
  refine Go.V.Call.mach i134 c134 rfl rfl rfl rfl ?_
  have h:=c159_ok (E:=E) (n:=x.1) hp
  simp only [c134,numG,go_sem,FL,subN0,subN1]
  refine goP h ?_
  simp only [wdC,go_sem,FL]
  simp only [i134,OT,reduceIte,Nat.reduceEqDiff,subD2,wdC]
theorem c97_ok {x:Rt} {m:Nat} (hm0:0<m) (hm:m≤10000) (hp:(decL x.2.1).length≤1000000000) (hq:(decL (dn x.2.2)).length≤1000000000) (hV:x.2.1<65536^m) (hW:dn x.2.2<65536^m) :
    Go.V.Call tab E 97 [.agg (numG x.1 x.2.1 (dn x.2.2))] [] (.int .i64 ((rlimbs x:Nat):Int)) []:=by
  refine Go.V.Call.mach i97 c97 rfl rfl rfl rfl ?_
  have h1:=c136_ok (E:=E) (decL_dig x.2.1) hp hm0 hm (by rw [sval_decL];exact hV)
  have h2:=c136_ok (E:=E) (decL_dig (dn x.2.2)) hq hm0 hm (by rw [sval_decL];exact hW)
  rw [sval_decL,←dec_eq] at h1 h2
  simp only [c97,numG,go_sem,FL,subN1,subN2]
  refine goP h1 ?_
  simp only [go_sem,subN1,subN2]
  refine goP h2 ?_
  by_cases h:(limG (dn x.2.2)).length<(limG x.2.1).length
  · have h':((limG (dn x.2.2)).length:Int)<((limG x.2.1).length:Int):=by omega
    have hr:rlimbs x=(limG x.2.1).length:=by rw [rlimbs,Nat.max_def,if_neg (by omega)]
    simp only [go_sem,h']
    simp only [i97,OT,reduceIte,Nat.reduceEqDiff,hr]
  · have h':¬((limG (dn x.2.2)).length:Int)<((limG x.2.1).length:Int):=by omega
    have hr:rlimbs x=(limG (dn x.2.2)).length:=by rw [rlimbs,Nat.max_def,if_pos (by omega)]
    simp only [go_sem,h']
    simp only [i97,OT,reduceIte,Nat.reduceEqDiff,hr]
end
def rv (x:Rt):Int:=(rint x).getD 0
theorem RtOk.len {x:Rt} (h:RtOk x):(decL x.2.1).length≤1000000000∧(decL (dn x.2.2)).length≤1000000000:=⟨Nat.le_trans (lim2000_len h.1) (by omega),Nat.le_trans (lim2000_len h.2) (by omega)⟩
theorem c39_ok {s t:List Int} {l:List Rt} {ch:Bool}:Go.V.Call tab E 39 [.agg (arrX s ch t l)] [] (.bool ch) []:=by
  refine Go.V.Call.mach i39 c39 rfl rfl rfl rfl ?_
  simp only [c39,arrX,runes,go_sem,subX1,FL]
  simp only [i39,OT,reduceIte,Nat.reduceEqDiff]
theorem c38_X {s t:List Int} {l:List Rt} {ch:Bool} (hs:(s.length:Int)≤1000000000000):Go.V.Call tab E 38 [.agg (arrX s ch t l)] [] (.int .i64 s.length) []:=by
  refine Go.V.Call.mach i38 c38 rfl rfl rfl rfl ?_
  have h69:=c53_X (s:=s) (t:=t) (l:=l) (ch:=ch) hs
  simp only [arrX,runes,ints] at h69
  simp only [c38,arrX,runes,ints,go_sem,subA5,FL]
  refine goP h69 ?_
  simp only [go_sem,FL]
  simp only [i38,OT,reduceIte,Nat.reduceEqDiff]
theorem c127_X {l:List Rt} (hl:(l.length:Int)≤1000000000000):Go.V.Call tab E 127 [.sl l.length 3 (rtsC l)] [] (.arr 0 0) [⟨false,57,3,0,l.length,rtsC l,false⟩]:=by
  refine ⟨0,?_⟩
  have h1:l.length*56≤140737488355328:=by omega
  have h2:l.length≤140737488355328:=by omega
  simp only [CallN,E,ext,cloneOf,h1,h2,and_self,if_true]
theorem sgn_mul {a b:Int}:decide (a*b<0)=((decide (a<0) != decide (b<0))&&decide (a.natAbs*b.natAbs≠0)):=by
  by_cases ha:a<0
  · by_cases hb:b<0
    · have h1:=Int.mul_pos_of_neg_of_neg ha hb
      rw [decide_eq_true ha,decide_eq_true hb,decide_eq_false (show ¬a*b<0 by omega)]
      rfl
    · rw [decide_eq_true ha,decide_eq_false hb]
      by_cases h0:b=0
      · subst h0;simp
      · have h1:=Int.mul_neg_of_neg_of_pos ha (show 0<b by omega)
        rw [decide_eq_true h1,decide_eq_true (Nat.mul_ne_zero (by omega) (by omega))]
        rfl
  · rw [decide_eq_false ha]
    by_cases hb:b<0
    · rw [decide_eq_true hb]
      by_cases h0:a=0
      · subst h0;simp
      · have h1:=Int.mul_neg_of_pos_of_neg (show 0<a by omega) hb
        rw [decide_eq_true h1,decide_eq_true (Nat.mul_ne_zero (by omega) (by omega))]
        rfl
    · have h1:=Int.mul_nonneg (show 0≤a by omega) (show 0≤b by omega)
      rw [decide_eq_false hb,decide_eq_false (show ¬a*b<0 by omega)]
      rfl
theorem divInt_parts {a b:Int} (hb:b≠0):(Rat.divInt a b).num.natAbs=a.natAbs/Nat.gcd a.natAbs b.natAbs∧(Rat.divInt a b).den=b.natAbs/Nat.gcd a.natAbs b.natAbs∧
    (decide ((Rat.divInt a b).num<0))=((decide (a<0) != decide (b<0))&&decide (a.natAbs/Nat.gcd a.natAbs b.natAbs≠0)):=by
  have hg:Int.gcd b a=Nat.gcd a.natAbs b.natAbs:=by rw [Int.gcd_comm];rfl
  have hgp:0<Nat.gcd a.natAbs b.natAbs:=Nat.gcd_pos_of_pos_right _ (by omega)
  have hd1:Nat.gcd a.natAbs b.natAbs ∣ a.natAbs:=Nat.gcd_dvd_left _ _
  rw [Rat.num_divInt,Rat.den_divInt,if_neg hb,hg]
  generalize Nat.gcd a.natAbs b.natAbs=g at *
  have hdi:(g:Int) ∣ a:=Int.dvd_natAbs.1 (Int.natCast_dvd_natCast.2 hd1)
  obtain ⟨k,hk⟩:=hdi
  have hgz:(g:Int)≠0:=by omega
  have hq:b.sign*a/(g:Int)=b.sign*k:=by
    rw [hk,←Int.mul_assoc,Int.mul_comm b.sign,Int.mul_assoc]
    exact Int.mul_ediv_cancel_left _ hgz
  have hka:a.natAbs/g=k.natAbs:=by
    rw [hk,Int.natAbs_mul,Int.natAbs_natCast]
    exact Nat.mul_div_cancel_left _ hgp
  have hs:(b.sign).natAbs=1:=Int.natAbs_sign_of_ne_zero hb
  rw [hq,hka]
  refine ⟨by rw [Int.natAbs_mul,hs,Nat.one_mul],rfl,?_⟩
  have hak:decide (a<0)=decide (k<0):=by
    by_cases h:k<0
    · have:=Int.mul_neg_of_pos_of_neg (show (0:Int)<g by omega) h
      rw [decide_eq_true h,decide_eq_true (show a<0 by omega)]
    · have:=Int.mul_nonneg (show (0:Int)≤g by omega) (show 0≤k by omega)
      rw [decide_eq_false h,decide_eq_false (show ¬a<0 by omega)]
  rw [hak,sgn_mul]
  have hsb:decide (b.sign<0)=decide (b<0):=by
    rcases Int.lt_trichotomy b 0 with h|h|h
    · rw [Int.sign_eq_neg_one_of_neg h];simp [h]
    · exact absurd h hb
    · rw [Int.sign_eq_one_of_pos h];simp;omega
  rw [hsb,hs,Nat.one_mul]
  cases decide (b<0)<;>cases decide (k<0)<;>rfl
theorem add_divInt (a b:Rat):Rat.divInt (a.num*b.den+b.num*a.den) ((a.den:Int)*b.den)=a+b:=by
  rw [Rat.add_def',←Rat.divInt_ofNat];rfl
theorem mul_divInt (a b:Rat):Rat.divInt (a.num*b.num) ((a.den:Int)*b.den)=a*b:=by
  rw [Rat.mul_def',←Rat.divInt_ofNat];rfl
theorem div_divInt (a b:Rat):Rat.divInt (a.num*b.den) ((a.den:Int)*b.num)=a/b:=by
  rw [Rat.div_def,Rat.inv_def]
  have:a=Rat.divInt a.num a.den:=by rw [Rat.divInt_ofNat];exact (Rat.mkRat_self a).symm
  conv=>rhs;lhs;rw [this]
  rw [Rat.divInt_mul_divInt]
def Sz (k:Nat) (r:Rat):Prop:=r.num.natAbs<2^k∧r.den<2^k
theorem Sz.mono {i j:Nat} {r:Rat} (h:Sz i r) (hij:i≤j):Sz j r:=⟨Nat.lt_of_lt_of_le h.1 (Nat.pow_le_pow_right (by omega) hij),Nat.lt_of_lt_of_le h.2 (Nat.pow_le_pow_right (by omega) hij)⟩
theorem lt_mul_pow {a b i j:Nat} (ha:a<2^i) (hb:b<2^j):a*b<2^(i+j):=by
  rw [Nat.pow_add]
  exact Nat.mul_lt_mul'' ha hb
theorem add_num_lt {a b:Rat} {i j:Nat} (ha:Sz i a) (hb:Sz j b):(a.num*b.den+b.num*a.den).natAbs<2^(i+j+1)∧((a.den:Int)*b.den).natAbs<2^(i+j):=by
  have h1:=lt_mul_pow ha.1 hb.2
  have h2:=lt_mul_pow hb.1 ha.2
  have h3:=lt_mul_pow ha.2 hb.2
  rw [Nat.add_comm j i] at h2
  have e1:(a.num*b.den).natAbs=a.num.natAbs*b.den:=by rw [Int.natAbs_mul,Int.natAbs_natCast]
  have e2:(b.num*a.den).natAbs=b.num.natAbs*a.den:=by rw [Int.natAbs_mul,Int.natAbs_natCast]
  refine ⟨?_,by rw [Int.natAbs_mul,Int.natAbs_natCast,Int.natAbs_natCast];exact h3⟩
  rw [Nat.pow_succ]
  have:=Int.natAbs_add_le (a.num*b.den) (b.num*a.den)
  omega
theorem Sz.of_divInt {a b:Int} {k:Nat} (h1:a.natAbs<2^k) (h2:b.natAbs<2^k) (hb:b≠0):Sz k (Rat.divInt a b):=by
  obtain ⟨p1,p2,_⟩:=divInt_parts (a:=a) hb
  exact ⟨by rw [p1];exact Nat.lt_of_le_of_lt (Nat.div_le_self _ _) h1,by rw [p2];exact Nat.lt_of_le_of_lt (Nat.div_le_self _ _) h2⟩
theorem den_mul_ne {a b:Rat}:((a.den:Int)*b.den)≠0:=by
  have:=a.den_nz;have:=b.den_nz
  exact Int.mul_ne_zero (by omega) (by omega)
theorem Sz.add {a b:Rat} {i j:Nat} (ha:Sz i a) (hb:Sz j b):Sz (i+j+1) (a+b):=by
  obtain ⟨h1,h2⟩:=add_num_lt ha hb
  rw [←add_divInt]
  exact Sz.of_divInt h1 (Nat.lt_trans h2 (Nat.pow_lt_pow_right (by omega) (by omega))) den_mul_ne
theorem mul_num_lt {a b:Rat} {i j:Nat} (ha:Sz i a) (hb:Sz j b):(a.num*b.num).natAbs<2^(i+j)∧((a.den:Int)*b.den).natAbs<2^(i+j):=
  ⟨by rw [Int.natAbs_mul];exact lt_mul_pow ha.1 hb.1,by rw [Int.natAbs_mul,Int.natAbs_natCast,Int.natAbs_natCast];exact lt_mul_pow ha.2 hb.2⟩
theorem Sz.mul {a b:Rat} {i j:Nat} (ha:Sz i a) (hb:Sz j b):Sz (i+j) (a*b):=by
  obtain ⟨h1,h2⟩:=mul_num_lt ha hb
  rw [←mul_divInt]
  exact Sz.of_divInt h1 h2 den_mul_ne
theorem div_num_lt {a b:Rat} {i j:Nat} (ha:Sz i a) (hb:Sz j b):(a.num*b.den).natAbs<2^(i+j)∧((a.den:Int)*b.num).natAbs<2^(i+j):=
  ⟨by rw [Int.natAbs_mul,Int.natAbs_natCast];exact lt_mul_pow ha.1 hb.2,by rw [Int.natAbs_mul,Int.natAbs_natCast];exact lt_mul_pow ha.2 hb.1⟩
theorem Sz.div {a b:Rat} {i j:Nat} (ha:Sz i a) (hb:Sz j b) (h0:b.num≠0):Sz (i+j) (a/b):=by
  obtain ⟨h1,h2⟩:=div_num_lt ha hb
  rw [←div_divInt]
  exact Sz.of_divInt h1 h2 (Int.mul_ne_zero (by have:=a.den_nz;omega) h0)
theorem Sz.neg {a:Rat} {i:Nat} (ha:Sz i a):Sz i (-a):=by
  unfold Sz
  rw [Rat.neg_num,Rat.neg_den,Int.natAbs_neg]
  exact ha
def rR (r:Rat):Rt:=(decide (r.num<0),r.num.natAbs,r.den)
def RV (x:Rt) (r:Rat):Prop:=x.1=decide (r.num<0)∧x.2.1=r.num.natAbs∧dn x.2.2=r.den
theorem RV.self {r:Rat}:RV (rR r) r:=⟨rfl,rfl,if_neg r.den_nz⟩
theorem RV.zero:RV (false,0,0) 0:=⟨rfl,rfl,rfl⟩
def wI (z:Int):List AV:=whC (decide (z<0)) z.natAbs
theorem wI_mul {a b:Int}:whC ((decide (a<0) != decide (b<0))&&decide (a.natAbs*b.natAbs≠0)) (a.natAbs*b.natAbs)=wI (a*b):=by
  rw [←sgn_mul,←Int.natAbs_mul]
  rfl
theorem rR_divInt {a b:Int} (hb:b≠0):ratG ((decide (a<0) != decide (b<0))&&decide (a.natAbs/Nat.gcd a.natAbs b.natAbs≠0)) (a.natAbs/Nat.gcd a.natAbs b.natAbs) (b.natAbs/Nat.gcd a.natAbs b.natAbs)=rtC (rR (Rat.divInt a b)):=by
  obtain ⟨h1,h2,h3⟩:=divInt_parts (a:=a) hb
  rw [←h3,←h1,←h2]
  rfl
theorem limG_two {n k:Nat} (h:n<2^(32*k)):(limG n).length≤k:=limG_len (by rw [Nat.pow_mul] at h;exact h)
theorem limG_szB {n k:Nat} (B:Nat) (h:n<2^k) (hk:k≤32*B):(limG n).length≤B:=limG_two (Nat.lt_of_lt_of_le h (Nat.pow_le_pow_right (by omega) hk))
theorem limG_sz {n k:Nat} (h:n<2^k) (hk:k≤32000000):(limG n).length≤1000000:=limG_szB _ h (by omega)
def ofN (x:Rt):Rat:=mkRat (if x.1 then -(x.2.1:Int) else x.2.1) x.2.2
theorem ofN_rR {x:Rt} (hq:x.2.2≠0) (hg:Nat.gcd x.2.1 x.2.2=1) (hs:x.1=true→x.2.1≠0):rR (ofN x)=x:=by
  obtain ⟨n,p,q⟩:=x
  simp only at hq hg hs
  have hnum:∀z:Int,z.natAbs=p→(mkRat z q).num=z∧(mkRat z q).den=q:=fun z hz=>by
    rw [Rat.mkRat_def,dif_neg hq,Rat.normalize_eq]
    simp only [hz,hg,Nat.div_one]
    exact ⟨by simp,trivial⟩
  cases n with
  | true=>
    have:=hs rfl
    obtain ⟨h1,h2⟩:=hnum (-(p:Int)) (by omega)
    simp only [rR,ofN,if_true,h1,h2]
    rw [decide_eq_true (by omega)]
    congr 2
    omega
  | false=>
    obtain ⟨h1,h2⟩:=hnum (p:Int) (by omega)
    simp only [rR,ofN,Bool.false_eq_true,if_false,h1,h2]
    rw [decide_eq_false (by omega)]
    congr 2
abbrev Mx:=Nat→Nat→Rat
def skp (f:Mx) (i:Nat):Mx:=fun r=>if r<i then f r else f (r+1)
def upd (f:Mx) (k:Nat) (u:Nat→Rat):Mx:=fun r=>if r=k then u else f r
def sumN:Nat→(Nat→Rat)→Rat
  | 0,_=>0
  | n+1,g=>sumN n g+g n
def sg (i:Nat):Rat:=if i % 2=0 then 1 else -1
def det:Nat→Mx→Rat
  | 0,_=>1
  | n+1,f=>sumN (n+1) fun i=>sg (n+i)*f i n*det n (skp f i)
theorem sumN_congr {g h:Nat→Rat}:∀{n:Nat},(∀i,i<n→g i=h i)→sumN n g=sumN n h
  | 0,_=>rfl
  | n+1,hh=>by rw [sumN,sumN,sumN_congr (n:=n) (fun i hi=>hh i (by omega)),hh n (by omega)]
theorem sumN_lin {a:Rat} {g h:Nat→Rat}:∀{n:Nat},sumN n (fun i=>a*g i+h i)=a*sumN n g+sumN n h
  | 0=>by simp only [sumN];grind
  | n+1=>by
    simp only [sumN,sumN_lin (n:=n)]
    grind
theorem sumN_zero {g:Nat→Rat} {n:Nat} (h:∀i,i<n→g i=0):sumN n g=0:=by
  induction n with
  | zero=>rfl
  | succ n ih=>rw [sumN,ih (fun i hi=>h i (by omega)),h n (by omega),Rat.add_zero]
theorem sumN_one {g:Nat→Rat} {k:Nat}:∀{n:Nat},k<n→(∀i,i<n→i≠k→g i=0)→sumN n g=g k
  | 0,h,_=>by omega
  | n+1,h,hz=>by
    rw [sumN]
    by_cases hk:k=n
    · subst hk
      rw [sumN_zero (fun i hi=>hz i (by omega) (by omega)),Rat.zero_add]
    · rw [sumN_one (k:=k) (n:=n) (by omega) (fun i hi=>hz i (by omega)),hz n (by omega) (by omega),Rat.add_zero]
theorem sumN_two {g:Nat→Rat} {k:Nat}:∀{n:Nat},k+1<n→(∀i,i<n→i≠k→i≠k+1→g i=0)→sumN n g=g k+g (k+1)
  | 0,h,_=>by omega
  | n+1,h,hz=>by
    rw [sumN]
    by_cases hk:k+1=n
    · subst hk
      rw [sumN_one (k:=k) (by omega) (fun i hi hik=>hz i (by omega) hik (by omega))]
    · rw [sumN_two (k:=k) (n:=n) (by omega) (fun i hi=>hz i (by omega)),hz n (by omega) (by omega) (by omega),Rat.add_zero]
theorem det_congr:∀{n:Nat} {f g:Mx},(∀i j,i<n→j<n→f i j=g i j)→det n f=det n g
  | 0,_,_,_=>rfl
  | n+1,f,g,h=>by
    rw [det,det]
    refine sumN_congr fun i hi=>?_
    rw [h i n hi (by omega),det_congr (n:=n) (f:=skp f i) (g:=skp g i) (fun r j hr hj=>by
      unfold skp
      split
      · exact h r j (by omega) (by omega)
      · exact h (r+1) j (by omega) (by omega))]
theorem skp_upd_same {f:Mx} {k:Nat} {u:Nat→Rat}:skp (upd f k u) k=skp f k:=by
  funext r
  unfold skp upd
  split
  · rw [if_neg (by omega)]
  · rw [if_neg (by omega)]
theorem skp_upd_lt {f:Mx} {k i:Nat} {u:Nat→Rat} (h:k<i):skp (upd f k u) i=upd (skp f i) k u:=by
  funext r
  unfold skp upd
  by_cases hr:r<i
  · simp only [if_pos hr]
  · simp only [if_neg hr]
    rw [if_neg (by omega),if_neg (by omega)]
theorem skp_upd_gt {f:Mx} {k i:Nat} {u:Nat→Rat} (h:i<k):skp (upd f k u) i=upd (skp f i) (k - 1) u:=by
  funext r
  unfold skp upd
  by_cases hr:r<i
  · simp only [if_pos hr]
    rw [if_neg (by omega),if_neg (by omega)]
  · simp only [if_neg hr]
    by_cases h2:r+1=k
    · rw [if_pos h2,if_pos (by omega)]
    · rw [if_neg h2,if_neg (by omega)]
theorem det_lin {a:Rat} {u v:Nat→Rat}:∀{n:Nat} {f:Mx} {k:Nat},k<n→det n (upd f k fun j=>a*u j+v j)=a*det n (upd f k u)+det n (upd f k v)
  | 0,_,_,h=>by omega
  | n+1,f,k,h=>by
    rw [det,det,det,←sumN_lin]
    refine sumN_congr fun i hi=>?_
    by_cases hik:i=k
    · subst hik
      simp only [skp_upd_same]
      simp only [upd,if_true]
      grind
    · have e:∀u:Nat→Rat,upd f k u i=f i:=fun u=>by unfold upd;rw [if_neg hik]
      simp only [e]
      rcases Nat.lt_or_gt_of_ne hik with hlt|hgt
      · simp only [skp_upd_gt hlt]
        rw [det_lin (n:=n) (by omega)]
        grind
      · simp only [skp_upd_lt hgt]
        rw [det_lin (n:=n) (by omega)]
        grind
theorem det_zrow {n:Nat} {f:Mx} {k:Nat} (h:k<n) (hz:∀j,j<n→f k j=0):det n f=0:=by
  have h1:=det_lin (a:=1) (u:=fun _=>0) (v:=fun _=>0) (f:=f) h
  have h2:det n (upd f k fun _=>0)=0:=by
    have e:(fun j:Nat=>(1:Rat)*(fun _=>(0:Rat)) j+(fun _=>(0:Rat)) j)=fun _=>0:=by funext j;grind
    rw [e] at h1
    grind
  rw [←h2]
  refine det_congr fun i j hi hj=>?_
  unfold upd
  split
  · rename_i e;subst e;exact hz j hj
  · rfl
theorem det_adj:∀{n:Nat} {f:Mx} {k:Nat},k+1<n→(∀j,j<n→f k j=f (k+1) j)→det n f=0
  | 0,_,_,h,_=>by omega
  | n+1,f,k,h,he=>by
    rw [det]
    rw [sumN_two (k:=k) h (fun i hi h1 h2=>?_)]
    · have e1:det n (skp f k)=det n (skp f (k+1)):=by
        refine det_congr fun r j hr hj=>?_
        unfold skp
        by_cases h1:r<k
        · rw [if_pos h1,if_pos (by omega)]
        · rw [if_neg h1]
          by_cases h2:r=k
          · subst h2;rw [if_pos (by omega)];exact (he j (by omega)).symm
          · rw [if_neg (by omega)]
      have e2:sg (n+(k+1)) = - sg (n+k):=by
        unfold sg
        by_cases hp:(n+k) % 2=0
        · rw [if_pos hp,if_neg (by omega)]
        · rw [if_neg hp,if_pos (by omega)];rfl
      rw [e1,e2,he n (by omega)]
      grind
    · have:det n (skp f i)=0:=by
        rcases Nat.lt_or_gt_of_ne h1 with hlt|hgt
        · refine det_adj (n:=n) (k:=k - 1) (by omega) fun j hj=>?_
          unfold skp
          rw [if_neg (by omega),if_neg (by omega),show k - 1+1=k by omega]
          exact he j (by omega)
        · refine det_adj (n:=n) (k:=k) (by omega) fun j hj=>?_
          unfold skp
          rw [if_pos (by omega),if_pos (by omega)]
          exact he j (by omega)
      rw [this,Rat.mul_zero]
theorem upd_upd {f:Mx} {k l:Nat} {u v:Nat→Rat} (h:k≠l):upd (upd f k u) l v=upd (upd f l v) k u:=by
  funext r
  unfold upd
  by_cases h1:r=l
  · subst h1;rw [if_pos rfl,if_neg (fun e=>h e.symm),if_pos rfl]
  · rw [if_neg h1,if_neg h1]
theorem upd_self {f:Mx} {k:Nat}:upd f k (f k)=f:=by
  funext r
  unfold upd
  split
  · rename_i e;rw [e]
  · rfl
theorem det_swap {n:Nat} {f:Mx} {k:Nat} (h:k+1<n):det n (upd (upd f k (f (k+1))) (k+1) (f k)) = - det n f:=by
  have D:∀x:Nat→Rat,det n (upd (upd f k x) (k+1) x)=0:=fun x=>det_adj h (fun j hj=>by
    unfold upd
    rw [if_neg (by omega),if_pos rfl,if_pos rfl])
  have L1:∀(a b y:Nat→Rat),det n (upd (upd f k fun j=>1*a j+b j) (k+1) y)=det n (upd (upd f k a) (k+1) y)+det n (upd (upd f k b) (k+1) y):=fun a b y=>by
    rw [upd_upd (by omega),det_lin (by omega),upd_upd (k:=k+1) (by omega),upd_upd (k:=k+1) (by omega),Rat.one_mul]
  have L2:∀(a b x:Nat→Rat),det n (upd (upd f k x) (k+1) fun j=>1*a j+b j)=det n (upd (upd f k x) (k+1) a)+det n (upd (upd f k x) (k+1) b):=fun a b x=>by
    rw [det_lin (by omega),Rat.one_mul]
  have h1:=D (fun j=>1*f k j+f (k+1) j)
  rw [L1,L2,L2,D,D] at h1
  have h2:upd (upd f k (f k)) (k+1) (f (k+1))=f:=by rw [upd_self,upd_self]
  rw [h2] at h1
  grind
theorem det_same:∀{d n:Nat} {f:Mx} {i:Nat},i+d+1<n→(∀j,j<n→f i j=f (i+d+1) j)→det n f=0
  | 0,n,f,i,h,he=>det_adj h he
  | d+1,n,f,i,h,he=>by
    have hs:=det_swap (f:=f) (k:=i+d+1) (n:=n) (by omega)
    have:det n (upd (upd f (i+d+1) (f (i+d+1+1))) (i+d+1+1) (f (i+d+1)))=0:=by
      refine det_same (d:=d) (i:=i) (by omega) fun j hj=>?_
      unfold upd
      rw [if_neg (by omega),if_neg (by omega),if_neg (by omega),if_pos rfl]
      exact he j hj
    rw [this] at hs
    grind
theorem det_rows {n:Nat} {f:Mx} {i k:Nat} (hi:i<n) (hk:k<n) (hne:i≠k) (he:∀j,j<n→f i j=f k j):det n f=0:=by
  rcases Nat.lt_or_gt_of_ne hne with h|h
  · exact det_same (d:=k - i - 1) (i:=i) (by omega) (fun j hj=>by rw [show i+(k - i - 1)+1=k by omega];exact he j hj)
  · exact det_same (d:=i - k - 1) (i:=k) (by omega) (fun j hj=>by rw [show k+(i - k - 1)+1=i by omega];exact (he j hj).symm)
theorem det_comb {n:Nat} {f:Mx} {k:Nat} (hk:k<n) (y:Nat→Rat):∀{m:Nat},m≤n→det n (upd f k fun j=>sumN m fun i=>y i*f i j)=if k<m then y k*det n f else 0
  | 0,_=>by
    rw [if_neg (by omega)]
    exact det_zrow hk (fun j _=>by unfold upd;rw [if_pos rfl];rfl)
  | m+1,hm=>by
    have e:(fun j=>sumN (m+1) fun i=>y i*f i j)=fun j=>y m*f m j+sumN m fun i=>y i*f i j:=by
      funext j
      rw [sumN,Rat.add_comm]
    rw [e,det_lin hk,det_comb hk y (m:=m) (by omega)]
    by_cases hkm:m=k
    · subst hkm
      rw [upd_self,if_neg (by omega),if_pos (by omega),Rat.add_zero]
    · have:det n (upd f k (f m))=0:=det_rows (i:=m) (k:=k) (by omega) hk hkm (fun j _=>by
        unfold upd
        rw [if_neg hkm,if_pos rfl])
      rw [this,Rat.mul_zero,Rat.zero_add]
      by_cases h2:k<m
      · rw [if_pos h2,if_pos (by omega)]
      · rw [if_neg h2,if_neg (by omega)]
theorem cramer {n:Nat} {f:Mx} {y b:Nat→Rat} (h:∀j,j<n→sumN n (fun i=>y i*f i j)=b j) {k:Nat} (hk:k<n):det n (upd f k b)=y k*det n f:=by
  have:=det_comb hk y (f:=f) (Nat.le_refl n)
  rw [if_pos hk] at this
  rw [←this]
  refine det_congr fun i j hi hj=>?_
  unfold upd
  split
  · exact (h j hj).symm
  · rfl
theorem det_last {n:Nat} {f:Mx} (h:∀j,j<n→f n j=0):det (n+1) f=f n n*det n f:=by
  rw [det,sumN_one (k:=n) (by omega) (fun i hi hne=>?_)]
  · have e1:sg (n+n)=1:=by unfold sg;rw [if_pos (by omega)]
    have e2:det n (skp f n)=det n f:=det_congr fun i j hi hj=>by unfold skp;rw [if_pos hi]
    rw [e1,e2,Rat.one_mul]
  · have:det n (skp f i)=0:=det_zrow (k:=n - 1) (by omega) (fun j hj=>by
      unfold skp
      rw [if_neg (by omega),show n - 1+1=n by omega]
      exact h j hj)
    rw [this,Rat.mul_zero]
theorem det_step {c:Nat} {f:Mx} {y:Nat→Rat} (h:∀j,j<c→f c j=sumN c fun i=>y i*f i j):det (c+1) f=(f c c - sumN c fun i=>y i*f i c)*det c f:=by
  have h1:=det_comb (n:=c+1) (f:=f) (k:=c) (by omega) (fun i=>if i=c then 1 else - y i) (Nat.le_refl _)
  rw [if_pos (by omega),if_pos rfl,Rat.one_mul] at h1
  have hs:∀j,sumN (c+1) (fun i=>(if i=c then 1 else - y i)*f i j)=f c j - sumN c fun i=>y i*f i j:=fun j=>by
    rw [sumN,if_pos rfl,Rat.one_mul]
    have:sumN c (fun i=>(if i=c then 1 else - y i)*f i j) = - sumN c fun i=>y i*f i j:=by
      have h2:=sumN_lin (a:=-1) (g:=fun i=>y i*f i j) (h:=fun _=>0) (n:=c)
      rw [sumN_zero (g:=fun _=>0) (fun _ _=>rfl)] at h2
      rw [show - sumN c (fun i=>y i*f i j) = -1*sumN c (fun i=>y i*f i j)+0 by grind,←h2]
      refine sumN_congr fun i hi=>?_
      rw [if_neg (by omega)]
      grind
    rw [this]
    grind
  rw [←h1,det_last (fun j hj=>?_)]
  · have e1:det c (upd f c fun j=>sumN (c+1) fun i=>(if i=c then 1 else - y i)*f i j)=det c f:=det_congr fun i j hi hj=>by unfold upd;rw [if_neg (by omega)]
    rw [e1]
    congr 1
    unfold upd
    rw [if_pos rfl]
    exact hs c
  · unfold upd
    rw [if_pos rfl]
    rw [hs,←h j hj]
    grind
def dB (S:Nat):Nat→Nat
  | 0=>1
  | n+1=>(n+1)*(S*dB S n)
theorem sumN_int {B:Nat} {g:Nat→Rat}:∀{n:Nat},(∀i,i<n→∃z:Int,g i=z∧z.natAbs≤B)→∃z:Int,sumN n g=z∧z.natAbs≤n*B
  | 0,_=>⟨0,by simp [sumN],by simp⟩
  | n+1,h=>by
    obtain ⟨z,h1,h2⟩:=sumN_int (n:=n) (fun i hi=>h i (by omega))
    obtain ⟨w,h3,h4⟩:=h n (by omega)
    refine ⟨z+w,by rw [sumN,h1,h3,Rat.intCast_add],?_⟩
    rw [Nat.add_mul]
    omega
theorem det_int {S:Nat}:∀{n:Nat} {f:Mx},(∀i j,i<n→j<n→∃z:Int,f i j=z∧z.natAbs≤S)→∃z:Int,det n f=z∧z.natAbs≤dB S n
  | 0,_,_=>⟨1,by simp [det],by simp [dB]⟩
  | n+1,f,h=>by
    rw [det,dB]
    refine sumN_int fun i hi=>?_
    obtain ⟨z,h1,h2⟩:=h i n hi (by omega)
    obtain ⟨w,h3,h4⟩:=det_int (S:=S) (n:=n) (f:=skp f i) (fun r j hr hj=>by
      unfold skp
      split
      · exact h r j (by omega) (by omega)
      · exact h (r+1) j (by omega) (by omega))
    rw [h1,h3]
    have hb:(z*w).natAbs≤S*dB S n:=by rw [Int.natAbs_mul];exact Nat.mul_le_mul h2 h4
    unfold sg
    split
    · exact ⟨z*w,by rw [Rat.one_mul,Rat.intCast_mul],hb⟩
    · exact ⟨-(z*w),by rw [Rat.intCast_neg,Rat.intCast_mul];grind,by rw [Int.natAbs_neg];exact hb⟩
theorem sumN_add {g h:Nat→Rat} {n:Nat}:sumN n (fun i=>g i+h i)=sumN n g+sumN n h:=by
  have:=sumN_lin (a:=1) (g:=g) (h:=h) (n:=n)
  rw [Rat.one_mul] at this
  rw [←this]
  exact sumN_congr fun i _=>by rw [Rat.one_mul]
theorem sumN_mul {a:Rat} {g:Nat→Rat} {n:Nat}:sumN n (fun i=>a*g i)=a*sumN n g:=by
  have:=sumN_lin (a:=a) (g:=g) (h:=fun _=>0) (n:=n)
  rw [sumN_zero (g:=fun _=>0) (fun _ _=>rfl),Rat.add_zero] at this
  rw [←this]
  exact sumN_congr fun i _=>by rw [Rat.add_zero]
theorem sumN_pair {g:Nat→Rat} {k l n:Nat} (hk:k<n) (hl:l<n) (hne:k≠l) (hz:∀i,i<n→i≠k→i≠l→g i=0):sumN n g=g k+g l:=by
  have h1:sumN n g=sumN n (fun i=>(if i=k then g k else 0)+(if i=k then 0 else g i)):=sumN_congr fun i _=>by
    by_cases h:i=k
    · subst h;rw [if_pos rfl,if_pos rfl,Rat.add_zero]
    · rw [if_neg h,if_neg h,Rat.zero_add]
  rw [h1,sumN_add,sumN_one (k:=k) hk (fun i _ h=>if_neg h),sumN_one (k:=l) hl (fun i hi h=>by
    by_cases h2:i=k
    · rw [if_pos h2]
    · rw [if_neg h2];exact hz i hi h2 h),if_pos rfl,if_neg (fun h=>hne h.symm)]
def Sol (n w:Nat) (R:Mx) (v:Nat→Rat):Prop:=∀r,r<n→sumN w (fun j=>R r j*v j)=0
def SameSol (n w:Nat) (R S:Mx):Prop:=∀v,Sol n w R v↔Sol n w S v
theorem SameSol.refl {n w:Nat} {R:Mx}:SameSol n w R R:=fun v=>Iff.rfl
theorem SameSol.trans {n w:Nat} {R S T:Mx} (h1:SameSol n w R S) (h2:SameSol n w S T):SameSol n w R T:=fun v=>(h1 v).trans (h2 v)
theorem SameSol.symm {n w:Nat} {R S:Mx} (h1:SameSol n w R S):SameSol n w S R:=fun v=>(h1 v).symm
def swR (R:Mx) (c p:Nat):Mx:=fun r=>if r=c then R p else if r=p then R c else R r
theorem sol_swap {n w c p:Nat} {R:Mx} (hc:c<n) (hp:p<n):SameSol n w R (swR R c p):=fun v=>by
  constructor
  · intro h r hr
    unfold swR
    by_cases h1:r=c
    · simp only [if_pos h1];exact h p hp
    · simp only [if_neg h1]
      by_cases h2:r=p
      · simp only [if_pos h2];exact h c hc
      · simp only [if_neg h2];exact h r hr
  · intro h r hr
    by_cases h1:r=c
    · subst h1
      have:=h p hp
      unfold swR at this
      by_cases h2:p=r
      · simp only [if_pos h2] at this;rw [h2] at this;exact this
      · simp only [if_neg h2,if_pos] at this;exact this
    · by_cases h2:r=p
      · subst h2
        have:=h c hc
        unfold swR at this
        simp only [if_pos] at this
        exact this
      · have:=h r hr
        unfold swR at this
        simp only [if_neg h1,if_neg h2] at this
        exact this
theorem sol_elim {n w c:Nat} {R S:Mx} {q:Nat→Rat} {s:Rat} (hc:c<n) (hs:s≠0) (hS:∀r,r<n→r≠c→∀j,j<w→S r j=R r j - q r*R c j) (hSc:∀j,j<w→S c j=s*R c j):SameSol n w R S:=fun v=>by
  have e1:sumN w (fun j=>S c j*v j)=s*sumN w (fun j=>R c j*v j):=by
    rw [←sumN_mul]
    exact sumN_congr fun j hj=>by rw [hSc j hj];grind
  have e2:∀r,r<n→r≠c→sumN w (fun j=>S r j*v j) = -q r*sumN w (fun j=>R c j*v j)+sumN w (fun j=>R r j*v j):=fun r hr hrc=>by
    rw [←sumN_lin]
    exact sumN_congr fun j hj=>by rw [hS r hr hrc j hj];grind
  constructor
  · intro h r hr
    by_cases hrc:r=c
    · subst hrc;rw [e1,h r hr,Rat.mul_zero]
    · rw [e2 r hr hrc,h r hr,h c hc,Rat.mul_zero,Rat.zero_add]
  · intro h
    have h0:sumN w (fun j=>R c j*v j)=0:=by
      have:=h c hc
      rw [e1] at this
      rcases Rat.mul_eq_zero.1 this with h2|h2
      · exact absurd h2 hs
      · exact h2
    intro r hr
    by_cases hrc:r=c
    · subst hrc;exact h0
    · have:=h r hr
      rw [e2 r hr hrc,h0,Rat.mul_zero,Rat.zero_add] at this
      exact this
def Cl (n c:Nat) (R:Mx):Prop:=∀k,k<c→R k k≠0∧∀r,r<n→r≠k→R r k=0
theorem Cl.swap {n c p:Nat} {R:Mx} (h:Cl n c R) (hcp:c≤p) (hp:p<n):Cl n c (swR R c p):=fun k hk=>by
  obtain ⟨h1,h2⟩:=h k hk
  unfold swR
  refine ⟨by rw [if_neg (by omega),if_neg (by omega)];exact h1,fun r hr hrk=>?_⟩
  split
  · exact h2 p hp (by omega)
  · split
    · exact h2 c (by omega) (by omega)
    · exact h2 r hr hrk
theorem Cl.elim {n w c:Nat} {R S:Mx} {q:Nat→Rat} {s:Rat} (h:Cl n c R) (hc:c<n) (hw:n≤w) (hs:s≠0) (hp:R c c≠0) (hS:∀r,r<n→r≠c→∀j,j<w→S r j=R r j - q r*R c j) (hSc:∀j,j<w→S c j=s*R c j)
    (hq:∀r,r<n→r≠c→R r c=q r*R c c):Cl n (c+1) S:=fun k hk=>by
  by_cases hkc:k=c
  · subst hkc
    refine ⟨by rw [hSc k (by omega)];exact fun h0=>(Rat.mul_eq_zero.1 h0).elim hs hp,fun r hr hrk=>?_⟩
    rw [hS r hr hrk k (by omega),←hq r hr hrk]
    grind
  · obtain ⟨h1,h2⟩:=h k (by omega)
    have h0:=h2 c hc (fun e=>hkc e.symm)
    refine ⟨by rw [hS k (by omega) hkc k (by omega),h0,Rat.mul_zero];intro hh;exact h1 (by grind),fun r hr hrk=>?_⟩
    by_cases hrc:r=c
    · subst hrc;rw [hSc k (by omega),h0,Rat.mul_zero]
    · rw [hS r hr hrc k (by omega),h2 r hr hrk,h0,Rat.mul_zero]
      grind
def Ker (n w:Nat) (R:Mx):Prop:=∃v:Nat→Rat,Sol n w R v∧(∃k,k<n∧v k≠0)∧∀k,n≤k→v k=0
theorem ker_of {n w c:Nat} {R:Mx} (h:Cl n c R) (hc:c<n) (hw:n≤w) (hz:∀r,r<n→c≤r→R r c=0):Ker n w R:=by
  refine ⟨fun k=>if k<c then -(R k c/R k k) else if k=c then 1 else 0,fun r hr=>?_,⟨c,hc,?_⟩,fun k hk=>?_⟩
  · by_cases hrc:r<c
    · rw [sumN_pair (k:=r) (l:=c) (by omega) (by omega) (by omega) (fun i hi h1 h2=>?_)]
      · simp only [if_pos hrc,if_neg (show ¬c<c by omega),if_true]
        have:=(h r hrc).1
        grind
      · by_cases hic:i<c
        · rw [(h i hic).2 r hr (fun e=>h1 e.symm),Rat.zero_mul]
        · simp only [if_neg hic,if_neg h2,Rat.mul_zero]
    · rw [sumN_one (k:=c) (by omega) (fun i hi h1=>?_)]
      · rw [hz r hr (by omega),Rat.zero_mul]
      · by_cases hic:i<c
        · rw [(h i hic).2 r hr (by omega),Rat.zero_mul]
        · simp only [if_neg hic,if_neg h1,Rat.mul_zero]
  · simp only [if_neg (show ¬c<c by omega),if_true]
    decide
  · simp only []
    rw [if_neg (by omega),if_neg (by omega)]
theorem Ker.same {n w:Nat} {R S:Mx} (h:SameSol n w R S) (hk:Ker n w S):Ker n w R:=by
  obtain ⟨v,h1,h2⟩:=hk
  exact ⟨v,(h v).2 h1,h2⟩
theorem no_ker {n w:Nat} {R:Mx} (h:Cl n n R) (hw:n≤w):¬Ker n w R:=by
  rintro ⟨v,h1,⟨k,hk,h2⟩,h3⟩
  have h4:=h1 k hk
  rw [sumN_one (k:=k) (by omega) (fun i hi h5=>?_)] at h4
  · rcases Rat.mul_eq_zero.1 h4 with h6|h6
    · exact (h k hk).1 h6
    · exact h2 h6
  · by_cases hin:i<n
    · rw [(h i hin).2 k hk (fun e=>h5 e.symm),Rat.zero_mul]
    · rw [h3 i (by omega),Rat.mul_zero]
def ansV (n:Nat) (X:Nat→Rat) (j:Nat):Nat→Rat:=fun k=>if k<n then -(X k) else if k=j then 1 else 0
theorem ans_sol {n w j:Nat} {R:Mx} (h:Cl n n R) (hj:n≤j) (hjw:j<w):Sol n w R (ansV n (fun k=>R k j/R k k) j):=fun r hr=>by
  rw [sumN_pair (k:=r) (l:=j) (by omega) hjw (by omega) (fun i hi h1 h2=>?_)]
  · unfold ansV
    rw [if_pos hr,if_neg (by omega),if_pos rfl]
    have:=(h r hr).1
    grind
  · unfold ansV
    by_cases hin:i<n
    · rw [(h i hin).2 r hr (fun e=>h1 e.symm),Rat.zero_mul]
    · rw [if_neg hin,if_neg h2,Rat.mul_zero]
theorem sol_sub {n w:Nat} {R:Mx} {u v:Nat→Rat} (hu:Sol n w R u) (hv:Sol n w R v):Sol n w R (fun k=>u k - v k):=fun r hr=>by
  have h:sumN w (fun j=>R r j*(u j - v j)) = -1*sumN w (fun j=>R r j*v j)+sumN w (fun j=>R r j*u j):=by
    rw [←sumN_lin]
    exact sumN_congr fun j _=>by grind
  rw [h,hu r hr,hv r hr]
  grind
theorem ans_one {n w j:Nat} {R:Mx} {X Y:Nat→Rat} (hn:¬Ker n w R) (hX:Sol n w R (ansV n X j)) (hY:Sol n w R (ansV n Y j)):∀k,k<n→X k=Y k:=fun k hk=>by
  by_cases h:X k=Y k
  · exact h
  · exfalso
    refine hn ⟨_,sol_sub hX hY,⟨k,hk,?_⟩,fun i hi=>?_⟩
    · unfold ansV
      rw [if_pos hk,if_pos hk]
      intro h2
      exact h (by grind)
    · unfold ansV
      simp only [if_neg (show ¬i<n by omega)]
      grind
theorem ans_same {n w j:Nat} {R S T:Mx} (h1:SameSol n w R S) (h2:SameSol n w R T) (hS:Cl n n S) (hT:Cl n n T) (hw:n≤w) (hj:n≤j) (hjw:j<w):∀k,k<n→S k j/S k k=T k j/T k k:=
  ans_one (R:=R) (fun h=>no_ker hS hw (h.same h1.symm)) ((h1 _).2 (ans_sol hS hj hjw)) ((h2 _).2 (ans_sol hT hj hjw))
abbrev Gd:=Nat→List Rat
def en (a:Gd) (r j:Nat):Rat:=(a r).getD j 0
def lessL (x y:List Rat) (q:Rat):List Rat:=(List.range x.length).map fun i=>x.getD i 0 + -(y.getD i 0*q)
def swA (a:Gd) (c p:Nat):Gd:=fun r=>if r=c then a p else if r=p then a c else a r
def elA (a x:Gd) (c:Nat):Gd:=fun r=>if r=c∨en a r c=0 then x r else lessL (x r) (x c) (en a r c/en a c c)
def pvt (a:Gd) (c:Nat):Nat→Nat→Nat
  | 0,p=>p
  | k+1,p=>if en a p c=0 then pvt a c k (p+1) else p
def redA (n:Nat):Nat→Gd × Gd→Option (Gd × Gd)
  | 0,s=>some s
  | k+1,s=>if pvt s.1 (n - (k+1)) (k+1) (n - (k+1))=n then none else
      redA n k (elA (swA s.1 (n - (k+1)) (pvt s.1 (n - (k+1)) (k+1) (n - (k+1)))) (swA s.1 (n - (k+1)) (pvt s.1 (n - (k+1)) (k+1) (n - (k+1)))) (n - (k+1)),
        elA (swA s.1 (n - (k+1)) (pvt s.1 (n - (k+1)) (k+1) (n - (k+1)))) (swA s.2 (n - (k+1)) (pvt s.1 (n - (k+1)) (k+1) (n - (k+1)))) (n - (k+1)))
theorem pvt_spec {a:Gd} {c:Nat}:∀{k p:Nat},p≤pvt a c k p∧pvt a c k p≤p+k∧(∀i,p≤i→i<pvt a c k p→en a i c=0)∧(pvt a c k p<p+k→en a (pvt a c k p) c≠0)
  | 0,p=>⟨Nat.le_refl _,Nat.le_refl _,fun i h1 h2=>by rw [pvt] at h2;omega,fun h=>by rw [pvt] at h;omega⟩
  | k+1,p=>by
    rw [pvt]
    by_cases h:en a p c=0
    · rw [if_pos h]
      obtain ⟨h1,h2,h3,h4⟩:=pvt_spec (a:=a) (c:=c) (k:=k) (p:=p+1)
      refine ⟨by omega,by omega,fun i g1 g2=>?_,fun g=>h4 (by omega)⟩
      by_cases hi:i=p
      · subst hi;exact h
      · exact h3 i (by omega) g2
    · rw [if_neg h]
      exact ⟨Nat.le_refl _,by omega,fun i g1 g2=>by omega,fun _=>h⟩
theorem len_lessL {x y:List Rat} {q:Rat}:(lessL x y q).length=x.length:=by simp [lessL]
theorem getD_lessL {x y:List Rat} {q:Rat} {j:Nat} (h:j<x.length):(lessL x y q).getD j 0=x.getD j 0 + -(y.getD j 0*q):=by
  simp [lessL,List.getD,h]
def cmb (n:Nat) (s:Gd × Gd):Mx:=fun r j=>if j<n then en s.1 r j else en s.2 r (j - n)
def Lens (n m:Nat) (s:Gd × Gd):Prop:=∀r,r<n→(s.1 r).length=n∧(s.2 r).length=m
theorem Lens.swap {n m c p:Nat} {s:Gd × Gd} (h:Lens n m s) (hc:c<n) (hp:p<n):Lens n m (swA s.1 c p,swA s.2 c p):=fun r hr=>by
  unfold swA
  simp only []
  split
  · exact h p hp
  · split
    · exact h c hc
    · exact h r hr
theorem Lens.elim {n m c:Nat} {a:Gd} {s:Gd × Gd} (h:Lens n m s):Lens n m (elA a s.1 c,elA a s.2 c):=fun r hr=>by
  unfold elA
  simp only []
  split
  · exact h r hr
  · rw [len_lessL,len_lessL];exact h r hr
theorem cmb_swap {n c p:Nat} {s:Gd × Gd}:cmb n (swA s.1 c p,swA s.2 c p)=swR (cmb n s) c p:=by
  funext r j
  unfold cmb swR swA en
  by_cases h1:r=c
  · simp only [if_pos h1]
  · simp only [if_neg h1]
    by_cases h2:r=p
    · simp only [if_pos h2]
    · simp only [if_neg h2]
theorem en_elim {n c:Nat} {a x:Gd} {r j:Nat} (hr:r≠c) (hj:j<(x r).length):en (elA a x c) r j=en x r j - en a r c/en a c c*en x c j:=by
  unfold elA
  by_cases h:en a r c=0
  · have:(if r=c∨en a r c=0 then x r else lessL (x r) (x c) (en a r c/en a c c))=x r:=if_pos (.inr h)
    rw [en,this,h]
    rw [Rat.div_def,Rat.zero_mul,Rat.zero_mul]
    rw [en]
    grind
  · have:(if r=c∨en a r c=0 then x r else lessL (x r) (x c) (en a r c/en a c c))=lessL (x r) (x c) (en a r c/en a c c):=if_neg (fun hh=>hh.elim hr h)
    have e0:en (fun r=>if r=c∨en a r c=0 then x r else lessL (x r) (x c) (en a r c/en a c c)) r j=en x r j + -(en x c j*(en a r c/en a c c)):=by
      rw [en,this,getD_lessL hj];rfl
    rw [e0]
    grind
theorem en_elim_c {c:Nat} {a x:Gd} {j:Nat}:en (elA a x c) c j=en x c j:=by
  have:elA a x c c=x c:=by unfold elA;exact if_pos (.inl rfl)
  rw [en,this,en]
theorem cmb_elim {n m c:Nat} {s:Gd × Gd} (h:Lens n m s) (hc:c<n):(∀r,r<n→r≠c→∀j,j<n+m→cmb n (elA s.1 s.1 c,elA s.1 s.2 c) r j=cmb n s r j - en s.1 r c/en s.1 c c*cmb n s c j)∧(∀j,j<n+m→cmb n (elA s.1 s.1 c,elA s.1 s.2 c) c j=1*cmb n s c j):=by
  refine ⟨fun r hr hrc j hj=>?_,fun j hj=>?_⟩
  · obtain ⟨l1,l2⟩:=h r hr
    unfold cmb
    by_cases hjn:j<n
    · simp only [if_pos hjn]
      exact en_elim (n:=n) hrc (by omega)
    · simp only [if_neg hjn]
      exact en_elim (n:=n) hrc (by omega)
  · unfold cmb
    rw [Rat.one_mul,en_elim_c,en_elim_c]
theorem redA_spec {n m:Nat}:∀{k:Nat} {s:Gd × Gd},k≤n→Lens n m s→Cl n (n - k) (cmb n s)→
    match redA n k s with
    | none=>Ker n (n+m) (cmb n s)
    | some t=>SameSol n (n+m) (cmb n s) (cmb n t)∧Cl n n (cmb n t)∧Lens n m t
  | 0,s,hk,hl,hcl=>by rw [redA];exact ⟨SameSol.refl,hcl,hl⟩
  | k+1,s,hk,hl,hcl=>by
    rw [redA]
    obtain ⟨c,hcdef⟩:∃c,c=n - (k+1):=⟨_,rfl⟩
    rw [←hcdef] at hcl ⊢
    obtain ⟨p1,p2,p3,p4⟩:=pvt_spec (a:=s.1) (c:=c) (k:=k+1) (p:=c)
    generalize pvt s.1 c (k+1) c=p at *
    have hcn:c<n:=by omega
    have hcm:∀r,cmb n s r c=en s.1 r c:=fun r=>by unfold cmb;rw [if_pos hcn]
    by_cases hp:p=n
    · rw [if_pos hp]
      exact ker_of hcl hcn (by omega) (fun r hr hcr=>by rw [hcm];exact p3 r hcr (by omega))
    · rw [if_neg hp]
      have hpn:p<n:=by omega
      have hl2:=hl.swap hcn hpn
      have hs2:SameSol n (n+m) (cmb n s) (cmb n (swA s.1 c p,swA s.2 c p)):=by rw [cmb_swap];exact sol_swap hcn hpn
      have hcl2:Cl n c (cmb n (swA s.1 c p,swA s.2 c p)):=by rw [cmb_swap];exact hcl.swap p1 hpn
      have hpv:cmb n (swA s.1 c p,swA s.2 c p) c c≠0:=by
        rw [cmb_swap]
        unfold swR
        rw [if_pos rfl,hcm]
        exact p4 (by omega)
      obtain ⟨e1,e2⟩:=cmb_elim hl2 hcn
      have hq:∀r,r<n→r≠c→cmb n (swA s.1 c p,swA s.2 c p) r c=en (swA s.1 c p) r c/en (swA s.1 c p) c c*cmb n (swA s.1 c p,swA s.2 c p) c c:=fun r _ _=>by
        have hcc:∀r,cmb n (swA s.1 c p,swA s.2 c p) r c=en (swA s.1 c p) r c:=fun r=>by unfold cmb;rw [if_pos hcn]
        rw [hcc] at hpv
        rw [hcc,hcc]
        grind
      have hs3:=sol_elim (n:=n) (w:=n+m) hcn (show (1:Rat)≠0 by decide) e1 e2
      have hcl3:=hcl2.elim (w:=n+m) hcn (by omega) (show (1:Rat)≠0 by decide) hpv e1 e2 hq
      have hl3:=hl2.elim (a:=swA s.1 c p) (c:=c)
      rw [show c+1=n - k by omega] at hcl3
      have ih:=redA_spec (k:=k) (by omega) hl3 hcl3
      revert ih
      simp only []
      generalize redA n k (elA (swA s.1 c p) (swA s.1 c p) c,elA (swA s.1 c p) (swA s.2 c p) c)=R
      intro ih
      cases R with
      | none=>exact (ih.same hs3).same hs2
      | some t=>exact ⟨(hs2.trans hs3).trans ih.1,ih.2⟩
theorem Cl.zero {n:Nat} {R:Mx}:Cl n 0 R:=fun k h=>by omega
theorem redA_all {n m:Nat} {s:Gd × Gd} (hl:Lens n m s) :
    match redA n n s with
    | none=>Ker n (n+m) (cmb n s)
    | some t=>SameSol n (n+m) (cmb n s) (cmb n t)∧Cl n n (cmb n t)∧Lens n m t:=
  redA_spec (Nat.le_refl n) hl (by rw [Nat.sub_self];exact Cl.zero)
def gram (n:Nat) (A B:Mx):Mx:=fun i j=>sumN n fun k=>A k i*B k j
structure Elm (n w c:Nat) (P S:Mx):Prop where
  top:∀r,r<c→∃z:Nat→Rat,(∀j,j<w→S r j=sumN c fun i=>z i*P i j)∧∀k,k<c→S r k=if k=r then 1 else 0
  low:∀r,c≤r→r<n→∃y:Nat→Rat,(∀j,j<w→S r j=P r j - sumN c fun i=>y i*P i j)∧∀k,k<c→S r k=0
  dt:det c P≠0
theorem Elm.zero {n w:Nat} {P:Mx}:Elm n w 0 P P:=
  ⟨fun r h=>by omega,fun r _ _=>⟨fun _=>0,fun j _=>by rw [sumN];grind,fun k h=>by omega⟩,by rw [det];decide⟩
theorem Elm.swap {n w c p:Nat} {P S:Mx} (h:Elm n w c P S) (hcp:c≤p) (hp:p<n):Elm n w c (swR P c p) (swR S c p):=by
  have e:∀i,i<c→swR P c p i=P i:=fun i hi=>by unfold swR;rw [if_neg (by omega),if_neg (by omega)]
  have es:∀y:Nat→Rat,∀j,sumN c (fun i=>y i*swR P c p i j)=sumN c fun i=>y i*P i j:=fun y j=>sumN_congr fun i hi=>by rw [e i hi]
  refine ⟨fun r hr=>?_,fun r hr hrn=>?_,?_⟩
  · obtain ⟨z,h1,h2⟩:=h.top r hr
    have e2:swR S c p r=S r:=by unfold swR;rw [if_neg (by omega),if_neg (by omega)]
    exact ⟨z,fun j hj=>by rw [es,e2];exact h1 j hj,fun k hk=>by rw [e2];exact h2 k hk⟩
  · have key:∀r',c≤r'→r'<n→swR S c p r=S r'→swR P c p r=P r'→∃y:Nat→Rat,(∀j,j<w→swR S c p r j=swR P c p r j - sumN c fun i=>y i*swR P c p i j)∧∀k,k<c→swR S c p r k=0:=fun r' h1 h2 h3 h4=>by
      obtain ⟨y,g1,g2⟩:=h.low r' h1 h2
      exact ⟨y,fun j hj=>by rw [h3,h4,es];exact g1 j hj,fun k hk=>by rw [h3];exact g2 k hk⟩
    by_cases h1:r=c
    · exact key p hcp hp (by unfold swR;rw [if_pos h1]) (by unfold swR;rw [if_pos h1])
    · by_cases h2:r=p
      · exact key c (Nat.le_refl _) (by omega) (by unfold swR;rw [if_neg h1,if_pos h2]) (by unfold swR;rw [if_neg h1,if_pos h2])
      · exact key r hr hrn (by unfold swR;rw [if_neg h1,if_neg h2]) (by unfold swR;rw [if_neg h1,if_neg h2])
  · rw [show det c (swR P c p)=det c P from det_congr fun i j hi _=>by rw [e i hi]]
    exact h.dt
theorem Elm.step {n w c:Nat} {P S T:Mx} (h:Elm n w c P S) (hc:c<n) (hw:n≤w) (hp:S c c≠0) (hT:∀j,j<w→T c j=S c j/S c c) (hT2:∀r,r<n→r≠c→∀j,j<w→T r j=S r j - S r c*T c j):Elm n w (c+1) P T:=by
  obtain ⟨y,y1,y2⟩:=h.low c (Nat.le_refl _) hc
  have hd:=det_step (c:=c) (f:=P) (y:=y) (fun j hj=>by
    have:=y1 j (by omega)
    rw [y2 j hj] at this
    grind)
  rw [←y1 c (by omega)] at hd
  obtain ⟨q,hq⟩:∃q,q=1/S c c:=⟨_,rfl⟩
  have hq1:q*S c c=1:=by rw [hq];grind
  have hTc:∀j,j<w→T c j=q*S c j:=fun j hj=>by rw [hT j hj,hq];grind
  have hsum:∀j,j<w→T c j=sumN (c+1) fun i=>(if i=c then q else -(q*y i))*P i j:=fun j hj=>by
    rw [hTc j hj,y1 j hj,sumN,if_pos rfl]
    have:sumN c (fun i=>(if i=c then q else -(q*y i))*P i j) = -q*sumN c fun i=>y i*P i j:=by
      rw [←sumN_mul]
      exact sumN_congr fun i hi=>by rw [if_neg (by omega)];grind
    rw [this]
    grind
  have hTk:∀k,k<c→T c k=0:=fun k hk=>by rw [hTc k (by omega),y2 k hk,Rat.mul_zero]
  have hTcc:T c c=1:=by rw [hTc c (by omega)];exact hq1
  have ext:∀(u:Nat→Rat) (a:Rat) (j:Nat),sumN (c+1) (fun i=>(if i=c then a*q else u i+a * -(q*y i))*P i j)=sumN c (fun i=>u i*P i j)+a*sumN (c+1) fun i=>(if i=c then q else -(q*y i))*P i j:=fun u a j=>by
    have e1:sumN (c+1) (fun i=>(if i=c then a*q else u i+a * -(q*y i))*P i j)=a*sumN (c+1) (fun i=>(if i=c then q else -(q*y i))*P i j)+sumN (c+1) (fun i=>if i=c then 0 else u i*P i j):=by
      rw [←sumN_lin]
      refine sumN_congr fun i _=>?_
      by_cases hi:i=c
      · simp only [if_pos hi];grind
      · simp only [if_neg hi];grind
    have e2:sumN (c+1) (fun i=>if i=c then 0 else u i*P i j)=sumN c fun i=>u i*P i j:=by
      rw [sumN,if_pos rfl,Rat.add_zero]
      exact sumN_congr fun i hi=>if_neg (by omega)
    rw [e1,e2]
    grind
  refine ⟨fun r hr=>?_,fun r hr hrn=>?_,?_⟩
  · by_cases hrc:r=c
    · subst hrc
      refine ⟨_,hsum,fun k hk=>?_⟩
      by_cases hk2:k=r
      · subst hk2;rw [if_pos rfl];exact hTcc
      · rw [if_neg hk2];exact hTk k (by omega)
    · obtain ⟨z,z1,z2⟩:=h.top r (by omega)
      refine ⟨fun i=>if i=c then -S r c*q else z i + -S r c * -(q*y i),fun j hj=>?_,fun k hk=>?_⟩
      · rw [ext,hT2 r (by omega) hrc j hj,z1 j hj,←hsum j hj]
        grind
      · rw [hT2 r (by omega) hrc k (by omega)]
        by_cases hk2:k=c
        · subst hk2;rw [hTcc,if_neg (fun e=>hrc e.symm)];grind
        · rw [hTk k (by omega),z2 k (by omega)]
          grind
  · obtain ⟨u,u1,u2⟩:=h.low r (by omega) hrn
    refine ⟨fun i=>if i=c then S r c*q else u i+S r c * -(q*y i),fun j hj=>?_,fun k hk=>?_⟩
    · rw [ext,hT2 r hrn (by omega) j hj,u1 j hj,←hsum j hj]
      grind
    · rw [hT2 r hrn (by omega) k (by omega)]
      by_cases hk2:k=c
      · subst hk2;rw [hTcc];grind
      · rw [hTk k (by omega),u2 k (by omega)]
        grind
  · rw [hd]
    exact fun h0=>(Rat.mul_eq_zero.1 h0).elim hp h.dt
def prodN:Nat→(Nat→Rat)→Rat
  | 0,_=>1
  | n+1,g=>prodN n g*g n
theorem prodN_congr {g h:Nat→Rat}:∀{n:Nat},(∀i,i<n→g i=h i)→prodN n g=prodN n h
  | 0,_=>rfl
  | n+1,hh=>by rw [prodN,prodN,prodN_congr (n:=n) (fun i hi=>hh i (by omega)),hh n (by omega)]
theorem prodN_ne {g:Nat→Rat}:∀{n:Nat},(∀i,i<n→g i≠0)→prodN n g≠0
  | 0,_=>by rw [prodN];decide
  | n+1,hh=>by rw [prodN];exact fun h=>(Rat.mul_eq_zero.1 h).elim (prodN_ne (n:=n) (fun i hi=>hh i (by omega))) (hh n (by omega))
theorem prodN_skip {g:Nat→Rat}:∀{n i:Nat},i≤n→g i*prodN n (fun r=>if r<i then g r else g (r+1))=prodN (n+1) g
  | 0,i,h=>by
    obtain rfl:i=0:=by omega
    simp only [prodN];grind
  | n+1,i,h=>by
    rw [prodN,prodN]
    by_cases hi:i=n+1
    · subst hi
      rw [prodN_congr (g:=fun r=>if r<n+1 then g r else g (r+1)) (h:=g) (fun r hr=>if_pos (by omega)),if_pos (by omega)]
      rw [prodN]
      grind
    · rw [if_neg (by omega),←prodN_skip (n:=n) (i:=i) (by omega)]
      grind
theorem det_scale {b:Nat→Rat}:∀{n:Nat} {f:Mx} {a:Nat→Rat},det n (fun i j=>a i*b j*f i j)=prodN n a*prodN n b*det n f
  | 0,f,a=>by simp only [det,prodN];grind
  | n+1,f,a=>by
    rw [det,det,←sumN_mul]
    refine sumN_congr fun i hi=>?_
    have e:skp (fun i j=>a i*b j*f i j) i=fun r j=>(if r<i then a r else a (r+1))*b j*skp f i r j:=by
      funext r j
      unfold skp
      by_cases h:r<i
      · simp only [if_pos h]
      · simp only [if_neg h]
    rw [e,det_scale (n:=n),←prodN_skip (n:=n) (i:=i) (by omega),show prodN (n+1) b=prodN n b*b n from rfl]
    grind
def Scl (n w:Nat) (P:Mx) (a b:Nat→Nat) (M A B:Nat):Prop:=
  (∀r,r<n→0<a r∧a r≤A)∧(∀j,j<w→0<b j∧b j≤B∧b j≤M)∧∀r j,r<n→j<w→∃z:Int,(a r:Rat)*(b j:Rat)*P r j=z∧z.natAbs≤M
theorem Scl.swap {n w c p:Nat} {P:Mx} {a b:Nat→Nat} {M A B:Nat} (h:Scl n w P a b M A B) (hc:c<n) (hp:p<n):Scl n w (swR P c p) (fun r=>if r=c then a p else if r=p then a c else a r) b M A B:=by
  obtain ⟨h1,h2,h3⟩:=h
  refine ⟨fun r hr=>?_,h2,fun r j hr hj=>?_⟩
  · simp only []
    split
    · exact h1 p hp
    · split
      · exact h1 c hc
      · exact h1 r hr
  · unfold swR
    by_cases g1:r=c
    · simp only [if_pos g1];exact h3 p j hp hj
    · simp only [if_neg g1]
      by_cases g2:r=p
      · simp only [if_pos g2];exact h3 c j hc hj
      · simp only [if_neg g2];exact h3 r j hr hj
theorem nz_cast {k:Nat} (h:0<k):(k:Rat)≠0:=fun h0=>by
  have:((k:Nat):Rat)=((0:Nat):Rat):=h0
  have:=Rat.natCast_inj.1 this
  omega
theorem Elm.bound {n w c:Nat} {P S:Mx} {a b:Nat→Nat} {M A B:Nat} (h:Elm n w c P S) (hs:Scl n w P a b M A B) (hc:c≤n) (hw:n≤w) (hA:1≤A) {r j:Nat} (hr:r<n) (hj:j<w) :
    ∃(Z:Int) (q:Int),q≠0∧S r j=(Z:Rat)/(q:Rat)∧Z.natAbs≤(c+1)*(M*dB M c)∧q.natAbs≤dB M c*(A*B):=by
  obtain ⟨s1,s2,s3⟩:=hs
  obtain ⟨F,hF⟩:∃F:Mx,F=fun i j=>(a i:Rat)*(b j:Rat)*P i j:=⟨_,rfl⟩
  have hFe:∀i j,F i j=(a i:Rat)*(b j:Rat)*P i j:=fun i j=>by rw [hF]
  have hFi:∀i j,i<n→j<w→∃z:Int,F i j=z∧z.natAbs≤M:=fun i j hi hj=>by rw [hFe];exact s3 i j hi hj
  have hD:det c F≠0:=by
    rw [hF,det_scale (a:=fun i=>(a i:Rat)) (b:=fun j=>(b j:Rat))]
    intro h0
    rcases Rat.mul_eq_zero.1 h0 with h1|h1
    · rcases Rat.mul_eq_zero.1 h1 with h2|h2
      · exact prodN_ne (fun i hi=>nz_cast (s1 i (by omega)).1) h2
      · exact prodN_ne (fun i hi=>nz_cast (s2 i (by omega)).1) h2
    · exact h.dt h1
  obtain ⟨d,hd1,hd2⟩:=det_int (S:=M) (n:=c) (f:=F) (fun i j hi hj=>hFi i j (by omega) (by omega))
  have hd0:d≠0:=fun h0=>hD (by rw [hd1,h0];rfl)
  have aw:∀i,i<n→(a i:Rat)≠0:=fun i hi=>nz_cast (s1 i hi).1
  have bw:∀j,j<w→(b j:Rat)≠0:=fun j hj=>nz_cast (s2 j hj).1
  by_cases hrc:r<c
  · obtain ⟨z,z1,z2⟩:=h.top r hrc
    have hz:∀i,i<c→∃m:Int,z i/(a i:Rat)*det c F=m∧m.natAbs≤dB M c:=fun i hi=>by
      rw [←cramer (n:=c) (f:=F) (y:=fun i=>z i/(a i:Rat)) (b:=fun k=>if k=r then (b k:Rat) else 0) (fun k hk=>?_) hi]
      · refine det_int fun i' k hi' hk=>?_
        unfold upd
        split
        · by_cases hk2:k=r
          · simp only [if_pos hk2]
            exact ⟨(b k:Int),rfl,by have:=(s2 k (by omega)).2.2;omega⟩
          · simp only [if_neg hk2]
            exact ⟨0,rfl,by simp⟩
        · exact hFi i' k (by omega) (by omega)
      · have e1:sumN c (fun i=>z i/(a i:Rat)*F i k)=(b k:Rat)*sumN c fun i=>z i*P i k:=by
          rw [←sumN_mul]
          exact sumN_congr fun i hi=>by
            have:=aw i (by omega)
            rw [hFe];grind
        rw [e1,←z1 k (by omega),z2 k hk]
        by_cases hk2:k=r
        · simp only [if_pos hk2];grind
        · simp only [if_neg hk2];grind
    have e2:(b j:Rat)*S r j*det c F=sumN c fun i=>(z i/(a i:Rat)*det c F)*F i j:=by
      rw [z1 j hj,show (b j:Rat)*(sumN c fun i=>z i*P i j)*det c F=((b j:Rat)*det c F)*sumN c fun i=>z i*P i j by grind,←sumN_mul]
      exact sumN_congr fun i hi=>by
        have:=aw i (by omega)
        rw [hFe];grind
    obtain ⟨Z,hZ1,hZ2⟩:=sumN_int (B:=dB M c*M) (g:=fun i=>(z i/(a i:Rat)*det c F)*F i j) (n:=c) (fun i hi=>by
      obtain ⟨m,m1,m2⟩:=hz i hi
      obtain ⟨f,f1,f2⟩:=hFi i j (by omega) hj
      exact ⟨m*f,by rw [m1,f1,Rat.intCast_mul],by rw [Int.natAbs_mul];exact Nat.mul_le_mul m2 f2⟩)
    refine ⟨Z,(b j:Int)*d,Int.mul_ne_zero (by have:=(s2 j hj).1;omega) hd0,?_,?_,?_⟩
    · rw [←hZ1,←e2,hd1,Rat.intCast_mul,Rat.intCast_natCast]
      have:=bw j hj
      have:(d:Rat)≠0:=by rw [←hd1];exact hD
      grind
    · refine Nat.le_trans hZ2 ?_
      rw [Nat.mul_comm (dB M c)]
      exact Nat.mul_le_mul_right _ (by omega)
    · rw [Int.natAbs_mul,Int.natAbs_natCast,Nat.mul_comm]
      refine Nat.mul_le_mul hd2 ?_
      exact Nat.le_trans (s2 j hj).2.1 (Nat.le_mul_of_pos_left _ (by omega))
  · obtain ⟨y,y1,y2⟩:=h.low r (by omega) hr
    have ha:=aw r hr
    have hy:∀i,i<c→∃m:Int,(y i*(a r:Rat)/(a i:Rat))*det c F=m∧m.natAbs≤dB M c:=fun i hi=>by
      rw [←cramer (n:=c) (f:=F) (y:=fun i=>y i*(a r:Rat)/(a i:Rat)) (b:=F r) (fun k hk=>?_) hi]
      · refine det_int fun i' k hi' hk=>?_
        unfold upd
        split
        · exact hFi r k hr (by omega)
        · exact hFi i' k (by omega) (by omega)
      · have e1:sumN c (fun i=>y i*(a r:Rat)/(a i:Rat)*F i k)=((a r:Rat)*(b k:Rat))*sumN c fun i=>y i*P i k:=by
          rw [←sumN_mul]
          exact sumN_congr fun i hi=>by
            have:=aw i (by omega)
            rw [hFe];grind
        have e3:=y1 k (by omega)
        rw [y2 k hk] at e3
        rw [e1,hFe]
        have:sumN c (fun i=>y i*P i k)=P r k:=by grind
        rw [this]
    have e2:(a r:Rat)*(b j:Rat)*S r j*det c F=det c F*F r j - sumN c fun i=>((y i*(a r:Rat)/(a i:Rat))*det c F)*F i j:=by
      have e3:sumN c (fun i=>((y i*(a r:Rat)/(a i:Rat))*det c F)*F i j)=((a r:Rat)*(b j:Rat)*det c F)*sumN c fun i=>y i*P i j:=by
        rw [←sumN_mul]
        exact sumN_congr fun i hi=>by
          have:=aw i (by omega)
          rw [hFe];grind
      rw [e3,y1 j hj,hFe]
      grind
    obtain ⟨Z,hZ1,hZ2⟩:=sumN_int (B:=dB M c*M) (g:=fun i=>((y i*(a r:Rat)/(a i:Rat))*det c F)*F i j) (n:=c) (fun i hi=>by
      obtain ⟨m,m1,m2⟩:=hy i hi
      obtain ⟨f,f1,f2⟩:=hFi i j (by omega) hj
      exact ⟨m*f,by rw [m1,f1,Rat.intCast_mul],by rw [Int.natAbs_mul];exact Nat.mul_le_mul m2 f2⟩)
    obtain ⟨f,f1,f2⟩:=hFi r j hr hj
    refine ⟨d*f - Z,(a r:Int)*(b j:Int)*d,Int.mul_ne_zero (Int.mul_ne_zero (by have:=(s1 r hr).1;omega) (by have:=(s2 j hj).1;omega)) hd0,?_,?_,?_⟩
    · rw [Rat.intCast_sub,Rat.intCast_mul,←hZ1,←f1,←hd1,←e2,Rat.intCast_mul,Rat.intCast_mul,Rat.intCast_natCast,Rat.intCast_natCast,←hd1]
      have:=bw j hj
      grind
    · have h1:(d*f).natAbs≤dB M c*M:=by rw [Int.natAbs_mul];exact Nat.mul_le_mul hd2 f2
      have h2:(c+1)*(M*dB M c)=c*(dB M c*M)+dB M c*M:=by rw [Nat.add_mul,Nat.one_mul,Nat.mul_comm M]
      omega
    · rw [Int.natAbs_mul,Int.natAbs_mul,Int.natAbs_natCast,Int.natAbs_natCast,Nat.mul_comm]
      exact Nat.mul_le_mul hd2 (Nat.mul_le_mul (s1 r hr).2 (s2 j hj).2.1)
structure Way (n w c:Nat) (R S:Mx) (M A B:Nat):Prop where
  same:SameSol n w R S
  cl:Cl n c S
  elm:∃(P:Mx) (a b:Nat→Nat),Elm n w c P S∧Scl n w P a b M A B
theorem Way.zero {n w:Nat} {R:Mx} {M A B:Nat} {a b:Nat→Nat} (h:Scl n w R a b M A B):Way n w 0 R R M A B:=⟨SameSol.refl,Cl.zero,R,a,b,Elm.zero,h⟩
theorem Way.swap {n w c p:Nat} {R S:Mx} {M A B:Nat} (h:Way n w c R S M A B) (hcp:c≤p) (hp:p<n):Way n w c R (swR S c p) M A B:=by
  obtain ⟨P,a,b,h1,h2⟩:=h.elm
  exact ⟨h.same.trans (sol_swap (by omega) hp),h.cl.swap hcp hp,swR P c p,_,b,h1.swap hcp hp,h2.swap (by omega) hp⟩
theorem Way.step {n w c:Nat} {R S T:Mx} {M A B:Nat} (h:Way n w c R S M A B) (hc:c<n) (hw:n≤w) (hp:S c c≠0) (hT:∀j,j<w→T c j=S c j/S c c) (hT2:∀r,r<n→r≠c→∀j,j<w→T r j=S r j - S r c*T c j):Way n w (c+1) R T M A B:=by
  obtain ⟨P,a,b,h1,h2⟩:=h.elm
  have hs0:1/S c c≠0:=by intro h0;grind
  have e1:∀r,r<n→r≠c→∀j,j<w→T r j=S r j - (S r c*(1/S c c))*S c j:=fun r hr hrc j hj=>by
    rw [hT2 r hr hrc j hj,hT j hj];grind
  have e2:∀j,j<w→T c j=(1/S c c)*S c j:=fun j hj=>by rw [hT j hj];grind
  exact ⟨h.same.trans (sol_elim hc hs0 e1 e2),h.cl.elim hc hw hs0 hp e1 e2 (fun r hr hrc=>by grind),P,a,b,h1.step hc hw hp hT hT2,h2⟩
theorem Way.bound {n w c:Nat} {R S:Mx} {M A B:Nat} (h:Way n w c R S M A B) (hc:c≤n) (hw:n≤w) (hA:1≤A) {r j:Nat} (hr:r<n) (hj:j<w) :
    ∃(Z:Int) (q:Int),q≠0∧S r j=(Z:Rat)/(q:Rat)∧Z.natAbs≤(c+1)*(M*dB M c)∧q.natAbs≤dB M c*(A*B):=by
  obtain ⟨P,a,b,h1,h2⟩:=h.elm
  exact h1.bound h2 hc hw hA hr hj
end Go.Proofs.YtlejgleocnemoabGreat.I
