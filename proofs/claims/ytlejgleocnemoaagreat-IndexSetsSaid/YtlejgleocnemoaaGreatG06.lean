/- The texts L01q L01r L03a L03b L06h LNum L06i L06j L06k L06l L06m L06n L03c L06o LRat L06p L08a L08b L08c LMem, one behind the other. Conditions: each text's own. -/
import Derived.Test.YtlejgleocnemoaaGreatG05
import Derived.Test.YtlejgleocnemoaaGreatG04
import Derived.Test.YtlejgleocnemoaaGreatG02
import Derived.Deep.Slices
import Derived.Deep.Fields
import Derived.ChangeArms
set_option linter.unusedSimpArgs false
set_option linter.unusedVariables false
namespace Go.Proofs.YtlejgleocnemoaaGreat.I
open Go Go.V
attribute [local go_sem_proc ↓] reduceIte
attribute [local go_sem_proc] Nat.reduceEqDiff Nat.reduceAdd Nat.reduceMul Nat.reduceLeDiff Nat.reduceLT Int.reduceToNat Int.reduceLT Int.reduceLE reduceCtorEq Nat.reduceBEq
attribute [local go_sem] mNil nat0 beq_self_eq_true mSkip mRet mExit mReg mSeq mCond mTrue mFalse mBlock mLv mCodeE mCodeR mEndN mEndR mEndE mOps mSome mGuard mGtt mGff mGtf mGft mGu mCallP mCallR mCallF mCallO mCallZ mCallG mCallM mCallV loopQ_exit loopQ_ret mO_mov mO_newnil mO_pick mO_alloc mO_box mO_build mO_bsl mO_bslF mO_newnilB mO_bslB mO_lenB mO_appB mO_allocA mO_bslA mO_appA mO_ldb mO_faddrb mRsv mO_ldf mO_ld mO_st mO_sta mO_nilchk mO_bin mO_binb mO_binp mO_bins mO_neg mO_com mO_not mO_conv mO_mk mO_mk0 mO_mkB mO_s2b mO_b2s mO_cpy mO_cut mO_faddr mO_fld mO_iaddr mO_iaddrf mO_sidx mO_len mO_lenf mO_slen mO_scut mO_app mO_ext mO_mx mO_mn mO_mkfn evalOp cutOp argsE ev getE putE cellsOf adopt rowOf binV boolV nilV ar_add ar_sub ar_mul ar_quo ar_rem ar_eq ar_ne ar_lt ar_le ar_gt ar_ge ar_and ar_or ar_xor geto bound finRet finNrm ints List.length_cons List.length_nil List.length_append List.getElem?_cons_zero List.getElem?_cons_succ List.nil_append List.cons_append List.map_cons List.map_nil List.mapM_cons List.mapM_nil Option.map_some Option.map_none Option.bind_some Option.pure_def Option.bind_eq_bind List.drop_zero or_self or_false false_or or_true true_or true_and and_true and_self decide_true decide_false Bool.false_eq_true Bool.true_eq_false Bool.not_true Bool.not_false Nat.le_refl eq_self gt_iff_lt ge_iff_le ne_eq not_true_eq_false not_false_eq_true storeOp apartOf freeze_nil refsL refs List.flatMap_cons List.flatMap_nil List.append_nil List.contains_nil List.set_cons_zero List.set_cons_succ snap snapL fill_nums flat_nums nums_length Go.V.freeze List.mapIdx_cons List.mapIdx_nil List.contains_cons Bool.or_false Bool.false_or Bool.or_true Bool.true_or
theorem lim2000_limbs {x:Nat} (h:x<lim2000):(limG x).length≤208:=by
  refine limG_len (Nat.lt_of_lt_of_le h ?_)
  show lim2000≤4294967296^208
  exact of_decide_eq_true (by kernel_rfl)
theorem powN_le {b n m:Nat} (hb:0<b) (h:n≤m):b^n≤powN b m:=Nat.pow_le_pow_right hb h
theorem pow10_le {n:Nat} (h:n≤2000):10^n≤lim2000:=powN_le (by omega) h
theorem Right_lim {l:List Int} (h:RightS l):sval l<lim2000:=Nat.lt_of_lt_of_le (sval_lt h.1) (pow10_le h.2.2)
theorem sval_drop {l:List Int} {j n:Nat}:sval (l.take (j+n))=sval (l.take j)*10^((l.drop j).take n).length+sval ((l.drop j).take n):=by
  rw [←sval_append,←List.take_add]
section
variable {E:CallRel}
theorem c150_ok {l:List Int} {b:Bool} (hl:U8 l) (hll:l.length≤1000000000) (hb:b=true↔RightS l):Go.V.Call tab E 150 [.str (bs l)] [] (.tup [natC (if b then sval l else 0),.bool b]) []:=by
  refine Go.V.Call.mach i150 c150 rfl rfl rfl rfl ?_
  have hfalse:¬RightS l→b=false:=fun h=>by rw [←Bool.not_eq_true,hb];exact h
  have heq:strOp .eq (bs l) (⟨#[]⟩:ByteArray)=some (.bool (decide (l=[]))):=by
    have:(⟨#[]⟩:ByteArray)=bs []:=rfl
    rw [this]
    simp only [strOp,str_eq hl (show U8 [] from fun x hx=>by simp at hx)]
  by_cases h0:l=[]
  · have hbf:=hfalse (fun h=>by have:=h.2.1;rw [h0] at this;simp at this)
    subst hbf
    rw [decide_eq_true h0] at heq
    simp only [c150,natC,us32,go_sem,FL,heq,bs_size]
    simp only [i150,OT,reduceIte,Nat.reduceEqDiff,sub,FL,List.length_cons,List.length_nil,Nat.le_refl,us32,if_false,Bool.false_eq_true,limG_zero]
    rfl
  rw [decide_eq_false h0] at heq
  by_cases h2:2000<l.length
  · have hbf:=hfalse (fun h=>by have:=h.2.2;omega)
    subst hbf
    have h2':(2000:Int)<(l.length:Int):=by omega
    simp only [c150,natC,us32,go_sem,FL,heq,bs_size,h2']
    simp only [i150,OT,reduceIte,Nat.reduceEqDiff,sub,FL,List.length_cons,List.length_nil,Nat.le_refl,us32,if_false,Bool.false_eq_true,limG_zero]
    rfl
  have h2':¬(2000:Int)<(l.length:Int):=by omega
  have hlim:∀j,Dig (l.take j)→sval (l.take j)<lim2000:=fun j h=>by
    refine Nat.lt_of_lt_of_le (sval_lt h) (pow10_le ?_)
    rw [List.length_take]
    omega
  simp only [c150,natC,us32,go_sem,heq,bs_size,h2']
  refine mLoop (fun N st=>∃(j:Nat) (c:AV) (fr:Bool),j≤l.length∧N=l.length - j∧Dig (l.take j)∧((c=.arr 2 0∧fr=false∧sval (l.take j)=0)∨c=us32 (limG (sval (l.take j))))∧
    st=⟨[(0,.str (bs (l.drop j))),(2,.loc 1 0 0),(4,.loc 3 0 0)],[⟨false,191,1,0,0,[],false⟩,⟨true,94,1,0,1,[.arr 0 0],false⟩,⟨false,191,1,0,0,[],fr⟩,⟨true,94,1,0,1,[c],false⟩]⟩) l.length
    ⟨_,rfl,0,.arr 2 0,false,by omega,by omega,fun x hx=>by simp at hx,.inl ⟨rfl,rfl,rfl⟩,by simp [getE]⟩ ?_
  rintro N s0 ⟨j,c,fr,hj,rfl,hd,hc,rfl⟩
  have hdl:(l.drop j).length=l.length - j:=List.length_drop
  by_cases hjl:j<l.length
  · have g1:(0:Int)<((l.length - j:Nat):Int):=by omega
    obtain ⟨n,hn⟩:∃n,n=min 9 (l.length - j):=⟨_,rfl⟩
    have hmin:(if ((l.length - j:Nat):Int)<9 then ((l.length - j:Nat):Int) else 9)=(n:Int):=by split<;>omega
    have g2:(0:Int)≤(n:Int):=by omega
    have g3:(n:Int)≤((l.length - j:Nat):Int):=by omega
    obtain ⟨p,hp⟩:∃p,p=(l.drop j).take n:=⟨_,rfl⟩
    have hpl:p.length=n:=by rw [hp,List.length_take,hdl];omega
    have hex:(bs (l.drop j)).extract 0 n=bs p:=by rw [bs_extract,hp];rfl
    have hpU:U8 p:=fun x hx=>hl x (by rw [hp] at hx;exact List.mem_of_mem_drop (List.mem_of_mem_take hx))
    have hby:=bytesAV_bs hpU
    have hex2:(bs (l.drop j)).extract n (l.length - j)=bs (l.drop (j+n)):=by
      rw [bs_extract,List.take_of_length_le (by omega),List.drop_drop]
    have hsv:=sval_drop (l:=l) (j:=j) (n:=n)
    rw [←hp,hpl] at hsv
    have htk:l.take (j+n)=l.take j++p:=by rw [hp,List.take_add]
    have hx90:=fun i (hi:i≤9)=>(Nat.pow_le_pow_right (show 0<10 by omega) hi:10^i≤10^9)
    rcases hc with ⟨rfl,rfl,hv⟩|rfl
    · simp only [b150_0,us32,go_sem,bs_size,hdl,g1,hmin,g2,g3,Int.toNat_natCast,hex,hby,hpl]
      refine mLoop (fun N st=>∃i:Nat,i≤n∧N=n - i∧Dig (p.take i)∧
        st=⟨[(0,.str (bs (l.drop j))),(2,.loc 1 0 0),(4,.loc 3 0 0),(5,.int .i64 n),(6,.int .u64 ((sval (p.take i):Nat):Int)),(7,.int .u64 ((10^i:Nat):Int)),(27,.sl n 1 (nums .u8 p)),(28,.int .i64 n),(29,.int .i64 i)],
          [⟨false,191,1,0,0,[],false⟩,⟨true,94,1,0,1,[.arr 0 0],false⟩,⟨false,191,1,0,0,[],false⟩,⟨true,94,1,0,1,[.arr 2 0],false⟩]⟩) n
        ⟨_,rfl,0,by omega,by omega,fun x hx=>by simp at hx,by simp [getE,sval_nil,us32]⟩ ?_
      rintro N s0 ⟨i,hi,rfl,hdi,rfl⟩
      by_cases hin:i<n
      · have h1:(i:Int)<(n:Int):=by omega
        have h2:(0:Int)≤(i:Int):=by omega
        have h3:IntKind.i64.wrap ((i:Int)+1)=((i+1:Nat):Int):=by rw [wrap_i64 (by omega) (by omega)];omega
        have hsub:=sub_nums (k:=.u8) (l:=p) (i:=i) (by omega)
        have hyU:=hpU (p.getD i 0) (by simp [List.getD,show i<p.length by omega])
        have htd:=Dig_take (l:=p) (i:=i) (by omega)
        have hts:=sval_take (l:=p) (i:=i) (by omega)
        have hlt:=sval_lt hdi
        rw [List.length_take,hpl,Nat.min_eq_left (by omega)] at hlt
        have h99:=hx90 i (by omega)
        have hps:10^(i+1)=10*10^i:=by rw [Nat.pow_succ,Nat.mul_comm]
        generalize p.getD i 0=y at *
        have bad:¬(48≤y∧y≤57)→b=false:=fun h=>hfalse (fun hr=>h (by
          have:Dig (l.take (j+n)):=fun z hz=>hr.1 z (List.mem_of_mem_take hz)
          rw [htk,Dig_app] at this
          exact (htd.1 (fun z hz=>this.2 z (List.mem_of_mem_take hz))).2))
        by_cases y1:y<48
        · have hbf:=bad (by omega)
          subst hbf
          simp only [b150_1,us32,go_sem,FL,h1,h2,Int.toNat_natCast,hsub,y1]
          simp only [i150,OT,reduceIte,Nat.reduceEqDiff,sub,FL,List.length_cons,List.length_nil,Nat.le_refl,us32,if_false,Bool.false_eq_true,limG_zero]
          rfl
        · by_cases y2:57<y
          · have hbf:=bad (by omega)
            subst hbf
            simp only [b150_1,us32,go_sem,FL,h1,h2,Int.toNat_natCast,hsub,y1,y2]
            simp only [i150,OT,reduceIte,Nat.reduceEqDiff,sub,FL,List.length_cons,List.length_nil,Nat.le_refl,us32,if_false,Bool.false_eq_true,limG_zero]
            rfl
          · have w1:IntKind.u8.wrap (y - 48)=(((y - 48).toNat:Nat):Int):=by
              simp only [IntKind.wrap,IntKind.bits,IntKind.signed]
              simp
              omega
            have w2:IntKind.u64.wrap (((y - 48).toNat:Nat):Int)=(((y - 48).toNat:Nat):Int):=wrap_u64 (by omega) (by omega)
            have w3:IntKind.u64.wrap (10*((sval (p.take i):Nat):Int))=((10*sval (p.take i):Nat):Int):=by rw [wrap_u64 (by omega) (by omega)];omega
            have w4:IntKind.u64.wrap (((10*sval (p.take i):Nat):Int)+(((y - 48).toNat:Nat):Int))=((sval (p.take (i+1)):Nat):Int):=by rw [hts,wrap_u64 (by omega) (by omega)];omega
            have w5:IntKind.u64.wrap (10*((10^i:Nat):Int))=((10^(i+1):Nat):Int):=by rw [hps,wrap_u64 (by omega) (by omega)];omega
            simp only [b150_1,us32,go_sem,h1,h2,h3,Int.toNat_natCast,hsub,y1,y2,w1,w2,w3,w4,w5]
            exact loopQ_go rfl (n - (i+1)) (by omega) ⟨i+1,by omega,rfl,htd.2 ⟨hdi,by omega,by omega⟩,rfl⟩
      · have h1:¬(i:Int)<(n:Int):=by omega
        obtain rfl:i=n:=by omega
        rw [List.take_of_length_le (by omega)] at hdi
        have hps:p.take p.length=p:=List.take_length
        have hlt:=sval_lt hdi
        rw [hpl] at hlt
        have h99:=hx90 i (by omega)
        have hdn:Dig (l.take (j+i)):=by rw [htk,Dig_app];exact ⟨hd,hdi⟩
        have hln:=hlim _ hdn
        have h90s:=c149_nat (E:=E) (n:=10^i) (by omega)
        have h90x:=c149_nat (E:=E) (n:=sval p) (by omega)
        have hv1:sval (l.take j)*10^i<lim2000:=by omega
        have hl1:=lim2000_limbs hv1
        have hl2:(limG (sval p)).length≤2:=limG_len (by omega)
        have hl3:(limG (10^i)).length≤2:=limG_len (by omega)
        have hl4:=lim2000_limbs (hlim _ hd)
        have h133:=c158_ok (E:=E) (a:=sval (l.take j)) (b:=10^i) (by omega) (by omega)
        have h134:=c176_ok (E:=E) (a:=sval (l.take j)*10^i) (b:=sval p) (by omega) (by omega)
        rw [←hsv] at h134
        have ht:p.take i=p:=List.take_of_length_le (by omega)
        simp only [natC] at h90s h90x h133 h134
        rw [hv,limG_zero] at h133
        rw [hv] at h134
        simp only [us32] at h90s h90x h133 h134
        simp only [b150_1,k150_0,us32,go_sem,subB1,subT1,h1,ht,Int.toNat_natCast]
        refine goP h90s ?_
        simp only [us32,go_sem,subB1,subT1]
        refine goF h133 ?_
        simp only [us32,go_sem,subB1,subT1]
        refine goP h90x ?_
        simp only [us32,go_sem,subB1,subT1]
        refine goP h134 ?_
        simp only [us32,go_sem,FL,subB1,subT1,bs_size,hdl,g2,g3,Int.toNat_natCast,hex2]
        exact loopQ_go rfl (l.length - (j+i)) (by omega) ⟨j+i,_,_,by omega,rfl,hdn,.inr rfl,rfl⟩
    · simp only [b150_0,us32,go_sem,bs_size,hdl,g1,hmin,g2,g3,Int.toNat_natCast,hex,hby,hpl]
      refine mLoop (fun N st=>∃i:Nat,i≤n∧N=n - i∧Dig (p.take i)∧
        st=⟨[(0,.str (bs (l.drop j))),(2,.loc 1 0 0),(4,.loc 3 0 0),(5,.int .i64 n),(6,.int .u64 ((sval (p.take i):Nat):Int)),(7,.int .u64 ((10^i:Nat):Int)),(27,.sl n 1 (nums .u8 p)),(28,.int .i64 n),(29,.int .i64 i)],
          [⟨false,191,1,0,0,[],false⟩,⟨true,94,1,0,1,[.arr 0 0],false⟩,⟨false,191,1,0,0,[],fr⟩,⟨true,94,1,0,1,[us32 (limG (sval (l.take j)))],false⟩]⟩) n
        ⟨_,rfl,0,by omega,by omega,fun x hx=>by simp at hx,by simp [getE,sval_nil,us32]⟩ ?_
      rintro N s0 ⟨i,hi,rfl,hdi,rfl⟩
      by_cases hin:i<n
      · have h1:(i:Int)<(n:Int):=by omega
        have h2:(0:Int)≤(i:Int):=by omega
        have h3:IntKind.i64.wrap ((i:Int)+1)=((i+1:Nat):Int):=by rw [wrap_i64 (by omega) (by omega)];omega
        have hsub:=sub_nums (k:=.u8) (l:=p) (i:=i) (by omega)
        have hyU:=hpU (p.getD i 0) (by simp [List.getD,show i<p.length by omega])
        have htd:=Dig_take (l:=p) (i:=i) (by omega)
        have hts:=sval_take (l:=p) (i:=i) (by omega)
        have hlt:=sval_lt hdi
        rw [List.length_take,hpl,Nat.min_eq_left (by omega)] at hlt
        have h99:=hx90 i (by omega)
        have hps:10^(i+1)=10*10^i:=by rw [Nat.pow_succ,Nat.mul_comm]
        generalize p.getD i 0=y at *
        have bad:¬(48≤y∧y≤57)→b=false:=fun h=>hfalse (fun hr=>h (by
          have:Dig (l.take (j+n)):=fun z hz=>hr.1 z (List.mem_of_mem_take hz)
          rw [htk,Dig_app] at this
          exact (htd.1 (fun z hz=>this.2 z (List.mem_of_mem_take hz))).2))
        by_cases y1:y<48
        · have hbf:=bad (by omega)
          subst hbf
          simp only [b150_1,us32,go_sem,FL,h1,h2,Int.toNat_natCast,hsub,y1]
          simp only [i150,OT,reduceIte,Nat.reduceEqDiff,sub,FL,List.length_cons,List.length_nil,Nat.le_refl,us32,if_false,Bool.false_eq_true,limG_zero]
          rfl
        · by_cases y2:57<y
          · have hbf:=bad (by omega)
            subst hbf
            simp only [b150_1,us32,go_sem,FL,h1,h2,Int.toNat_natCast,hsub,y1,y2]
            simp only [i150,OT,reduceIte,Nat.reduceEqDiff,sub,FL,List.length_cons,List.length_nil,Nat.le_refl,us32,if_false,Bool.false_eq_true,limG_zero]
            rfl
          · have w1:IntKind.u8.wrap (y - 48)=(((y - 48).toNat:Nat):Int):=by
              simp only [IntKind.wrap,IntKind.bits,IntKind.signed]
              simp
              omega
            have w2:IntKind.u64.wrap (((y - 48).toNat:Nat):Int)=(((y - 48).toNat:Nat):Int):=wrap_u64 (by omega) (by omega)
            have w3:IntKind.u64.wrap (10*((sval (p.take i):Nat):Int))=((10*sval (p.take i):Nat):Int):=by rw [wrap_u64 (by omega) (by omega)];omega
            have w4:IntKind.u64.wrap (((10*sval (p.take i):Nat):Int)+(((y - 48).toNat:Nat):Int))=((sval (p.take (i+1)):Nat):Int):=by rw [hts,wrap_u64 (by omega) (by omega)];omega
            have w5:IntKind.u64.wrap (10*((10^i:Nat):Int))=((10^(i+1):Nat):Int):=by rw [hps,wrap_u64 (by omega) (by omega)];omega
            simp only [b150_1,us32,go_sem,h1,h2,h3,Int.toNat_natCast,hsub,y1,y2,w1,w2,w3,w4,w5]
            exact loopQ_go rfl (n - (i+1)) (by omega) ⟨i+1,by omega,rfl,htd.2 ⟨hdi,by omega,by omega⟩,rfl⟩
      · have h1:¬(i:Int)<(n:Int):=by omega
        obtain rfl:i=n:=by omega
        rw [List.take_of_length_le (by omega)] at hdi
        have hps:p.take p.length=p:=List.take_length
        have hlt:=sval_lt hdi
        rw [hpl] at hlt
        have h99:=hx90 i (by omega)
        have hdn:Dig (l.take (j+i)):=by rw [htk,Dig_app];exact ⟨hd,hdi⟩
        have hln:=hlim _ hdn
        have h90s:=c149_nat (E:=E) (n:=10^i) (by omega)
        have h90x:=c149_nat (E:=E) (n:=sval p) (by omega)
        have hv1:sval (l.take j)*10^i<lim2000:=by omega
        have hl1:=lim2000_limbs hv1
        have hl2:(limG (sval p)).length≤2:=limG_len (by omega)
        have hl3:(limG (10^i)).length≤2:=limG_len (by omega)
        have hl4:=lim2000_limbs (hlim _ hd)
        have h133:=c158_ok (E:=E) (a:=sval (l.take j)) (b:=10^i) (by omega) (by omega)
        have h134:=c176_ok (E:=E) (a:=sval (l.take j)*10^i) (b:=sval p) (by omega) (by omega)
        rw [←hsv] at h134
        have ht:p.take i=p:=List.take_of_length_le (by omega)
        simp only [natC] at h90s h90x h133 h134
        simp only [us32] at h90s h90x h133 h134
        simp only [b150_1,k150_0,us32,go_sem,subB1,subT1,h1,ht,Int.toNat_natCast]
        refine goP h90s ?_
        simp only [us32,go_sem,subB1,subT1]
        refine goF h133 ?_
        simp only [us32,go_sem,subB1,subT1]
        refine goP h90x ?_
        simp only [us32,go_sem,subB1,subT1]
        refine goP h134 ?_
        simp only [us32,go_sem,FL,subB1,subT1,bs_size,hdl,g2,g3,Int.toNat_natCast,hex2]
        exact loopQ_go rfl (l.length - (j+i)) (by omega) ⟨j+i,_,_,by omega,rfl,hdn,.inr rfl,rfl⟩
  · have g1:¬(0:Int)<((l.length - j:Nat):Int):=by omega
    obtain rfl:j=l.length:=by omega
    rw [List.take_length] at hd hc
    have hbt:b=true:=hb.2 ⟨hd,by
      rcases Nat.eq_zero_or_pos l.length with h|h
      · exact absurd (List.length_eq_zero_iff.1 h) h0
      · exact h,by omega⟩
    subst hbt
    rcases hc with ⟨rfl,rfl,hv⟩|rfl
    · simp only [b150_0,k150_1,us32,go_sem,bs_size,hdl,g1,subB1,subT1,FL]
      simp only [i150,OT,reduceIte,Nat.reduceEqDiff,sub,FL,List.length_cons,List.length_nil,Nat.le_refl,us32,if_true,hv,limG_zero]
      rfl
    · simp only [b150_0,k150_1,us32,go_sem,bs_size,hdl,g1,subB1,subT1,FL]
      simp only [i150,OT,reduceIte,Nat.reduceEqDiff,sub,FL,List.length_cons,List.length_nil,Nat.le_refl,us32,if_true]
end
theorem wrap_u8 {n:Int} (h1:0≤n) (h2:n≤255):IntKind.u8.wrap n=n:=by
  simp only [IntKind.wrap,IntKind.bits,IntKind.signed]
  simp
  omega
def gval (l:List Int):Nat:=l.foldl (fun a x=>a*1000000000+x.toNat) 0
theorem gval_snoc {l:List Int} {x:Int}:gval (l++[x])=gval l*1000000000+x.toNat:=by simp [gval]
def R9 (l:List Int):Prop:=∀x∈l,0≤x∧x<1000000000
theorem R9_nil:R9 []:=fun x hx=>by simp at hx
theorem R9_snoc {l:List Int} {x:Int} (h:R9 l) (hx:0≤x∧x<1000000000):R9 (l++[x]):=fun y hy=>by
  rcases List.mem_append.1 hy with h1|h1
  · exact h y h1
  · simp at h1;subst h1;exact hx
def GrI (l:List Int) (i:Nat) (g:List Int) (n:Nat):Prop:=R9 g∧g.length≤i∧∃j,n<10^j∧j≤8∧sval (l.take i)=gval g*10^j+n∧
  ((g≠[]∧(l.length - i+j) % 9=0)∨(g=[]∧j=i∧(l.length % 9=0∨i<l.length % 9)))
theorem GrI.zero {l:List Int}:GrI l 0 [] 0:=⟨R9_nil,by simp,0,by simp,by omega,by simp [sval_nil,gval],.inr ⟨rfl,rfl,by omega⟩⟩
theorem GrI.small {l g:List Int} {i n:Nat} (h:GrI l i g n):n<100000000:=by
  obtain ⟨_,_,j,h1,h2,_⟩:=h
  have hp:10^j≤100000000:=by simpa using Nat.pow_le_pow_right (n:=10) (i:=j) (j:=8) (by omega) h2
  omega
theorem GrI.cut {l g:List Int} {i n d:Nat} (h:GrI l i g n) (hi:i<l.length) (hx:l.getD i 0=48+(d:Int)) (hd:d≤9) (hc:(l.length - i - 1) % 9=0):GrI l (i+1) (g++[((n*10+d:Nat):Int)]) 0:=by
  obtain ⟨h0,hgl,j,h1,h2,h3,h4⟩:=h
  have hp:10^(j+1)≤1000000000:=by simpa using Nat.pow_le_pow_right (n:=10) (i:=j+1) (j:=9) (by omega) (by omega)
  rw [Nat.pow_succ] at hp
  have hs:sval (l.take (i+1))=10*sval (l.take i)+d:=by rw [take_snoc hi,sval_snoc,hx];omega
  refine ⟨R9_snoc h0 (by omega),by rw [List.length_append];simp;omega,0,by simp,by omega,?_,.inl ⟨by simp,by omega⟩⟩
  rw [hs,h3,gval_snoc]
  rcases h4 with ⟨h4,h5⟩|⟨h4,h5,h6⟩
  · have hj:j=8:=by omega
    subst hj
    simp only [Int.toNat_natCast,Nat.pow_zero,Nat.reducePow]
    omega
  · subst h4
    simp only [gval,List.foldl_nil,Int.toNat_natCast,Nat.pow_zero]
    omega
theorem GrI.go {l g:List Int} {i n d:Nat} (h:GrI l i g n) (hi:i<l.length) (hx:l.getD i 0=48+(d:Int)) (hd:d≤9) (hc:(l.length - i - 1) % 9≠0):GrI l (i+1) g (n*10+d):=by
  obtain ⟨h0,hgl,j,h1,h2,h3,h4⟩:=h
  have hs:sval (l.take (i+1))=10*sval (l.take i)+d:=by rw [take_snoc hi,sval_snoc,hx];omega
  refine ⟨h0,by omega,j+1,by rw [Nat.pow_succ];omega,?_,?_,?_⟩
  · rcases h4 with ⟨h4,h5⟩|⟨h4,h5,h6⟩
    · by_cases hj:j=8
      · subst hj;omega
      · omega
    · by_cases hj:j=8
      · subst hj;omega
      · omega
  · rw [hs,h3,Nat.pow_succ,Nat.mul_add,←Nat.mul_assoc,Nat.mul_comm 10,Nat.mul_assoc,Nat.mul_comm 10]
    omega
  · rcases h4 with ⟨h4,h5⟩|⟨h4,h5,h6⟩
    · exact .inl ⟨h4,by omega⟩
    · exact .inr ⟨h4,by omega,by omega⟩
theorem GrI.done {l g:List Int} {n:Nat} (h:GrI l l.length g n):gval g=sval l:=by
  obtain ⟨h0,hgl,j,h1,h2,h3,h4⟩:=h
  have hj:j=0:=by rcases h4 with ⟨h4,h5⟩|⟨h4,h5,h6⟩<;>omega
  subst hj
  rw [List.take_length] at h3
  simp at h1 h3
  omega
section
variable {E:CallRel}
def bl (n:Nat):Nat:=if h:n=0 then 0 else bl (n/2)+1
  termination_by n
  decreasing_by exact Nat.div_lt_self (Nat.pos_of_ne_zero h) (by omega)
def PassI (l:List Int) (k:Nat) (q:List Int) (r:Nat):Prop:=R9 q∧q.length≤k∧r<65536∧gval (l.take k)=65536*gval q+r∧(q≠[]→0<gval q)
theorem PassI.zero {l:List Int}:PassI l 0 [] 0:=⟨R9_nil,by simp,by omega,by simp [gval],fun h=>absurd rfl h⟩
theorem gval_take {l:List Int} {k:Nat} (h:k<l.length):gval (l.take (k+1))=gval (l.take k)*1000000000+(l.getD k 0).toNat:=by rw [take_snoc h,gval_snoc]
theorem PassI.add {l q:List Int} {k r x:Nat} (h:PassI l k q r) (hk:k<l.length) (hx:l.getD k 0=(x:Int)) (hx9:x<1000000000) (hc:q≠[]∨0<(r*1000000000+x)/65536) :
    PassI l (k+1) (q++[(((r*1000000000+x)/65536:Nat):Int)]) ((r*1000000000+x) % 65536):=by
  obtain ⟨h0,h1,h2,h3,h4⟩:=h
  refine ⟨R9_snoc h0 (by omega),by rw [List.length_append];simp;omega,by omega,?_,fun _=>?_⟩
  · rw [gval_take hk,gval_snoc,h3,hx,Int.toNat_natCast,Int.toNat_natCast]
    omega
  · rw [gval_snoc,Int.toNat_natCast]
    by_cases hq:q=[]
    · rcases hc with hc|hc
      · exact absurd hq hc
      · omega
    · have:=h4 hq;omega
theorem PassI.skip {l:List Int} {k r x:Nat} (h:PassI l k [] r) (hk:k<l.length) (hx:l.getD k 0=(x:Int)) (hc:¬0<(r*1000000000+x)/65536) :
    PassI l (k+1) [] ((r*1000000000+x) % 65536):=by
  obtain ⟨h0,h1,h2,h3,h4⟩:=h
  refine ⟨h0,by simp,by omega,?_,fun h=>absurd rfl h⟩
  have h0:gval []=0:=rfl
  rw [h0] at h3
  rw [gval_take hk,hx,Int.toNat_natCast,h0]
  omega
def PB (v m:Nat):Prop:=v<65536^m
theorem PB.step {v m i:Nat} (h:PB v (m - i)) (hi:i<m) (hq:0<v/65536):PB (v/65536) (m - (i+1))∧i+1<m:=by
  unfold PB at h ⊢
  have h1:v/65536<65536^(m - (i+1)):=by
    rw [show m - i=(m - (i+1))+1 by omega,Nat.pow_succ] at h
    rw [Nat.div_lt_iff_lt_mul (by omega)]
    exact h
  refine ⟨h1,?_⟩
  by_cases hc:i+1<m
  · exact hc
  · rw [show m - (i+1)=0 by omega,Nat.pow_zero] at h1
    clear h
    omega
end
theorem sval_take_le {l:List Int} {i:Nat}:sval (l.take i)≤sval l:=by
  have h:=sval_append (a:=l.take i) (b:=l.drop i)
  rw [List.take_append_drop] at h
  have hp:0<10^(l.drop i).length:=Nat.pow_pos (by omega)
  rw [h]
  exact Nat.le_trans (Nat.le_mul_of_pos_right _ hp) (Nat.le_add_right _ _)
theorem dec_big:dec 18446744073709551615=⟨#[49,56,52,52,54,55,52,52,48,55,51,55,48,57,53,53,49,54,49,53]⟩:=by
  have h:=decL_of (n:=20) (l:=[49,56,52,52,54,55,52,52,48,55,51,55,48,57,53,53,49,54,49,53]) rfl (by intro x hx;simp at hx;omega) ⟨by simp,fun _=>by decide⟩
  rw [dec_eq]
  rw [show sval [49,56,52,52,54,55,52,52,48,55,51,55,48,57,53,53,49,54,49,53]=18446744073709551615 from by decide +kernel] at h
  rw [←h]
  rfl
section
variable {E:CallRel}
theorem c190_ok {n:Nat} (hn:(decL n).length≤1000000000):Go.V.Call tab E 190 [.str (dec n)] [] (if n<18446744073709551616 then .tup [.int .u64 n,.bool true] else .tup [.int .u64 0,.bool false]) []:=by
  have h146:=c185_ok (E:=E) (a:=n) (b:=18446744073709551615)
  rw [dec_big] at h146
  refine Go.V.Call.mach i190 c190 rfl rfl rfl rfl ?_
  simp only [c190,go_sem]
  refine goP h146 ?_
  by_cases hb:n<18446744073709551616
  · have hc:¬(0:Int)<cmpZ n 18446744073709551615:=by
      unfold cmpZ
      split
      · omega
      · split<;>omega
    have hd:=decL_dig n
    have hv:=sval_decL n
    rw [dec_eq]
    generalize hL:decL n=L at *
    simp only [go_sem,hc,hb]
    refine mLoop (fun N st=>∃i:Nat,i≤L.length∧N=L.length - i∧st=⟨[(0,.str (bs L)),(4,.int .u64 ((sval (L.take i):Nat):Int)),(5,.int .i64 i)],[]⟩) L.length ⟨_,rfl,0,by omega,by omega,by simp [getE,sval_nil]⟩ ?_
    rintro N s0 ⟨i,hi,rfl,rfl⟩
    by_cases hlt:i<L.length
    · have hlt':(i:Int)<(L.length:Int):=by omega
      have hi0:(0:Int)≤(i:Int):=by omega
      have hi1:IntKind.i64.wrap ((i:Int)+1)=((i+1:Nat):Int):=by rw [wrap_i64 (by omega) (by omega)];omega
      have hgb:=bs_getK hlt
      have hx:=hd _ (show L.getD i 0∈L by simp [List.getD,hlt])
      obtain ⟨d,hxd,hd9⟩:∃d:Nat,L.getD i 0=48+(d:Int)∧d≤9:=⟨(L.getD i 0 - 48).toNat,by omega,by omega⟩
      have hu8:=u8n (x:=48+(d:Int)) (by omega)
      rw [hxd] at hgb
      have hs:sval (L.take (i+1))=10*sval (L.take i)+d:=by rw [take_snoc hlt,sval_snoc,hxd];omega
      have hle:=sval_take_le (l:=L) (i:=i+1)
      have w1:IntKind.u64.wrap (((sval (L.take i):Nat):Int)*10)=((sval (L.take i):Nat):Int)*10:=wrap_u64 (by omega) (by omega)
      have w2:IntKind.u8.wrap (48+(d:Int) - 48)=(d:Int):=by rw [wrap_u8 (by omega) (by omega)];omega
      have w3:IntKind.u64.wrap (d:Int)=(d:Int):=wrap_u64 (by omega) (by omega)
      have w4:IntKind.u64.wrap (((sval (L.take i):Nat):Int)*10+(d:Int))=((sval (L.take (i+1)):Nat):Int):=by rw [wrap_u64 (by omega) (by omega)];omega
      simp only [b190_0,go_sem,bs_size,hlt',hi0,Int.toNat_natCast,hgb,hu8,hxd,hi1,w1,w2,w3,w4]
      exact loopQ_go rfl (L.length - (i+1)) (by omega) ⟨i+1,by omega,rfl,rfl⟩
    · have hlt':¬(i:Int)<(L.length:Int):=by omega
      obtain rfl:i=L.length:=by omega
      simp only [b190_0,k190_0,go_sem,bs_size,hlt',Int.lt_irrefl,List.take_length,hv]
      simp only [i190,OT,reduceIte,Nat.reduceEqDiff,if_pos hb]
  · have hc:(0:Int)<cmpZ n 18446744073709551615:=by
      unfold cmpZ
      split
      · omega
      · split<;>omega
    simp only [go_sem,hc]
    simp only [i190,OT,reduceIte,Nat.reduceEqDiff,if_neg hb]
end
def ratG (n:Bool) (p q:Nat):List AV:=[us32 (limG p),.bool n,us32 (limG q)]
def numG (n:Bool) (p q:Nat):List AV:=[.bool n,.str (dec p),.str (dec q)]
def dn (q:Nat):Nat:=if q=0 then 1 else q
section
variable {E:CallRel}
theorem c154_nat {n:Nat}:Go.V.Call tab E 154 [natC n] [] (.bool (decide (n=0))) []:=by
  have h:=c154_ok (E:=E) (l:=limG n)
  by_cases h0:n=0
  · subst h0
    rw [limG_zero] at h
    rw [natC,limG_zero,decide_eq_true rfl]
    exact h
  · have:(((limG n).length:Int)==0)=false:=by
      rw [beq_eq_false_iff_ne]
      intro h1
      exact h0 (limG_len0 (by omega))
    rw [this] at h
    rw [decide_eq_false h0]
    exact h
theorem c137_gen {n:Bool} {p:Nat}:Go.V.Call tab E 137 [.agg [us32 (limG p),.bool n]] [] (.bool n) []:=by
  refine Go.V.Call.mach i137 c137 rfl rfl rfl rfl ?_
  simp only [c137,us32,go_sem,sub,FL]
  simp only [i137,OT,reduceIte,Nat.reduceEqDiff]
theorem c156_gen {n:Bool} {p:Nat}:Go.V.Call tab E 156 [.agg [us32 (limG p),.bool n]] [] (natC p) []:=by
  refine Go.V.Call.mach i156 c156 rfl rfl rfl rfl ?_
  simp only [c156,natC,us32,go_sem,sub,FL]
  simp only [i156,OT,reduceIte,Nat.reduceEqDiff,sub,FL,List.length_cons,List.length_nil,Nat.le_refl,us32]
theorem c126_gen {n:Bool} {p q:Nat}:Go.V.Call tab E 126 [.agg (ratG n p q)] [] (natC (dn q)) []:=by
  refine Go.V.Call.mach i126 c126 rfl rfl rfl rfl ?_
  have h124:=c154_nat (E:=E) (n:=q)
  simp only [natC,us32] at h124
  simp only [c126,natC,ratG,us32,go_sem,sub,FL]
  refine goP h124 ?_
  by_cases h:q=0
  · subst h
    have h90:=c149_nat (E:=E) (n:=1) (by omega)
    simp only [natC,us32] at h90
    simp only [dn,us32,go_sem,sub,FL]
    refine goP h90 ?_
    simp only [us32,go_sem,sub,FL]
    simp only [i126,OT,reduceIte,Nat.reduceEqDiff,sub,FL,List.length_cons,List.length_nil,Nat.le_refl,us32]
  · simp only [dn,us32,go_sem,sub,FL,h]
    simp only [i126,OT,reduceIte,Nat.reduceEqDiff,sub,FL,List.length_cons,List.length_nil,Nat.le_refl,us32]
theorem dgs_small {n:Nat} (h:n<lim2000):(dgs n).length≤1000000:=by
  by_cases h0:n=0
  · subst h0;rw [dgs_zero];simp
  · have:=lim2000_len h
    unfold decL at this
    rw [if_neg h0,List.length_reverse,asc_len] at this
    omega
theorem c138_lim {n:Nat} (h:n<lim2000):Go.V.Call tab E 138 [natC n] [] (.str (dec n)) []:=
  c138_ok (Nat.le_trans (lim2000_limbs h) (by omega)) (dgs_small h)
theorem c87_gen {n:Bool} {p q:Nat} (hp:p<lim2000) (hq:dn q<lim2000):Go.V.Call tab E 87 [.agg (ratG n p q)] [] (.agg (numG n p (dn q))) []:=by
  have h99:=c138_lim (E:=E) hp
  have h991:=c138_lim (E:=E) hq
  have h98:=c137_gen (E:=E) (n:=n) (p:=p)
  have h100:=c126_gen (E:=E) (n:=n) (p:=p) (q:=q)
  simp only [natC,us32,ratG] at h99 h991 h98 h100
  refine Go.V.Call.mach i87 c87 rfl rfl rfl rfl ?_
  simp only [c87,ratG,us32,go_sem,sub,FL]
  refine goP h98 ?_
  simp only [us32,go_sem,sub,FL]
  refine goP h99 ?_
  simp only [us32,go_sem,sub,FL]
  refine goP h100 ?_
  simp only [us32,go_sem,sub,FL]
  refine goP h991 ?_
  simp only [us32,go_sem,sub,FL]
  simp only [i87,OT,reduceIte,Nat.reduceEqDiff,sub,FL,List.length_cons,List.length_nil,Nat.le_refl,numG]
theorem c151_ok {n:Bool} {p:Nat}:Go.V.Call tab E 151 [.bool n,natC p] [] (.agg [us32 (limG p),.bool (n&&decide (p≠0))]) []:=by
  refine Go.V.Call.mach i151 c151 rfl rfl rfl rfl ?_
  have h124:=c154_nat (E:=E) (n:=p)
  simp only [natC,us32] at h124
  cases n with
  | false=>
    simp only [c151,natC,us32,go_sem,sub,FL]
    simp only [i151,OT,reduceIte,Nat.reduceEqDiff,sub,FL,List.length_cons,List.length_nil,Nat.le_refl,us32,Bool.false_and]
  | true=>
    simp only [c151,natC,us32,go_sem,sub,FL]
    refine goP h124 ?_
    by_cases h:p=0
    · subst h
      simp only [us32,go_sem,sub,FL]
      simp only [i151,OT,reduceIte,Nat.reduceEqDiff,sub,FL,List.length_cons,List.length_nil,Nat.le_refl,us32,Bool.true_and,decide_false,not_true_eq_false,ne_eq]
    · simp only [us32,go_sem,sub,FL,h]
      simp only [i151,OT,reduceIte,Nat.reduceEqDiff,sub,FL,List.length_cons,List.length_nil,Nat.le_refl,us32,Bool.true_and,decide_true,h,not_false_eq_true,ne_eq]
theorem c127_ok {n1 n2:Bool} {p q:Nat} (hq:q≠0) (hpl:(limG p).length≤1000000) (hql:(limG q).length≤1000000) :
    Go.V.Call tab E 127 [.agg [us32 (limG p),.bool n1],.agg [us32 (limG q),.bool n2]] [] (.tup [.agg (ratG ((n1 != n2)&&decide (p/Nat.gcd p q≠0)) (p/Nat.gcd p q) (q/Nat.gcd p q)),.bool true]) []:=by
  refine Go.V.Call.mach i127 c127 rfl rfl rfl rfl ?_
  have h124:=c154_nat (E:=E) (n:=q)
  rw [decide_eq_false hq] at h124
  have h136:=c156_gen (E:=E) (n:=n2) (p:=q)
  have h135:=c155_ok (E:=E) hpl hql
  have hg0:Nat.gcd p q≠0:=fun h=>hq (Nat.eq_zero_of_gcd_eq_zero_right h)
  have hgl:(limG (Nat.gcd p q)).length≤1000000:=by
    have:=limG_mono (Nat.gcd_le_right p (Nat.pos_of_ne_zero hq))
    omega
  have h137p:=c157_ok (E:=E) hpl hgl hg0
  have h137q:=c157_ok (E:=E) hql hgl hg0
  generalize Nat.gcd p q=g at *
  have h981:=c137_gen (E:=E) (n:=n1) (p:=p)
  have h982:=c137_gen (E:=E) (n:=n2) (p:=q)
  have h118:=c151_ok (E:=E) (n:=n1 != n2) (p:=p/g)
  generalize p/g=x at *
  generalize q/g=y at *
  simp only [natC,us32] at h124 h136 h135 h137p h137q h981 h982 h118
  have hb:boolV .ne (.bool n1) (.bool n2)=some (.bool (n1 != n2)):=by cases n1<;>cases n2<;>rfl
  simp only [c127,natC,us32,go_sem,sub,FL]
  refine goP h124 ?_
  simp only [us32,go_sem,sub,FL]
  refine goP h136 ?_
  simp only [us32,go_sem,sub,FL]
  refine goP h135 ?_
  simp only [us32,go_sem,sub,FL]
  refine goF h137p ?_
  simp only [us32,go_sem,sub,FL]
  refine goF h137q ?_
  simp only [us32,go_sem,sub,FL]
  refine goP h981 ?_
  simp only [us32,go_sem,sub,FL]
  refine goP h982 ?_
  simp only [us32,go_sem,sub,FL,hb]
  refine goF h118 ?_
  simp only [us32,go_sem,sub,FL]
  simp only [i127,OT,reduceIte,Nat.reduceEqDiff,sub,FL,List.length_cons,List.length_nil,Nat.le_refl,ratG,us32]
theorem c127_zero {n1 n2:Bool} {p:Nat}:Go.V.Call tab E 127 [.agg [us32 (limG p),.bool n1],.agg [us32 (limG 0),.bool n2]] [] (.tup [.agg (ratG false 0 0),.bool false]) []:=by
  have h124:=c154_nat (E:=E) (n:=0)
  rw [decide_eq_true rfl] at h124
  simp only [natC,us32,limG_zero] at h124
  simp only [ratG,us32,limG_zero]
  refine Go.V.Call.mach i127 c127 rfl rfl rfl rfl ?_
  simp only [c127,natC,us32,go_sem,sub,FL]
  refine goP h124 ?_
  simp only [us32,go_sem,sub,FL]
  simp only [i127,OT,reduceIte,Nat.reduceEqDiff,sub,FL,List.length_cons,List.length_nil,Nat.le_refl,ratG,us32]
  rfl
def RightN (n:Bool) (a b:List Int):Prop:=RightS a∧RightS b∧trimS a=a∧trimS b=b∧b≠[48]∧Nat.gcd (sval a) (sval b)=1∧¬(n=true∧a=[48])
theorem right_dec {a:List Int} (h:RightS a) (ht:trimS a=a):bs a=dec (sval a):=by
  rw [dec_eq,←trimS_dec h.1 (fun h0=>by have:=h.2.1;rw [h0] at this;simp at this),ht]
theorem right_zero {a:List Int} (h:RightS a) (ht:trimS a=a):sval a=0↔a=[48]:=by
  have h1:a=decL (sval a):=by
    rw [←trimS_dec h.1 (fun h0=>by have:=h.2.1;rw [h0] at this;simp at this),ht]
  refine ⟨fun h0=>?_,fun h0=>by rw [h0];rfl⟩
  rw [h1,h0]
  rfl
theorem trim_decL (n:Nat):trimS (decL n)=decL n:=by rw [trimS_dec (decL_dig n) (decL_ne n),sval_decL]
theorem str_eq' {a b:List Int} (ha:U8 a) (hb:U8 b):strOp .eq (bs a) (bs b)=some (.bool (decide (a=b))):=by simp only [strOp,str_eq ha hb]
theorem str_ne' {a b:List Int} (ha:U8 a) (hb:U8 b):strOp .ne (bs a) (bs b)=some (.bool (!decide (a=b))):=by simp only [strOp,str_eq ha hb]
theorem U8_48 {x:Int} (h:0≤x∧x<256):U8 [x]:=fun y hy=>by simp at hy;omega
theorem trimS_u8 {l:List Int} (h:U8 l):U8 (trimS l):=by
  induction l with
  | nil=>exact h
  | cons x l ih=>
    cases l with
    | nil=>exact h
    | cons y l=>
      rw [trimS]
      split
      · exact ih (U8_cons.1 h).2
      · exact h
theorem c106_ok {n ok:Bool} {a b:List Int} (ha:U8 a) (hb:U8 b) (hal:a.length≤1000000000) (hbl:b.length≤1000000000) (hok:ok=true↔RightN n a b) :
    Go.V.Call tab E 106 [.agg [.bool n,.str (bs a),.str (bs b)]] [] (.bool ok) []:=by
  refine Go.V.Call.mach i106 c106 rfl rfl rfl rfl ?_
  have hfalse:¬RightN n a b→ok=false:=fun h=>by rw [←Bool.not_eq_true,hok];exact h
  have e48:(⟨#[48]⟩:ByteArray)=bs [48]:=rfl
  have e49:(⟨#[49]⟩:ByteArray)=bs [49]:=rfl
  by_cases hRa:RightS a
  · have h119a:=c145_ok (E:=E) (b:=true) ha hal ⟨fun _=>hRa,fun _=>rfl⟩
    by_cases hRb:RightS b
    · have h119b:=c145_ok (E:=E) (b:=true) hb hbl ⟨fun _=>hRb,fun _=>rfl⟩
      have h120a:=c146_S (E:=E) ha hal
      have h120b:=c146_S (E:=E) hb hbl
      have na:=str_ne' (trimS_u8 ha) ha
      have nb:=str_ne' (trimS_u8 hb) hb
      have eb:=str_eq' hb (U8_48 (x:=48) (by omega))
      have ea:=str_eq' ha (U8_48 (x:=48) (by omega))
      rw [←e48] at eb ea
      by_cases hta:trimS a=a
      · by_cases htb:trimS b=b
        · by_cases hb48:b=[48]
          · have:=hfalse (fun h=>h.2.2.2.2.1 hb48)
            subst this
            rw [decide_eq_true hta,Bool.not_true] at na
            rw [decide_eq_true htb,Bool.not_true] at nb
            rw [decide_eq_true hb48] at eb
            simp only [c106,go_sem,sub,FL]
            refine goP h119a ?_
            simp only [go_sem,sub,FL]
            refine goP h119b ?_
            simp only [go_sem,sub,FL]
            refine goP h120a ?_
            simp only [go_sem,sub,FL,na]
            refine goP h120b ?_
            simp only [go_sem,sub,FL,nb,eb]
            simp only [i106,OT,reduceIte,Nat.reduceEqDiff]
          · have h121:=c147_ok (E:=E) (a:=sval a) (b:=sval b) (Right_lim hRa) (Right_lim hRb)
            rw [←right_dec hRa hta,←right_dec hRb htb,dec_eq] at h121
            have eg:=str_eq' (decL_dig (Nat.gcd (sval a) (sval b))).u8 (U8_48 (x:=49) (by omega))
            rw [←e49] at eg
            have hg1:decL (Nat.gcd (sval a) (sval b))=[49]↔Nat.gcd (sval a) (sval b)=1:=⟨fun h=>by rw [←sval_decL (Nat.gcd _ _),h];rfl,fun h=>by rw [h,decL_digit (by omega)];rfl⟩
            rw [decide_eq_true hta,Bool.not_true] at na
            rw [decide_eq_true htb,Bool.not_true] at nb
            rw [decide_eq_false hb48] at eb
            have fin:ok=(decide (decL (Nat.gcd (sval a) (sval b))=[49]) && !(n&&decide (a=[48]))):=by
              rw [Bool.eq_iff_iff,hok]
              simp only [RightN,Bool.and_eq_true,decide_eq_true_eq,Bool.not_eq_true',Bool.and_eq_false_iff,decide_eq_false_iff_not,hg1]
              constructor
              · rintro ⟨_,_,_,_,_,h6,h7⟩
                refine ⟨h6,?_⟩
                cases n with
                | false=>exact .inl rfl
                | true=>exact .inr (fun h=>h7 ⟨rfl,h⟩)
              · rintro ⟨h6,h7⟩
                refine ⟨hRa,hRb,hta,htb,hb48,h6,?_⟩
                rintro ⟨rfl,h8⟩
                rcases h7 with h7|h7
                · cases h7
                · exact h7 h8
            simp only [c106,go_sem,sub,FL]
            refine goP h119a ?_
            simp only [go_sem,sub,FL]
            refine goP h119b ?_
            simp only [go_sem,sub,FL]
            refine goP h120a ?_
            simp only [go_sem,sub,FL,na]
            refine goP h120b ?_
            simp only [go_sem,sub,FL,nb,eb]
            refine goP h121 ?_
            subst fin
            by_cases hg:decL (Nat.gcd (sval a) (sval b))=[49]
            · rw [decide_eq_true hg] at eg ⊢
              cases n with
              | false=>
                simp only [go_sem,sub,FL,eg]
                simp only [i106,OT,reduceIte,Nat.reduceEqDiff,Bool.false_and,Bool.not_false,Bool.true_and]
              | true=>
                cases hd:decide (a=[48])
                · rw [hd] at ea
                  simp only [go_sem,sub,FL,eg,ea]
                  simp only [i106,OT,reduceIte,Nat.reduceEqDiff,Bool.true_and,Bool.not_false]
                · rw [hd] at ea
                  simp only [go_sem,sub,FL,eg,ea]
                  simp only [i106,OT,reduceIte,Nat.reduceEqDiff,Bool.true_and,Bool.not_true]
            · rw [decide_eq_false hg] at eg ⊢
              simp only [go_sem,sub,FL,eg]
              simp only [i106,OT,reduceIte,Nat.reduceEqDiff,Bool.false_and]
        · have:=hfalse (fun h=>htb h.2.2.2.1)
          subst this
          rw [decide_eq_true hta,Bool.not_true] at na
          rw [decide_eq_false htb,Bool.not_false] at nb
          simp only [c106,go_sem,sub,FL]
          refine goP h119a ?_
          simp only [go_sem,sub,FL]
          refine goP h119b ?_
          simp only [go_sem,sub,FL]
          refine goP h120a ?_
          simp only [go_sem,sub,FL,na]
          refine goP h120b ?_
          simp only [go_sem,sub,FL,nb]
          simp only [i106,OT,reduceIte,Nat.reduceEqDiff]
      · have:=hfalse (fun h=>hta h.2.2.1)
        subst this
        rw [decide_eq_false hta,Bool.not_false] at na
        simp only [c106,go_sem,sub,FL]
        refine goP h119a ?_
        simp only [go_sem,sub,FL]
        refine goP h119b ?_
        simp only [go_sem,sub,FL]
        refine goP h120a ?_
        simp only [go_sem,sub,FL,na]
        simp only [i106,OT,reduceIte,Nat.reduceEqDiff]
    · have h119b:=c145_ok (E:=E) (b:=false) hb hbl ⟨fun h=>(by cases h),fun h=>absurd h hRb⟩
      have:=hfalse (fun h=>hRb h.2.1)
      subst this
      simp only [c106,go_sem,sub,FL]
      refine goP h119a ?_
      simp only [go_sem,sub,FL]
      refine goP h119b ?_
      simp only [go_sem,sub,FL]
      simp only [i106,OT,reduceIte,Nat.reduceEqDiff]
  · have h119a:=c145_ok (E:=E) (b:=false) ha hal ⟨fun h=>(by cases h),fun h=>absurd h hRa⟩
    have:=hfalse (fun h=>hRa h.1)
    subst this
    simp only [c106,go_sem,sub,FL]
    refine goP h119a ?_
    simp only [go_sem,sub,FL]
    simp only [i106,OT,reduceIte,Nat.reduceEqDiff]
end
theorem beq_bs {a b:List Int} (ha:U8 a) (hb:U8 b):(bs a==bs b)=decide (a=b):=by
  by_cases h:a=b
  · subst h
    rw [beqBA,decide_eq_true rfl]
  · rw [decide_eq_false h]
    have h2:u8l a≠u8l b:=fun e=>h (u8l_inj ha hb e)
    show (((u8l a).toArray:Array UInt8)==(u8l b).toArray)=false
    simpa using h2
theorem num_same {n m:Bool} {a b c d:List Int} (ha:U8 a) (hb:U8 b) (hc:U8 c) (hd:U8 d) :
    structV .eq [0,2,2] (.agg [.bool n,.str (bs a),.str (bs b)]) (.agg [.bool m,.str (bs c),.str (bs d)])=some (.bool (decide (n=m∧a=c∧b=d))):=by
  have h1:([AV.bool n,AV.str (bs a),AV.str (bs b)]).map kindOf=[0,2,2]:=rfl
  have h2:([AV.bool m,AV.str (bs c),AV.str (bs d)]).map kindOf=[0,2,2]:=rfl
  simp only [structV,h1,h2,and_self,if_true,scalarsEq,scalEq,beq_bs ha hc,beq_bs hb hd]
  by_cases e1:n=m
  · have:(n==m)=true:=by rw [e1];cases m<;>rfl
    rw [this]
    by_cases e2:a=c
    · rw [decide_eq_true e2]
      by_cases e3:b=d
      · rw [decide_eq_true e3];simp [e1,e2,e3]
      · rw [decide_eq_false e3];simp [e3]
    · rw [decide_eq_false e2];simp [e2]
  · have:(n==m)=false:=by revert e1;cases n<;>cases m<;>simp
    rw [this];simp [e1]
section
variable {E:CallRel}
theorem c113_ok {n ok:Bool} {a b:List Int} (ha:U8 a) (hb:U8 b) (hal:a.length≤1000000000) (hbl:b.length≤1000000000) (hok:ok=true↔RightN n a b) :
    ∃(n':Bool) (p q:Nat),(ok=true→n'=n∧p=sval a∧q=sval b)∧Go.V.Call tab E 113 [.agg [.bool n,.str (bs a),.str (bs b)]] [] (.tup [.agg (ratG n' p q),.bool ok]) []:=by
  have hfalse:¬RightN n a b→ok=false:=fun h=>by rw [←Bool.not_eq_true,hok];exact h
  have pa:∀b':Bool,(b'=true↔RightS a)→_:=fun b' h=>c150_ok (E:=E) (b:=b') ha hal h
  have pb:∀b':Bool,(b'=true↔RightS b)→_:=fun b' h=>c150_ok (E:=E) (b:=b') hb hbl h
  by_cases hRa:RightS a
  · have h116a:=pa true ⟨fun _=>hRa,fun _=>rfl⟩
    by_cases hRb:RightS b
    · have h116b:=pb true ⟨fun _=>hRb,fun _=>rfl⟩
      simp only [if_true] at h116a h116b
      have h118a:=c151_ok (E:=E) (n:=n) (p:=sval a)
      have h118b:=c151_ok (E:=E) (n:=false) (p:=sval b)
      have la:=lim2000_limbs (Right_lim hRa)
      have lb:=lim2000_limbs (Right_lim hRb)
      by_cases hq:sval b=0
      · have:=hfalse (fun h=>h.2.2.2.2.1 ((right_zero hRb h.2.2.2.1).1 hq))
        subst this
        refine ⟨false,0,0,fun h=>(by cases h),?_⟩
        rw [hq] at h116b h118b
        have h117:=c127_zero (E:=E) (n1:=n&&decide (sval a≠0)) (n2:=false&&decide (0≠0)) (p:=sval a)
        simp only [natC,us32,ratG] at h116a h116b h118a h118b h117 ⊢
        refine Go.V.Call.mach i113 c113 rfl rfl rfl rfl ?_
        simp only [c113,us32,go_sem,sub,FL]
        refine goP h116a ?_
        simp only [us32,go_sem,sub,FL]
        refine goP h116b ?_
        simp only [us32,go_sem,sub,FL]
        refine goF h118a ?_
        simp only [us32,go_sem,sub,FL]
        refine goF h118b ?_
        simp only [us32,go_sem,sub,FL]
        refine goP h117 ?_
        simp only [us32,go_sem,sub,FL,List.all_cons,List.all_nil,Nat.reduceBNe,Bool.and_true]
        simp only [i113,OT,reduceIte,Nat.reduceEqDiff,sub,FL,List.length_cons,List.length_nil,Nat.le_refl,us32]
      · have hqp:=Nat.pos_of_ne_zero hq
        have h117:=c127_ok (E:=E) (n1:=n&&decide (sval a≠0)) (n2:=false&&decide (sval b≠0)) (p:=sval a) (q:=sval b) hq (by omega) (by omega)
        have hgp:0<Nat.gcd (sval a) (sval b):=Nat.gcd_pos_of_pos_right _ hqp
        have hy0:sval b/Nat.gcd (sval a) (sval b)≠0:=by
          have h1:=Nat.gcd_le_right (sval a) hqp
          have:=(Nat.div_pos h1 hgp)
          omega
        have hxl:sval a/Nat.gcd (sval a) (sval b)<lim2000:=Nat.lt_of_le_of_lt (Nat.div_le_self _ _) (Right_lim hRa)
        have hyl:sval b/Nat.gcd (sval a) (sval b)<lim2000:=Nat.lt_of_le_of_lt (Nat.div_le_self _ _) (Right_lim hRb)
        have hdn:dn (sval b/Nat.gcd (sval a) (sval b))=sval b/Nat.gcd (sval a) (sval b):=by rw [dn,if_neg hy0]
        have hdiv1:sval b/Nat.gcd (sval a) (sval b)=sval b→Nat.gcd (sval a) (sval b)=1:=fun h=>by
          rcases Nat.lt_or_ge 1 (Nat.gcd (sval a) (sval b)) with h1|h1
          · have:=Nat.div_lt_self hqp h1
            omega
          · omega
        refine ⟨((n&&decide (sval a≠0)) != (false&&decide (sval b≠0)))&&decide (sval a/Nat.gcd (sval a) (sval b)≠0),sval a/Nat.gcd (sval a) (sval b),sval b/Nat.gcd (sval a) (sval b),?_,?_⟩
        rotate_left
        · have h74:=c87_gen (E:=E) (n:=((n&&decide (sval a≠0)) != (false&&decide (sval b≠0)))&&decide (sval a/Nat.gcd (sval a) (sval b)≠0)) hxl (by rw [hdn];exact hyl)
          have hsame:=num_same (n:=((n&&decide (sval a≠0)) != (false&&decide (sval b≠0)))&&decide (sval a/Nat.gcd (sval a) (sval b)≠0)) (m:=n) (decL_dig (sval a/Nat.gcd (sval a) (sval b))).u8 (decL_dig (sval b/Nat.gcd (sval a) (sval b))).u8 ha hb
          have hokd:decide ((((n&&decide (sval a≠0)) != (false&&decide (sval b≠0)))&&decide (sval a/Nat.gcd (sval a) (sval b)≠0))=n∧decL (sval a/Nat.gcd (sval a) (sval b))=a∧decL (sval b/Nat.gcd (sval a) (sval b))=b)=ok:=by
            rw [Bool.eq_iff_iff,hok,decide_eq_true_eq]
            constructor
            · rintro ⟨e1,e2,e3⟩
              have s1:=congrArg sval e2
              rw [sval_decL] at s1
              have s2:=congrArg sval e3
              rw [sval_decL] at s2
              refine ⟨hRa,hRb,by rw [←e2];exact trim_decL _,by rw [←e3];exact trim_decL _,?_,hdiv1 s2,?_⟩
              · rintro rfl
                exact hq rfl
              · rintro ⟨rfl,rfl⟩
                have:sval [48]=0:=rfl
                rw [this] at e1
                simp at e1
            · rintro ⟨_,_,t1,t2,_,g1,g2⟩
              rw [g1,Nat.div_one,Nat.div_one]
              refine ⟨?_,?_,?_⟩
              · cases n with
                | false=>simp
                | true=>
                  have:sval a≠0:=fun h=>g2 ⟨rfl,(right_zero hRa t1).1 h⟩
                  simp [this]
              · rw [←trimS_dec hRa.1 (fun h0=>by have:=hRa.2.1;rw [h0] at this;simp at this),t1]
              · rw [←trimS_dec hRb.1 (fun h0=>by have:=hRb.2.1;rw [h0] at this;simp at this),t2]
          rw [hokd,←dec_eq,←dec_eq] at hsame
          rw [hdn] at h74
          simp only [natC,us32,ratG,numG] at h116a h116b h118a h118b h117 h74 ⊢
          refine Go.V.Call.mach i113 c113 rfl rfl rfl rfl ?_
          simp only [c113,us32,go_sem,sub,FL]
          refine goP h116a ?_
          simp only [us32,go_sem,sub,FL]
          refine goP h116b ?_
          simp only [us32,go_sem,sub,FL]
          refine goF h118a ?_
          simp only [us32,go_sem,sub,FL]
          refine goF h118b ?_
          simp only [us32,go_sem,sub,FL]
          refine goP h117 ?_
          simp only [us32,go_sem,sub,FL]
          refine goR h74 rfl ?_
          simp only [us32,go_sem,sub,FL,hsame,List.all_cons,List.all_nil,Nat.reduceBNe,Bool.and_true]
          simp only [i113,OT,reduceIte,Nat.reduceEqDiff,sub,FL,List.length_cons,List.length_nil,Nat.le_refl,us32]
        · intro ht
          obtain ⟨_,_,t1,t2,_,g1,g2⟩:=hok.1 ht
          rw [g1,Nat.div_one,Nat.div_one]
          refine ⟨?_,rfl,rfl⟩
          cases n with
          | false=>simp
          | true=>
            have:sval a≠0:=fun h=>g2 ⟨rfl,(right_zero hRa t1).1 h⟩
            simp [this]
    · have h116b:=pb false ⟨fun h=>(by cases h),fun h=>absurd h hRb⟩
      have:=hfalse (fun h=>hRb h.2.1)
      subst this
      refine ⟨false,0,0,fun h=>(by cases h),?_⟩
      simp only [if_true,if_false,Bool.false_eq_true] at h116a h116b
      simp only [natC,us32,ratG,limG_zero] at h116a h116b ⊢
      refine Go.V.Call.mach i113 c113 rfl rfl rfl rfl ?_
      simp only [c113,us32,go_sem,sub,FL]
      refine goP h116a ?_
      simp only [us32,go_sem,sub,FL]
      refine goP h116b ?_
      simp only [us32,go_sem,sub,FL]
      simp only [i113,OT,reduceIte,Nat.reduceEqDiff,sub,FL,List.length_cons,List.length_nil,Nat.le_refl,us32]
      rfl
  · have h116a:=pa false ⟨fun h=>(by cases h),fun h=>absurd h hRa⟩
    have:=hfalse (fun h=>hRa h.1)
    subst this
    have h116b:∃(x:Nat) (t:Bool),Go.V.Call tab E 150 [.str (bs b)] [] (.tup [natC x,.bool t]) []:=by
      by_cases hRb:RightS b
      · exact ⟨_,_,pb true ⟨fun _=>hRb,fun _=>rfl⟩⟩
      · exact ⟨_,_,pb false ⟨fun h=>(by cases h),fun h=>absurd h hRb⟩⟩
    obtain ⟨x,t,h116b⟩:=h116b
    refine ⟨false,0,0,fun h=>(by cases h),?_⟩
    simp only [if_true,if_false,Bool.false_eq_true] at h116a
    simp only [natC,us32,ratG,limG_zero] at h116a h116b ⊢
    refine Go.V.Call.mach i113 c113 rfl rfl rfl rfl ?_
    simp only [c113,us32,go_sem,sub,FL]
    refine goP h116a ?_
    simp only [us32,go_sem,sub,FL]
    refine goP h116b ?_
    simp only [us32,go_sem,sub,FL]
    simp only [i113,OT,reduceIte,Nat.reduceEqDiff,sub,FL,List.length_cons,List.length_nil,Nat.le_refl,us32]
    rfl
end
abbrev Nm:=Bool × List Int × List Int
abbrev Rt:=Bool × Nat × Nat
def nmC (x:Nm):List AV:=[.bool x.1,.str (bs x.2.1),.str (bs x.2.2)]
def rtC (x:Rt):List AV:=ratG x.1 x.2.1 x.2.2
def nmsC (l:List Nm):List AV:=l.flatMap nmC
def rtsC (l:List Rt):List AV:=l.flatMap rtC
def nmAt (l:List Nm) (i:Nat):Nm:=l.getD i (false,[],[])
def rtAt (l:List Rt) (i:Nat):Rt:=l.getD i (false,0,0)
def arrX (s:List Int) (ch:Bool) (t:List Int) (l:List Rt):List AV:=[ints s,.bool ch,runes t,.sl l.length 3 (rtsC l),.bool true]
def plX (s:List Int) (ch:Bool) (t:List Int) (l:List Nm):List AV:=[ints s,.bool ch,runes t,.sl l.length 3 (nmsC l)]
def toNm (x:Rt):Nm:=(x.1,decL x.2.1,decL (dn x.2.2))
def toRt (x:Nm):Rt:=(x.1,sval x.2.1,sval x.2.2)
theorem flat_len {α:Type} {f:α→List AV} (hf:∀x,(f x).length=3):∀{l:List α},(l.flatMap f).length=l.length*3
  | []=>rfl
  | z::l=>by rw [List.flatMap_cons,List.length_append,hf,flat_len hf,List.length_cons];omega
theorem flat_get {α:Type} {f:α→List AV} (hf:∀x,(f x).length=3) {d:α}:∀{l:List α} {i:Nat},i<l.length→((l.flatMap f).drop (i*3)).take 3=f (l.getD i d)
  | [],i,h=>by simp at h
  | z::l,0,_=>by
    rw [List.flatMap_cons,Nat.zero_mul,List.drop_zero,List.take_append_of_le_length (by rw [hf];omega),List.take_of_length_le (by rw [hf];omega)]
    rfl
  | z::l,i+1,h=>by
    rw [List.flatMap_cons,Nat.succ_mul,List.drop_append,List.drop_eq_nil_of_le (by rw [hf];omega),hf,Nat.add_sub_cancel,List.nil_append,flat_get hf (d:=d) (by simpa using h)]
    simp
theorem sub_flat {α:Type} {f:α→List AV} (hf:∀x,(f x).length=3) {d:α} {l:List α} {i:Nat} (h:i<l.length):sub true 3 (l.flatMap f) (i*3)=some (.agg (f (l.getD i d))):=by
  simp only [sub,flat_len hf,if_true]
  rw [if_pos (by omega),flat_get hf h]
theorem sub_flat1 {α:Type} {f:α→List AV} (hf:∀x,(f x).length=3) {d:α} {l:List α} {i k:Nat} (h:i<l.length) (hk:k<3):sub false 1 (l.flatMap f) (i*3+k)=(f (l.getD i d))[k]?:=by
  simp only [sub,flat_len hf,if_true,Bool.false_eq_true,if_false]
  rw [if_pos (by omega),←flat_get hf h,List.getElem?_take,if_pos hk,List.getElem?_drop]
theorem sub_nms {l:List Nm} {i:Nat} (h:i<l.length):sub true 3 (nmsC l) (i*3)=some (.agg (nmC (nmAt l i))):=sub_flat (fun _=>rfl) h
theorem sub_rts {l:List Rt} {i:Nat} (h:i<l.length):sub true 3 (rtsC l) (i*3)=some (.agg (rtC (rtAt l i))):=sub_flat (fun _=>rfl) h
theorem sub_nms1 {l:List Nm} {i:Nat} (h:i<l.length):sub false 1 (nmsC l) (i*3+1)=some (.str (bs (nmAt l i).2.1)):=sub_flat1 (fun _=>rfl) h (by omega)
theorem sub_nms2 {l:List Nm} {i:Nat} (h:i<l.length):sub false 1 (nmsC l) (i*3+2)=some (.str (bs (nmAt l i).2.2)):=sub_flat1 (fun _=>rfl) h (by omega)
theorem takeAt {α:Type} {l:List α} {i:Nat} {d:α} (h:i<l.length):l.take (i+1)=l.take i++[l.getD i d]:=by
  rw [List.take_add_one,List.getElem?_eq_getElem h]
  simp [List.getD,h]
theorem nmsC_snoc {l:List Nm} {x:Nm}:nmsC (l++[x])=nmsC l++nmC x:=by simp [nmsC]
theorem rtsC_snoc {l:List Rt} {x:Rt}:rtsC (l++[x])=rtsC l++rtC x:=by simp [rtsC]
theorem nmC_dec {x:Rt}:numG x.1 x.2.1 (dn x.2.2)=nmC (toNm x):=by
  simp only [numG,nmC,toNm,dec_eq]
theorem subX1 {a b c d e:AV}:sub false 1 [a,b,c,d,e] 1=some b:=rfl
theorem subX2 {a b c d e:AV}:sub false 1 [a,b,c,d,e] 2=some c:=rfl
theorem c55_X {s t:List Int} {l:List Rt} {ch:Bool} (ht:(t.length:Int)≤1000000000000) (hl:(l.length:Int)≤1000000000000):Go.V.Call tab E 55 [.agg (arrX s ch t l)] [] (.int .i64 ((t.length+l.length:Nat):Int)) []:=by
  refine Go.V.Call.mach i55 c55 rfl rfl rfl rfl ?_
  have w:IntKind.i64.wrap ((t.length:Int)+(l.length:Int))=((t.length+l.length:Nat):Int):=by rw [wrap_i64 (by omega) (by omega)];omega
  simp only [c55,arrX,runes,go_sem,sub,FL,w]
  simp only [i55,OT,reduceIte,Nat.reduceEqDiff]
theorem c20_ok {s t:List Int} {l:List Nm} {ch:Bool} (ht:(t.length:Int)≤1000000000000) (hl:(l.length:Int)≤1000000000000):Go.V.Call tab E 20 [.agg (plX s ch t l)] [] (.int .i64 ((t.length+l.length:Nat):Int)) []:=by
  refine Go.V.Call.mach i20 c20 rfl rfl rfl rfl ?_
  have w:IntKind.i64.wrap ((t.length:Int)+(l.length:Int))=((t.length+l.length:Nat):Int):=by rw [wrap_i64 (by omega) (by omega)];omega
  simp only [c20,plX,runes,go_sem,sub,FL,w]
  simp only [i20,OT,reduceIte,Nat.reduceEqDiff]
theorem c48_X {s t:List Int} {l:List Rt} {ch:Bool} (hs:(s.length:Int)≤1000000000000):Go.V.Call tab E 48 [.agg (arrX s ch t l)] [] (ints s) []:=by
  refine Go.V.Call.mach i48 c48 rfl rfl rfl rfl ?_
  simp only [c48,arrX,runes,go_sem,sub,FL]
  refine goO (c110_ok hs) rfl rfl ?_
  simp only [go_sem,FL]
  simp only [i48,OT,reduceIte,Nat.reduceEqDiff]
theorem c59_X {s t:List Int} {l:List Rt} {ch:Bool} (ht:(t.length:Int)≤1000000000000):Go.V.Call tab E 59 [.agg (arrX s ch t l)] [] (.arr 0 0) [⟨false,21,1,0,t.length,nums .i32 t,false⟩]:=by
  refine Go.V.Call.mach i59 c59 rfl rfl rfl rfl ?_
  simp only [c59,arrX,runes,go_sem,sub,FL]
  refine goO (c112_ok ht) rfl rfl ?_
  simp only [go_sem,FL]
  simp only [i59,OT,reduceIte,Nat.reduceEqDiff,ownOut,ownL,ownV,scalar,List.contains_nil,List.length_nil,List.length_cons,List.nil_append,List.cons_append,storeOp,apartOf,freeze_nil,refsL,refs,List.flatMap_cons,List.flatMap_nil,List.append_nil,List.contains_nil,List.set_cons_zero,List.set_cons_succ,snap,snapL,fill_nums,flat_nums,nums_length,reduceCtorEq,Bool.false_eq_true,and_self,not_false_eq_true,beq_self_eq_true,Nat.zero_add]
def pickR (l:List Rt) (k:Int):Rt:=if 0≤k∧k<l.length then rtAt l k.toNat else (false,0,0)
theorem c62_ok {s t:List Int} {l:List Rt} {ch:Bool} {k:Int} (hl:(l.length:Int)≤1000000000000):Go.V.Call tab E 62 [.agg (arrX s ch t l),.int .i64 k] [] (.agg (rtC (pickR l k))) []:=by
  have hz:rtC (false,0,0)=[.sl 0 1 [],.bool false,.sl 0 1 []]:=by
    simp only [rtC,ratG,limG_zero,us32];rfl
  by_cases h1:k<0
  · have hp:pickR l k=(false,0,0):=by rw [pickR,if_neg (by omega)]
    rw [hp,hz]
    refine Go.V.Call.mach i62 c62 rfl rfl rfl rfl ?_
    simp only [c62,arrX,runes,go_sem,sub,FL,h1]
    simp only [i62,OT,reduceIte,Nat.reduceEqDiff,sub,FL,List.length_cons,List.length_nil,Nat.le_refl]
  · by_cases h2:(l.length:Int)≤k
    · have hp:pickR l k=(false,0,0):=by rw [pickR,if_neg (by omega)]
      rw [hp,hz]
      refine Go.V.Call.mach i62 c62 rfl rfl rfl rfl ?_
      simp only [c62,arrX,runes,go_sem,sub,FL,h1,h2]
      simp only [i62,OT,reduceIte,Nat.reduceEqDiff,sub,FL,List.length_cons,List.length_nil,Nat.le_refl]
    · have hp:pickR l k=rtAt l k.toNat:=by rw [pickR,if_pos (by omega)]
      rw [hp]
      obtain ⟨j,rfl⟩:=Int.eq_ofNat_of_zero_le (show 0≤k by omega)
      rw [Int.toNat_natCast]
      have hsub:=sub_rts (l:=l) (i:=j) (by omega)
      have h3:(0:Int)≤(j:Int):=by omega
      have h4:(j:Int)<(l.length:Int):=by omega
      have subA3':∀{a b c d e:AV},sub false 1 [a,b,c,d,e] (0+3)=some d:=fun {a b c d e}=>rfl
      refine Go.V.Call.mach i62 c62 rfl rfl rfl rfl ?_
      simp only [c62,arrX,runes,go_sem,subA3,subA3',FL,h1,h2,h3,h4,Int.toNat_natCast,hsub,rtC,ratG,us32]
      simp only [i62,OT,reduceIte,Nat.reduceEqDiff,sub,FL,List.length_cons,List.length_nil,Nat.le_refl,us32]
def RtOk (x:Rt):Prop:=x.2.1<lim2000∧dn x.2.2<lim2000
theorem c31_X {s t:List Int} {l:List Rt} {ch:Bool} (hs:(s.length:Int)≤1000000000000) (ht:(t.length:Int)≤1000000000000) (hl:(l.length:Int)≤1000000000000) (hz:∀z∈l,RtOk z):Go.V.Call tab E 31 [.agg (arrX s ch t l)] [] (.agg (plX s ch t (l.map toNm))) []:=by
  refine Go.V.Call.mach i31 c31 rfl rfl rfl rfl ?_
  have h69:=c48_X (s:=s) (t:=t) (l:=l) (ch:=ch) hs
  have h76:=c59_X (s:=s) (t:=t) (l:=l) (ch:=ch) ht
  simp only [arrX,runes,ints] at h69 h76
  simp only [c31,arrX,runes,go_sem,subA5,subX1,subA3,FL]
  refine goP h69 ?_
  simp only [go_sem,subA5,subX1,subA3,FL]
  refine goZ (r':=runes t) h76 rfl ?_
  simp only [runes,go_sem,subA5,subX1,subA3,FL]
  refine mLoop (fun N st=>∃(i:Nat),i≤l.length∧N=l.length - i∧
    st=⟨[(2,.loc 4 0 0),(3,.loc 8 0 0),(14,.sl l.length 3 (rtsC l)),(15,.int .i64 l.length),(16,.int .i64 i)],
      [⟨true,35,5,0,1,arrX s ch t l,false⟩,⟨false,3,1,0,0,[],false⟩,⟨false,21,1,0,0,[],false⟩,⟨false,72,3,0,0,[],false⟩,⟨true,26,4,0,1,[.arr 1 0,.bool false,.arr 2 0,.arr 3 0],false⟩,
       ⟨false,3,1,0,0,[],false⟩,⟨false,21,1,0,0,[],false⟩,⟨false,72,3,0,0,[],false⟩,⟨true,26,4,0,1,[ints s,.bool ch,runes t,.arr 9 i],false⟩,⟨false,72,3,i,i,nmsC ((l.take i).map toNm),false⟩]⟩) l.length
    ⟨_,rfl,0,by omega,by omega,by simp [getE,ints,runes,arrX,nmsC]⟩ ?_
  rintro N s0 ⟨i,hi,rfl,rfl⟩
  by_cases hlt:i<l.length
  · have hlt':(i:Int)<(l.length:Int):=by omega
    have hi0:(0:Int)≤(i:Int):=by omega
    have hi1:IntKind.i64.wrap ((i:Int)+1)=((i+1:Nat):Int):=by rw [wrap_i64 (by omega) (by omega)];omega
    have hsub:=sub_rts hlt
    obtain ⟨hz1,hz2⟩:RtOk (rtAt l i):=hz _ (by simp [rtAt,List.getD,hlt])
    have htk:l.take (i+1)=l.take i++[rtAt l i]:=takeAt hlt
    have hmt:nmsC ((l.take (i+1)).map toNm)=nmsC ((l.take i).map toNm)++nmC (toNm (rtAt l i)):=by rw [htk,List.map_append,List.map_cons,List.map_nil,nmsC_snoc]
    have e1:(i+1)*40≤140737488355328:=by omega
    have e2:i+1≤140737488355328:=by omega
    have h74:=c87_gen (E:=E) (n:=(rtAt l i).1) hz1 hz2
    rw [nmC_dec] at h74
    generalize rtAt l i=x at *
    simp only [ratG,us32,nmC] at h74
    simp only [b31_0,arrX,runes,go_sem,hlt',hi0,Int.toNat_natCast,hsub,rtC,ratG,us32,subT3,subP3,subP3',FL]
    refine goR h74 rfl ?_
    simp only [go_sem,FL,hi1,e1,e2,List.flatten_cons,List.flatten_nil,Option.getD_some,subP3,subP3']
    refine loopQ_go rfl (l.length - (i+1)) (by omega) ⟨i+1,by omega,rfl,?_⟩
    rw [hmt]
    rfl
  · have hlt':¬(i:Int)<(l.length:Int):=by omega
    obtain rfl:i=l.length:=by omega
    simp only [b31_0,k31_0,arrX,runes,go_sem,hlt',List.take_length,subP4,FL]
    simp only [i31,OT,reduceIte,Nat.reduceEqDiff,plX,runes,subP4,List.length_map]
theorem c86_gen {t u:List Int} (ht:(t.length:Int)≤1000000000000) (hu:(u.length:Int)≤1000000000000):Go.V.Call tab E 86 [runes t,runes u] [] (.bool (decide (t=u))) []:=by
  refine Go.V.Call.mach i86 c86 rfl rfl rfl rfl ?_
  by_cases hl:t.length=u.length
  · have q:((t.length:Int) != (u.length:Int))=false:=by rw [bne_eq_false_iff_eq];omega
    simp only [c86,runes,go_sem,q]
    refine mLoop (fun N st=>∃(k:Nat),k≤t.length∧N=t.length - k∧t.take k=u.take k∧
      st=⟨[(0,runes t),(1,runes u),(5,.int .i64 k)],[]⟩) t.length ⟨_,rfl,0,by omega,by omega,rfl,rfl⟩ ?_
    rintro N s0 ⟨k,hk,rfl,htu,rfl⟩
    by_cases hlt:k<t.length
    · have hlt':(k:Int)<(t.length:Int):=by omega
      have hlt2:(k:Int)<(u.length:Int):=by omega
      have hk0:(0:Int)≤(k:Int):=by omega
      have hk1:IntKind.i64.wrap ((k:Int)+1)=((k+1:Nat):Int):=by rw [wrap_i64 (by omega) (by omega)];omega
      have hsub:=sub_nums (k:=.i32) hlt
      have hsub2:=sub_nums (k:=.i32) (l:=u) (i:=k) (by omega)
      have h1:=take_snoc hlt
      have h2:=take_snoc (l:=u) (m:=k) (by omega)
      by_cases hxy:t.getD k 0=u.getD k 0
      · have q2:(t.getD k 0 != u.getD k 0)=false:=by rw [bne_eq_false_iff_eq];exact hxy
        simp only [b86_0,runes,go_sem,hlt',hlt2,hk0,Int.toNat_natCast,hsub,hsub2,q2,hk1]
        exact loopQ_go rfl (t.length - (k+1)) (by omega) ⟨k+1,by omega,rfl,by rw [h1,h2,htu,hxy],rfl⟩
      · have q2:(t.getD k 0 != u.getD k 0)=true:=by rw [bne_iff_ne];exact hxy
        have hne:¬t=u:=fun h=>hxy (by rw [h])
        simp only [b86_0,runes,go_sem,hlt',hlt2,hk0,Int.toNat_natCast,hsub,hsub2,q2]
        simp only [i86,OT,reduceIte,Nat.reduceEqDiff,decide_eq_false hne]
    · have hlt':¬(k:Int)<(t.length:Int):=by omega
      have he:t=u:=by
        rw [List.take_of_length_le (by omega),List.take_of_length_le (by omega)] at htu
        exact htu
      subst he
      simp only [b86_0,k86_0,runes,go_sem,hlt']
      simp only [i86,OT,reduceIte,Nat.reduceEqDiff,decide_true]
  · have q:((t.length:Int) != (u.length:Int))=true:=by rw [bne_iff_ne];omega
    have hne:¬t=u:=fun h=>hl (by rw [h])
    simp only [c86,runes,go_sem,q]
    simp only [i86,OT,reduceIte,Nat.reduceEqDiff,decide_eq_false hne]
end Go.Proofs.YtlejgleocnemoaaGreat.I

namespace Go.Proofs.YtlejgleocnemoaaGreat.I
open Go Go.V Go.ChangeShapes Go.WideShapes Go.Deep
section
variable {H:Type} {enc:TypeId × Value→H} {P:Program} {w:World} {spare:Nat→Bool} {held:Bool}
theorem open_num1 {e:TypeId} {f0 f1 f2:Field} {fuel:Nat} {a:Addr} {cs:List Value} {y:DataW H × List MemPlace} (he:P.underlying e=some (.struct #[f0,f1,f2])) (hone:oneCellFields P #[f0,f1,f2]=true)
    (h0:P.underlying f0.type=some .bool) (h1:P.underlying f1.type=some .string) (h2:P.underlying f2.type=some .string) (hc:w.cells? 0 a 3=some cs) (h:DataW.trod enc P w 0 spare held fuel e cs=some y) :
    ∃q:Nm,(w.cell? (a.add 0)=some (.bool q.1)∧w.cell? (a.add 1)=some (.string (bs q.2.1))∧w.cell? (a.add 2)=some (.string (bs q.2.2)))∧U8 q.2.1∧U8 q.2.2∧q.2.1.length≤maxLen∧q.2.2.length≤maxLen:=by
  obtain ⟨_,hlen,hcell⟩:=World.cells?_some hc
  obtain ⟨xs,k,_,_,_,hxl,hf⟩:=DataW.trod_struct he h
  obtain ⟨o0,k0⟩:=hone_of hone 0 f0 rfl
  obtain ⟨o1,k1⟩:=hone_of hone 1 f1 rfl
  obtain ⟨o2,k2⟩:=hone_of hone 2 f2 rfl
  match xs,hxl,cs,hlen with
  | [y0,y1,y2],_,[v0,v1,v2],_=>
    have g0:=hf 0 f0 rfl
    have g1:=hf 1 f1 rfl
    have g2:=hf 2 f2 rfl
    simp [o0,k0] at g0
    simp [o1,k1] at g1
    simp [o2,k2] at g2
    obtain ⟨b,hb,_⟩:=DataW.trod_bool h0 g0
    obtain ⟨s1,hs1,_,hm1⟩:=DataW.trod_string h1 g1
    obtain ⟨s2,hs2,_,hm2⟩:=DataW.trod_string h2 g2
    obtain ⟨l1,hu1,rfl⟩:=bs_all s1
    obtain ⟨l2,hu2,rfl⟩:=bs_all s2
    simp only [List.cons.injEq,and_true] at hb hs1 hs2
    subst hb;subst hs1;subst hs2
    have c0:=hcell 0 (by omega)
    have c1:=hcell 1 (by omega)
    have c2:=hcell 2 (by omega)
    rw [bs_size] at hm1 hm2
    exact ⟨(b,l1,l2),⟨by simpa using c0,by simpa using c1,by simpa using c2⟩,hu1,hu2,hm1,hm2⟩
theorem open_nums {t e:TypeId} {f0 f1 f2:Field} {fuel:Nat} {cs:List Value} {x:DataW H × List MemPlace} (ht:P.underlying t=some (.slice e)) (he:P.underlying e=some (.struct #[f0,f1,f2])) (hone:oneCellFields P #[f0,f1,f2]=true)
    (hC:P.cellsOf e=3) (h0:P.underlying f0.type=some .bool) (h1:P.underlying f1.type=some .string) (h2:P.underlying f2.type=some .string) (h:DataW.trod enc P w 0 spare held fuel t cs=some x) :
    ∃(a:Option Addr) (len cap:Nat) (l:List Nm),cs=[.slice a len cap]∧l.length=len∧len≤maxLen∧(∀q∈l,U8 q.2.1∧U8 q.2.2∧q.2.1.length≤maxLen∧q.2.2.length≤maxLen)∧RG w (fun b=>b<w.heap.size) (.sl l.length 3 (nmsC l)) (.slice a len cap):=by
  rcases open_slice ht h with ⟨rfl,_⟩|⟨a,len,cap,m,n,D,Pl,rfl,_,hl,hm,hmm,_,hx⟩
  · exact ⟨none,0,0,[],rfl,rfl,Nat.zero_le _,fun q hq=>by simp at hq,.sl0⟩
  have hlm:len≤m:=by rw [hmm];split<;>omega
  rw [hC] at hx
  have each:∀i,i<len→∃q:Nm,(w.cell? (a.add (i*3))=some (.bool q.1)∧w.cell? (a.add (i*3+1))=some (.string (bs q.2.1))∧w.cell? (a.add (i*3+2))=some (.string (bs q.2.2)))∧U8 q.2.1∧U8 q.2.2∧q.2.1.length≤maxLen∧q.2.2.length≤maxLen:=fun i hi=>by
    obtain ⟨cs',hc,hy⟩:=hx i (by omega)
    obtain ⟨q,⟨g0,g1,g2⟩,hq⟩:=open_num1 he hone h0 h1 h2 hc hy
    rw [add_add] at g0 g1 g2
    exact ⟨q,⟨g0,g1,g2⟩,hq⟩
  obtain ⟨f,hf⟩:=choose_lt (α:=Nm) each
  refine ⟨some a,len,cap,(List.range len).map f,rfl,by simp,Nat.le_trans hl hm,fun q hq=>?_,?_⟩
  · obtain ⟨i,hi,rfl⟩:=List.mem_map.1 hq
    exact (hf i (List.mem_range.1 hi)).2
  · have hll:((List.range len).map f).length=len:=by simp
    rw [hll]
    by_cases hz:len=0
    · subst hz;exact .sl0
    obtain ⟨b,o,sp⟩:=a
    have hc0:=(hf 0 (by omega)).1.1
    have hsp:sp=none:=by
      simp only [Addr.add,Nat.zero_mul,if_true,World.cell?] at hc0
      split at hc0
      · split at hc0
        · cases hc0
        · rename_i hh;simpa using hh
      · cases hc0
    subst hsp
    have addE:∀i,(⟨b,o,none⟩:Addr).add i=⟨b,o+i,none⟩:=fun i=>by
      unfold Addr.add
      split
      · rename_i h;rw [h];rfl
      · rfl
    have hb:b<w.heap.size:=by
      rw [addE] at hc0
      unfold World.cell? at hc0
      split at hc0
      · rename_i hh;exact (Array.getElem?_eq_some_iff.1 hh).1
      · cases hc0
    have hat:∀i,i<len→((List.range len).map f).getD i (false,[],[])=f i:=fun i hi=>by simp [List.getD,hi]
    have vlen:∀l:List Nm,(l.flatMap fun q=>[Value.bool q.1,.string (bs q.2.1),.string (bs q.2.2)]).length=l.length*3:=fun l=>by
      induction l with
      | nil=>rfl
      | cons q l ih=>rw [List.flatMap_cons,List.length_append,ih,List.length_cons];simp;omega
    have vget:∀(l:List Nm) (i k:Nat),i<l.length→k<3→(l.flatMap fun q=>[Value.bool q.1,.string (bs q.2.1),.string (bs q.2.2)])[i*3+k]?=([Value.bool (l.getD i (false,[],[])).1,.string (bs (l.getD i (false,[],[])).2.1),.string (bs (l.getD i (false,[],[])).2.2)])[k]?:=fun l=>by
      induction l with
      | nil=>intro i k h;simp at h
      | cons q l ih=>
        intro i k hi hk
        cases i with
        | zero=>rw [List.flatMap_cons,Nat.zero_mul,Nat.zero_add,List.getElem?_append_left (by simp;omega)];rfl
        | succ i=>
          rw [List.flatMap_cons,List.getElem?_append_right (by simp;omega)]
          have e:(i+1)*3+k - [Value.bool q.1,.string (bs q.2.1),.string (bs q.2.2)].length=i*3+k:=by simp;omega
          rw [e,ih i k (by simpa using hi) hk]
          rfl
    have cget:∀(l:List Nm) (i k:Nat),i<l.length→k<3→(nmsC l)[i*3+k]?=(nmC (l.getD i (false,[],[])))[k]?:=fun l i k hi hk=>by
      rw [←flat_get (f:=nmC) (fun _=>rfl) hi,List.getElem?_take,if_pos hk,List.getElem?_drop]
      rfl
    have split3:∀j,j<len*3→∃i k,i<len∧k<3∧j=i*3+k:=fun j hj=>⟨j/3,j % 3,by omega,by omega,by omega⟩
    refine .sl (vs:=((List.range len).map f).flatMap fun q=>[Value.bool q.1,.string (bs q.2.1),.string (bs q.2.2)]) (by omega) hl (by rw [nmsC,flat_len (fun _=>rfl),hll]) (by rw [vlen,nmsC,flat_len (fun _=>rfl)]) hb (fun u hu=>?_) (fun j u hu=>?_) (fun j c u hc hu=>?_)
    · obtain ⟨q,_,hq⟩:=List.mem_flatMap.1 hu
      simp only [List.mem_cons,List.not_mem_nil,or_false] at hq
      rcases hq with rfl|rfl|rfl<;>rfl
    · have hj:=(List.getElem?_eq_some_iff.1 hu).1
      rw [vlen,hll] at hj
      obtain ⟨i,k,hi,hk,rfl⟩:=split3 j hj
      rw [vget _ i k (by rw [hll];exact hi) hk,hat i hi] at hu
      obtain ⟨⟨g0,g1,g2⟩,_⟩:=hf i hi
      rw [addE] at g0 g1 g2
      match k,hk with
      | 0,_=>simp at hu;subst hu;exact g0
      | 1,_=>simp at hu;subst hu;exact g1
      | 2,_=>simp at hu;subst hu;exact g2
    · have hj:=(List.getElem?_eq_some_iff.1 hu).1
      rw [vlen,hll] at hj
      obtain ⟨i,k,hi,hk,rfl⟩:=split3 j hj
      rw [vget _ i k (by rw [hll];exact hi) hk] at hu
      rw [cget _ i k (by rw [hll];exact hi) hk] at hc
      match k,hk with
      | 0,_=>simp [nmC] at hu hc;subst hu;subst hc;exact .bool
      | 1,_=>simp [nmC] at hu hc;subst hu;subst hc;exact .str
      | 2,_=>simp [nmC] at hu hc;subst hu;subst hc;exact .str
end
end Go.Proofs.YtlejgleocnemoaaGreat.I

namespace Go.Proofs.YtlejgleocnemoaaGreat.I
open Go Go.V
attribute [local go_sem_proc ↓] reduceIte
attribute [local go_sem_proc] Nat.reduceEqDiff Nat.reduceAdd Nat.reduceMul Nat.reduceLeDiff Nat.reduceLT Int.reduceToNat Int.reduceLT Int.reduceLE reduceCtorEq Nat.reduceBEq
attribute [local go_sem] mNil nat0 beq_self_eq_true mSkip mRet mExit mReg mSeq mCond mTrue mFalse mBlock mLv mCodeE mCodeR mEndN mEndR mEndE mOps mSome mGuard mGtt mGff mGtf mGft mGu mCallP mCallR mCallF mCallO mCallZ mCallG mCallM mCallV loopQ_exit loopQ_ret mO_mov mO_newnil mO_pick mO_alloc mO_box mO_build mO_bsl mO_bslF mO_newnilB mO_bslB mO_lenB mO_appB mO_allocA mO_bslA mO_appA mO_ldb mO_faddrb mRsv mO_ldf mO_ld mO_st mO_sta mO_nilchk mO_bin mO_binb mO_binp mO_bins mO_neg mO_com mO_not mO_conv mO_mk mO_mk0 mO_mkB mO_s2b mO_b2s mO_cpy mO_cut mO_faddr mO_fld mO_iaddr mO_iaddrf mO_sidx mO_len mO_lenf mO_slen mO_scut mO_app mO_ext mO_mx mO_mn mO_mkfn evalOp cutOp argsE ev getE putE cellsOf adopt rowOf binV boolV nilV ar_add ar_sub ar_mul ar_quo ar_rem ar_eq ar_ne ar_lt ar_le ar_gt ar_ge ar_and ar_or ar_xor geto bound finRet finNrm ints List.length_cons List.length_nil List.length_append List.getElem?_cons_zero List.getElem?_cons_succ List.nil_append List.cons_append List.map_cons List.map_nil List.mapM_cons List.mapM_nil Option.map_some Option.map_none Option.bind_some Option.pure_def Option.bind_eq_bind List.drop_zero or_self or_false false_or or_true true_or true_and and_true and_self decide_true decide_false Bool.false_eq_true Bool.true_eq_false Bool.not_true Bool.not_false Nat.le_refl eq_self gt_iff_lt ge_iff_le ne_eq not_true_eq_false not_false_eq_true storeOp apartOf freeze_nil refsL refs List.flatMap_cons List.flatMap_nil List.append_nil List.contains_nil List.set_cons_zero List.set_cons_succ snap snapL fill_nums flat_nums nums_length Go.V.freeze List.mapIdx_cons List.mapIdx_nil List.contains_cons Bool.or_false Bool.false_or Bool.or_true Bool.true_or
def NmU (x:Nm):Prop:=U8 x.2.1∧U8 x.2.2∧x.2.1.length≤1000000000∧x.2.2.length≤1000000000
theorem num_ne {x y:Nm} (hx:NmU x) (hy:NmU y):structV .ne [0,2,2] (.agg (nmC x)) (.agg (nmC y))=some (.bool (!decide (x=y))):=by
  have h:=num_same (n:=x.1) (m:=y.1) hx.1 hx.2.1 hy.1 hy.2.1
  have h1:(nmC x).map kindOf=[0,2,2]:=rfl
  have h2:(nmC y).map kindOf=[0,2,2]:=rfl
  have h3:([AV.bool x.1,AV.str (bs x.2.1),AV.str (bs x.2.2)]).map kindOf=[0,2,2]:=rfl
  have h4:([AV.bool y.1,AV.str (bs y.2.1),AV.str (bs y.2.2)]).map kindOf=[0,2,2]:=rfl
  simp only [structV,h3,h4,and_self,if_true] at h
  simp only [structV,h1,h2,and_self,if_true,nmC]
  have hd:decide (x.1=y.1∧x.2.1=y.2.1∧x.2.2=y.2.2)=decide (x=y):=by
    congr 1
    obtain ⟨a,b,c⟩:=x
    obtain ⟨a',b',c'⟩:=y
    simp only [Prod.mk.injEq]
  rw [hd] at h
  cases hs:scalarsEq [AV.bool x.1,AV.str (bs x.2.1),AV.str (bs x.2.2)] [AV.bool y.1,AV.str (bs y.2.1),AV.str (bs y.2.2)] with
  | none=>rw [hs] at h;cases h
  | some r=>
    rw [hs] at h
    simp only [Option.bind_some,Option.some.injEq,AV.bool.injEq] at h
    subst h
    rfl
theorem subP4b {a b c d:AV}:sub false 1 [a,b,c,d] 1=some b:=rfl
theorem subP4c {a b c d:AV}:sub false 1 [a,b,c,d] 2=some c:=rfl
theorem subP4a {a b c d:AV}:sub false 1 [a,b,c,d] 0=some a:=rfl
theorem c29_gen {s s' t t':List Int} {l l':List Nm} {ch ch':Bool} (hs:(s.length:Int)≤1000000000000) (ht:(t.length:Int)≤1000000000000) (hl:(l.length:Int)≤1000000000000)
    (hs':(s'.length:Int)≤1000000000000) (ht':(t'.length:Int)≤1000000000000) (hl':(l'.length:Int)≤1000000000000) (hu:∀x∈l,NmU x) (hu':∀x∈l',NmU x) :
    Go.V.Call tab E 29 [.agg (plX s ch t l),.agg (plX s' ch' t' l')] [] (.bool (decide (ch=ch'∧s=s'∧t=t'∧l=l'))) []:=by
  refine Go.V.Call.mach i29 c29 rfl rfl rfl rfl ?_
  have hb:(ch==ch')=decide (ch=ch'):=by cases ch<;>cases ch'<;>rfl
  have h23:=c65_ok (E:=E) (s:=s) (t:=s') (by omega) (by omega)
  have h75:=c86_gen ht ht'
  simp only [ints,runes] at h23 h75
  by_cases e1:ch=ch'
  · rw [decide_eq_true e1] at hb
    by_cases e2:s=s'
    · rw [decide_eq_true e2] at h23
      by_cases e3:t=t'
      · rw [decide_eq_true e3] at h75
        by_cases e4:l.length=l'.length
        · have q4:((l.length:Int) != (l'.length:Int))=false:=by rw [bne_eq_false_iff_eq];omega
          simp only [c29,plX,runes,ints,go_sem,subP4a,subP4b,subP4c,subP3,subP3',FL,hb]
          refine goP h23 ?_
          simp only [go_sem,subP4a,subP4b,subP4c,subP3,subP3',FL]
          refine goP h75 ?_
          simp only [go_sem,subP4a,subP4b,subP4c,subP3,subP3',FL,q4]
          refine mLoop (fun N st=>∃(k:Nat),k≤l.length∧N=l.length - k∧l.take k=l'.take k∧
            st=⟨[(2,.loc 0 0 0),(3,.loc 1 0 0),(5,.int .i64 k)],[⟨true,26,4,0,1,plX s ch t l,false⟩,⟨true,26,4,0,1,plX s' ch' t' l',false⟩]⟩) l.length ⟨_,rfl,0,by omega,by omega,rfl,rfl⟩ ?_
          rintro N s0 ⟨k,hk,rfl,htk,rfl⟩
          by_cases hlt:k<l.length
          · have hlt':(k:Int)<(l.length:Int):=by omega
            have hlt2:(k:Int)<(l'.length:Int):=by omega
            have hk0:(0:Int)≤(k:Int):=by omega
            have hk1:IntKind.i64.wrap ((k:Int)+1)=((k+1:Nat):Int):=by rw [wrap_i64 (by omega) (by omega)];omega
            have hsub:=sub_nms hlt
            have hsub2:=sub_nms (l:=l') (i:=k) (by omega)
            have h1:l.take (k+1)=l.take k++[nmAt l k]:=takeAt hlt
            have h2:l'.take (k+1)=l'.take k++[nmAt l' k]:=takeAt (by omega)
            have hn:=num_ne (x:=nmAt l k) (y:=nmAt l' k) (hu _ (by simp [nmAt,List.getD,hlt])) (hu' _ (by simp [nmAt,List.getD,show k<l'.length by omega]))
            by_cases hxy:nmAt l k=nmAt l' k
            · rw [decide_eq_true hxy,Bool.not_true] at hn
              simp only [b29_0,plX,runes,ints,go_sem,subP3,subP3',hlt',hlt2,hk0,Int.toNat_natCast,hsub,hsub2,hn,hk1]
              exact loopQ_go rfl (l.length - (k+1)) (by omega) ⟨k+1,by omega,rfl,by rw [h1,h2,htk,hxy],rfl⟩
            · rw [decide_eq_false hxy,Bool.not_false] at hn
              have hne:¬(ch=ch'∧s=s'∧t=t'∧l=l'):=fun h=>hxy (by rw [h.2.2.2])
              simp only [b29_0,plX,runes,ints,go_sem,subP3,subP3',hlt',hlt2,hk0,Int.toNat_natCast,hsub,hsub2,hn]
              simp only [i29,OT,reduceIte,Nat.reduceEqDiff,decide_eq_false hne]
          · have hlt':¬(k:Int)<(l.length:Int):=by omega
            have he:l=l':=by
              rw [List.take_of_length_le (by omega),List.take_of_length_le (by omega)] at htk
              exact htk
            have hall:ch=ch'∧s=s'∧t=t'∧l=l':=⟨e1,e2,e3,he⟩
            simp only [b29_0,k29_0,plX,runes,ints,go_sem,subP3,subP3',hlt']
            simp only [i29,OT,reduceIte,Nat.reduceEqDiff,decide_eq_true hall]
        · have q4:((l.length:Int) != (l'.length:Int))=true:=by rw [bne_iff_ne];omega
          have hne:¬(ch=ch'∧s=s'∧t=t'∧l=l'):=fun h=>e4 (by rw [h.2.2.2])
          simp only [c29,plX,runes,ints,go_sem,subP4a,subP4b,subP4c,subP3,subP3',FL,hb]
          refine goP h23 ?_
          simp only [go_sem,subP4a,subP4b,subP4c,subP3,subP3',FL]
          refine goP h75 ?_
          simp only [go_sem,subP4a,subP4b,subP4c,subP3,subP3',FL,q4]
          simp only [i29,OT,reduceIte,Nat.reduceEqDiff,decide_eq_false hne]
      · rw [decide_eq_false e3] at h75
        have hne:¬(ch=ch'∧s=s'∧t=t'∧l=l'):=fun h=>e3 h.2.2.1
        simp only [c29,plX,runes,ints,go_sem,subP4a,subP4b,subP4c,subP3,subP3',FL,hb]
        refine goP h23 ?_
        simp only [go_sem,subP4a,subP4b,subP4c,subP3,subP3',FL]
        refine goP h75 ?_
        simp only [go_sem,subP4a,subP4b,subP4c,subP3,subP3',FL]
        simp only [i29,OT,reduceIte,Nat.reduceEqDiff,decide_eq_false hne]
    · rw [decide_eq_false e2] at h23
      have hne:¬(ch=ch'∧s=s'∧t=t'∧l=l'):=fun h=>e2 h.2.1
      simp only [c29,plX,runes,ints,go_sem,subP4a,subP4b,subP4c,subP3,subP3',FL,hb]
      refine goP h23 ?_
      simp only [go_sem,subP4a,subP4b,subP4c,subP3,subP3',FL]
      simp only [i29,OT,reduceIte,Nat.reduceEqDiff,decide_eq_false hne]
  · rw [decide_eq_false e1] at hb
    have hne:¬(ch=ch'∧s=s'∧t=t'∧l=l'):=fun h=>e1 h.1
    simp only [c29,plX,runes,ints,go_sem,subP4a,subP4b,subP4c,subP3,subP3',FL,hb]
    simp only [i29,OT,reduceIte,Nat.reduceEqDiff,decide_eq_false hne]
def Shapes (s:List Int) (ch:Bool) (t:List Int) (n:Nat):Prop:=if ch then count s=some (t.length:Int)∧n=0 else count s=some (n:Int)∧t=[]
def RightP (s:List Int) (ch:Bool) (t:List Int) (l:List Nm):Prop:=Shapes s ch t l.length∧∀x∈l,RightN x.1 x.2.1 x.2.2
theorem Shapes_iff {s t:List Int} {ch:Bool} {n:Nat}:Shapes s ch t n↔∃m,count s=some m∧(ch=true→(t.length:Int)=m∧n=0)∧(ch=false→(n:Int)=m∧t.length=0):=by
  cases ch with
  | true=>
    have e:Shapes s true t n↔count s=some (t.length:Int)∧n=0:=by simp [Shapes]
    rw [e]
    exact ⟨fun ⟨h1,h2⟩=>⟨_,h1,fun _=>⟨rfl,h2⟩,fun h=>(by cases h)⟩,fun ⟨m,h1,h2,_⟩=>⟨by rw [(h2 rfl).1];exact h1,(h2 rfl).2⟩⟩
  | false=>
    have e:Shapes s false t n↔count s=some (n:Int)∧t=[]:=by simp [Shapes]
    rw [e]
    exact ⟨fun ⟨h1,h2⟩=>⟨_,h1,fun h=>(by cases h),fun _=>⟨rfl,by rw [h2];rfl⟩⟩,fun ⟨m,h1,_,h2⟩=>⟨by rw [(h2 rfl).1];exact h1,List.length_eq_zero_iff.1 (h2 rfl).2⟩⟩
theorem c44_ok {s t:List Int} {l:List Nm} {ch ok:Bool} (hs:∀d∈s,In64 d) (hsl:(s.length:Int)≤1000000000000) (ht:(t.length:Int)≤1000000000000) (hl:(l.length:Int)≤1000000000000) (hu:∀x∈l,NmU x) (hok:ok=true↔RightP s ch t l) :
    Go.V.Call tab E 44 [.agg (plX s ch t l)] [] (.bool ok) []:=by
  refine Go.V.Call.mach i44 c44 rfl rfl rfl rfl ?_
  have hfalse:¬RightP s ch t l→ok=false:=fun h=>by rw [←Bool.not_eq_true,hok];exact h
  have h17:=c78_ok (E:=E) hs (by omega)
  simp only [ints] at h17
  have bad:¬Shapes s ch t l.length→ok=false:=fun h=>hfalse (fun hr=>h hr.1)
  cases hc:count s with
  | none=>
    have:=bad (fun h=>by obtain ⟨m,h1,_⟩:=Shapes_iff.1 h;rw [hc] at h1;cases h1)
    subst this
    rw [hc] at h17
    simp only [optP] at h17
    simp only [c44,plX,runes,ints,go_sem,subP4a,subP4b,subP4c,subP3,subP3',FL]
    refine goP h17 ?_
    simp only [go_sem,subP4a,subP4b,subP4c,subP3,subP3',FL]
    simp only [i44,OT,reduceIte,Nat.reduceEqDiff]
  | some m=>
    rw [hc] at h17
    simp only [optP] at h17
    by_cases hsh:Shapes s ch t l.length
    · obtain ⟨m',h1,h2,h3⟩:=Shapes_iff.1 hsh
      rw [hc] at h1
      simp only [Option.some.injEq] at h1
      subst h1
      cases ch with
      | true=>
        obtain ⟨h4,h5⟩:=h2 rfl
        subst h4
        have hl0:l=[]:=List.length_eq_zero_iff.1 h5
        subst hl0
        have hokt:ok=true:=hok.2 ⟨hsh,fun x hx=>by simp at hx⟩
        subst hokt
        simp only [c44,plX,runes,ints,go_sem,subP4a,subP4b,subP4c,subP3,subP3',FL]
        refine goP h17 ?_
        simp only [go_sem,subP4a,subP4b,subP4c,subP3,subP3',FL,bne_self_eq_false]
        refine mLoop (fun N st=>N=0∧st=⟨[(1,.loc 0 0 0),(5,.int .i64 0)],[⟨true,26,4,0,1,plX s true t [],false⟩]⟩) 0 ⟨_,rfl,rfl,rfl⟩ ?_
        rintro N s0 ⟨rfl,rfl⟩
        simp only [b44_0,k44_0,plX,runes,ints,go_sem,subP3,subP3',Int.lt_irrefl]
        simp only [i44,OT,reduceIte,Nat.reduceEqDiff]
      | false=>
        obtain ⟨h4,h5⟩:=h3 rfl
        subst h4
        have ht0:t=[]:=List.length_eq_zero_iff.1 h5
        subst ht0
        simp only [c44,plX,runes,ints,go_sem,subP4a,subP4b,subP4c,subP3,subP3',FL]
        refine goP h17 ?_
        simp only [go_sem,subP4a,subP4b,subP4c,subP3,subP3',FL,bne_self_eq_false]
        refine mLoop (fun N st=>∃(k:Nat),k≤l.length∧N=l.length - k∧(∀x∈l.take k,RightN x.1 x.2.1 x.2.2)∧
          st=⟨[(1,.loc 0 0 0),(5,.int .i64 k)],[⟨true,26,4,0,1,plX s false [] l,false⟩]⟩) l.length ⟨_,rfl,0,by omega,by omega,fun x hx=>by simp at hx,rfl⟩ ?_
        rintro N s0 ⟨k,hk,rfl,hr,rfl⟩
        by_cases hlt:k<l.length
        · have hlt':(k:Int)<(l.length:Int):=by omega
          have hk0:(0:Int)≤(k:Int):=by omega
          have hk1:IntKind.i64.wrap ((k:Int)+1)=((k+1:Nat):Int):=by rw [wrap_i64 (by omega) (by omega)];omega
          have hsub:=sub_nms hlt
          have h1:l.take (k+1)=l.take k++[nmAt l k]:=takeAt hlt
          have hmem:nmAt l k∈l:=by simp [nmAt,List.getD,hlt]
          obtain ⟨u1,u2,u3,u4⟩:=hu _ hmem
          have h96:=fun ok h=>c106_ok (E:=E) (n:=(nmAt l k).1) (ok:=ok) u1 u2 u3 u4 h
          by_cases hrn:RightN (nmAt l k).1 (nmAt l k).2.1 (nmAt l k).2.2
          · have h96t:=h96 true ⟨fun _=>hrn,fun _=>rfl⟩
            simp only [b44_0,plX,runes,ints,go_sem,subP3,subP3',hlt',hk0,Int.toNat_natCast,hsub,nmC]
            refine goP h96t ?_
            simp only [go_sem,hk1]
            refine loopQ_go rfl (l.length - (k+1)) (by omega) ⟨k+1,by omega,rfl,?_,rfl⟩
            intro x hx
            rw [h1] at hx
            rcases List.mem_append.1 hx with hx|hx
            · exact hr x hx
            · simp at hx;subst hx;exact hrn
          · have h96f:=h96 false ⟨fun h=>(by cases h),fun h=>absurd h hrn⟩
            have:=hfalse (fun h=>hrn (h.2 _ hmem))
            subst this
            simp only [b44_0,plX,runes,ints,go_sem,subP3,subP3',hlt',hk0,Int.toNat_natCast,hsub,nmC]
            refine goP h96f ?_
            simp only [go_sem]
            simp only [i44,OT,reduceIte,Nat.reduceEqDiff]
        · have hlt':¬(k:Int)<(l.length:Int):=by omega
          rw [List.take_of_length_le (by omega)] at hr
          have hokt:ok=true:=hok.2 ⟨hsh,hr⟩
          subst hokt
          simp only [b44_0,k44_0,plX,runes,ints,go_sem,subP3,subP3',hlt']
          simp only [i44,OT,reduceIte,Nat.reduceEqDiff]
    · have:=bad hsh
      subst this
      rw [Shapes_iff] at hsh
      cases ch with
      | true=>
        by_cases h1:(t.length:Int)=m
        · have h2:¬l.length=0:=fun h=>hsh ⟨m,hc,fun _=>⟨h1,h⟩,fun h=>by cases h⟩
          have q1:((t.length:Int) != m)=false:=by rw [bne_eq_false_iff_eq];exact h1
          have q2:((l.length:Int) != 0)=true:=by rw [bne_iff_ne];omega
          simp only [c44,plX,runes,ints,go_sem,subP4a,subP4b,subP4c,subP3,subP3',FL]
          refine goP h17 ?_
          simp only [go_sem,subP4a,subP4b,subP4c,subP3,subP3',FL,q1,q2]
          simp only [i44,OT,reduceIte,Nat.reduceEqDiff]
        · have q1:((t.length:Int) != m)=true:=by rw [bne_iff_ne];exact h1
          simp only [c44,plX,runes,ints,go_sem,subP4a,subP4b,subP4c,subP3,subP3',FL]
          refine goP h17 ?_
          simp only [go_sem,subP4a,subP4b,subP4c,subP3,subP3',FL,q1]
          simp only [i44,OT,reduceIte,Nat.reduceEqDiff]
      | false=>
        by_cases h1:(l.length:Int)=m
        · have h2:¬t.length=0:=fun h=>hsh ⟨m,hc,fun h=>(by cases h),fun _=>⟨h1,h⟩⟩
          have q1:((l.length:Int) != m)=false:=by rw [bne_eq_false_iff_eq];exact h1
          have q2:((t.length:Int) != 0)=true:=by rw [bne_iff_ne];omega
          simp only [c44,plX,runes,ints,go_sem,subP4a,subP4b,subP4c,subP3,subP3',FL]
          refine goP h17 ?_
          simp only [go_sem,subP4a,subP4b,subP4c,subP3,subP3',FL,q1,q2]
          simp only [i44,OT,reduceIte,Nat.reduceEqDiff]
        · have q1:((l.length:Int) != m)=true:=by rw [bne_iff_ne];exact h1
          simp only [c44,plX,runes,ints,go_sem,subP4a,subP4b,subP4c,subP3,subP3',FL]
          refine goP h17 ?_
          simp only [go_sem,subP4a,subP4b,subP4c,subP3,subP3',FL,q1]
          simp only [i44,OT,reduceIte,Nat.reduceEqDiff]
theorem subA1' {a b c d e:AV}:sub false 1 [a,b,c,d,e] (0+3)=some d:=rfl
theorem c51_ok {s t:List Int} {l:List Nm} {ch ok:Bool} (hs:∀d∈s,In64 d) (hsl:(s.length:Int)≤1000000000000) (ht:(t.length:Int)≤1000000000000) (hl:(l.length:Int)≤1000000000000) (hu:∀x∈l,NmU x) (hok:ok=true↔RightP s ch t l) :
    Go.V.Call tab E 51 [.agg (plX s ch t l)] [] (.tup [.agg (if ok then arrX s ch t (l.map toRt) else noA),.bool ok]) []:=by
  refine Go.V.Call.mach i51 c51 rfl rfl rfl rfl ?_
  have hfalse:¬RightP s ch t l→ok=false:=fun h=>by rw [←Bool.not_eq_true,hok];exact h
  have h35:=c90_ok (E:=E) hs (by omega)
  have h85:=c110_ok hsl
  have h92:=c112_ok ht
  simp only [ints,runes] at h35 h85 h92
  have bad:¬Shapes s ch t l.length→ok=false:=fun h=>hfalse (fun hr=>h hr.1)
  cases hc:count s with
  | none=>
    have:=bad (fun h=>by obtain ⟨m,h1,_⟩:=Shapes_iff.1 h;rw [hc] at h1;cases h1)
    subst this
    rw [hc] at h35
    simp only [optP] at h35
    simp only [c51,plX,runes,ints,go_sem,subP4a,subP4b,subP4c,subP3,subP3',FL]
    refine goP h35 ?_
    simp only [go_sem,subP4a,subP4b,subP4c,subP3,subP3',FL]
    simp only [i51,OT,reduceIte,Nat.reduceEqDiff,subA5,noA,Bool.false_eq_true,if_false]
  | some m=>
    rw [hc] at h35
    simp only [optP] at h35
    by_cases hsh:Shapes s ch t l.length
    · obtain ⟨m',h1,h2,h3⟩:=Shapes_iff.1 hsh
      rw [hc] at h1
      simp only [Option.some.injEq] at h1
      subst h1
      cases ch with
      | true=>
        obtain ⟨h4,h5⟩:=h2 rfl
        subst h4
        have hl0:l=[]:=List.length_eq_zero_iff.1 h5
        subst hl0
        have hokt:ok=true:=hok.2 ⟨hsh,fun x hx=>by simp at hx⟩
        subst hokt
        simp only [c51,plX,runes,ints,go_sem,subP4a,subP4b,subP4c,subP3,subP3',FL]
        refine goP h35 ?_
        simp only [go_sem,subP4a,subP4b,subP4c,subP3,subP3',FL,bne_self_eq_false,Int.lt_irrefl]
        refine goZ (r':=ints s) h85 rfl ?_
        simp only [ints,go_sem,subP4a,subP4b,subP4c,subP3,subP3',FL]
        refine goZ (r':=runes t) h92 rfl ?_
        simp only [runes,go_sem,subP4a,subP4b,subP4c,subP3,subP3',FL]
        refine mLoop (fun N st=>N=0∧st=⟨[(2,.loc 4 0 0),(6,.loc 8 0 0),(65,.sl 0 3 (nmsC [])),(66,.int .i64 0),(67,.int .i64 0)],
          [⟨true,26,4,0,1,plX s true t [],false⟩,⟨false,3,1,0,0,[],false⟩,⟨false,21,1,0,0,[],false⟩,⟨false,98,3,0,0,[],false⟩,⟨true,35,5,0,1,[.arr 1 0,.bool false,.arr 2 0,.arr 3 0,.bool false],false⟩,
           ⟨false,3,1,0,0,[],false⟩,⟨false,21,1,0,0,[],false⟩,⟨false,98,3,0,0,[],false⟩,⟨true,35,5,0,1,[ints s,.bool true,runes t,.arr 9 0,.bool true],false⟩,⟨false,98,3,0,0,[],false⟩]⟩) 0 ⟨_,rfl,rfl,rfl⟩ ?_
        rintro N s0 ⟨rfl,rfl⟩
        simp only [b51_0,k51_0,plX,runes,ints,go_sem,subA5,Int.lt_irrefl,FL]
        simp only [i51,OT,reduceIte,Nat.reduceEqDiff,subA5,arrX,runes,if_true,List.map_nil]
        rfl
      | false=>
        obtain ⟨h4,h5⟩:=h3 rfl
        subst h4
        have ht0:t=[]:=List.length_eq_zero_iff.1 h5
        subst ht0
        simp only [c51,plX,runes,ints,go_sem,subP4a,subP4b,subP4c,subP3,subP3',FL]
        refine goP h35 ?_
        simp only [go_sem,subP4a,subP4b,subP4c,subP3,subP3',FL,bne_self_eq_false,Int.lt_irrefl]
        refine goZ (r':=ints s) h85 rfl ?_
        simp only [ints,go_sem,subP4a,subP4b,subP4c,subP3,subP3',FL]
        refine goZ (r':=runes []) h92 rfl ?_
        simp only [runes,go_sem,subP4a,subP4b,subP4c,subP3,subP3',FL]
        refine mLoop (fun N st=>∃i:Nat,i≤l.length∧N=l.length - i∧(∀x∈l.take i,RightN x.1 x.2.1 x.2.2)∧st=⟨[(2,.loc 4 0 0),(6,.loc 8 0 0),(65,.sl l.length 3 (nmsC l)),(66,.int .i64 l.length),(67,.int .i64 i)],
          [⟨true,26,4,0,1,plX s false [] l,false⟩,⟨false,3,1,0,0,[],false⟩,⟨false,21,1,0,0,[],false⟩,⟨false,98,3,0,0,[],false⟩,⟨true,35,5,0,1,[.arr 1 0,.bool false,.arr 2 0,.arr 3 0,.bool false],false⟩,
           ⟨false,3,1,0,0,[],false⟩,⟨false,21,1,0,0,[],false⟩,⟨false,98,3,0,0,[],false⟩,⟨true,35,5,0,1,[ints s,.bool false,runes [],.arr 9 i,.bool true],false⟩,⟨false,98,3,i,i,rtsC ((l.take i).map toRt),false⟩]⟩) l.length
          ⟨_,rfl,0,by omega,by omega,fun x hx=>by simp at hx,by simp [getE,ints,runes,plX,rtsC]⟩ ?_
        rintro N s0 ⟨i,hi,rfl,hr,rfl⟩
        by_cases hlt:i<l.length
        · have hlt':(i:Int)<(l.length:Int):=by omega
          have hi0:(0:Int)≤(i:Int):=by omega
          have hi1:IntKind.i64.wrap ((i:Int)+1)=((i+1:Nat):Int):=by rw [wrap_i64 (by omega) (by omega)];omega
          have hsub:=sub_nms hlt
          have hmem:nmAt l i∈l:=by simp [nmAt,List.getD,hlt]
          obtain ⟨u1,u2,u3,u4⟩:=hu _ hmem
          have htk:l.take (i+1)=l.take i++[nmAt l i]:=takeAt hlt
          have hmt:rtsC ((l.take (i+1)).map toRt)=rtsC ((l.take i).map toRt)++rtC (toRt (nmAt l i)):=by rw [htk,List.map_append,List.map_cons,List.map_nil,rtsC_snoc]
          have e1:(i+1)*56≤140737488355328:=by omega
          have e2:i+1≤140737488355328:=by omega
          have h95:=fun ok h=>c113_ok (E:=E) (n:=(nmAt l i).1) (ok:=ok) u1 u2 u3 u4 h
          by_cases hrn:RightN (nmAt l i).1 (nmAt l i).2.1 (nmAt l i).2.2
          · obtain ⟨n',p',q',hn',h95t⟩:=h95 true ⟨fun _=>hrn,fun _=>rfl⟩
            obtain ⟨rfl,rfl,rfl⟩:=hn' rfl
            simp only [ratG,us32] at h95t
            simp only [b51_0,plX,runes,ints,go_sem,subT3,hlt',hi0,Int.toNat_natCast,hsub,nmC,FL]
            refine goP h95t ?_
            simp only [go_sem,subA1',subA3,subT3,FL,hi1,e1,e2,List.flatten_cons,List.flatten_nil,Option.getD_some]
            refine loopQ_go rfl (l.length - (i+1)) (by omega) ⟨i+1,by omega,rfl,?_,?_⟩
            · intro x hx
              rw [htk] at hx
              rcases List.mem_append.1 hx with hx|hx
              · exact hr x hx
              · simp at hx;subst hx;exact hrn
            · rw [hmt]
              rfl
          · obtain ⟨n',p',q',hn',h95f⟩:=h95 false ⟨fun h=>(by cases h),fun h=>absurd h hrn⟩
            have:=hfalse (fun h=>hrn (h.2 _ hmem))
            subst this
            simp only [ratG,us32] at h95f
            simp only [b51_0,plX,runes,ints,go_sem,subT3,hlt',hi0,Int.toNat_natCast,hsub,nmC,FL]
            refine goP h95f ?_
            simp only [go_sem,subA5,subT3,FL]
            simp only [i51,OT,reduceIte,Nat.reduceEqDiff,subA5,noA,Bool.false_eq_true,if_false]
        · have hlt':¬(i:Int)<(l.length:Int):=by omega
          obtain rfl:i=l.length:=by omega
          rw [List.take_length] at hr
          have hokt:ok=true:=hok.2 ⟨hsh,hr⟩
          subst hokt
          simp only [b51_0,k51_0,plX,runes,ints,go_sem,subA5,hlt',List.take_length,FL]
          simp only [i51,OT,reduceIte,Nat.reduceEqDiff,subA5,arrX,runes,if_true,List.length_map]
          rfl
    · have:=bad hsh
      subst this
      rw [Shapes_iff] at hsh
      cases ch with
      | true=>
        by_cases h1:(t.length:Int)=m
        · have h2:¬l.length=0:=fun h=>hsh ⟨m,hc,fun _=>⟨h1,h⟩,fun h=>by cases h⟩
          have q1:((t.length:Int) != m)=false:=by rw [bne_eq_false_iff_eq];exact h1
          have q2:(0:Int)<(l.length:Int):=by omega
          simp only [c51,plX,runes,ints,go_sem,subP4a,subP4b,subP4c,subP3,subP3',FL]
          refine goP h35 ?_
          simp only [go_sem,subP4a,subP4b,subP4c,subP3,subP3',FL,q1,q2]
          simp only [i51,OT,reduceIte,Nat.reduceEqDiff,subA5,noA,Bool.false_eq_true,if_false]
        · have q1:((t.length:Int) != m)=true:=by rw [bne_iff_ne];exact h1
          simp only [c51,plX,runes,ints,go_sem,subP4a,subP4b,subP4c,subP3,subP3',FL]
          refine goP h35 ?_
          simp only [go_sem,subP4a,subP4b,subP4c,subP3,subP3',FL,q1]
          simp only [i51,OT,reduceIte,Nat.reduceEqDiff,subA5,noA,Bool.false_eq_true,if_false]
      | false=>
        by_cases h1:(l.length:Int)=m
        · have h2:¬t.length=0:=fun h=>hsh ⟨m,hc,fun h=>(by cases h),fun _=>⟨h1,h⟩⟩
          have q1:((l.length:Int) != m)=false:=by rw [bne_eq_false_iff_eq];exact h1
          have q2:(0:Int)<(t.length:Int):=by omega
          simp only [c51,plX,runes,ints,go_sem,subP4a,subP4b,subP4c,subP3,subP3',FL]
          refine goP h35 ?_
          simp only [go_sem,subP4a,subP4b,subP4c,subP3,subP3',FL,q1,q2]
          simp only [i51,OT,reduceIte,Nat.reduceEqDiff,subA5,noA,Bool.false_eq_true,if_false]
        · have q1:((l.length:Int) != m)=true:=by rw [bne_iff_ne];exact h1
          simp only [c51,plX,runes,ints,go_sem,subP4a,subP4b,subP4c,subP3,subP3',FL]
          refine goP h35 ?_
          simp only [go_sem,subP4a,subP4b,subP4c,subP3,subP3',FL,q1]
          simp only [i51,OT,reduceIte,Nat.reduceEqDiff,subA5,noA,Bool.false_eq_true,if_false]
theorem c13_ok {s t:List Int} {l:List Nm} {ch:Bool} (hs:∀d∈s,In64 d) (hsl:(s.length:Int)≤1000000000000) (ht:(t.length:Int)≤1000000000000) (hl:(l.length:Int)≤1000000000000) (hu:∀x∈l,NmU x) (hr:RightP s ch t l) :
    Go.V.Call tab E 13 [.agg (plX s ch t l)] [] (.agg (arrX s ch t (l.map toRt))) []:=by
  refine Go.V.Call.mach i13 c13 rfl rfl rfl rfl ?_
  have h65:=c51_ok (ok:=true) hs hsl ht hl hu ⟨fun _=>hr,fun _=>rfl⟩
  simp only [if_true,plX,arrX,runes,ints] at h65
  simp only [c13,plX,runes,ints,go_sem,subP4,FL]
  refine goP h65 ?_
  simp only [go_sem,subA5,FL]
  simp only [i13,OT,reduceIte,Nat.reduceEqDiff,subA5,arrX,runes]
def LightP (s:List Int) (ch:Bool) (t:List Int) (l:List Nm) (most:Int):Prop:=(t.length:Int)≤most∧(l.length:Int)≤most∧s.length≤8∧(∀x∈l,x.2.1.length≤40∧x.2.2.length≤40)∧RightP s ch t l
theorem c10_ok {s t:List Int} {l:List Nm} {ch ok:Bool} {most:Int} (hm:0≤most∧most≤1000000) (hs:∀d∈s,In64 d)
    (hu:∀x∈l,U8 x.2.1∧U8 x.2.2) (hok:ok=true↔LightP s ch t l most) :
    Go.V.Call tab E 10 [.agg (plX s ch t l),.int .i64 most] [] (.bool ok) []:=by
  refine Go.V.Call.mach i10 c10 rfl rfl rfl rfl ?_
  have hfalse:¬LightP s ch t l most→ok=false:=fun h=>by rw [←Bool.not_eq_true,hok];exact h
  by_cases h1:most<(t.length:Int)
  · have:=hfalse (fun h=>by have:=h.1;omega)
    subst this
    simp only [c10,plX,runes,ints,go_sem,subP4a,subP4b,subP4c,subP3,subP3',FL,h1]
    simp only [i10,OT,reduceIte,Nat.reduceEqDiff]
  by_cases h2:most<(l.length:Int)
  · have:=hfalse (fun h=>by have:=h.2.1;omega)
    subst this
    simp only [c10,plX,runes,ints,go_sem,subP4a,subP4b,subP4c,subP3,subP3',FL,h1,h2]
    simp only [i10,OT,reduceIte,Nat.reduceEqDiff]
  by_cases h3:(8:Int)<(s.length:Int)
  · have:=hfalse (fun h=>by have:=h.2.2.1;omega)
    subst this
    simp only [c10,plX,runes,ints,go_sem,subP4a,subP4b,subP4c,subP3,subP3',FL,h1,h2,h3]
    simp only [i10,OT,reduceIte,Nat.reduceEqDiff]
  simp only [c10,plX,runes,ints,go_sem,subP4a,subP4b,subP4c,subP3,subP3',FL,h1,h2,h3]
  refine mLoop (fun N st=>∃k:Nat,k≤l.length∧N=l.length - k∧(∀x∈l.take k,x.2.1.length≤40∧x.2.2.length≤40)∧st=⟨[(2,.loc 0 0 0),(5,.int .i64 k)],[⟨true,26,4,0,1,plX s ch t l,false⟩]⟩) l.length
    ⟨_,rfl,0,by omega,by omega,fun x hx=>by simp at hx,rfl⟩ ?_
  rintro N s0 ⟨k,hk,rfl,hr,rfl⟩
  by_cases hlt:k<l.length
  · have hlt':(k:Int)<(l.length:Int):=by omega
    have hk0:(0:Int)≤(k:Int):=by omega
    have hk1:IntKind.i64.wrap ((k:Int)+1)=((k+1:Nat):Int):=by rw [wrap_i64 (by omega) (by omega)];omega
    have hs1:=sub_nms1 hlt
    have hs2:=sub_nms2 hlt
    have hmem:nmAt l k∈l:=by simp [nmAt,List.getD,hlt]
    have htk:l.take (k+1)=l.take k++[nmAt l k]:=takeAt hlt
    by_cases g1:(40:Int)<((nmAt l k).2.1.length:Int)
    · have:=hfalse (fun h=>by have:=(h.2.2.2.1 _ hmem).1;omega)
      subst this
      simp only [b10_0,plX,runes,ints,go_sem,subP3,subP3',hlt',hk0,Int.toNat_natCast,hs1,hs2,bs_size,g1]
      simp only [i10,OT,reduceIte,Nat.reduceEqDiff]
    · by_cases g2:(40:Int)<((nmAt l k).2.2.length:Int)
      · have:=hfalse (fun h=>by have:=(h.2.2.2.1 _ hmem).2;omega)
        subst this
        simp only [b10_0,plX,runes,ints,go_sem,subP3,subP3',hlt',hk0,Int.toNat_natCast,hs1,hs2,bs_size,g1,g2]
        simp only [i10,OT,reduceIte,Nat.reduceEqDiff]
      · simp only [b10_0,plX,runes,ints,go_sem,subP3,subP3',hlt',hk0,Int.toNat_natCast,hs1,hs2,bs_size,g1,g2,hk1]
        refine loopQ_go rfl (l.length - (k+1)) (by omega) ⟨k+1,by omega,rfl,?_,rfl⟩
        intro x hx
        rw [htk] at hx
        rcases List.mem_append.1 hx with hx|hx
        · exact hr x hx
        · simp at hx;subst hx;omega
  · have hlt':¬(k:Int)<(l.length:Int):=by omega
    rw [List.take_of_length_le (by omega)] at hr
    have h66:=c44_ok (s:=s) (t:=t) (l:=l) (ch:=ch) (ok:=ok) hs (by omega) (by omega) (by omega) (fun x hx=>⟨(hu x hx).1,(hu x hx).2,by have:=(hr x hx).1;omega,by have:=(hr x hx).2;omega⟩) (by
      rw [hok]
      exact ⟨fun h=>h.2.2.2.2,fun h=>⟨by omega,by omega,by omega,hr,h⟩⟩)
    simp only [plX,runes,ints] at h66
    simp only [b10_0,k10_0,plX,runes,ints,go_sem,subP4,subP3,subP3',hlt']
    refine goP h66 ?_
    simp only [go_sem]
    simp only [i10,OT,reduceIte,Nat.reduceEqDiff]
def pickT (t:List Int) (k:Int):Int:=if 0≤k∧k<t.length then t.getD k.toNat 0 else 32
def picksT (ch:Bool) (t ks:List Int):List Int:=if ch then ks.map (pickT t) else []
def picksR (ch:Bool) (l:List Rt) (ks:List Int):List Rt:=if ch then [] else ks.map (pickR l)
def pickN (l:List Nm) (k:Int):Nm:=if 0≤k∧k<l.length then nmAt l k.toNat else (false,[48],[49])
def picksN (ch:Bool) (l:List Nm) (ks:List Int):List Nm:=if ch then [] else ks.map (pickN l)
theorem dn_pos {q:Nat} (h:q≠0):dn q=q:=by
  unfold dn
  rw [if_neg h]
theorem back_nm {x:Nm} (h:RightN x.1 x.2.1 x.2.2):toNm (toRt x)=x:=by
  obtain ⟨n,a,b⟩:=x
  obtain ⟨hRa,hRb,t1,t2,hb48,_,_⟩:=h
  have ea:decL (sval a)=a:=by rw [←trimS_dec hRa.1 (fun h0=>by have:=hRa.2.1;rw [h0] at this;simp at this)];exact t1
  have eb:decL (sval b)=b:=by rw [←trimS_dec hRb.1 (fun h0=>by have:=hRb.2.1;rw [h0] at this;simp at this)];exact t2
  have hq:sval b≠0:=fun h=>hb48 ((right_zero hRb t2).1 h)
  have hd:=dn_pos hq
  simp only [toNm,toRt]
  rw [hd,ea,eb]
theorem back_nms {l:List Nm} (h:∀x∈l,RightN x.1 x.2.1 x.2.2):(l.map toRt).map toNm=l:=by
  rw [List.map_map]
  conv=>rhs;rw [←List.map_id l]
  exact List.map_congr_left fun x hx=>back_nm (h x hx)
theorem right_ok {x:Nm} (h:RightN x.1 x.2.1 x.2.2):RtOk (toRt x):=by
  obtain ⟨hRa,hRb,t1,t2,hb48,_,_⟩:=h
  refine ⟨Right_lim hRa,?_⟩
  have hq:sval x.2.2≠0:=fun h=>hb48 ((right_zero hRb t2).1 h)
  show dn (sval x.2.2)<lim2000
  rw [dn_pos hq]
  exact Right_lim hRb
def whC (n:Bool) (p:Nat):List AV:=[us32 (limG p),.bool n]
def wcmp (n:Bool) (p:Nat) (m:Bool) (q:Nat):Int:=if n=true∧m=false then -1 else if n=false∧m=true then 1 else if n=true then cmpZ q p else cmpZ p q
theorem subW0 {a b:AV}:sub true 1 [a,b] 0=some (.agg [a]):=rfl
theorem subW1 {a b:AV}:sub false 1 [a,b] 1=some b:=rfl
section
variable {E:CallRel}
def rcmp (x y:Rt):Int:=wcmp ((x.1 != false)&&decide (x.2.1*dn y.2.2≠0)) (x.2.1*dn y.2.2) ((y.1 != false)&&decide (y.2.1*dn x.2.2≠0)) (y.2.1*dn x.2.2)
end
def RtRed (x:Rt):Prop:=RtOk x∧x.2.2≠0∧Nat.gcd x.2.1 x.2.2=1∧(x.1=true→x.2.1≠0)
theorem subT2 {a b c:AV}:sub true 2 [a,b,c] 0=some (.agg [a,b]):=rfl
def wint (n:Bool) (p:Nat):Option Int:=if n=true then (if p≤9223372036854775808 then some (-(p:Int)) else none) else if p<9223372036854775808 then some (p:Int) else none
def rint (x:Rt):Option Int:=if dn x.2.2=1 then wint x.1 x.2.1 else none
section
variable {E:CallRel}
theorem c189_ok {n:Nat}:Go.V.Call tab E 189 [natC n] [] (.bool (decide (n=1))) []:=by
  refine Go.V.Call.mach i189 c189 rfl rfl rfl rfl ?_
  by_cases h0:n=0
  · subst h0
    simp only [c189,natC,us32,limG_zero,nums,go_sem,sub,FL,show (((0:Nat):Int)==1)=false from rfl,show ((0:Int)==1)=false from rfl]
    simp only [i189,OT,reduceIte,Nat.reduceEqDiff,show decide ((0:Nat)=1)=false from rfl]
  · by_cases h1:n<4294967296
    · have hl:limG n=[(n:Int)]:=by rw [limG_pos h0,show n/4294967296=0 by omega,limG_zero,Nat.mod_eq_of_lt h1]
      have hb:((n:Int)==1)=decide (n=1):=by
        by_cases h:n=1
        · subst h;rfl
        · rw [decide_eq_false h,beq_eq_false_iff_ne];omega
      have e0:((1:Int)==1)=true:=rfl
      simp only [c189,natC,us32,hl,nums,go_sem,sub,FL,e0,hb,show (0:Int)<((1:Nat):Int) from by decide,show (((1:Nat):Int)==1)=true from rfl,show ((0:Nat)+1)=1 from rfl,List.length_singleton]
      simp only [i189,OT,reduceIte,Nat.reduceEqDiff]
    · have hne:limG n≠[]:=fun h=>h0 (limG_len0 (by rw [h];rfl))
      have hl:(((limG n).length:Int)==1)=false:=by
        rw [limG_pos h0,List.length_cons,beq_eq_false_iff_ne]
        intro h
        have:limG (n/4294967296)=[]:=List.length_eq_zero_iff.1 (by omega)
        have:=limG_len0 (n:=n/4294967296) (by rw [this];rfl)
        omega
      simp only [c189,natC,us32,go_sem,sub,FL,hl]
      simp only [i189,OT,reduceIte,Nat.reduceEqDiff,show decide (n=1)=false from decide_eq_false (by omega)]
theorem c171_gen {n:Bool} {p q:Nat}:Go.V.Call tab E 171 [.agg (ratG n p q)] [] (.bool (decide (dn q=1))) []:=by
  refine Go.V.Call.mach i171 c171 rfl rfl rfl rfl ?_
  have h100:=c126_gen (E:=E) (n:=n) (p:=p) (q:=q)
  have h130:=c189_ok (E:=E) (n:=dn q)
  simp only [natC,ratG,us32] at h100 h130
  simp only [c171,ratG,us32,go_sem,subT3,FL]
  refine goP h100 ?_
  simp only [go_sem]
  refine goP h130 ?_
  simp only [go_sem]
  simp only [i171,OT,reduceIte,Nat.reduceEqDiff]
theorem c172_gen {n:Bool} {p:Nat}:Go.V.Call tab E 172 [.agg (whC n p)] [] (optP (wint n p)) []:=by
  refine Go.V.Call.mach i172 c172 rfl rfl rfl rfl ?_
  by_cases hp:p<18446744073709551616
  · have h131:=c178_nat (E:=E) hp
    simp only [natC,us32] at h131
    simp only [c172,whC,us32,go_sem,subW0,FL]
    refine goP h131 ?_
    by_cases h1:9223372036854775808<p
    · have h1':(9223372036854775808:Int)<(p:Int):=by omega
      have hw:wint n p=none:=by unfold wint;split<;>rw [if_neg (by omega)]
      simp only [go_sem,h1']
      simp only [i172,OT,reduceIte,Nat.reduceEqDiff,hw,optP]
    · have h1':¬(9223372036854775808:Int)<(p:Int):=by omega
      cases n with
      | true=>
        have hw:wint true p=some (-(p:Int)):=by unfold wint;rw [if_pos rfl,if_pos (by omega)]
        have e:((p:Int)==9223372036854775808)=true∨((p:Int)==9223372036854775808)=false:=by cases h:((p:Int)==9223372036854775808)<;>simp
        by_cases h0:p=0
        · subst h0
          have e1:IntKind.u64.wrap (0 - 1)=18446744073709551615:=by decide
          have e2:IntKind.i64.wrap 18446744073709551615 = -1:=by decide
          have e3:IntKind.i64.wrap (0 - (-1))=1:=by decide
          have e4:IntKind.i64.wrap (1 - 1)=0:=by decide
          have e5:((0:Int)==9223372036854775808)=false:=rfl
          have e6:((0:Nat):Int)=0:=rfl
          simp only [go_sem,subW1,h1',e1,e2,e3,e4,e5,e6]
          simp only [i172,OT,reduceIte,Nat.reduceEqDiff,hw,optP]
          rfl
        · have e1:IntKind.u64.wrap ((p:Int) - 1)=(p:Int) - 1:=wrap_u64 (by omega) (by omega)
          have e2:IntKind.i64.wrap ((p:Int) - 1)=(p:Int) - 1:=wrap_i64 (by omega) (by omega)
          have e3:IntKind.i64.wrap (0 - ((p:Int) - 1))=1 - (p:Int):=by rw [wrap_i64 (by omega) (by omega)];omega
          have e4:IntKind.i64.wrap (1 - (p:Int) - 1) = -(p:Int):=by rw [wrap_i64 (by omega) (by omega)];omega
          rcases e with e|e
          · simp only [go_sem,subW1,h1',e,e1,e2,e3,e4]
            simp only [i172,OT,reduceIte,Nat.reduceEqDiff,hw,optP]
          · simp only [go_sem,subW1,h1',e,e1,e2,e3,e4]
            simp only [i172,OT,reduceIte,Nat.reduceEqDiff,hw,optP]
      | false=>
        by_cases h2:p=9223372036854775808
        · subst h2
          have e:(((9223372036854775808:Nat):Int)==9223372036854775808)=true:=rfl
          have hw:wint false 9223372036854775808=none:=rfl
          simp only [go_sem,subW1,h1',e]
          simp only [i172,OT,reduceIte,Nat.reduceEqDiff,hw,optP]
        · have e:((p:Int)==9223372036854775808)=false:=by rw [beq_eq_false_iff_ne];omega
          have hw:wint false p=some (p:Int):=by unfold wint;rw [if_neg (by simp),if_pos (by omega)]
          have e1:IntKind.i64.wrap (p:Int)=(p:Int):=wrap_i64 (by omega) (by omega)
          simp only [go_sem,subW1,h1',e,e1]
          simp only [i172,OT,reduceIte,Nat.reduceEqDiff,hw,optP]
  · have h131:=c178_big (E:=E) (n:=p) (by omega)
    have hw:wint n p=none:=by unfold wint;split<;>rw [if_neg (by omega)]
    simp only [natC,us32] at h131
    simp only [c172,whC,us32,go_sem,subW0,FL]
    refine goP h131 ?_
    simp only [go_sem]
    simp only [i172,OT,reduceIte,Nat.reduceEqDiff,hw,optP]
theorem c143_gen {x:Rt}:Go.V.Call tab E 143 [.agg (rtC x)] [] (optP (rint x)) []:=by
  obtain ⟨n,p,q⟩:=x
  refine Go.V.Call.mach i143 c143 rfl rfl rfl rfl ?_
  have h112:=c171_gen (E:=E) (n:=n) (p:=p) (q:=q)
  have h113:=c172_gen (E:=E) (n:=n) (p:=p)
  simp only [ratG,whC,us32] at h112 h113
  by_cases h:dn q=1
  · rw [decide_eq_true h] at h112
    simp only [c143,rtC,ratG,us32,go_sem,subT3,FL]
    refine goP h112 ?_
    simp only [go_sem,subT2]
    refine goP h113 ?_
    cases hw:wint n p with
    | none=>
      simp only [optP,go_sem]
      simp only [i143,OT,reduceIte,Nat.reduceEqDiff,rint,h,hw,optP,if_true]
    | some z=>
      simp only [optP,go_sem]
      simp only [i143,OT,reduceIte,Nat.reduceEqDiff,rint,h,hw,optP,if_true]
  · rw [decide_eq_false h] at h112
    simp only [c143,rtC,ratG,us32,go_sem,subT3,FL]
    refine goP h112 ?_
    simp only [go_sem]
    simp only [i143,OT,reduceIte,Nat.reduceEqDiff,rint,h,optP,if_false]
def rlimbs (x:Rt):Nat:=max (limG x.2.1).length (limG (dn x.2.2)).length
def wdC (n:Bool) (p:Nat):List AV:=[.bool n,.str (dec p)]
theorem subD2 {a b:AV}:sub true 2 [a,b] 0=some (.agg [a,b]):=rfl
theorem subD0 {a b:AV}:sub false 1 [a,b] 0=some a:=rfl
theorem subD1 {a b:AV}:sub false 1 [a,b] 1=some b:=rfl
theorem subN0 {a b c:AV}:sub false 1 [a,b,c] 0=some a:=rfl
theorem subN1 {a b c:AV}:sub false 1 [a,b,c] 1=some b:=rfl
theorem subN2 {a b c:AV}:sub false 1 [a,b,c] 2=some c:=rfl
theorem dec_zero:dec 0=⟨#[48]⟩:=rfl
theorem dec_one:dec 1=⟨#[49]⟩:=by rw [dec_eq,decL_digit (by omega)];rfl
theorem dec_ne {a b:Nat}:strOp .ne (dec a) (dec b)=some (.bool (!decide (a=b))):=by
  rw [dec_eq,dec_eq]
  simp only [strOp,str_eq (decL_dig a).u8 (decL_dig b).u8]
  congr 3
  by_cases h:a=b
  · subst h;simp
  · rw [decide_eq_false h,decide_eq_false]
    intro hh
    exact h (by rw [←sval_decL a,hh,sval_decL])
theorem c182_ok {n:Bool} {p:Nat} (hp:(decL p).length≤1000000000):Go.V.Call tab E 182 [.bool n,.str (dec p)] [] (.agg (wdC (n&&decide (p≠0)) p)) []:=by
  refine Go.V.Call.mach i182 c182 rfl rfl rfl rfl ?_
  have h120:=c146_dig (E:=E) (decL_dig p) (decL_ne p) hp
  rw [sval_decL,←dec_eq] at h120
  have hne:=dec_ne (a:=p) (b:=0)
  rw [dec_zero] at hne
  have hd:(!decide (p=0))=decide (p≠0):=by simp
  simp only [c182,go_sem,FL]
  refine goP h120 ?_
  cases n with
  | true=>
    simp only [go_sem,FL,hne,hd]
    simp only [i182,OT,reduceIte,Nat.reduceEqDiff,subD2,wdC,Bool.true_and]
  | false=>
    simp only [go_sem,FL]
    simp only [i182,OT,reduceIte,Nat.reduceEqDiff,subD2,wdC,Bool.false_and]
theorem c165_ok {x:Rt} (hp:(decL x.2.1).length≤1000000000):Go.V.Call tab E 165 [.agg (numG x.1 x.2.1 (dn x.2.2))] [] (.agg (wdC (x.1&&decide (x.2.1≠0)) x.2.1)) []:=by
  refine Go.V.Call.mach i165 c165 rfl rfl rfl rfl ?_
  have h:=c182_ok (E:=E) (n:=x.1) hp
  simp only [c165,numG,go_sem,FL,subN0,subN1]
  refine goP h ?_
  simp only [wdC,go_sem,FL]
  simp only [i165,OT,reduceIte,Nat.reduceEqDiff,subD2,wdC]
theorem c173_ok {n:Bool} {p:Nat} (hp:(decL p).length≤1000000000) (h0:n=true→p≠0):Go.V.Call tab E 173 [.agg (wdC n p)] [] (optP (wint n p)) []:=by
  refine Go.V.Call.mach i173 c173 rfl rfl rfl rfl ?_
  have h139:=c190_ok (E:=E) hp
  simp only [c173,wdC,go_sem,FL,subD1,subD0]
  by_cases hb:p<18446744073709551616
  · rw [if_pos hb] at h139
    refine goP h139 ?_
    cases n with
    | true=>
      have h0':=h0 rfl
      by_cases h1:9223372036854775808<p
      · have h1':(9223372036854775808:Int)<(p:Int):=by omega
        have hw:wint true p=none:=by unfold wint;rw [if_pos rfl,if_neg (by omega)]
        simp only [go_sem,subD1,subD0,h1']
        simp only [i173,OT,reduceIte,Nat.reduceEqDiff,hw,optP]
      · have h1':¬(9223372036854775808:Int)<(p:Int):=by omega
        have hw:wint true p=some (-(p:Int)):=by unfold wint;rw [if_pos rfl,if_pos (by omega)]
        have e1:IntKind.u64.wrap ((p:Int) - 1)=(p:Int) - 1:=wrap_u64 (by omega) (by omega)
        have e2:IntKind.i64.wrap ((p:Int) - 1)=(p:Int) - 1:=wrap_i64 (by omega) (by omega)
        have e3:IntKind.i64.wrap (0 - ((p:Int) - 1))=1 - (p:Int):=by rw [wrap_i64 (by omega) (by omega)];omega
        have e4:IntKind.i64.wrap (1 - (p:Int) - 1) = -(p:Int):=by rw [wrap_i64 (by omega) (by omega)];omega
        simp only [go_sem,subD1,subD0,h1',e1,e2,e3,e4]
        simp only [i173,OT,reduceIte,Nat.reduceEqDiff,hw,optP]
    | false=>
      by_cases h1:9223372036854775807<p
      · have h1':(9223372036854775807:Int)<(p:Int):=by omega
        have hw:wint false p=none:=by unfold wint;rw [if_neg (by simp),if_neg (by omega)]
        simp only [go_sem,subD1,subD0,h1']
        simp only [i173,OT,reduceIte,Nat.reduceEqDiff,hw,optP]
      · have h1':¬(9223372036854775807:Int)<(p:Int):=by omega
        have hw:wint false p=some (p:Int):=by unfold wint;rw [if_neg (by simp),if_pos (by omega)]
        have e1:IntKind.i64.wrap (p:Int)=(p:Int):=wrap_i64 (by omega) (by omega)
        simp only [go_sem,subD1,subD0,h1',e1]
        simp only [i173,OT,reduceIte,Nat.reduceEqDiff,hw,optP]
  · rw [if_neg hb] at h139
    refine goP h139 ?_
    have hw:wint n p=none:=by unfold wint;split<;>rw [if_neg (by omega)]
    simp only [go_sem,subD1,subD0]
    simp only [i173,OT,reduceIte,Nat.reduceEqDiff,hw,optP]
theorem rint_norm {n:Bool} {p:Nat}:wint (n&&decide (p≠0)) p=wint n p:=by
  by_cases h:p=0
  · subst h;cases n<;>rfl
  · simp [h]
theorem c144_ok {x:Rt} (hp:(decL x.2.1).length≤1000000000):Go.V.Call tab E 144 [.agg (numG x.1 x.2.1 (dn x.2.2))] [] (optP (rint x)) []:=by
  refine Go.V.Call.mach i144 c144 rfl rfl rfl rfl ?_
  have hne:=dec_ne (a:=dn x.2.2) (b:=1)
  rw [dec_one] at hne
  have h123:=c165_ok (E:=E) hp
  have h122:=c173_ok (E:=E) (n:=x.1&&decide (x.2.1≠0)) hp (by intro h;simp at h;exact h.2)
  rw [rint_norm] at h122
  simp only [numG,wdC] at h123 h122
  by_cases h:dn x.2.2=1
  · rw [decide_eq_true h] at hne
    simp only [c144,numG,go_sem,FL,subN2,hne,subT3]
    refine goP h123 ?_
    simp only [go_sem]
    refine goP h122 ?_
    have hri:rint x=wint x.1 x.2.1:=by rw [rint,if_pos h]
    clear h hne
    cases hw:wint x.1 x.2.1 with
    | none=>
      simp only [optP,go_sem]
      simp only [i144,OT,reduceIte,Nat.reduceEqDiff,hri,hw,optP]
    | some z=>
      simp only [optP,go_sem]
      simp only [i144,OT,reduceIte,Nat.reduceEqDiff,hri,hw,optP]
  · rw [decide_eq_false h] at hne
    simp only [c144,numG,go_sem,FL,subN2,hne,subT3]
    have hri:rint x=none:=by rw [rint,if_neg h]
    simp only [i144,OT,reduceIte,Nat.reduceEqDiff,hri,optP]
end
def rv (x:Rt):Int:=(rint x).getD 0
def WhO (l:List Rt):Prop:=∀x∈l,(rint x).isSome=true
theorem WhO_take {l:List Rt} {i:Nat} (h:i<l.length):WhO (l.take (i+1))↔WhO (l.take i)∧(rint (rtAt l i)).isSome=true:=by
  have:l.take (i+1)=l.take i++[rtAt l i]:=takeAt h
  rw [this]
  unfold WhO
  simp only [List.mem_append,List.mem_singleton]
  exact ⟨fun h=>⟨fun x hx=>h x (.inl hx),h _ (.inr rfl)⟩,fun h x hx=>hx.elim (h.1 x) (fun e=>e▸h.2)⟩
theorem rtAt_mem {l:List Rt} {i:Nat} (h:i<l.length):rtAt l i∈l:=by simp [rtAt,List.getD,h]
theorem nmAt_map {l:List Rt} {i:Nat} (h:i<l.length):nmAt (l.map toNm) i=toNm (rtAt l i):=by simp [nmAt,rtAt,List.getD,h]
theorem rv_of {x:Rt} {z:Int} (h:rint x=some z):rv x=z:=by rw [rv,h];rfl
theorem RtOk.len {x:Rt} (h:RtOk x):(decL x.2.1).length≤1000000000∧(decL (dn x.2.2)).length≤1000000000:=⟨Nat.le_trans (lim2000_len h.1) (by omega),Nat.le_trans (lim2000_len h.2) (by omega)⟩
def lmax (l:List Rt):Nat:=l.foldl (fun a x=>max a (rlimbs x)) 0
def rbytes (x:Rt):Nat:=8+4*((limG x.2.1).length+(limG (dn x.2.2)).length)
def bsum (l:List Rt):Nat:=l.foldl (fun a x=>a+rbytes x) 0
def runeAt (t:List Int) (k:Int):Int:=if 0≤k∧k<t.length then t.getD k.toNat 0 else 0
theorem subX3 {a b c d e:AV}:sub false 1 [a,b,c,d,e] 3=some d:=rfl
theorem c58_ok {s t:List Int} {l:List Rt} {ch:Bool}:Go.V.Call tab E 58 [.agg (arrX s ch t l)] [] (.bool ch) []:=by
  refine Go.V.Call.mach i58 c58 rfl rfl rfl rfl ?_
  simp only [c58,arrX,runes,go_sem,subX1,FL]
  simp only [i58,OT,reduceIte,Nat.reduceEqDiff]
theorem c61_ok {s t:List Int} {l:List Rt} {ch:Bool} {k:Int} (ht:(t.length:Int)≤1000000000000):Go.V.Call tab E 61 [.agg (arrX s ch t l),.int .i64 k] [] (.int .i32 (runeAt t k)) []:=by
  refine Go.V.Call.mach i61 c61 rfl rfl rfl rfl ?_
  by_cases h1:k<0
  · have hp:runeAt t k=0:=by rw [runeAt,if_neg (by omega)]
    simp only [c61,arrX,runes,go_sem,subX2,FL,h1]
    simp only [i61,OT,reduceIte,Nat.reduceEqDiff,hp]
  · by_cases h2:(t.length:Int)≤k
    · have hp:runeAt t k=0:=by rw [runeAt,if_neg (by omega)]
      simp only [c61,arrX,runes,go_sem,subX2,FL,h1,h2]
      simp only [i61,OT,reduceIte,Nat.reduceEqDiff,hp]
    · have hp:runeAt t k=t.getD k.toNat 0:=by rw [runeAt,if_pos (by omega)]
      obtain ⟨j,rfl⟩:=Int.eq_ofNat_of_zero_le (show 0≤k by omega)
      rw [Int.toNat_natCast] at hp
      have hsub:=sub_nums (k:=.i32) (l:=t) (i:=j) (by omega)
      have h3:(0:Int)≤(j:Int):=by omega
      have h4:(j:Int)<(t.length:Int):=by omega
      simp only [c61,arrX,runes,go_sem,subX2,FL,h1,h2,h3,h4,Int.toNat_natCast,hsub]
      simp only [i61,OT,reduceIte,Nat.reduceEqDiff,hp]
theorem c100_X {s t:List Int} {l:List Rt} {ch ok:Bool} (ht:(t.length:Int)≤1000000000000) (hl:(l.length:Int)≤1000000000000) (hok:ok=true↔¬(ch=true∧0<t.length+l.length)∧WhO l) :
    Go.V.Call tab E 100 [.agg (arrX s ch t l)] [] (.tup [.arr 0 0,.bool ok]) [rowI (if ok then l.map rv else [])]:=by
  refine Go.V.Call.mach i100 c100 rfl rfl rfl rfl ?_
  have hfalse:¬(¬(ch=true∧0<t.length+l.length)∧WhO l)→ok=false:=fun h=>by rw [←Bool.not_eq_true,hok];exact h
  have h54:=c55_X (s:=s) (ch:=ch) ht hl
  simp only [arrX,runes,ints] at h54
  have main:¬(ch=true∧0<t.length+l.length)→Mach (Go.V.Call tab E) (Fin i100 [] (.tup [.arr 0 0,.bool ok]) [rowI (if ok then l.map rv else [])]) [.code (.seq (.seq (.reg none [⟨some 16,.faddr 3 (.t 1),none⟩,⟨some 17,.ld false 1 (.t 16),none⟩,⟨some 18,.lenf (.t 17),none⟩,⟨some 19,.mov (.k (.int .i64 0)),none⟩]) (.lv [4,17,18,19] (.block 0 (.loop [4,17,18,19] (some (3,[])) b100_0)))) k100_0)] .nrm
      ⟨[(1,.loc 0 0 0),(4,.arr 2 0)],[⟨true,35,5,0,1,arrX s ch t l,false⟩,⟨false,3,1,0,0,[],false⟩,⟨false,3,1,0,0,[],false⟩]⟩:=fun hch=>by
    simp only [arrX,runes,ints,go_sem,subX3,FL]
    refine mLoop (fun N st=>∃(i:Nat),i≤l.length∧N=l.length - i∧WhO (l.take i)∧
      st=⟨[(4,.arr 2 i),(17,.sl l.length 3 (rtsC l)),(18,.int .i64 l.length),(19,.int .i64 i)],
        [⟨true,35,5,0,1,arrX s ch t l,false⟩,⟨false,3,1,0,0,[],false⟩,⟨false,3,1,i,i,nums .i64 ((l.take i).map rv),false⟩]⟩) l.length
      ⟨_,rfl,0,by omega,by omega,fun x hx=>by simp at hx,by simp [nums,getE,ints,arrX,runes]⟩ ?_
    rintro N s0 ⟨i,hi,rfl,hw,rfl⟩
    by_cases hlt:i<l.length
    · have hlt':(i:Int)<(l.length:Int):=by omega
      have hi0:(0:Int)≤(i:Int):=by omega
      have hi1:IntKind.i64.wrap ((i:Int)+1)=((i+1:Nat):Int):=by rw [wrap_i64 (by omega) (by omega)];omega
      have hsub:=sub_rts hlt
      have htk:l.take (i+1)=l.take i++[rtAt l i]:=takeAt hlt
      have hwt:=WhO_take hlt
      have e1:(i+1)*8≤140737488355328:=by omega
      have e2:i+1≤140737488355328:=by omega
      have h88:=c143_gen (E:=E) (x:=rtAt l i)
      cases hr:rint (rtAt l i) with
      | none=>
        have:=hfalse (fun h=>by have:=h.2 _ (rtAt_mem hlt);rw [hr] at this;cases this)
        subst this
        rw [hr] at h88
        simp only [optP,rtC,ratG,us32] at h88
        simp only [b100_0,arrX,runes,ints,go_sem,hlt',hi0,Int.toNat_natCast,hsub,rtC,ratG,us32,subT3,FL]
        refine goR h88 rfl ?_
        simp only [go_sem,FL]
        simp only [i100,OT,reduceIte,Nat.reduceEqDiff,ownOut,ownL,ownV,scalar,List.contains_nil,List.length_nil,List.length_cons,List.nil_append,List.cons_append,storeOp,apartOf,freeze_nil,refsL,refs,List.flatMap_cons,List.flatMap_nil,List.append_nil,List.contains_nil,List.set_cons_zero,List.set_cons_succ,snap,snapL,fill_nums,flat_nums,nums_length,reduceCtorEq,Bool.false_eq_true,and_self,not_false_eq_true,beq_self_eq_true,Nat.zero_add]
        rfl
      | some z=>
        have hz:rv (rtAt l i)=z:=rv_of hr
        rw [hr] at h88 hwt
        simp only [optP,rtC,ratG,us32] at h88
        simp only [b100_0,arrX,runes,ints,go_sem,hlt',hi0,Int.toNat_natCast,hsub,rtC,ratG,us32,subT3,FL]
        refine goR h88 rfl ?_
        simp only [go_sem,FL,hi1,e1,e2,List.flatten_cons,List.flatten_nil,Option.getD_some]
        refine loopQ_go rfl (l.length - (i+1)) (by omega) ⟨i+1,by omega,rfl,hwt.2 ⟨hw,rfl⟩,?_⟩
        rw [htk]
        simp only [nums,List.map_append,List.map_cons,List.map_nil,hz,arrX,runes,ints]
        rfl
    · have hlt':¬(i:Int)<(l.length:Int):=by omega
      obtain rfl:i=l.length:=by omega
      rw [List.take_length] at hw
      have:=hok.2 ⟨hch,hw⟩
      subst this
      simp only [b100_0,k100_0,arrX,runes,ints,go_sem,hlt',List.take_length,Int.lt_irrefl]
      simp only [i100,OT,reduceIte,Nat.reduceEqDiff,ownOut,ownL,ownV,scalar,List.contains_nil,List.length_nil,List.length_cons,List.nil_append,List.cons_append,storeOp,apartOf,freeze_nil,refsL,refs,List.flatMap_cons,List.flatMap_nil,List.append_nil,List.contains_nil,List.set_cons_zero,List.set_cons_succ,snap,snapL,fill_nums,flat_nums,nums_length,reduceCtorEq,Bool.false_eq_true,and_self,not_false_eq_true,beq_self_eq_true,Nat.zero_add]
      simp [rowI]
  cases ch with
  | true=>
    simp only [c100,arrX,runes,ints,go_sem,subX1,subA5,FL]
    refine goP h54 ?_
    by_cases h0:0<t.length+l.length
    · have h0':(0:Int)<((t.length+l.length:Nat):Int):=by omega
      have:=hfalse (fun h=>h.1 ⟨rfl,h0⟩)
      subst this
      simp only [go_sem,h0']
      simp only [i100,OT,reduceIte,Nat.reduceEqDiff,ownOut,ownL,ownV,scalar,List.contains_nil,List.length_nil,List.length_cons,List.nil_append,List.cons_append,storeOp,apartOf,freeze_nil,refsL,refs,List.flatMap_cons,List.flatMap_nil,List.append_nil,List.contains_nil,List.set_cons_zero,List.set_cons_succ,snap,snapL,fill_nums,flat_nums,nums_length,reduceCtorEq,Bool.false_eq_true,and_self,not_false_eq_true,beq_self_eq_true,Nat.zero_add]
      rfl
    · have h0':¬(0:Int)<((t.length+l.length:Nat):Int):=by omega
      have hm:=main (fun h=>h0 h.2)
      simp only [arrX,runes,ints,go_sem,subX3,FL] at hm
      simp only [go_sem,h0',subX3]
      exact hm
  | false=>
    have hm:=main (fun h=>by cases h.1)
    simp only [arrX,runes,ints,go_sem,subX3,FL] at hm
    simp only [c100,arrX,runes,ints,go_sem,subX1,subX3,subA5,FL]
    exact hm
theorem subP3n {a b c d:AV}:sub false 1 [a,b,c,d] 3=some d:=rfl
theorem c103_ok {s t:List Int} {l:List Rt} {ch ok:Bool} (ht:(t.length:Int)≤1000000000000) (hl:(l.length:Int)≤1000000000000) (hlk:∀x∈l,RtOk x) (hok:ok=true↔t.length=0∧WhO l) :
    Go.V.Call tab E 103 [.agg (plX s ch t (l.map toNm))] [] (.tup [.arr 0 0,.bool ok]) [rowI (if ok then l.map rv else [])]:=by
  refine Go.V.Call.mach i103 c103 rfl rfl rfl rfl ?_
  have hfalse:¬(t.length=0∧WhO l)→ok=false:=fun h=>by rw [←Bool.not_eq_true,hok];exact h
  by_cases h0:0<t.length
  · have h0':(0:Int)<(t.length:Int):=by omega
    have:=hfalse (fun h=>by omega)
    subst this
    simp only [c103,plX,runes,ints,go_sem,subP4c,FL,h0']
    simp only [i103,OT,reduceIte,Nat.reduceEqDiff,ownOut,ownL,ownV,scalar,List.contains_nil,List.length_nil,List.length_cons,List.nil_append,List.cons_append,storeOp,apartOf,freeze_nil,refsL,refs,List.flatMap_cons,List.flatMap_nil,List.append_nil,List.contains_nil,List.set_cons_zero,List.set_cons_succ,snap,snapL,fill_nums,flat_nums,nums_length,reduceCtorEq,Bool.false_eq_true,and_self,not_false_eq_true,beq_self_eq_true,Nat.zero_add]
    rfl
  · have h0':¬(0:Int)<(t.length:Int):=by omega
    have hlm:(l.map toNm).length=l.length:=by simp
    simp only [c103,plX,runes,ints,go_sem,subP4c,FL,h0',hlm]
    refine mLoop (fun N st=>∃(i:Nat),i≤l.length∧N=l.length - i∧WhO (l.take i)∧
      st=⟨[(1,.loc 0 0 0),(4,.arr 2 i),(5,.int .i64 i)],
        [⟨true,26,4,0,1,plX s ch t (l.map toNm),false⟩,⟨false,3,1,0,0,[],false⟩,⟨false,3,1,i,i,nums .i64 ((l.take i).map rv),false⟩]⟩) l.length
      ⟨_,rfl,0,by omega,by omega,fun x hx=>by simp at hx,by simp [nums,getE,ints,plX,runes]⟩ ?_
    rintro N s0 ⟨i,hi,rfl,hw,rfl⟩
    by_cases hlt:i<l.length
    · have hlt':(i:Int)<(l.length:Int):=by omega
      have hi0:(0:Int)≤(i:Int):=by omega
      have hi1:IntKind.i64.wrap ((i:Int)+1)=((i+1:Nat):Int):=by rw [wrap_i64 (by omega) (by omega)];omega
      have hsub:=sub_nms (l:=l.map toNm) (i:=i) (by rw [hlm];exact hlt)
      rw [nmAt_map hlt,←nmC_dec] at hsub
      have htk:l.take (i+1)=l.take i++[rtAt l i]:=takeAt hlt
      have hwt:=WhO_take hlt
      have e1:(i+1)*8≤140737488355328:=by omega
      have e2:i+1≤140737488355328:=by omega
      have h97:=c144_ok (E:=E) (x:=rtAt l i) (hlk _ (rtAt_mem hlt)).len.1
      cases hr:rint (rtAt l i) with
      | none=>
        have:=hfalse (fun h=>by have:=h.2 _ (rtAt_mem hlt);rw [hr] at this;cases this)
        subst this
        rw [hr] at h97
        simp only [optP,numG] at h97
        simp only [b103_0,plX,runes,ints,go_sem,subP3n,subP3,hlt',hi0,hlm,Int.toNat_natCast,hsub,numG,FL]
        refine goP h97 ?_
        simp only [go_sem,FL]
        simp only [i103,OT,reduceIte,Nat.reduceEqDiff,ownOut,ownL,ownV,scalar,List.contains_nil,List.length_nil,List.length_cons,List.nil_append,List.cons_append,storeOp,apartOf,freeze_nil,refsL,refs,List.flatMap_cons,List.flatMap_nil,List.append_nil,List.contains_nil,List.set_cons_zero,List.set_cons_succ,snap,snapL,fill_nums,flat_nums,nums_length,reduceCtorEq,Bool.false_eq_true,and_self,not_false_eq_true,beq_self_eq_true,Nat.zero_add]
        rfl
      | some z=>
        have hz:rv (rtAt l i)=z:=rv_of hr
        rw [hr] at h97 hwt
        simp only [optP,numG] at h97
        simp only [b103_0,plX,runes,ints,go_sem,subP3n,subP3,hlt',hi0,hlm,Int.toNat_natCast,hsub,numG,FL]
        refine goP h97 ?_
        simp only [go_sem,FL,hi1,e1,e2,List.flatten_cons,List.flatten_nil,Option.getD_some]
        refine loopQ_go rfl (l.length - (i+1)) (by omega) ⟨i+1,by omega,rfl,hwt.2 ⟨hw,rfl⟩,?_⟩
        rw [htk]
        simp only [nums,List.map_append,List.map_cons,List.map_nil,hz,plX,runes,ints]
        rfl
    · have hlt':¬(i:Int)<(l.length:Int):=by omega
      obtain rfl:i=l.length:=by omega
      rw [List.take_length] at hw
      have:=hok.2 ⟨by omega,hw⟩
      subst this
      simp only [b103_0,k103_0,plX,runes,ints,go_sem,subP3n,subP3,hlm,hlt',List.take_length,Int.lt_irrefl]
      simp only [i103,OT,reduceIte,Nat.reduceEqDiff,ownOut,ownL,ownV,scalar,List.contains_nil,List.length_nil,List.length_cons,List.nil_append,List.cons_append,storeOp,apartOf,freeze_nil,refsL,refs,List.flatMap_cons,List.flatMap_nil,List.append_nil,List.contains_nil,List.set_cons_zero,List.set_cons_succ,snap,snapL,fill_nums,flat_nums,nums_length,reduceCtorEq,Bool.false_eq_true,and_self,not_false_eq_true,beq_self_eq_true,Nat.zero_add]
      simp [rowI]
theorem c56_X {s t:List Int} {l:List Rt} {ch:Bool} (hs:(s.length:Int)≤1000000000000):Go.V.Call tab E 56 [.agg (arrX s ch t l)] [] (.int .i64 s.length) []:=by
  refine Go.V.Call.mach i56 c56 rfl rfl rfl rfl ?_
  have h69:=c48_X (s:=s) (t:=t) (l:=l) (ch:=ch) hs
  simp only [arrX,runes,ints] at h69
  simp only [c56,arrX,runes,ints,go_sem,subA5,FL]
  refine goP h69 ?_
  simp only [go_sem,FL]
  simp only [i56,OT,reduceIte,Nat.reduceEqDiff]
theorem c117_X {l:List Rt} (hl:(l.length:Int)≤1000000000000):Go.V.Call tab E 117 [.sl l.length 3 (rtsC l)] [] (.arr 0 0) [⟨false,98,3,0,l.length,rtsC l,false⟩]:=by
  refine ⟨0,?_⟩
  have h1:l.length*56≤140737488355328:=by omega
  have h2:l.length≤140737488355328:=by omega
  simp only [CallN,E,ext,cloneOf,h1,h2,and_self,if_true]
theorem c60_ok {s t:List Int} {l:List Rt} {ch:Bool} (hl:(l.length:Int)≤1000000000000):Go.V.Call tab E 60 [.agg (arrX s ch t l)] [] (.arr 0 0) [⟨false,98,3,0,l.length,rtsC l,false⟩]:=by
  refine Go.V.Call.mach i60 c60 rfl rfl rfl rfl ?_
  simp only [c60,arrX,runes,ints,go_sem,subX3,FL]
  refine goO (c117_X hl) rfl rfl ?_
  simp only [go_sem,FL]
  simp only [i60,OT,reduceIte,Nat.reduceEqDiff,ownOut,ownL,ownV,scalar,List.contains_nil,List.length_nil,List.length_cons,List.nil_append,List.cons_append,storeOp,apartOf,freeze_nil,refsL,refs,List.flatMap_cons,List.flatMap_nil,List.append_nil,List.contains_nil,List.set_cons_zero,List.set_cons_succ,snap,snapL,fill_nums,flat_nums,nums_length,reduceCtorEq,Bool.false_eq_true,and_self,not_false_eq_true,beq_self_eq_true,Nat.zero_add]
def roomX (s t:List Int) (l:List Rt):Nat:=16+4*s.length+t.length+bsum l
theorem sgn_mul {a b:Int}:decide (a*b<0)=((decide (a<0) != decide (b<0))&&decide (a.natAbs*b.natAbs≠0)):=by
  by_cases ha:a<0
  · by_cases hb:b<0
    · have h1:=Int.mul_pos_of_neg_of_neg ha hb
      rw [decide_eq_true ha,decide_eq_true hb,decide_eq_false (show ¬a*b<0 by omega)]
      rfl
    · rw [decide_eq_true ha,decide_eq_false hb]
      by_cases h0:b=0
      · subst h0;simp
      · have h1:=Int.mul_neg_of_neg_of_pos ha (show 0<b by omega)
        rw [decide_eq_true h1,decide_eq_true (Nat.mul_ne_zero (by omega) (by omega))]
        rfl
  · rw [decide_eq_false ha]
    by_cases hb:b<0
    · rw [decide_eq_true hb]
      by_cases h0:a=0
      · subst h0;simp
      · have h1:=Int.mul_neg_of_pos_of_neg (show 0<a by omega) hb
        rw [decide_eq_true h1,decide_eq_true (Nat.mul_ne_zero (by omega) (by omega))]
        rfl
    · have h1:=Int.mul_nonneg (show 0≤a by omega) (show 0≤b by omega)
      rw [decide_eq_false hb,decide_eq_false (show ¬a*b<0 by omega)]
      rfl
theorem divInt_parts {a b:Int} (hb:b≠0):(Rat.divInt a b).num.natAbs=a.natAbs/Nat.gcd a.natAbs b.natAbs∧(Rat.divInt a b).den=b.natAbs/Nat.gcd a.natAbs b.natAbs∧
    (decide ((Rat.divInt a b).num<0))=((decide (a<0) != decide (b<0))&&decide (a.natAbs/Nat.gcd a.natAbs b.natAbs≠0)):=by
  have hg:Int.gcd b a=Nat.gcd a.natAbs b.natAbs:=by rw [Int.gcd_comm];rfl
  have hgp:0<Nat.gcd a.natAbs b.natAbs:=Nat.gcd_pos_of_pos_right _ (by omega)
  have hd1:Nat.gcd a.natAbs b.natAbs ∣ a.natAbs:=Nat.gcd_dvd_left _ _
  rw [Rat.num_divInt,Rat.den_divInt,if_neg hb,hg]
  generalize Nat.gcd a.natAbs b.natAbs=g at *
  have hdi:(g:Int) ∣ a:=Int.dvd_natAbs.1 (Int.natCast_dvd_natCast.2 hd1)
  obtain ⟨k,hk⟩:=hdi
  have hgz:(g:Int)≠0:=by omega
  have hq:b.sign*a/(g:Int)=b.sign*k:=by
    rw [hk,←Int.mul_assoc,Int.mul_comm b.sign,Int.mul_assoc]
    exact Int.mul_ediv_cancel_left _ hgz
  have hka:a.natAbs/g=k.natAbs:=by
    rw [hk,Int.natAbs_mul,Int.natAbs_natCast]
    exact Nat.mul_div_cancel_left _ hgp
  have hs:(b.sign).natAbs=1:=Int.natAbs_sign_of_ne_zero hb
  rw [hq,hka]
  refine ⟨by rw [Int.natAbs_mul,hs,Nat.one_mul],rfl,?_⟩
  have hak:decide (a<0)=decide (k<0):=by
    by_cases h:k<0
    · have:=Int.mul_neg_of_pos_of_neg (show (0:Int)<g by omega) h
      rw [decide_eq_true h,decide_eq_true (show a<0 by omega)]
    · have:=Int.mul_nonneg (show (0:Int)≤g by omega) (show 0≤k by omega)
      rw [decide_eq_false h,decide_eq_false (show ¬a<0 by omega)]
  rw [hak,sgn_mul]
  have hsb:decide (b.sign<0)=decide (b<0):=by
    rcases Int.lt_trichotomy b 0 with h|h|h
    · rw [Int.sign_eq_neg_one_of_neg h];simp [h]
    · exact absurd h hb
    · rw [Int.sign_eq_one_of_pos h];simp;omega
  rw [hsb,hs,Nat.one_mul]
  cases decide (b<0)<;>cases decide (k<0)<;>rfl
theorem add_divInt (a b:Rat):Rat.divInt (a.num*b.den+b.num*a.den) ((a.den:Int)*b.den)=a+b:=by
  rw [Rat.add_def',←Rat.divInt_ofNat];rfl
theorem mul_divInt (a b:Rat):Rat.divInt (a.num*b.num) ((a.den:Int)*b.den)=a*b:=by
  rw [Rat.mul_def',←Rat.divInt_ofNat];rfl
theorem div_divInt (a b:Rat):Rat.divInt (a.num*b.den) ((a.den:Int)*b.num)=a/b:=by
  rw [Rat.div_def,Rat.inv_def]
  have:a=Rat.divInt a.num a.den:=by rw [Rat.divInt_ofNat];exact (Rat.mkRat_self a).symm
  conv=>rhs;lhs;rw [this]
  rw [Rat.divInt_mul_divInt]
def Sz (k:Nat) (r:Rat):Prop:=r.num.natAbs<2^k∧r.den<2^k
theorem Sz.mono {i j:Nat} {r:Rat} (h:Sz i r) (hij:i≤j):Sz j r:=⟨Nat.lt_of_lt_of_le h.1 (Nat.pow_le_pow_right (by omega) hij),Nat.lt_of_lt_of_le h.2 (Nat.pow_le_pow_right (by omega) hij)⟩
theorem lt_mul_pow {a b i j:Nat} (ha:a<2^i) (hb:b<2^j):a*b<2^(i+j):=by
  rw [Nat.pow_add]
  exact Nat.mul_lt_mul'' ha hb
theorem add_num_lt {a b:Rat} {i j:Nat} (ha:Sz i a) (hb:Sz j b):(a.num*b.den+b.num*a.den).natAbs<2^(i+j+1)∧((a.den:Int)*b.den).natAbs<2^(i+j):=by
  have h1:=lt_mul_pow ha.1 hb.2
  have h2:=lt_mul_pow hb.1 ha.2
  have h3:=lt_mul_pow ha.2 hb.2
  rw [Nat.add_comm j i] at h2
  have e1:(a.num*b.den).natAbs=a.num.natAbs*b.den:=by rw [Int.natAbs_mul,Int.natAbs_natCast]
  have e2:(b.num*a.den).natAbs=b.num.natAbs*a.den:=by rw [Int.natAbs_mul,Int.natAbs_natCast]
  refine ⟨?_,by rw [Int.natAbs_mul,Int.natAbs_natCast,Int.natAbs_natCast];exact h3⟩
  rw [Nat.pow_succ]
  have:=Int.natAbs_add_le (a.num*b.den) (b.num*a.den)
  omega
theorem Sz.of_divInt {a b:Int} {k:Nat} (h1:a.natAbs<2^k) (h2:b.natAbs<2^k) (hb:b≠0):Sz k (Rat.divInt a b):=by
  obtain ⟨p1,p2,_⟩:=divInt_parts (a:=a) hb
  exact ⟨by rw [p1];exact Nat.lt_of_le_of_lt (Nat.div_le_self _ _) h1,by rw [p2];exact Nat.lt_of_le_of_lt (Nat.div_le_self _ _) h2⟩
theorem den_mul_ne {a b:Rat}:((a.den:Int)*b.den)≠0:=by
  have:=a.den_nz;have:=b.den_nz
  exact Int.mul_ne_zero (by omega) (by omega)
theorem Sz.add {a b:Rat} {i j:Nat} (ha:Sz i a) (hb:Sz j b):Sz (i+j+1) (a+b):=by
  obtain ⟨h1,h2⟩:=add_num_lt ha hb
  rw [←add_divInt]
  exact Sz.of_divInt h1 (Nat.lt_trans h2 (Nat.pow_lt_pow_right (by omega) (by omega))) den_mul_ne
theorem mul_num_lt {a b:Rat} {i j:Nat} (ha:Sz i a) (hb:Sz j b):(a.num*b.num).natAbs<2^(i+j)∧((a.den:Int)*b.den).natAbs<2^(i+j):=
  ⟨by rw [Int.natAbs_mul];exact lt_mul_pow ha.1 hb.1,by rw [Int.natAbs_mul,Int.natAbs_natCast,Int.natAbs_natCast];exact lt_mul_pow ha.2 hb.2⟩
theorem Sz.mul {a b:Rat} {i j:Nat} (ha:Sz i a) (hb:Sz j b):Sz (i+j) (a*b):=by
  obtain ⟨h1,h2⟩:=mul_num_lt ha hb
  rw [←mul_divInt]
  exact Sz.of_divInt h1 h2 den_mul_ne
theorem div_num_lt {a b:Rat} {i j:Nat} (ha:Sz i a) (hb:Sz j b):(a.num*b.den).natAbs<2^(i+j)∧((a.den:Int)*b.num).natAbs<2^(i+j):=
  ⟨by rw [Int.natAbs_mul,Int.natAbs_natCast];exact lt_mul_pow ha.1 hb.2,by rw [Int.natAbs_mul,Int.natAbs_natCast];exact lt_mul_pow ha.2 hb.1⟩
theorem Sz.div {a b:Rat} {i j:Nat} (ha:Sz i a) (hb:Sz j b) (h0:b.num≠0):Sz (i+j) (a/b):=by
  obtain ⟨h1,h2⟩:=div_num_lt ha hb
  rw [←div_divInt]
  exact Sz.of_divInt h1 h2 (Int.mul_ne_zero (by have:=a.den_nz;omega) h0)
theorem Sz.neg {a:Rat} {i:Nat} (ha:Sz i a):Sz i (-a):=by
  unfold Sz
  rw [Rat.neg_num,Rat.neg_den,Int.natAbs_neg]
  exact ha
def rR (r:Rat):Rt:=(decide (r.num<0),r.num.natAbs,r.den)
def RV (x:Rt) (r:Rat):Prop:=x.1=decide (r.num<0)∧x.2.1=r.num.natAbs∧dn x.2.2=r.den
theorem RV.zero:RV (false,0,0) 0:=⟨rfl,rfl,rfl⟩
def wI (z:Int):List AV:=whC (decide (z<0)) z.natAbs
def ofN (x:Rt):Rat:=mkRat (if x.1 then -(x.2.1:Int) else x.2.1) x.2.2
def zR (z:Int):Rt:=(decide (z<0),z.natAbs,1)
theorem ratC_zR {z:Int} (hz:In64 z):ratC z=rtC (zR z):=by
  obtain ⟨h1,h2⟩:=hz
  rw [ratC,lim_limG (by omega)]
  show _=[us32 (limG z.natAbs),AV.bool (decide (z<0)),us32 (limG 1)]
  rw [limG_one (d:=1) (by omega) (by omega)]
  rfl
theorem ratsC_zR {l:List Int} (hl:∀z∈l,In64 z):ratsC l=rtsC (l.map zR):=by
  induction l with
  | nil=>rfl
  | cons z l ih=>
    have e1:ratsC (z::l)=ratC z++ratsC l:=by simp [ratsC]
    have e2:rtsC ((z::l).map zR)=rtC (zR z)++rtsC (l.map zR):=by simp [rtsC]
    rw [e1,e2,ratC_zR (hl z (by simp)),ih fun y hy=>hl y (by simp [hy])]
theorem arrV_X {s l:List Int} (hl:∀z∈l,In64 z):arrV s l=arrX s false [] (l.map zR):=by
  rw [arrV,arrX,ratsC_zR hl,List.length_map]
  rfl
theorem rint_zR {z:Int} (hz:In64 z):rint (zR z)=some z:=by
  obtain ⟨h1,h2⟩:=hz
  have hd:dn (zR z).2.2=1:=rfl
  rw [rint,if_pos hd]
  show wint (decide (z<0)) z.natAbs=some z
  by_cases h:z<0
  · rw [decide_eq_true h,wint,if_pos rfl,if_pos (by omega)]
    congr 1;omega
  · rw [decide_eq_false h,wint,if_neg (by simp),if_pos (by omega)]
    congr 1;omega
theorem rv_zR {z:Int} (hz:In64 z):rv (zR z)=z:=rv_of (rint_zR hz)
theorem map_rv_zR {l:List Int} (hl:∀z∈l,In64 z):(l.map zR).map rv=l:=by
  rw [List.map_map]
  conv=>rhs;rw [←List.map_id l]
  exact List.map_congr_left fun x hx=>rv_zR (hl x hx)
theorem wint_64 {n:Bool} {p:Nat} {z:Int} (h:wint n p=some z):In64 z:=by
  unfold wint at h
  split at h
  · split at h
    · simp at h;subst h;unfold In64;omega
    · cases h
  · split at h
    · simp at h;subst h;unfold In64;omega
    · cases h
theorem rv_64 {x:Rt}:In64 (rv x):=by
  unfold rv
  cases h:rint x with
  | none=>exact ⟨by decide,by decide⟩
  | some z=>
    unfold rint at h
    split at h
    · exact wint_64 h
    · cases h
theorem zR_ok {z:Int} (hz:In64 z):RtOk (zR z):=by
  have h:∀n,n≤9223372036854775808→n<lim2000:=fun n hn=>Nat.lt_of_lt_of_le (show n<10^19 by omega) (pow10_le (by omega))
  obtain ⟨h1,h2⟩:=hz
  exact ⟨h _ (by show z.natAbs≤_;omega),h _ (by show dn 1≤_;decide)⟩
def wholeB (ch:Bool) (t:List Int) (L:List Rt):Bool:=!(ch&&decide (0<t.length+L.length))&&L.all fun x=>(rint x).isSome
theorem wholeB_iff {ch:Bool} {t:List Int} {L:List Rt}:wholeB ch t L=true↔¬(ch=true∧0<t.length+L.length)∧WhO L:=by
  unfold wholeB WhO
  simp only [Bool.and_eq_true,Bool.not_eq_true',List.all_eq_true]
  refine and_congr_left' ?_
  cases ch<;>simp
def lisV (s:List Int) (ch:Bool) (t:List Int) (L:List Rt):List Int:=if s.length≤1∧wholeB ch t L=true then L.map rv else []
def lisE (s:List Int) (ch:Bool) (t:List Int) (L:List Rt):Int:=if 1<s.length then 23 else if wholeB ch t L=true then 0 else 22
def noP:List AV:=plX [] false [] []
theorem noA_len:Go.V.Call tab E 55 [.agg noA] [] (.int .i64 0) []:=c55_no
def axA (s:List Int) (a:Int):Int:=if a<0 then (s.length:Int) - 1 else a
def axB (s:List Int) (a:Int):Bool:=decide (0≤axA s a)&&decide (axA s a<(s.length:Int))
theorem c45_X {l:List Int} (hl:(l.length:Int)≤1000000000000) (hz:∀z∈l,In64 z):Go.V.Call tab E 45 [ints l] [] (.agg (arrX [(l.length:Int)] false [] (l.map zR))) []:=by
  rw [←arrV_X hz]
  exact c45_ok hl hz
theorem fits_of {s:List Int} {n:Nat} (h:count s=some (n:Int)):fits s n=true:=by rw [fits,h];simp
def outA (e:Int) (s ks:List Int) (ch:Bool) (t:List Int) (L:List Rt):List AV:=if e=0 then arrX s ch (picksT ch t ks) (picksR ch L ks) else noA
def outP (e:Int) (s ks:List Int) (ch:Bool) (t:List Int) (l:List Nm):List AV:=if e=0 then plX s ch (picksT ch t ks) (picksN ch l ks) else noP
def negB (w:List Int):Bool:=w.any fun d=>decide (d<0)
def resE (e0:Int) (w:List Int):Int:=if e0≠0 then e0 else if negB w=true then 22 else match count w with|none=>if 8<w.length then 23 else 26|some _=>0
def cyc (w:List Int) (len:Nat):List Int:=(List.range (prd w).toNat).map fun i=>if len=0 then (-1:Int) else ((i % len:Nat):Int)
theorem numC_zR {z:Int}:numC z=nmC (toNm (zR z)):=by
  have h1:toNm (zR z)=(decide (z<0),decL z.natAbs,decL (dn 1)):=rfl
  rw [h1]
  simp only [numC,nmC,dec_eq]
  rw [show dn 1=1 from rfl,decL_digit (d:=1) (by omega)]
  rfl
theorem numsC_zR {l:List Int}:numsC l=nmsC ((l.map zR).map toNm):=by
  induction l with
  | nil=>rfl
  | cons z l ih=>
    have e1:numsC (z::l)=numC z++numsC l:=by simp [numsC]
    rw [e1,ih,numC_zR]
    simp [nmsC]
theorem plG_X {s t l:List Int} {ch:Bool}:plG s ch t l=plX s ch t ((l.map zR).map toNm):=by
  rw [plG,plX,numsC_zR]
  simp
theorem lt_of {α:Type} {l:List α} {i:Nat} {a:α} (h:l[i]?=some a):i<l.length:=(List.getElem?_eq_some_iff.1 h).1
theorem mapIA {l:List AObj}:List.mapIdx (fun (_:Nat) (o:AObj)=>o) l=l:=by
  apply List.ext_getElem?
  intro i
  simp
theorem fill_one {cs:List AV} {i:Nat} {v:AV} (h:i<cs.length):fillIn cs (i*1) [v]=cs.set i v:=by
  unfold fillIn
  rw [Nat.mul_one,List.set_eq_take_append_cons_drop,if_pos h]
  simp
theorem snap_arr {M:List AObj} {n g k:Nat} {ob:AObj} (h:M[n]?=some ob) (hg:ob.g=g):snap M (k+1) (.arr n g)=(snapL M k ob.box ob.cs).map fun cs=>.sl ob.n ob.sz cs:=by
  have e:geto M n g=some ob:=by rw [geto,h];simp only [hg,if_true]
  rw [snap,e]
theorem goF_at {C:CallRel} {Q:X→St→Prop} {k:List Go.V.Item} {d:Option Nat} {os:List IOp} {f:Nat} {xs:List Opd} {env:Env} {M:List AObj} {vs:List AV} {r:AV} (ha:xs.mapM (fun x=>snap M 10 (ev env x))=some vs) (h:C f vs [] r [])
    (hk:Mach C Q (.ops os::k) .nrm ⟨putE env d r,Go.V.freeze (xs.flatMap fun x=>refs M 10 (ev env x)) M⟩):Mach C Q (.ops (⟨d,.callF f xs,none⟩::os)::k) .nrm ⟨env,M⟩:=by
  rw [mCallF]
  show MachA C Q .F f (xs.mapM fun x=>snap M 10 (ev env x)) _ d os k _
  rw [ha]
  exact goF h hk
theorem frz_get {M:List AObj} {ns:List Nat} {i:Nat} {o:AObj} (h:M[i]?=some o) (hn:ns.contains i=false):(Go.V.freeze ns M)[i]?=some o:=by
  unfold Go.V.freeze
  rw [List.getElem?_mapIdx,h]
  simp only [Option.map_some,hn]
  rfl
theorem getA {M:List AObj} {k:Nat} {o:AObj} (h:M[k]?=some o) (Y:List AObj):(M++Y)[k]?=some o:=by rw [List.getElem?_append_left (lt_of h)];exact h
theorem getL {M Y:List AObj} {o:AObj}:(M++o::Y)[M.length]?=some o:=by simp
theorem getLk {M Y:List AObj} {k:Nat}:(M++Y)[M.length+k]?=Y[k]?:=by rw [List.getElem?_append_right (by omega)];congr 1;omega
theorem refs_row {M:List AObj} {i g j:Nat} {o:AObj} (h:M[i]?=some o) (ho:o.box=false) (hj:i≠j):j∉refs M 10 (.arr i g):=by
  show j∉i::(match geto M i g with|some o=>refsL M 9 o.box o.cs|none=>[])
  rw [geto,h]
  intro hm
  rcases List.mem_cons.1 hm with rfl|hm
  · exact hj rfl
  split at hm
  · rename_i o' ho'
    simp only at ho'
    split at ho'
    · obtain rfl:=Option.some.inj ho'
      rw [ho] at hm
      cases hm
    · cases ho'
  · cases hm
theorem getS {M:List AObj} {i:Nat} {o o':AObj} (h:M[i]?=some o):(M.set i o')[i]?=some o':=by rw [List.getElem?_set_self (lt_of h)]
theorem snap1 {M:List AObj} {env:Env} {x:Opd} {a:AV} (h1:snap M 10 (ev env x)=some a):[x].mapM (fun x=>snap M 10 (ev env x))=some [a]:=by
  simp only [List.mapM_cons,List.mapM_nil,h1]
  rfl
theorem notin1 {M:List AObj} {env:Env} {x:Opd} {i:Nat} (h1:i∉refs M 10 (ev env x)):([x].flatMap fun x=>refs M 10 (ev env x)).contains i=false:=by
  simp only [List.flatMap_cons,List.flatMap_nil,List.append_nil]
  rw [Bool.eq_false_iff]
  exact fun h=>h1 (List.contains_iff_mem.1 h)
theorem refs_rows {M:List AObj} {i j ty m a b c d:Nat} {l l':List AV} {fr:Bool} (h:M[i]?=some ⟨true,ty,1,0,m,[.sl a b l,.sl c d l'],fr⟩) (hj:i≠j):j∉refs M 10 (.arr i 0):=by
  have e:refs M 10 (.arr i 0)=[i]:=by
    show i::(match geto M i 0 with|some o=>refsL M 9 o.box o.cs|none=>[])=_
    rw [geto,h]
    rfl
  rw [e]
  intro hm
  exact hj (List.mem_singleton.1 hm).symm
theorem getLs {M Y:List AObj} (k:Nat) {o:AObj} (h:Y[k]?=some o):(M++Y)[M.length+k]?=some o:=getLk.trans h
theorem getA0 {M:List AObj} {k:Nat} {ob:AObj} (h:M[k]?=some ob) (hk:0<k) (o:AObj) (Y:List AObj):((M++Y).set 0 o)[k]?=some ob:=by
  rw [List.getElem?_set_ne (by omega)];exact getA h Y
end Go.Proofs.YtlejgleocnemoaaGreat.I
