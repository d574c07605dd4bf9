/- The texts L03a L03b L06h LNum L06i L06j L06k L06l L06m L06n L03c L06o LRat L06p L08a L08b L08c LMem L11b LSub, one behind the other. Conditions: each text's own. -/
import Derived.Test.YtlejgleocnemoaaG05
import Derived.Test.YtlejgleocnemoaaG04
import Derived.Test.YtlejgleocnemoaaG02
import Derived.Deep.Slices
import Derived.Deep.Fields
import Derived.ChangeArms
import Derived.ChangeSlices
set_option linter.unusedSimpArgs false
set_option linter.unusedVariables false
namespace Go.Proofs.Ytlejgleocnemoaa.I
open Go Go.V
attribute [local go_sem_proc ↓] reduceIte
attribute [local go_sem_proc] Nat.reduceEqDiff Nat.reduceAdd Nat.reduceMul Nat.reduceLeDiff Nat.reduceLT Int.reduceToNat Int.reduceLT Int.reduceLE reduceCtorEq Nat.reduceBEq
attribute [local go_sem] mNil nat0 beq_self_eq_true mSkip mRet mExit mReg mSeq mCond mTrue mFalse mBlock mLv mCodeE mCodeR mEndN mEndR mEndE mOps mSome mGuard mGtt mGff mGtf mGft mGu mCallP mCallR mCallF mCallO mCallZ mCallG mCallM mCallV loopQ_exit loopQ_ret mO_mov mO_newnil mO_pick mO_alloc mO_box mO_build mO_bsl mO_bslF mO_newnilB mO_bslB mO_lenB mO_appB mO_allocA mO_bslA mO_appA mO_ldb mO_faddrb mRsv mO_ldf mO_ld mO_st mO_sta mO_nilchk mO_bin mO_binb mO_binp mO_bins mO_neg mO_com mO_not mO_conv mO_mk mO_mk0 mO_mkB mO_s2b mO_b2s mO_cpy mO_cut mO_faddr mO_fld mO_iaddr mO_iaddrf mO_sidx mO_len mO_lenf mO_slen mO_scut mO_app mO_ext mO_mx mO_mn mO_mkfn evalOp cutOp argsE ev getE putE cellsOf adopt rowOf binV boolV nilV ar_add ar_sub ar_mul ar_quo ar_rem ar_eq ar_ne ar_lt ar_le ar_gt ar_ge ar_and ar_or ar_xor geto bound finRet finNrm ints List.length_cons List.length_nil List.length_append List.getElem?_cons_zero List.getElem?_cons_succ List.nil_append List.cons_append List.map_cons List.map_nil List.mapM_cons List.mapM_nil Option.map_some Option.map_none Option.bind_some Option.pure_def Option.bind_eq_bind List.drop_zero or_self or_false false_or or_true true_or true_and and_true and_self decide_true decide_false Bool.false_eq_true Bool.true_eq_false Bool.not_true Bool.not_false Nat.le_refl eq_self gt_iff_lt ge_iff_le ne_eq not_true_eq_false not_false_eq_true storeOp apartOf freeze_nil refsL refs List.flatMap_cons List.flatMap_nil List.append_nil List.contains_nil List.set_cons_zero List.set_cons_succ snap snapL fill_nums flat_nums nums_length Go.V.freeze List.mapIdx_cons List.mapIdx_nil List.contains_cons Bool.or_false Bool.false_or Bool.or_true Bool.true_or
def ratG (n:Bool) (p q:Nat):List AV:=[us32 (limG p),.bool n,us32 (limG q)]
def numG (n:Bool) (p q:Nat):List AV:=[.bool n,.str (dec p),.str (dec q)]
def dn (q:Nat):Nat:=if q=0 then 1 else q
section
variable {E:CallRel}
theorem c123_nat {n:Nat}:Go.V.Call tab E 123 [natC n] [] (.bool (decide (n=0))) []:=by
  have h:=c123_ok (E:=E) (l:=limG n)
  by_cases h0:n=0
  · subst h0
    rw [limG_zero] at h
    rw [natC,limG_zero,decide_eq_true rfl]
    exact h
  · have:(((limG n).length:Int)==0)=false:=by
      rw [beq_eq_false_iff_ne]
      intro h1
      exact h0 (limG_len0 (by omega))
    rw [this] at h
    rw [decide_eq_false h0]
    exact h
theorem c77_gen {n:Bool} {p:Nat}:Go.V.Call tab E 77 [.agg [us32 (limG p),.bool n]] [] (.bool n) []:=by
  refine Go.V.Call.mach i77 c77 rfl rfl rfl rfl ?_
  simp only [c77,us32,go_sem,sub,FL]
  simp only [i77,OT,reduceIte,Nat.reduceEqDiff]
theorem c134_gen {n:Bool} {p:Nat}:Go.V.Call tab E 134 [.agg [us32 (limG p),.bool n]] [] (natC p) []:=by
  refine Go.V.Call.mach i134 c134 rfl rfl rfl rfl ?_
  simp only [c134,natC,us32,go_sem,sub,FL]
  simp only [i134,OT,reduceIte,Nat.reduceEqDiff,sub,FL,List.length_cons,List.length_nil,Nat.le_refl,us32]
theorem c79_gen {n:Bool} {p q:Nat}:Go.V.Call tab E 79 [.agg (ratG n p q)] [] (natC (dn q)) []:=by
  refine Go.V.Call.mach i79 c79 rfl rfl rfl rfl ?_
  have h124:=c123_nat (E:=E) (n:=q)
  simp only [natC,us32] at h124
  simp only [c79,natC,ratG,us32,go_sem,sub,FL]
  refine goP h124 ?_
  by_cases h:q=0
  · subst h
    have h90:=c114_nat (E:=E) (n:=1) (by omega)
    simp only [natC,us32] at h90
    simp only [dn,us32,go_sem,sub,FL]
    refine goP h90 ?_
    simp only [us32,go_sem,sub,FL]
    simp only [i79,OT,reduceIte,Nat.reduceEqDiff,sub,FL,List.length_cons,List.length_nil,Nat.le_refl,us32]
  · simp only [dn,us32,go_sem,sub,FL,h]
    simp only [i79,OT,reduceIte,Nat.reduceEqDiff,sub,FL,List.length_cons,List.length_nil,Nat.le_refl,us32]
theorem dgs_small {n:Nat} (h:n<lim2000):(dgs n).length≤1000000:=by
  by_cases h0:n=0
  · subst h0;rw [dgs_zero];simp
  · have:=lim2000_len h
    unfold decL at this
    rw [if_neg h0,List.length_reverse,asc_len] at this
    omega
theorem c78_lim {n:Nat} (h:n<lim2000):Go.V.Call tab E 78 [natC n] [] (.str (dec n)) []:=
  c78_ok (Nat.le_trans (lim2000_limbs h) (by omega)) (dgs_small h)
theorem c26_gen {n:Bool} {p q:Nat} (hp:p<lim2000) (hq:dn q<lim2000):Go.V.Call tab E 26 [.agg (ratG n p q)] [] (.agg (numG n p (dn q))) []:=by
  have h99:=c78_lim (E:=E) hp
  have h991:=c78_lim (E:=E) hq
  have h98:=c77_gen (E:=E) (n:=n) (p:=p)
  have h100:=c79_gen (E:=E) (n:=n) (p:=p) (q:=q)
  simp only [natC,us32,ratG] at h99 h991 h98 h100
  refine Go.V.Call.mach i26 c26 rfl rfl rfl rfl ?_
  simp only [c26,ratG,us32,go_sem,sub,FL]
  refine goP h98 ?_
  simp only [us32,go_sem,sub,FL]
  refine goP h99 ?_
  simp only [us32,go_sem,sub,FL]
  refine goP h100 ?_
  simp only [us32,go_sem,sub,FL]
  refine goP h991 ?_
  simp only [us32,go_sem,sub,FL]
  simp only [i26,OT,reduceIte,Nat.reduceEqDiff,sub,FL,List.length_cons,List.length_nil,Nat.le_refl,numG]
theorem c136_ok {n:Bool} {p:Nat}:Go.V.Call tab E 136 [.bool n,natC p] [] (.agg [us32 (limG p),.bool (n&&decide (p≠0))]) []:=by
  refine Go.V.Call.mach i136 c136 rfl rfl rfl rfl ?_
  have h124:=c123_nat (E:=E) (n:=p)
  simp only [natC,us32] at h124
  cases n with
  | false=>
    simp only [c136,natC,us32,go_sem,sub,FL]
    simp only [i136,OT,reduceIte,Nat.reduceEqDiff,sub,FL,List.length_cons,List.length_nil,Nat.le_refl,us32,Bool.false_and]
  | true=>
    simp only [c136,natC,us32,go_sem,sub,FL]
    refine goP h124 ?_
    by_cases h:p=0
    · subst h
      simp only [us32,go_sem,sub,FL]
      simp only [i136,OT,reduceIte,Nat.reduceEqDiff,sub,FL,List.length_cons,List.length_nil,Nat.le_refl,us32,Bool.true_and,decide_false,not_true_eq_false,ne_eq]
    · simp only [us32,go_sem,sub,FL,h]
      simp only [i136,OT,reduceIte,Nat.reduceEqDiff,sub,FL,List.length_cons,List.length_nil,Nat.le_refl,us32,Bool.true_and,decide_true,h,not_false_eq_true,ne_eq]
theorem c107_ok {n1 n2:Bool} {p q:Nat} (hq:q≠0) (hpl:(limG p).length≤1000000) (hql:(limG q).length≤1000000) :
    Go.V.Call tab E 107 [.agg [us32 (limG p),.bool n1],.agg [us32 (limG q),.bool n2]] [] (.tup [.agg (ratG ((n1 != n2)&&decide (p/Nat.gcd p q≠0)) (p/Nat.gcd p q) (q/Nat.gcd p q)),.bool true]) []:=by
  refine Go.V.Call.mach i107 c107 rfl rfl rfl rfl ?_
  have h124:=c123_nat (E:=E) (n:=q)
  rw [decide_eq_false hq] at h124
  have h136:=c134_gen (E:=E) (n:=n2) (p:=q)
  have h135:=c133_ok (E:=E) hpl hql
  have hg0:Nat.gcd p q≠0:=fun h=>hq (Nat.eq_zero_of_gcd_eq_zero_right h)
  have hgl:(limG (Nat.gcd p q)).length≤1000000:=by
    have:=limG_mono (Nat.gcd_le_right p (Nat.pos_of_ne_zero hq))
    omega
  have h137p:=c135_ok (E:=E) hpl hgl hg0
  have h137q:=c135_ok (E:=E) hql hgl hg0
  generalize Nat.gcd p q=g at *
  have h981:=c77_gen (E:=E) (n:=n1) (p:=p)
  have h982:=c77_gen (E:=E) (n:=n2) (p:=q)
  have h118:=c136_ok (E:=E) (n:=n1 != n2) (p:=p/g)
  generalize p/g=x at *
  generalize q/g=y at *
  simp only [natC,us32] at h124 h136 h135 h137p h137q h981 h982 h118
  have hb:boolV .ne (.bool n1) (.bool n2)=some (.bool (n1 != n2)):=by cases n1<;>cases n2<;>rfl
  simp only [c107,natC,us32,go_sem,sub,FL]
  refine goP h124 ?_
  simp only [us32,go_sem,sub,FL]
  refine goP h136 ?_
  simp only [us32,go_sem,sub,FL]
  refine goP h135 ?_
  simp only [us32,go_sem,sub,FL]
  refine goF h137p ?_
  simp only [us32,go_sem,sub,FL]
  refine goF h137q ?_
  simp only [us32,go_sem,sub,FL]
  refine goP h981 ?_
  simp only [us32,go_sem,sub,FL]
  refine goP h982 ?_
  simp only [us32,go_sem,sub,FL,hb]
  refine goF h118 ?_
  simp only [us32,go_sem,sub,FL]
  simp only [i107,OT,reduceIte,Nat.reduceEqDiff,sub,FL,List.length_cons,List.length_nil,Nat.le_refl,ratG,us32]
theorem c107_zero {n1 n2:Bool} {p:Nat}:Go.V.Call tab E 107 [.agg [us32 (limG p),.bool n1],.agg [us32 (limG 0),.bool n2]] [] (.tup [.agg (ratG false 0 0),.bool false]) []:=by
  have h124:=c123_nat (E:=E) (n:=0)
  rw [decide_eq_true rfl] at h124
  simp only [natC,us32,limG_zero] at h124
  simp only [ratG,us32,limG_zero]
  refine Go.V.Call.mach i107 c107 rfl rfl rfl rfl ?_
  simp only [c107,natC,us32,go_sem,sub,FL]
  refine goP h124 ?_
  simp only [us32,go_sem,sub,FL]
  simp only [i107,OT,reduceIte,Nat.reduceEqDiff,sub,FL,List.length_cons,List.length_nil,Nat.le_refl,ratG,us32]
  rfl
def RightN (n:Bool) (a b:List Int):Prop:=RightS a∧RightS b∧trimS a=a∧trimS b=b∧b≠[48]∧Nat.gcd (sval a) (sval b)=1∧¬(n=true∧a=[48])
theorem right_dec {a:List Int} (h:RightS a) (ht:trimS a=a):bs a=dec (sval a):=by
  rw [dec_eq,←trimS_dec h.1 (fun h0=>by have:=h.2.1;rw [h0] at this;simp at this),ht]
theorem right_zero {a:List Int} (h:RightS a) (ht:trimS a=a):sval a=0↔a=[48]:=by
  have h1:a=decL (sval a):=by
    rw [←trimS_dec h.1 (fun h0=>by have:=h.2.1;rw [h0] at this;simp at this),ht]
  refine ⟨fun h0=>?_,fun h0=>by rw [h0];rfl⟩
  rw [h1,h0]
  rfl
theorem trim_decL (n:Nat):trimS (decL n)=decL n:=by rw [trimS_dec (decL_dig n) (decL_ne n),sval_decL]
theorem str_eq' {a b:List Int} (ha:U8 a) (hb:U8 b):strOp .eq (bs a) (bs b)=some (.bool (decide (a=b))):=by simp only [strOp,str_eq ha hb]
theorem str_ne' {a b:List Int} (ha:U8 a) (hb:U8 b):strOp .ne (bs a) (bs b)=some (.bool (!decide (a=b))):=by simp only [strOp,str_eq ha hb]
theorem U8_48 {x:Int} (h:0≤x∧x<256):U8 [x]:=fun y hy=>by simp at hy;omega
theorem trimS_u8 {l:List Int} (h:U8 l):U8 (trimS l):=by
  induction l with
  | nil=>exact h
  | cons x l ih=>
    cases l with
    | nil=>exact h
    | cons y l=>
      rw [trimS]
      split
      · exact ih (U8_cons.1 h).2
      · exact h
theorem c117_ok {n ok:Bool} {a b:List Int} (ha:U8 a) (hb:U8 b) (hal:a.length≤1000000000) (hbl:b.length≤1000000000) (hok:ok=true↔RightN n a b) :
    Go.V.Call tab E 117 [.agg [.bool n,.str (bs a),.str (bs b)]] [] (.bool ok) []:=by
  refine Go.V.Call.mach i117 c117 rfl rfl rfl rfl ?_
  have hfalse:¬RightN n a b→ok=false:=fun h=>by rw [←Bool.not_eq_true,hok];exact h
  have e48:(⟨#[48]⟩:ByteArray)=bs [48]:=rfl
  have e49:(⟨#[49]⟩:ByteArray)=bs [49]:=rfl
  by_cases hRa:RightS a
  · have h119a:=c141_ok (E:=E) (b:=true) ha hal ⟨fun _=>hRa,fun _=>rfl⟩
    by_cases hRb:RightS b
    · have h119b:=c141_ok (E:=E) (b:=true) hb hbl ⟨fun _=>hRb,fun _=>rfl⟩
      have h120a:=c142_S (E:=E) ha hal
      have h120b:=c142_S (E:=E) hb hbl
      have na:=str_ne' (trimS_u8 ha) ha
      have nb:=str_ne' (trimS_u8 hb) hb
      have eb:=str_eq' hb (U8_48 (x:=48) (by omega))
      have ea:=str_eq' ha (U8_48 (x:=48) (by omega))
      rw [←e48] at eb ea
      by_cases hta:trimS a=a
      · by_cases htb:trimS b=b
        · by_cases hb48:b=[48]
          · have:=hfalse (fun h=>h.2.2.2.2.1 hb48)
            subst this
            rw [decide_eq_true hta,Bool.not_true] at na
            rw [decide_eq_true htb,Bool.not_true] at nb
            rw [decide_eq_true hb48] at eb
            simp only [c117,go_sem,sub,FL]
            refine goP h119a ?_
            simp only [go_sem,sub,FL]
            refine goP h119b ?_
            simp only [go_sem,sub,FL]
            refine goP h120a ?_
            simp only [go_sem,sub,FL,na]
            refine goP h120b ?_
            simp only [go_sem,sub,FL,nb,eb]
            simp only [i117,OT,reduceIte,Nat.reduceEqDiff]
          · have h121:=c143_ok (E:=E) (a:=sval a) (b:=sval b) (Right_lim hRa) (Right_lim hRb)
            rw [←right_dec hRa hta,←right_dec hRb htb,dec_eq] at h121
            have eg:=str_eq' (decL_dig (Nat.gcd (sval a) (sval b))).u8 (U8_48 (x:=49) (by omega))
            rw [←e49] at eg
            have hg1:decL (Nat.gcd (sval a) (sval b))=[49]↔Nat.gcd (sval a) (sval b)=1:=⟨fun h=>by rw [←sval_decL (Nat.gcd _ _),h];rfl,fun h=>by rw [h,decL_digit (by omega)];rfl⟩
            rw [decide_eq_true hta,Bool.not_true] at na
            rw [decide_eq_true htb,Bool.not_true] at nb
            rw [decide_eq_false hb48] at eb
            have fin:ok=(decide (decL (Nat.gcd (sval a) (sval b))=[49]) && !(n&&decide (a=[48]))):=by
              rw [Bool.eq_iff_iff,hok]
              simp only [RightN,Bool.and_eq_true,decide_eq_true_eq,Bool.not_eq_true',Bool.and_eq_false_iff,decide_eq_false_iff_not,hg1]
              constructor
              · rintro ⟨_,_,_,_,_,h6,h7⟩
                refine ⟨h6,?_⟩
                cases n with
                | false=>exact .inl rfl
                | true=>exact .inr (fun h=>h7 ⟨rfl,h⟩)
              · rintro ⟨h6,h7⟩
                refine ⟨hRa,hRb,hta,htb,hb48,h6,?_⟩
                rintro ⟨rfl,h8⟩
                rcases h7 with h7|h7
                · cases h7
                · exact h7 h8
            simp only [c117,go_sem,sub,FL]
            refine goP h119a ?_
            simp only [go_sem,sub,FL]
            refine goP h119b ?_
            simp only [go_sem,sub,FL]
            refine goP h120a ?_
            simp only [go_sem,sub,FL,na]
            refine goP h120b ?_
            simp only [go_sem,sub,FL,nb,eb]
            refine goP h121 ?_
            subst fin
            by_cases hg:decL (Nat.gcd (sval a) (sval b))=[49]
            · rw [decide_eq_true hg] at eg ⊢
              cases n with
              | false=>
                simp only [go_sem,sub,FL,eg]
                simp only [i117,OT,reduceIte,Nat.reduceEqDiff,Bool.false_and,Bool.not_false,Bool.true_and]
              | true=>
                cases hd:decide (a=[48])
                · rw [hd] at ea
                  simp only [go_sem,sub,FL,eg,ea]
                  simp only [i117,OT,reduceIte,Nat.reduceEqDiff,Bool.true_and,Bool.not_false]
                · rw [hd] at ea
                  simp only [go_sem,sub,FL,eg,ea]
                  simp only [i117,OT,reduceIte,Nat.reduceEqDiff,Bool.true_and,Bool.not_true]
            · rw [decide_eq_false hg] at eg ⊢
              simp only [go_sem,sub,FL,eg]
              simp only [i117,OT,reduceIte,Nat.reduceEqDiff,Bool.false_and]
        · have:=hfalse (fun h=>htb h.2.2.2.1)
          subst this
          rw [decide_eq_true hta,Bool.not_true] at na
          rw [decide_eq_false htb,Bool.not_false] at nb
          simp only [c117,go_sem,sub,FL]
          refine goP h119a ?_
          simp only [go_sem,sub,FL]
          refine goP h119b ?_
          simp only [go_sem,sub,FL]
          refine goP h120a ?_
          simp only [go_sem,sub,FL,na]
          refine goP h120b ?_
          simp only [go_sem,sub,FL,nb]
          simp only [i117,OT,reduceIte,Nat.reduceEqDiff]
      · have:=hfalse (fun h=>hta h.2.2.1)
        subst this
        rw [decide_eq_false hta,Bool.not_false] at na
        simp only [c117,go_sem,sub,FL]
        refine goP h119a ?_
        simp only [go_sem,sub,FL]
        refine goP h119b ?_
        simp only [go_sem,sub,FL]
        refine goP h120a ?_
        simp only [go_sem,sub,FL,na]
        simp only [i117,OT,reduceIte,Nat.reduceEqDiff]
    · have h119b:=c141_ok (E:=E) (b:=false) hb hbl ⟨fun h=>(by cases h),fun h=>absurd h hRb⟩
      have:=hfalse (fun h=>hRb h.2.1)
      subst this
      simp only [c117,go_sem,sub,FL]
      refine goP h119a ?_
      simp only [go_sem,sub,FL]
      refine goP h119b ?_
      simp only [go_sem,sub,FL]
      simp only [i117,OT,reduceIte,Nat.reduceEqDiff]
  · have h119a:=c141_ok (E:=E) (b:=false) ha hal ⟨fun h=>(by cases h),fun h=>absurd h hRa⟩
    have:=hfalse (fun h=>hRa h.1)
    subst this
    simp only [c117,go_sem,sub,FL]
    refine goP h119a ?_
    simp only [go_sem,sub,FL]
    simp only [i117,OT,reduceIte,Nat.reduceEqDiff]
end
theorem beq_bs {a b:List Int} (ha:U8 a) (hb:U8 b):(bs a==bs b)=decide (a=b):=by
  by_cases h:a=b
  · subst h
    rw [beqBA,decide_eq_true rfl]
  · rw [decide_eq_false h]
    have h2:u8l a≠u8l b:=fun e=>h (u8l_inj ha hb e)
    show (((u8l a).toArray:Array UInt8)==(u8l b).toArray)=false
    simpa using h2
theorem num_same {n m:Bool} {a b c d:List Int} (ha:U8 a) (hb:U8 b) (hc:U8 c) (hd:U8 d) :
    structV .eq [0,2,2] (.agg [.bool n,.str (bs a),.str (bs b)]) (.agg [.bool m,.str (bs c),.str (bs d)])=some (.bool (decide (n=m∧a=c∧b=d))):=by
  have h1:([AV.bool n,AV.str (bs a),AV.str (bs b)]).map kindOf=[0,2,2]:=rfl
  have h2:([AV.bool m,AV.str (bs c),AV.str (bs d)]).map kindOf=[0,2,2]:=rfl
  simp only [structV,h1,h2,and_self,if_true,scalarsEq,scalEq,beq_bs ha hc,beq_bs hb hd]
  by_cases e1:n=m
  · have:(n==m)=true:=by rw [e1];cases m<;>rfl
    rw [this]
    by_cases e2:a=c
    · rw [decide_eq_true e2]
      by_cases e3:b=d
      · rw [decide_eq_true e3];simp [e1,e2,e3]
      · rw [decide_eq_false e3];simp [e3]
    · rw [decide_eq_false e2];simp [e2]
  · have:(n==m)=false:=by revert e1;cases n<;>cases m<;>simp
    rw [this];simp [e1]
section
variable {E:CallRel}
theorem c119_ok {n ok:Bool} {a b:List Int} (ha:U8 a) (hb:U8 b) (hal:a.length≤1000000000) (hbl:b.length≤1000000000) (hok:ok=true↔RightN n a b) :
    ∃(n':Bool) (p q:Nat),(ok=true→n'=n∧p=sval a∧q=sval b)∧Go.V.Call tab E 119 [.agg [.bool n,.str (bs a),.str (bs b)]] [] (.tup [.agg (ratG n' p q),.bool ok]) []:=by
  have hfalse:¬RightN n a b→ok=false:=fun h=>by rw [←Bool.not_eq_true,hok];exact h
  have pa:∀b':Bool,(b'=true↔RightS a)→_:=fun b' h=>c144_ok (E:=E) (b:=b') ha hal h
  have pb:∀b':Bool,(b'=true↔RightS b)→_:=fun b' h=>c144_ok (E:=E) (b:=b') hb hbl h
  by_cases hRa:RightS a
  · have h116a:=pa true ⟨fun _=>hRa,fun _=>rfl⟩
    by_cases hRb:RightS b
    · have h116b:=pb true ⟨fun _=>hRb,fun _=>rfl⟩
      simp only [if_true] at h116a h116b
      have h118a:=c136_ok (E:=E) (n:=n) (p:=sval a)
      have h118b:=c136_ok (E:=E) (n:=false) (p:=sval b)
      have la:=lim2000_limbs (Right_lim hRa)
      have lb:=lim2000_limbs (Right_lim hRb)
      by_cases hq:sval b=0
      · have:=hfalse (fun h=>h.2.2.2.2.1 ((right_zero hRb h.2.2.2.1).1 hq))
        subst this
        refine ⟨false,0,0,fun h=>(by cases h),?_⟩
        rw [hq] at h116b h118b
        have h117:=c107_zero (E:=E) (n1:=n&&decide (sval a≠0)) (n2:=false&&decide (0≠0)) (p:=sval a)
        simp only [natC,us32,ratG] at h116a h116b h118a h118b h117 ⊢
        refine Go.V.Call.mach i119 c119 rfl rfl rfl rfl ?_
        simp only [c119,us32,go_sem,sub,FL]
        refine goP h116a ?_
        simp only [us32,go_sem,sub,FL]
        refine goP h116b ?_
        simp only [us32,go_sem,sub,FL]
        refine goF h118a ?_
        simp only [us32,go_sem,sub,FL]
        refine goF h118b ?_
        simp only [us32,go_sem,sub,FL]
        refine goP h117 ?_
        simp only [us32,go_sem,sub,FL,List.all_cons,List.all_nil,Nat.reduceBNe,Bool.and_true]
        simp only [i119,OT,reduceIte,Nat.reduceEqDiff,sub,FL,List.length_cons,List.length_nil,Nat.le_refl,us32]
      · have hqp:=Nat.pos_of_ne_zero hq
        have h117:=c107_ok (E:=E) (n1:=n&&decide (sval a≠0)) (n2:=false&&decide (sval b≠0)) (p:=sval a) (q:=sval b) hq (by omega) (by omega)
        have hgp:0<Nat.gcd (sval a) (sval b):=Nat.gcd_pos_of_pos_right _ hqp
        have hy0:sval b/Nat.gcd (sval a) (sval b)≠0:=by
          have h1:=Nat.gcd_le_right (sval a) hqp
          have:=(Nat.div_pos h1 hgp)
          omega
        have hxl:sval a/Nat.gcd (sval a) (sval b)<lim2000:=Nat.lt_of_le_of_lt (Nat.div_le_self _ _) (Right_lim hRa)
        have hyl:sval b/Nat.gcd (sval a) (sval b)<lim2000:=Nat.lt_of_le_of_lt (Nat.div_le_self _ _) (Right_lim hRb)
        have hdn:dn (sval b/Nat.gcd (sval a) (sval b))=sval b/Nat.gcd (sval a) (sval b):=by rw [dn,if_neg hy0]
        have hdiv1:sval b/Nat.gcd (sval a) (sval b)=sval b→Nat.gcd (sval a) (sval b)=1:=fun h=>by
          rcases Nat.lt_or_ge 1 (Nat.gcd (sval a) (sval b)) with h1|h1
          · have:=Nat.div_lt_self hqp h1
            omega
          · omega
        refine ⟨((n&&decide (sval a≠0)) != (false&&decide (sval b≠0)))&&decide (sval a/Nat.gcd (sval a) (sval b)≠0),sval a/Nat.gcd (sval a) (sval b),sval b/Nat.gcd (sval a) (sval b),?_,?_⟩
        rotate_left
        · have h74:=c26_gen (E:=E) (n:=((n&&decide (sval a≠0)) != (false&&decide (sval b≠0)))&&decide (sval a/Nat.gcd (sval a) (sval b)≠0)) hxl (by rw [hdn];exact hyl)
          have hsame:=num_same (n:=((n&&decide (sval a≠0)) != (false&&decide (sval b≠0)))&&decide (sval a/Nat.gcd (sval a) (sval b)≠0)) (m:=n) (decL_dig (sval a/Nat.gcd (sval a) (sval b))).u8 (decL_dig (sval b/Nat.gcd (sval a) (sval b))).u8 ha hb
          have hokd:decide ((((n&&decide (sval a≠0)) != (false&&decide (sval b≠0)))&&decide (sval a/Nat.gcd (sval a) (sval b)≠0))=n∧decL (sval a/Nat.gcd (sval a) (sval b))=a∧decL (sval b/Nat.gcd (sval a) (sval b))=b)=ok:=by
            rw [Bool.eq_iff_iff,hok,decide_eq_true_eq]
            constructor
            · rintro ⟨e1,e2,e3⟩
              have s1:=congrArg sval e2
              rw [sval_decL] at s1
              have s2:=congrArg sval e3
              rw [sval_decL] at s2
              refine ⟨hRa,hRb,by rw [←e2];exact trim_decL _,by rw [←e3];exact trim_decL _,?_,hdiv1 s2,?_⟩
              · rintro rfl
                exact hq rfl
              · rintro ⟨rfl,rfl⟩
                have:sval [48]=0:=rfl
                rw [this] at e1
                simp at e1
            · rintro ⟨_,_,t1,t2,_,g1,g2⟩
              rw [g1,Nat.div_one,Nat.div_one]
              refine ⟨?_,?_,?_⟩
              · cases n with
                | false=>simp
                | true=>
                  have:sval a≠0:=fun h=>g2 ⟨rfl,(right_zero hRa t1).1 h⟩
                  simp [this]
              · rw [←trimS_dec hRa.1 (fun h0=>by have:=hRa.2.1;rw [h0] at this;simp at this),t1]
              · rw [←trimS_dec hRb.1 (fun h0=>by have:=hRb.2.1;rw [h0] at this;simp at this),t2]
          rw [hokd,←dec_eq,←dec_eq] at hsame
          rw [hdn] at h74
          simp only [natC,us32,ratG,numG] at h116a h116b h118a h118b h117 h74 ⊢
          refine Go.V.Call.mach i119 c119 rfl rfl rfl rfl ?_
          simp only [c119,us32,go_sem,sub,FL]
          refine goP h116a ?_
          simp only [us32,go_sem,sub,FL]
          refine goP h116b ?_
          simp only [us32,go_sem,sub,FL]
          refine goF h118a ?_
          simp only [us32,go_sem,sub,FL]
          refine goF h118b ?_
          simp only [us32,go_sem,sub,FL]
          refine goP h117 ?_
          simp only [us32,go_sem,sub,FL]
          refine goR h74 rfl ?_
          simp only [us32,go_sem,sub,FL,hsame,List.all_cons,List.all_nil,Nat.reduceBNe,Bool.and_true]
          simp only [i119,OT,reduceIte,Nat.reduceEqDiff,sub,FL,List.length_cons,List.length_nil,Nat.le_refl,us32]
        · intro ht
          obtain ⟨_,_,t1,t2,_,g1,g2⟩:=hok.1 ht
          rw [g1,Nat.div_one,Nat.div_one]
          refine ⟨?_,rfl,rfl⟩
          cases n with
          | false=>simp
          | true=>
            have:sval a≠0:=fun h=>g2 ⟨rfl,(right_zero hRa t1).1 h⟩
            simp [this]
    · have h116b:=pb false ⟨fun h=>(by cases h),fun h=>absurd h hRb⟩
      have:=hfalse (fun h=>hRb h.2.1)
      subst this
      refine ⟨false,0,0,fun h=>(by cases h),?_⟩
      simp only [if_true,if_false,Bool.false_eq_true] at h116a h116b
      simp only [natC,us32,ratG,limG_zero] at h116a h116b ⊢
      refine Go.V.Call.mach i119 c119 rfl rfl rfl rfl ?_
      simp only [c119,us32,go_sem,sub,FL]
      refine goP h116a ?_
      simp only [us32,go_sem,sub,FL]
      refine goP h116b ?_
      simp only [us32,go_sem,sub,FL]
      simp only [i119,OT,reduceIte,Nat.reduceEqDiff,sub,FL,List.length_cons,List.length_nil,Nat.le_refl,us32]
      rfl
  · have h116a:=pa false ⟨fun h=>(by cases h),fun h=>absurd h hRa⟩
    have:=hfalse (fun h=>hRa h.1)
    subst this
    have h116b:∃(x:Nat) (t:Bool),Go.V.Call tab E 144 [.str (bs b)] [] (.tup [natC x,.bool t]) []:=by
      by_cases hRb:RightS b
      · exact ⟨_,_,pb true ⟨fun _=>hRb,fun _=>rfl⟩⟩
      · exact ⟨_,_,pb false ⟨fun h=>(by cases h),fun h=>absurd h hRb⟩⟩
    obtain ⟨x,t,h116b⟩:=h116b
    refine ⟨false,0,0,fun h=>(by cases h),?_⟩
    simp only [if_true,if_false,Bool.false_eq_true] at h116a
    simp only [natC,us32,ratG,limG_zero] at h116a h116b ⊢
    refine Go.V.Call.mach i119 c119 rfl rfl rfl rfl ?_
    simp only [c119,us32,go_sem,sub,FL]
    refine goP h116a ?_
    simp only [us32,go_sem,sub,FL]
    refine goP h116b ?_
    simp only [us32,go_sem,sub,FL]
    simp only [i119,OT,reduceIte,Nat.reduceEqDiff,sub,FL,List.length_cons,List.length_nil,Nat.le_refl,us32]
    rfl
end
abbrev Nm:=Bool × List Int × List Int
abbrev Rt:=Bool × Nat × Nat
def nmC (x:Nm):List AV:=[.bool x.1,.str (bs x.2.1),.str (bs x.2.2)]
def rtC (x:Rt):List AV:=ratG x.1 x.2.1 x.2.2
def nmsC (l:List Nm):List AV:=l.flatMap nmC
def rtsC (l:List Rt):List AV:=l.flatMap rtC
def nmAt (l:List Nm) (i:Nat):Nm:=l.getD i (false,[],[])
def rtAt (l:List Rt) (i:Nat):Rt:=l.getD i (false,0,0)
def arrX (s:List Int) (ch:Bool) (t:List Int) (l:List Rt):List AV:=[ints s,.bool ch,runes t,.sl l.length 3 (rtsC l),.bool true]
def plX (s:List Int) (ch:Bool) (t:List Int) (l:List Nm):List AV:=[ints s,.bool ch,runes t,.sl l.length 3 (nmsC l)]
def toNm (x:Rt):Nm:=(x.1,decL x.2.1,decL (dn x.2.2))
def toRt (x:Nm):Rt:=(x.1,sval x.2.1,sval x.2.2)
theorem flat_len {α:Type} {f:α→List AV} (hf:∀x,(f x).length=3):∀{l:List α},(l.flatMap f).length=l.length*3
  | []=>rfl
  | z::l=>by rw [List.flatMap_cons,List.length_append,hf,flat_len hf,List.length_cons];omega
theorem flat_get {α:Type} {f:α→List AV} (hf:∀x,(f x).length=3) {d:α}:∀{l:List α} {i:Nat},i<l.length→((l.flatMap f).drop (i*3)).take 3=f (l.getD i d)
  | [],i,h=>by simp at h
  | z::l,0,_=>by
    rw [List.flatMap_cons,Nat.zero_mul,List.drop_zero,List.take_append_of_le_length (by rw [hf];omega),List.take_of_length_le (by rw [hf];omega)]
    rfl
  | z::l,i+1,h=>by
    rw [List.flatMap_cons,Nat.succ_mul,List.drop_append,List.drop_eq_nil_of_le (by rw [hf];omega),hf,Nat.add_sub_cancel,List.nil_append,flat_get hf (d:=d) (by simpa using h)]
    simp
theorem sub_flat {α:Type} {f:α→List AV} (hf:∀x,(f x).length=3) {d:α} {l:List α} {i:Nat} (h:i<l.length):sub true 3 (l.flatMap f) (i*3)=some (.agg (f (l.getD i d))):=by
  simp only [sub,flat_len hf,if_true]
  rw [if_pos (by omega),flat_get hf h]
theorem sub_flat1 {α:Type} {f:α→List AV} (hf:∀x,(f x).length=3) {d:α} {l:List α} {i k:Nat} (h:i<l.length) (hk:k<3):sub false 1 (l.flatMap f) (i*3+k)=(f (l.getD i d))[k]?:=by
  simp only [sub,flat_len hf,if_true,Bool.false_eq_true,if_false]
  rw [if_pos (by omega),←flat_get hf h,List.getElem?_take,if_pos hk,List.getElem?_drop]
theorem sub_nms {l:List Nm} {i:Nat} (h:i<l.length):sub true 3 (nmsC l) (i*3)=some (.agg (nmC (nmAt l i))):=sub_flat (fun _=>rfl) h
theorem sub_rts {l:List Rt} {i:Nat} (h:i<l.length):sub true 3 (rtsC l) (i*3)=some (.agg (rtC (rtAt l i))):=sub_flat (fun _=>rfl) h
theorem sub_nms1 {l:List Nm} {i:Nat} (h:i<l.length):sub false 1 (nmsC l) (i*3+1)=some (.str (bs (nmAt l i).2.1)):=sub_flat1 (fun _=>rfl) h (by omega)
theorem sub_nms2 {l:List Nm} {i:Nat} (h:i<l.length):sub false 1 (nmsC l) (i*3+2)=some (.str (bs (nmAt l i).2.2)):=sub_flat1 (fun _=>rfl) h (by omega)
theorem takeAt {α:Type} {l:List α} {i:Nat} {d:α} (h:i<l.length):l.take (i+1)=l.take i++[l.getD i d]:=by
  rw [List.take_add_one,List.getElem?_eq_getElem h]
  simp [List.getD,h]
theorem rtsC_snoc {l:List Rt} {x:Rt}:rtsC (l++[x])=rtsC l++rtC x:=by simp [rtsC]
theorem nmC_dec {x:Rt}:numG x.1 x.2.1 (dn x.2.2)=nmC (toNm x):=by
  simp only [numG,nmC,toNm,dec_eq]
theorem subX1 {a b c d e:AV}:sub false 1 [a,b,c,d,e] 1=some b:=rfl
theorem subX2 {a b c d e:AV}:sub false 1 [a,b,c,d,e] 2=some c:=rfl
theorem c23_X {s t:List Int} {l:List Rt} {ch:Bool} (ht:(t.length:Int)≤1000000000000) (hl:(l.length:Int)≤1000000000000):Go.V.Call tab E 23 [.agg (arrX s ch t l)] [] (.int .i64 ((t.length+l.length:Nat):Int)) []:=by
  refine Go.V.Call.mach i23 c23 rfl rfl rfl rfl ?_
  have w:IntKind.i64.wrap ((t.length:Int)+(l.length:Int))=((t.length+l.length:Nat):Int):=by rw [wrap_i64 (by omega) (by omega)];omega
  simp only [c23,arrX,runes,go_sem,sub,FL,w]
  simp only [i23,OT,reduceIte,Nat.reduceEqDiff]
theorem c59_ok {s t:List Int} {l:List Nm} {ch:Bool} (ht:(t.length:Int)≤1000000000000) (hl:(l.length:Int)≤1000000000000):Go.V.Call tab E 59 [.agg (plX s ch t l)] [] (.int .i64 ((t.length+l.length:Nat):Int)) []:=by
  refine Go.V.Call.mach i59 c59 rfl rfl rfl rfl ?_
  have w:IntKind.i64.wrap ((t.length:Int)+(l.length:Int))=((t.length+l.length:Nat):Int):=by rw [wrap_i64 (by omega) (by omega)];omega
  simp only [c59,plX,runes,go_sem,sub,FL,w]
  simp only [i59,OT,reduceIte,Nat.reduceEqDiff]
theorem c44_X {s t:List Int} {l:List Rt} {ch:Bool} (hs:(s.length:Int)≤1000000000000):Go.V.Call tab E 44 [.agg (arrX s ch t l)] [] (ints s) []:=by
  refine Go.V.Call.mach i44 c44 rfl rfl rfl rfl ?_
  simp only [c44,arrX,runes,go_sem,sub,FL]
  refine goO (c102_ok hs) rfl rfl ?_
  simp only [go_sem,FL]
  simp only [i44,OT,reduceIte,Nat.reduceEqDiff]
theorem c69_X {s t:List Int} {l:List Rt} {ch:Bool} (ht:(t.length:Int)≤1000000000000):Go.V.Call tab E 69 [.agg (arrX s ch t l)] [] (.arr 0 0) [⟨false,21,1,0,t.length,nums .i32 t,false⟩]:=by
  refine Go.V.Call.mach i69 c69 rfl rfl rfl rfl ?_
  simp only [c69,arrX,runes,go_sem,sub,FL]
  refine goO (c118_ok ht) rfl rfl ?_
  simp only [go_sem,FL]
  simp only [i69,OT,reduceIte,Nat.reduceEqDiff,ownOut,ownL,ownV,scalar,List.contains_nil,List.length_nil,List.length_cons,List.nil_append,List.cons_append,storeOp,apartOf,freeze_nil,refsL,refs,List.flatMap_cons,List.flatMap_nil,List.append_nil,List.contains_nil,List.set_cons_zero,List.set_cons_succ,snap,snapL,fill_nums,flat_nums,nums_length,reduceCtorEq,Bool.false_eq_true,and_self,not_false_eq_true,beq_self_eq_true,Nat.zero_add]
def pickR (l:List Rt) (k:Int):Rt:=if 0≤k∧k<l.length then rtAt l k.toNat else (false,0,0)
theorem c25_ok {s t:List Int} {l:List Rt} {ch:Bool} {k:Int} (hl:(l.length:Int)≤1000000000000):Go.V.Call tab E 25 [.agg (arrX s ch t l),.int .i64 k] [] (.agg (rtC (pickR l k))) []:=by
  have hz:rtC (false,0,0)=[.sl 0 1 [],.bool false,.sl 0 1 []]:=by
    simp only [rtC,ratG,limG_zero,us32];rfl
  by_cases h1:k<0
  · have hp:pickR l k=(false,0,0):=by rw [pickR,if_neg (by omega)]
    rw [hp,hz]
    refine Go.V.Call.mach i25 c25 rfl rfl rfl rfl ?_
    simp only [c25,arrX,runes,go_sem,sub,FL,h1]
    simp only [i25,OT,reduceIte,Nat.reduceEqDiff,sub,FL,List.length_cons,List.length_nil,Nat.le_refl]
  · by_cases h2:(l.length:Int)≤k
    · have hp:pickR l k=(false,0,0):=by rw [pickR,if_neg (by omega)]
      rw [hp,hz]
      refine Go.V.Call.mach i25 c25 rfl rfl rfl rfl ?_
      simp only [c25,arrX,runes,go_sem,sub,FL,h1,h2]
      simp only [i25,OT,reduceIte,Nat.reduceEqDiff,sub,FL,List.length_cons,List.length_nil,Nat.le_refl]
    · have hp:pickR l k=rtAt l k.toNat:=by rw [pickR,if_pos (by omega)]
      rw [hp]
      obtain ⟨j,rfl⟩:=Int.eq_ofNat_of_zero_le (show 0≤k by omega)
      rw [Int.toNat_natCast]
      have hsub:=sub_rts (l:=l) (i:=j) (by omega)
      have h3:(0:Int)≤(j:Int):=by omega
      have h4:(j:Int)<(l.length:Int):=by omega
      have subA3':∀{a b c d e:AV},sub false 1 [a,b,c,d,e] (0+3)=some d:=fun {a b c d e}=>rfl
      refine Go.V.Call.mach i25 c25 rfl rfl rfl rfl ?_
      simp only [c25,arrX,runes,go_sem,subA3,subA3',FL,h1,h2,h3,h4,Int.toNat_natCast,hsub,rtC,ratG,us32]
      simp only [i25,OT,reduceIte,Nat.reduceEqDiff,sub,FL,List.length_cons,List.length_nil,Nat.le_refl,us32]
def RtOk (x:Rt):Prop:=x.2.1<lim2000∧dn x.2.2<lim2000
end Go.Proofs.Ytlejgleocnemoaa.I

namespace Go.Proofs.Ytlejgleocnemoaa.I
open Go Go.V Go.ChangeShapes Go.WideShapes Go.Deep
section
variable {H:Type} {enc:TypeId × Value→H} {P:Program} {w:World} {spare:Nat→Bool} {held:Bool}
theorem open_num1 {e:TypeId} {f0 f1 f2:Field} {fuel:Nat} {a:Addr} {cs:List Value} {y:DataW H × List MemPlace} (he:P.underlying e=some (.struct #[f0,f1,f2])) (hone:oneCellFields P #[f0,f1,f2]=true)
    (h0:P.underlying f0.type=some .bool) (h1:P.underlying f1.type=some .string) (h2:P.underlying f2.type=some .string) (hc:w.cells? 0 a 3=some cs) (h:DataW.trod enc P w 0 spare held fuel e cs=some y) :
    ∃q:Nm,(w.cell? (a.add 0)=some (.bool q.1)∧w.cell? (a.add 1)=some (.string (bs q.2.1))∧w.cell? (a.add 2)=some (.string (bs q.2.2)))∧U8 q.2.1∧U8 q.2.2∧q.2.1.length≤maxLen∧q.2.2.length≤maxLen:=by
  obtain ⟨_,hlen,hcell⟩:=World.cells?_some hc
  obtain ⟨xs,k,_,_,_,hxl,hf⟩:=DataW.trod_struct he h
  obtain ⟨o0,k0⟩:=hone_of hone 0 f0 rfl
  obtain ⟨o1,k1⟩:=hone_of hone 1 f1 rfl
  obtain ⟨o2,k2⟩:=hone_of hone 2 f2 rfl
  match xs,hxl,cs,hlen with
  | [y0,y1,y2],_,[v0,v1,v2],_=>
    have g0:=hf 0 f0 rfl
    have g1:=hf 1 f1 rfl
    have g2:=hf 2 f2 rfl
    simp [o0,k0] at g0
    simp [o1,k1] at g1
    simp [o2,k2] at g2
    obtain ⟨b,hb,_⟩:=DataW.trod_bool h0 g0
    obtain ⟨s1,hs1,_,hm1⟩:=DataW.trod_string h1 g1
    obtain ⟨s2,hs2,_,hm2⟩:=DataW.trod_string h2 g2
    obtain ⟨l1,hu1,rfl⟩:=bs_all s1
    obtain ⟨l2,hu2,rfl⟩:=bs_all s2
    simp only [List.cons.injEq,and_true] at hb hs1 hs2
    subst hb;subst hs1;subst hs2
    have c0:=hcell 0 (by omega)
    have c1:=hcell 1 (by omega)
    have c2:=hcell 2 (by omega)
    rw [bs_size] at hm1 hm2
    exact ⟨(b,l1,l2),⟨by simpa using c0,by simpa using c1,by simpa using c2⟩,hu1,hu2,hm1,hm2⟩
theorem open_nums {t e:TypeId} {f0 f1 f2:Field} {fuel:Nat} {cs:List Value} {x:DataW H × List MemPlace} (ht:P.underlying t=some (.slice e)) (he:P.underlying e=some (.struct #[f0,f1,f2])) (hone:oneCellFields P #[f0,f1,f2]=true)
    (hC:P.cellsOf e=3) (h0:P.underlying f0.type=some .bool) (h1:P.underlying f1.type=some .string) (h2:P.underlying f2.type=some .string) (h:DataW.trod enc P w 0 spare held fuel t cs=some x) :
    ∃(a:Option Addr) (len cap:Nat) (l:List Nm),cs=[.slice a len cap]∧l.length=len∧len≤maxLen∧(∀q∈l,U8 q.2.1∧U8 q.2.2∧q.2.1.length≤maxLen∧q.2.2.length≤maxLen)∧RG w (fun b=>b<w.heap.size) (.sl l.length 3 (nmsC l)) (.slice a len cap):=by
  rcases open_slice ht h with ⟨rfl,_⟩|⟨a,len,cap,m,n,D,Pl,rfl,_,hl,hm,hmm,_,hx⟩
  · exact ⟨none,0,0,[],rfl,rfl,Nat.zero_le _,fun q hq=>by simp at hq,.sl0⟩
  have hlm:len≤m:=by rw [hmm];split<;>omega
  rw [hC] at hx
  have each:∀i,i<len→∃q:Nm,(w.cell? (a.add (i*3))=some (.bool q.1)∧w.cell? (a.add (i*3+1))=some (.string (bs q.2.1))∧w.cell? (a.add (i*3+2))=some (.string (bs q.2.2)))∧U8 q.2.1∧U8 q.2.2∧q.2.1.length≤maxLen∧q.2.2.length≤maxLen:=fun i hi=>by
    obtain ⟨cs',hc,hy⟩:=hx i (by omega)
    obtain ⟨q,⟨g0,g1,g2⟩,hq⟩:=open_num1 he hone h0 h1 h2 hc hy
    rw [add_add] at g0 g1 g2
    exact ⟨q,⟨g0,g1,g2⟩,hq⟩
  obtain ⟨f,hf⟩:=choose_lt (α:=Nm) each
  refine ⟨some a,len,cap,(List.range len).map f,rfl,by simp,Nat.le_trans hl hm,fun q hq=>?_,?_⟩
  · obtain ⟨i,hi,rfl⟩:=List.mem_map.1 hq
    exact (hf i (List.mem_range.1 hi)).2
  · have hll:((List.range len).map f).length=len:=by simp
    rw [hll]
    by_cases hz:len=0
    · subst hz;exact .sl0
    obtain ⟨b,o,sp⟩:=a
    have hc0:=(hf 0 (by omega)).1.1
    have hsp:sp=none:=by
      simp only [Addr.add,Nat.zero_mul,if_true,World.cell?] at hc0
      split at hc0
      · split at hc0
        · cases hc0
        · rename_i hh;simpa using hh
      · cases hc0
    subst hsp
    have addE:∀i,(⟨b,o,none⟩:Addr).add i=⟨b,o+i,none⟩:=fun i=>by
      unfold Addr.add
      split
      · rename_i h;rw [h];rfl
      · rfl
    have hb:b<w.heap.size:=by
      rw [addE] at hc0
      unfold World.cell? at hc0
      split at hc0
      · rename_i hh;exact (Array.getElem?_eq_some_iff.1 hh).1
      · cases hc0
    have hat:∀i,i<len→((List.range len).map f).getD i (false,[],[])=f i:=fun i hi=>by simp [List.getD,hi]
    have vlen:∀l:List Nm,(l.flatMap fun q=>[Value.bool q.1,.string (bs q.2.1),.string (bs q.2.2)]).length=l.length*3:=fun l=>by
      induction l with
      | nil=>rfl
      | cons q l ih=>rw [List.flatMap_cons,List.length_append,ih,List.length_cons];simp;omega
    have vget:∀(l:List Nm) (i k:Nat),i<l.length→k<3→(l.flatMap fun q=>[Value.bool q.1,.string (bs q.2.1),.string (bs q.2.2)])[i*3+k]?=([Value.bool (l.getD i (false,[],[])).1,.string (bs (l.getD i (false,[],[])).2.1),.string (bs (l.getD i (false,[],[])).2.2)])[k]?:=fun l=>by
      induction l with
      | nil=>intro i k h;simp at h
      | cons q l ih=>
        intro i k hi hk
        cases i with
        | zero=>rw [List.flatMap_cons,Nat.zero_mul,Nat.zero_add,List.getElem?_append_left (by simp;omega)];rfl
        | succ i=>
          rw [List.flatMap_cons,List.getElem?_append_right (by simp;omega)]
          have e:(i+1)*3+k - [Value.bool q.1,.string (bs q.2.1),.string (bs q.2.2)].length=i*3+k:=by simp;omega
          rw [e,ih i k (by simpa using hi) hk]
          rfl
    have cget:∀(l:List Nm) (i k:Nat),i<l.length→k<3→(nmsC l)[i*3+k]?=(nmC (l.getD i (false,[],[])))[k]?:=fun l i k hi hk=>by
      rw [←flat_get (f:=nmC) (fun _=>rfl) hi,List.getElem?_take,if_pos hk,List.getElem?_drop]
      rfl
    have split3:∀j,j<len*3→∃i k,i<len∧k<3∧j=i*3+k:=fun j hj=>⟨j/3,j % 3,by omega,by omega,by omega⟩
    refine .sl (vs:=((List.range len).map f).flatMap fun q=>[Value.bool q.1,.string (bs q.2.1),.string (bs q.2.2)]) (by omega) hl (by rw [nmsC,flat_len (fun _=>rfl),hll]) (by rw [vlen,nmsC,flat_len (fun _=>rfl)]) hb (fun u hu=>?_) (fun j u hu=>?_) (fun j c u hc hu=>?_)
    · obtain ⟨q,_,hq⟩:=List.mem_flatMap.1 hu
      simp only [List.mem_cons,List.not_mem_nil,or_false] at hq
      rcases hq with rfl|rfl|rfl<;>rfl
    · have hj:=(List.getElem?_eq_some_iff.1 hu).1
      rw [vlen,hll] at hj
      obtain ⟨i,k,hi,hk,rfl⟩:=split3 j hj
      rw [vget _ i k (by rw [hll];exact hi) hk,hat i hi] at hu
      obtain ⟨⟨g0,g1,g2⟩,_⟩:=hf i hi
      rw [addE] at g0 g1 g2
      match k,hk with
      | 0,_=>simp at hu;subst hu;exact g0
      | 1,_=>simp at hu;subst hu;exact g1
      | 2,_=>simp at hu;subst hu;exact g2
    · have hj:=(List.getElem?_eq_some_iff.1 hu).1
      rw [vlen,hll] at hj
      obtain ⟨i,k,hi,hk,rfl⟩:=split3 j hj
      rw [vget _ i k (by rw [hll];exact hi) hk] at hu
      rw [cget _ i k (by rw [hll];exact hi) hk] at hc
      match k,hk with
      | 0,_=>simp [nmC] at hu hc;subst hu;subst hc;exact .bool
      | 1,_=>simp [nmC] at hu hc;subst hu;subst hc;exact .str
      | 2,_=>simp [nmC] at hu hc;subst hu;subst hc;exact .str
end
end Go.Proofs.Ytlejgleocnemoaa.I

namespace Go.Proofs.Ytlejgleocnemoaa.I
open Go Go.V
attribute [local go_sem_proc ↓] reduceIte
attribute [local go_sem_proc] Nat.reduceEqDiff Nat.reduceAdd Nat.reduceMul Nat.reduceLeDiff Nat.reduceLT Int.reduceToNat Int.reduceLT Int.reduceLE reduceCtorEq Nat.reduceBEq
attribute [local go_sem] mNil nat0 beq_self_eq_true mSkip mRet mExit mReg mSeq mCond mTrue mFalse mBlock mLv mCodeE mCodeR mEndN mEndR mEndE mOps mSome mGuard mGtt mGff mGtf mGft mGu mCallP mCallR mCallF mCallO mCallZ mCallG mCallM mCallV loopQ_exit loopQ_ret mO_mov mO_newnil mO_pick mO_alloc mO_box mO_build mO_bsl mO_bslF mO_newnilB mO_bslB mO_lenB mO_appB mO_allocA mO_bslA mO_appA mO_ldb mO_faddrb mRsv mO_ldf mO_ld mO_st mO_sta mO_nilchk mO_bin mO_binb mO_binp mO_bins mO_neg mO_com mO_not mO_conv mO_mk mO_mk0 mO_mkB mO_s2b mO_b2s mO_cpy mO_cut mO_faddr mO_fld mO_iaddr mO_iaddrf mO_sidx mO_len mO_lenf mO_slen mO_scut mO_app mO_ext mO_mx mO_mn mO_mkfn evalOp cutOp argsE ev getE putE cellsOf adopt rowOf binV boolV nilV ar_add ar_sub ar_mul ar_quo ar_rem ar_eq ar_ne ar_lt ar_le ar_gt ar_ge ar_and ar_or ar_xor geto bound finRet finNrm ints List.length_cons List.length_nil List.length_append List.getElem?_cons_zero List.getElem?_cons_succ List.nil_append List.cons_append List.map_cons List.map_nil List.mapM_cons List.mapM_nil Option.map_some Option.map_none Option.bind_some Option.pure_def Option.bind_eq_bind List.drop_zero or_self or_false false_or or_true true_or true_and and_true and_self decide_true decide_false Bool.false_eq_true Bool.true_eq_false Bool.not_true Bool.not_false Nat.le_refl eq_self gt_iff_lt ge_iff_le ne_eq not_true_eq_false not_false_eq_true storeOp apartOf freeze_nil refsL refs List.flatMap_cons List.flatMap_nil List.append_nil List.contains_nil List.set_cons_zero List.set_cons_succ snap snapL fill_nums flat_nums nums_length Go.V.freeze List.mapIdx_cons List.mapIdx_nil List.contains_cons Bool.or_false Bool.false_or Bool.or_true Bool.true_or
def NmU (x:Nm):Prop:=U8 x.2.1∧U8 x.2.2∧x.2.1.length≤1000000000∧x.2.2.length≤1000000000
theorem subP4b {a b c d:AV}:sub false 1 [a,b,c,d] 1=some b:=rfl
theorem subP4c {a b c d:AV}:sub false 1 [a,b,c,d] 2=some c:=rfl
theorem subP4a {a b c d:AV}:sub false 1 [a,b,c,d] 0=some a:=rfl
def Shapes (s:List Int) (ch:Bool) (t:List Int) (n:Nat):Prop:=if ch then count s=some (t.length:Int)∧n=0 else count s=some (n:Int)∧t=[]
def RightP (s:List Int) (ch:Bool) (t:List Int) (l:List Nm):Prop:=Shapes s ch t l.length∧∀x∈l,RightN x.1 x.2.1 x.2.2
theorem Shapes_iff {s t:List Int} {ch:Bool} {n:Nat}:Shapes s ch t n↔∃m,count s=some m∧(ch=true→(t.length:Int)=m∧n=0)∧(ch=false→(n:Int)=m∧t.length=0):=by
  cases ch with
  | true=>
    have e:Shapes s true t n↔count s=some (t.length:Int)∧n=0:=by simp [Shapes]
    rw [e]
    exact ⟨fun ⟨h1,h2⟩=>⟨_,h1,fun _=>⟨rfl,h2⟩,fun h=>(by cases h)⟩,fun ⟨m,h1,h2,_⟩=>⟨by rw [(h2 rfl).1];exact h1,(h2 rfl).2⟩⟩
  | false=>
    have e:Shapes s false t n↔count s=some (n:Int)∧t=[]:=by simp [Shapes]
    rw [e]
    exact ⟨fun ⟨h1,h2⟩=>⟨_,h1,fun h=>(by cases h),fun _=>⟨rfl,by rw [h2];rfl⟩⟩,fun ⟨m,h1,_,h2⟩=>⟨by rw [(h2 rfl).1];exact h1,List.length_eq_zero_iff.1 (h2 rfl).2⟩⟩
theorem c60_ok {s t:List Int} {l:List Nm} {ch ok:Bool} (hs:∀d∈s,In64 d) (hsl:(s.length:Int)≤1000000000000) (ht:(t.length:Int)≤1000000000000) (hl:(l.length:Int)≤1000000000000) (hu:∀x∈l,NmU x) (hok:ok=true↔RightP s ch t l) :
    Go.V.Call tab E 60 [.agg (plX s ch t l)] [] (.bool ok) []:=by
  refine Go.V.Call.mach i60 c60 rfl rfl rfl rfl ?_
  have hfalse:¬RightP s ch t l→ok=false:=fun h=>by rw [←Bool.not_eq_true,hok];exact h
  have h17:=c116_ok (E:=E) hs (by omega)
  simp only [ints] at h17
  have bad:¬Shapes s ch t l.length→ok=false:=fun h=>hfalse (fun hr=>h hr.1)
  cases hc:count s with
  | none=>
    have:=bad (fun h=>by obtain ⟨m,h1,_⟩:=Shapes_iff.1 h;rw [hc] at h1;cases h1)
    subst this
    rw [hc] at h17
    simp only [optP] at h17
    simp only [c60,plX,runes,ints,go_sem,subP4a,subP4b,subP4c,subP3,subP3',FL]
    refine goP h17 ?_
    simp only [go_sem,subP4a,subP4b,subP4c,subP3,subP3',FL]
    simp only [i60,OT,reduceIte,Nat.reduceEqDiff]
  | some m=>
    rw [hc] at h17
    simp only [optP] at h17
    by_cases hsh:Shapes s ch t l.length
    · obtain ⟨m',h1,h2,h3⟩:=Shapes_iff.1 hsh
      rw [hc] at h1
      simp only [Option.some.injEq] at h1
      subst h1
      cases ch with
      | true=>
        obtain ⟨h4,h5⟩:=h2 rfl
        subst h4
        have hl0:l=[]:=List.length_eq_zero_iff.1 h5
        subst hl0
        have hokt:ok=true:=hok.2 ⟨hsh,fun x hx=>by simp at hx⟩
        subst hokt
        simp only [c60,plX,runes,ints,go_sem,subP4a,subP4b,subP4c,subP3,subP3',FL]
        refine goP h17 ?_
        simp only [go_sem,subP4a,subP4b,subP4c,subP3,subP3',FL,bne_self_eq_false]
        refine mLoop (fun N st=>N=0∧st=⟨[(1,.loc 0 0 0),(5,.int .i64 0)],[⟨true,37,4,0,1,plX s true t [],false⟩]⟩) 0 ⟨_,rfl,rfl,rfl⟩ ?_
        rintro N s0 ⟨rfl,rfl⟩
        simp only [b60_0,k60_0,plX,runes,ints,go_sem,subP3,subP3',Int.lt_irrefl]
        simp only [i60,OT,reduceIte,Nat.reduceEqDiff]
      | false=>
        obtain ⟨h4,h5⟩:=h3 rfl
        subst h4
        have ht0:t=[]:=List.length_eq_zero_iff.1 h5
        subst ht0
        simp only [c60,plX,runes,ints,go_sem,subP4a,subP4b,subP4c,subP3,subP3',FL]
        refine goP h17 ?_
        simp only [go_sem,subP4a,subP4b,subP4c,subP3,subP3',FL,bne_self_eq_false]
        refine mLoop (fun N st=>∃(k:Nat),k≤l.length∧N=l.length - k∧(∀x∈l.take k,RightN x.1 x.2.1 x.2.2)∧
          st=⟨[(1,.loc 0 0 0),(5,.int .i64 k)],[⟨true,37,4,0,1,plX s false [] l,false⟩]⟩) l.length ⟨_,rfl,0,by omega,by omega,fun x hx=>by simp at hx,rfl⟩ ?_
        rintro N s0 ⟨k,hk,rfl,hr,rfl⟩
        by_cases hlt:k<l.length
        · have hlt':(k:Int)<(l.length:Int):=by omega
          have hk0:(0:Int)≤(k:Int):=by omega
          have hk1:IntKind.i64.wrap ((k:Int)+1)=((k+1:Nat):Int):=by rw [wrap_i64 (by omega) (by omega)];omega
          have hsub:=sub_nms hlt
          have h1:l.take (k+1)=l.take k++[nmAt l k]:=takeAt hlt
          have hmem:nmAt l k∈l:=by simp [nmAt,List.getD,hlt]
          obtain ⟨u1,u2,u3,u4⟩:=hu _ hmem
          have h96:=fun ok h=>c117_ok (E:=E) (n:=(nmAt l k).1) (ok:=ok) u1 u2 u3 u4 h
          by_cases hrn:RightN (nmAt l k).1 (nmAt l k).2.1 (nmAt l k).2.2
          · have h96t:=h96 true ⟨fun _=>hrn,fun _=>rfl⟩
            simp only [b60_0,plX,runes,ints,go_sem,subP3,subP3',hlt',hk0,Int.toNat_natCast,hsub,nmC]
            refine goP h96t ?_
            simp only [go_sem,hk1]
            refine loopQ_go rfl (l.length - (k+1)) (by omega) ⟨k+1,by omega,rfl,?_,rfl⟩
            intro x hx
            rw [h1] at hx
            rcases List.mem_append.1 hx with hx|hx
            · exact hr x hx
            · simp at hx;subst hx;exact hrn
          · have h96f:=h96 false ⟨fun h=>(by cases h),fun h=>absurd h hrn⟩
            have:=hfalse (fun h=>hrn (h.2 _ hmem))
            subst this
            simp only [b60_0,plX,runes,ints,go_sem,subP3,subP3',hlt',hk0,Int.toNat_natCast,hsub,nmC]
            refine goP h96f ?_
            simp only [go_sem]
            simp only [i60,OT,reduceIte,Nat.reduceEqDiff]
        · have hlt':¬(k:Int)<(l.length:Int):=by omega
          rw [List.take_of_length_le (by omega)] at hr
          have hokt:ok=true:=hok.2 ⟨hsh,hr⟩
          subst hokt
          simp only [b60_0,k60_0,plX,runes,ints,go_sem,subP3,subP3',hlt']
          simp only [i60,OT,reduceIte,Nat.reduceEqDiff]
    · have:=bad hsh
      subst this
      rw [Shapes_iff] at hsh
      cases ch with
      | true=>
        by_cases h1:(t.length:Int)=m
        · have h2:¬l.length=0:=fun h=>hsh ⟨m,hc,fun _=>⟨h1,h⟩,fun h=>by cases h⟩
          have q1:((t.length:Int) != m)=false:=by rw [bne_eq_false_iff_eq];exact h1
          have q2:((l.length:Int) != 0)=true:=by rw [bne_iff_ne];omega
          simp only [c60,plX,runes,ints,go_sem,subP4a,subP4b,subP4c,subP3,subP3',FL]
          refine goP h17 ?_
          simp only [go_sem,subP4a,subP4b,subP4c,subP3,subP3',FL,q1,q2]
          simp only [i60,OT,reduceIte,Nat.reduceEqDiff]
        · have q1:((t.length:Int) != m)=true:=by rw [bne_iff_ne];exact h1
          simp only [c60,plX,runes,ints,go_sem,subP4a,subP4b,subP4c,subP3,subP3',FL]
          refine goP h17 ?_
          simp only [go_sem,subP4a,subP4b,subP4c,subP3,subP3',FL,q1]
          simp only [i60,OT,reduceIte,Nat.reduceEqDiff]
      | false=>
        by_cases h1:(l.length:Int)=m
        · have h2:¬t.length=0:=fun h=>hsh ⟨m,hc,fun h=>(by cases h),fun _=>⟨h1,h⟩⟩
          have q1:((l.length:Int) != m)=false:=by rw [bne_eq_false_iff_eq];exact h1
          have q2:((t.length:Int) != 0)=true:=by rw [bne_iff_ne];omega
          simp only [c60,plX,runes,ints,go_sem,subP4a,subP4b,subP4c,subP3,subP3',FL]
          refine goP h17 ?_
          simp only [go_sem,subP4a,subP4b,subP4c,subP3,subP3',FL,q1,q2]
          simp only [i60,OT,reduceIte,Nat.reduceEqDiff]
        · have q1:((l.length:Int) != m)=true:=by rw [bne_iff_ne];exact h1
          simp only [c60,plX,runes,ints,go_sem,subP4a,subP4b,subP4c,subP3,subP3',FL]
          refine goP h17 ?_
          simp only [go_sem,subP4a,subP4b,subP4c,subP3,subP3',FL,q1]
          simp only [i60,OT,reduceIte,Nat.reduceEqDiff]
theorem subA1' {a b c d e:AV}:sub false 1 [a,b,c,d,e] (0+3)=some d:=rfl
theorem c62_ok {s t:List Int} {l:List Nm} {ch ok:Bool} (hs:∀d∈s,In64 d) (hsl:(s.length:Int)≤1000000000000) (ht:(t.length:Int)≤1000000000000) (hl:(l.length:Int)≤1000000000000) (hu:∀x∈l,NmU x) (hok:ok=true↔RightP s ch t l) :
    Go.V.Call tab E 62 [.agg (plX s ch t l)] [] (.tup [.agg (if ok then arrX s ch t (l.map toRt) else noA),.bool ok]) []:=by
  refine Go.V.Call.mach i62 c62 rfl rfl rfl rfl ?_
  have hfalse:¬RightP s ch t l→ok=false:=fun h=>by rw [←Bool.not_eq_true,hok];exact h
  have h35:=c83_ok (E:=E) hs (by omega)
  have h85:=c102_ok hsl
  have h92:=c118_ok ht
  simp only [ints,runes] at h35 h85 h92
  have bad:¬Shapes s ch t l.length→ok=false:=fun h=>hfalse (fun hr=>h hr.1)
  cases hc:count s with
  | none=>
    have:=bad (fun h=>by obtain ⟨m,h1,_⟩:=Shapes_iff.1 h;rw [hc] at h1;cases h1)
    subst this
    rw [hc] at h35
    simp only [optP] at h35
    simp only [c62,plX,runes,ints,go_sem,subP4a,subP4b,subP4c,subP3,subP3',FL]
    refine goP h35 ?_
    simp only [go_sem,subP4a,subP4b,subP4c,subP3,subP3',FL]
    simp only [i62,OT,reduceIte,Nat.reduceEqDiff,subA5,noA,Bool.false_eq_true,if_false]
  | some m=>
    rw [hc] at h35
    simp only [optP] at h35
    by_cases hsh:Shapes s ch t l.length
    · obtain ⟨m',h1,h2,h3⟩:=Shapes_iff.1 hsh
      rw [hc] at h1
      simp only [Option.some.injEq] at h1
      subst h1
      cases ch with
      | true=>
        obtain ⟨h4,h5⟩:=h2 rfl
        subst h4
        have hl0:l=[]:=List.length_eq_zero_iff.1 h5
        subst hl0
        have hokt:ok=true:=hok.2 ⟨hsh,fun x hx=>by simp at hx⟩
        subst hokt
        simp only [c62,plX,runes,ints,go_sem,subP4a,subP4b,subP4c,subP3,subP3',FL]
        refine goP h35 ?_
        simp only [go_sem,subP4a,subP4b,subP4c,subP3,subP3',FL,bne_self_eq_false,Int.lt_irrefl]
        refine goZ (r':=ints s) h85 rfl ?_
        simp only [ints,go_sem,subP4a,subP4b,subP4c,subP3,subP3',FL]
        refine goZ (r':=runes t) h92 rfl ?_
        simp only [runes,go_sem,subP4a,subP4b,subP4c,subP3,subP3',FL]
        refine mLoop (fun N st=>N=0∧st=⟨[(2,.loc 4 0 0),(6,.loc 8 0 0),(65,.sl 0 3 (nmsC [])),(66,.int .i64 0),(67,.int .i64 0)],
          [⟨true,37,4,0,1,plX s true t [],false⟩,⟨false,3,1,0,0,[],false⟩,⟨false,21,1,0,0,[],false⟩,⟨false,59,3,0,0,[],false⟩,⟨true,28,5,0,1,[.arr 1 0,.bool false,.arr 2 0,.arr 3 0,.bool false],false⟩,
           ⟨false,3,1,0,0,[],false⟩,⟨false,21,1,0,0,[],false⟩,⟨false,59,3,0,0,[],false⟩,⟨true,28,5,0,1,[ints s,.bool true,runes t,.arr 9 0,.bool true],false⟩,⟨false,59,3,0,0,[],false⟩]⟩) 0 ⟨_,rfl,rfl,rfl⟩ ?_
        rintro N s0 ⟨rfl,rfl⟩
        simp only [b62_0,k62_0,plX,runes,ints,go_sem,subA5,Int.lt_irrefl,FL]
        simp only [i62,OT,reduceIte,Nat.reduceEqDiff,subA5,arrX,runes,if_true,List.map_nil]
        rfl
      | false=>
        obtain ⟨h4,h5⟩:=h3 rfl
        subst h4
        have ht0:t=[]:=List.length_eq_zero_iff.1 h5
        subst ht0
        simp only [c62,plX,runes,ints,go_sem,subP4a,subP4b,subP4c,subP3,subP3',FL]
        refine goP h35 ?_
        simp only [go_sem,subP4a,subP4b,subP4c,subP3,subP3',FL,bne_self_eq_false,Int.lt_irrefl]
        refine goZ (r':=ints s) h85 rfl ?_
        simp only [ints,go_sem,subP4a,subP4b,subP4c,subP3,subP3',FL]
        refine goZ (r':=runes []) h92 rfl ?_
        simp only [runes,go_sem,subP4a,subP4b,subP4c,subP3,subP3',FL]
        refine mLoop (fun N st=>∃i:Nat,i≤l.length∧N=l.length - i∧(∀x∈l.take i,RightN x.1 x.2.1 x.2.2)∧st=⟨[(2,.loc 4 0 0),(6,.loc 8 0 0),(65,.sl l.length 3 (nmsC l)),(66,.int .i64 l.length),(67,.int .i64 i)],
          [⟨true,37,4,0,1,plX s false [] l,false⟩,⟨false,3,1,0,0,[],false⟩,⟨false,21,1,0,0,[],false⟩,⟨false,59,3,0,0,[],false⟩,⟨true,28,5,0,1,[.arr 1 0,.bool false,.arr 2 0,.arr 3 0,.bool false],false⟩,
           ⟨false,3,1,0,0,[],false⟩,⟨false,21,1,0,0,[],false⟩,⟨false,59,3,0,0,[],false⟩,⟨true,28,5,0,1,[ints s,.bool false,runes [],.arr 9 i,.bool true],false⟩,⟨false,59,3,i,i,rtsC ((l.take i).map toRt),false⟩]⟩) l.length
          ⟨_,rfl,0,by omega,by omega,fun x hx=>by simp at hx,by simp [getE,ints,runes,plX,rtsC]⟩ ?_
        rintro N s0 ⟨i,hi,rfl,hr,rfl⟩
        by_cases hlt:i<l.length
        · have hlt':(i:Int)<(l.length:Int):=by omega
          have hi0:(0:Int)≤(i:Int):=by omega
          have hi1:IntKind.i64.wrap ((i:Int)+1)=((i+1:Nat):Int):=by rw [wrap_i64 (by omega) (by omega)];omega
          have hsub:=sub_nms hlt
          have hmem:nmAt l i∈l:=by simp [nmAt,List.getD,hlt]
          obtain ⟨u1,u2,u3,u4⟩:=hu _ hmem
          have htk:l.take (i+1)=l.take i++[nmAt l i]:=takeAt hlt
          have hmt:rtsC ((l.take (i+1)).map toRt)=rtsC ((l.take i).map toRt)++rtC (toRt (nmAt l i)):=by rw [htk,List.map_append,List.map_cons,List.map_nil,rtsC_snoc]
          have e1:(i+1)*56≤140737488355328:=by omega
          have e2:i+1≤140737488355328:=by omega
          have h95:=fun ok h=>c119_ok (E:=E) (n:=(nmAt l i).1) (ok:=ok) u1 u2 u3 u4 h
          by_cases hrn:RightN (nmAt l i).1 (nmAt l i).2.1 (nmAt l i).2.2
          · obtain ⟨n',p',q',hn',h95t⟩:=h95 true ⟨fun _=>hrn,fun _=>rfl⟩
            obtain ⟨rfl,rfl,rfl⟩:=hn' rfl
            simp only [ratG,us32] at h95t
            simp only [b62_0,plX,runes,ints,go_sem,subT3,hlt',hi0,Int.toNat_natCast,hsub,nmC,FL]
            refine goP h95t ?_
            simp only [go_sem,subA1',subA3,subT3,FL,hi1,e1,e2,List.flatten_cons,List.flatten_nil,Option.getD_some]
            refine loopQ_go rfl (l.length - (i+1)) (by omega) ⟨i+1,by omega,rfl,?_,?_⟩
            · intro x hx
              rw [htk] at hx
              rcases List.mem_append.1 hx with hx|hx
              · exact hr x hx
              · simp at hx;subst hx;exact hrn
            · rw [hmt]
              rfl
          · obtain ⟨n',p',q',hn',h95f⟩:=h95 false ⟨fun h=>(by cases h),fun h=>absurd h hrn⟩
            have:=hfalse (fun h=>hrn (h.2 _ hmem))
            subst this
            simp only [ratG,us32] at h95f
            simp only [b62_0,plX,runes,ints,go_sem,subT3,hlt',hi0,Int.toNat_natCast,hsub,nmC,FL]
            refine goP h95f ?_
            simp only [go_sem,subA5,subT3,FL]
            simp only [i62,OT,reduceIte,Nat.reduceEqDiff,subA5,noA,Bool.false_eq_true,if_false]
        · have hlt':¬(i:Int)<(l.length:Int):=by omega
          obtain rfl:i=l.length:=by omega
          rw [List.take_length] at hr
          have hokt:ok=true:=hok.2 ⟨hsh,hr⟩
          subst hokt
          simp only [b62_0,k62_0,plX,runes,ints,go_sem,subA5,hlt',List.take_length,FL]
          simp only [i62,OT,reduceIte,Nat.reduceEqDiff,subA5,arrX,runes,if_true,List.length_map]
          rfl
    · have:=bad hsh
      subst this
      rw [Shapes_iff] at hsh
      cases ch with
      | true=>
        by_cases h1:(t.length:Int)=m
        · have h2:¬l.length=0:=fun h=>hsh ⟨m,hc,fun _=>⟨h1,h⟩,fun h=>by cases h⟩
          have q1:((t.length:Int) != m)=false:=by rw [bne_eq_false_iff_eq];exact h1
          have q2:(0:Int)<(l.length:Int):=by omega
          simp only [c62,plX,runes,ints,go_sem,subP4a,subP4b,subP4c,subP3,subP3',FL]
          refine goP h35 ?_
          simp only [go_sem,subP4a,subP4b,subP4c,subP3,subP3',FL,q1,q2]
          simp only [i62,OT,reduceIte,Nat.reduceEqDiff,subA5,noA,Bool.false_eq_true,if_false]
        · have q1:((t.length:Int) != m)=true:=by rw [bne_iff_ne];exact h1
          simp only [c62,plX,runes,ints,go_sem,subP4a,subP4b,subP4c,subP3,subP3',FL]
          refine goP h35 ?_
          simp only [go_sem,subP4a,subP4b,subP4c,subP3,subP3',FL,q1]
          simp only [i62,OT,reduceIte,Nat.reduceEqDiff,subA5,noA,Bool.false_eq_true,if_false]
      | false=>
        by_cases h1:(l.length:Int)=m
        · have h2:¬t.length=0:=fun h=>hsh ⟨m,hc,fun h=>(by cases h),fun _=>⟨h1,h⟩⟩
          have q1:((l.length:Int) != m)=false:=by rw [bne_eq_false_iff_eq];exact h1
          have q2:(0:Int)<(t.length:Int):=by omega
          simp only [c62,plX,runes,ints,go_sem,subP4a,subP4b,subP4c,subP3,subP3',FL]
          refine goP h35 ?_
          simp only [go_sem,subP4a,subP4b,subP4c,subP3,subP3',FL,q1,q2]
          simp only [i62,OT,reduceIte,Nat.reduceEqDiff,subA5,noA,Bool.false_eq_true,if_false]
        · have q1:((l.length:Int) != m)=true:=by rw [bne_iff_ne];exact h1
          simp only [c62,plX,runes,ints,go_sem,subP4a,subP4b,subP4c,subP3,subP3',FL]
          refine goP h35 ?_
          simp only [go_sem,subP4a,subP4b,subP4c,subP3,subP3',FL,q1]
          simp only [i62,OT,reduceIte,Nat.reduceEqDiff,subA5,noA,Bool.false_eq_true,if_false]
theorem c19_ok {s t:List Int} {l:List Nm} {ch:Bool} (hs:∀d∈s,In64 d) (hsl:(s.length:Int)≤1000000000000) (ht:(t.length:Int)≤1000000000000) (hl:(l.length:Int)≤1000000000000) (hu:∀x∈l,NmU x) (hr:RightP s ch t l) :
    Go.V.Call tab E 19 [.agg (plX s ch t l)] [] (.agg (arrX s ch t (l.map toRt))) []:=by
  refine Go.V.Call.mach i19 c19 rfl rfl rfl rfl ?_
  have h65:=c62_ok (ok:=true) hs hsl ht hl hu ⟨fun _=>hr,fun _=>rfl⟩
  simp only [if_true,plX,arrX,runes,ints] at h65
  simp only [c19,plX,runes,ints,go_sem,subP4,FL]
  refine goP h65 ?_
  simp only [go_sem,subA5,FL]
  simp only [i19,OT,reduceIte,Nat.reduceEqDiff,subA5,arrX,runes]
def LightP (s:List Int) (ch:Bool) (t:List Int) (l:List Nm) (most:Int):Prop:=(t.length:Int)≤most∧(l.length:Int)≤most∧s.length≤8∧(∀x∈l,x.2.1.length≤40∧x.2.2.length≤40)∧RightP s ch t l
theorem c17_ok {s t:List Int} {l:List Nm} {ch ok:Bool} {most:Int} (hm:0≤most∧most≤1000000) (hs:∀d∈s,In64 d)
    (hu:∀x∈l,U8 x.2.1∧U8 x.2.2) (hok:ok=true↔LightP s ch t l most) :
    Go.V.Call tab E 17 [.agg (plX s ch t l),.int .i64 most] [] (.bool ok) []:=by
  refine Go.V.Call.mach i17 c17 rfl rfl rfl rfl ?_
  have hfalse:¬LightP s ch t l most→ok=false:=fun h=>by rw [←Bool.not_eq_true,hok];exact h
  by_cases h1:most<(t.length:Int)
  · have:=hfalse (fun h=>by have:=h.1;omega)
    subst this
    simp only [c17,plX,runes,ints,go_sem,subP4a,subP4b,subP4c,subP3,subP3',FL,h1]
    simp only [i17,OT,reduceIte,Nat.reduceEqDiff]
  by_cases h2:most<(l.length:Int)
  · have:=hfalse (fun h=>by have:=h.2.1;omega)
    subst this
    simp only [c17,plX,runes,ints,go_sem,subP4a,subP4b,subP4c,subP3,subP3',FL,h1,h2]
    simp only [i17,OT,reduceIte,Nat.reduceEqDiff]
  by_cases h3:(8:Int)<(s.length:Int)
  · have:=hfalse (fun h=>by have:=h.2.2.1;omega)
    subst this
    simp only [c17,plX,runes,ints,go_sem,subP4a,subP4b,subP4c,subP3,subP3',FL,h1,h2,h3]
    simp only [i17,OT,reduceIte,Nat.reduceEqDiff]
  simp only [c17,plX,runes,ints,go_sem,subP4a,subP4b,subP4c,subP3,subP3',FL,h1,h2,h3]
  refine mLoop (fun N st=>∃k:Nat,k≤l.length∧N=l.length - k∧(∀x∈l.take k,x.2.1.length≤40∧x.2.2.length≤40)∧st=⟨[(2,.loc 0 0 0),(5,.int .i64 k)],[⟨true,37,4,0,1,plX s ch t l,false⟩]⟩) l.length
    ⟨_,rfl,0,by omega,by omega,fun x hx=>by simp at hx,rfl⟩ ?_
  rintro N s0 ⟨k,hk,rfl,hr,rfl⟩
  by_cases hlt:k<l.length
  · have hlt':(k:Int)<(l.length:Int):=by omega
    have hk0:(0:Int)≤(k:Int):=by omega
    have hk1:IntKind.i64.wrap ((k:Int)+1)=((k+1:Nat):Int):=by rw [wrap_i64 (by omega) (by omega)];omega
    have hs1:=sub_nms1 hlt
    have hs2:=sub_nms2 hlt
    have hmem:nmAt l k∈l:=by simp [nmAt,List.getD,hlt]
    have htk:l.take (k+1)=l.take k++[nmAt l k]:=takeAt hlt
    by_cases g1:(40:Int)<((nmAt l k).2.1.length:Int)
    · have:=hfalse (fun h=>by have:=(h.2.2.2.1 _ hmem).1;omega)
      subst this
      simp only [b17_0,plX,runes,ints,go_sem,subP3,subP3',hlt',hk0,Int.toNat_natCast,hs1,hs2,bs_size,g1]
      simp only [i17,OT,reduceIte,Nat.reduceEqDiff]
    · by_cases g2:(40:Int)<((nmAt l k).2.2.length:Int)
      · have:=hfalse (fun h=>by have:=(h.2.2.2.1 _ hmem).2;omega)
        subst this
        simp only [b17_0,plX,runes,ints,go_sem,subP3,subP3',hlt',hk0,Int.toNat_natCast,hs1,hs2,bs_size,g1,g2]
        simp only [i17,OT,reduceIte,Nat.reduceEqDiff]
      · simp only [b17_0,plX,runes,ints,go_sem,subP3,subP3',hlt',hk0,Int.toNat_natCast,hs1,hs2,bs_size,g1,g2,hk1]
        refine loopQ_go rfl (l.length - (k+1)) (by omega) ⟨k+1,by omega,rfl,?_,rfl⟩
        intro x hx
        rw [htk] at hx
        rcases List.mem_append.1 hx with hx|hx
        · exact hr x hx
        · simp at hx;subst hx;omega
  · have hlt':¬(k:Int)<(l.length:Int):=by omega
    rw [List.take_of_length_le (by omega)] at hr
    have h66:=c60_ok (s:=s) (t:=t) (l:=l) (ch:=ch) (ok:=ok) hs (by omega) (by omega) (by omega) (fun x hx=>⟨(hu x hx).1,(hu x hx).2,by have:=(hr x hx).1;omega,by have:=(hr x hx).2;omega⟩) (by
      rw [hok]
      exact ⟨fun h=>h.2.2.2.2,fun h=>⟨by omega,by omega,by omega,hr,h⟩⟩)
    simp only [plX,runes,ints] at h66
    simp only [b17_0,k17_0,plX,runes,ints,go_sem,subP4,subP3,subP3',hlt']
    refine goP h66 ?_
    simp only [go_sem]
    simp only [i17,OT,reduceIte,Nat.reduceEqDiff]
def pickT (t:List Int) (k:Int):Int:=if 0≤k∧k<t.length then t.getD k.toNat 0 else 32
def picksT (ch:Bool) (t ks:List Int):List Int:=if ch then ks.map (pickT t) else []
def picksR (ch:Bool) (l:List Rt) (ks:List Int):List Rt:=if ch then [] else ks.map (pickR l)
theorem c64_ok {s t s' ks:List Int} {l:List Rt} {ch:Bool} (hs:∀d∈s',In64 d) (hsl:(s'.length:Int)≤1000000000000) (ht:(t.length:Int)≤1000000000000) (hl:(l.length:Int)≤1000000000000) (hks:(ks.length:Int)≤1000000000) :
    Go.V.Call tab E 64 [.agg (arrX s ch t l),ints s',ints ks] [] (.tup [.agg (if fits s' ks.length then arrX s' ch (picksT ch t ks) (picksR ch l ks) else noA),.bool (fits s' ks.length)]) []:=by
  refine Go.V.Call.mach i64 c64 rfl rfl rfl rfl ?_
  have h35:=c83_ok (E:=E) hs (by omega)
  have h85:=c102_ok hsl
  simp only [ints] at h35 h85
  cases hc:count s' with
  | none=>
    have hf:fits s' ks.length=false:=by simp [fits,hc]
    rw [hc] at h35
    simp only [optP] at h35
    simp only [c64,arrX,runes,ints,go_sem,FL]
    refine goP h35 ?_
    simp only [go_sem,FL]
    simp only [i64,OT,reduceIte,Nat.reduceEqDiff,subA5,hf,noA,Bool.false_eq_true,if_false]
  | some m=>
    rw [hc] at h35
    simp only [optP] at h35
    by_cases hm:m=(ks.length:Int)
    · subst hm
      have hf:fits s' ks.length=true:=by simp [fits,hc]
      rw [hf,if_pos rfl]
      cases ch with
      | true=>
        simp only [c64,arrX,runes,ints,go_sem,FL,subX1]
        refine goP h35 ?_
        simp only [go_sem,FL,bne_self_eq_false,subX1]
        refine goZ (r':=ints s') h85 rfl ?_
        simp only [ints,go_sem,FL,subX1]
        refine mLoop (fun N st=>∃i:Nat,i≤ks.length∧N=ks.length - i∧st=⟨[(3,.loc 0 0 0),(6,.loc 4 0 0),(10,.loc 8 0 0),(32,ints ks),(33,.int .i64 ks.length),(34,.int .i64 i)],
          [⟨true,28,5,0,1,arrX s true t l,false⟩,⟨false,3,1,0,0,[],false⟩,⟨false,21,1,0,0,[],false⟩,⟨false,59,3,0,0,[],false⟩,⟨true,28,5,0,1,[.arr 1 0,.bool false,.arr 2 0,.arr 3 0,.bool false],false⟩,
           ⟨false,3,1,0,0,[],false⟩,⟨false,21,1,0,0,[],false⟩,⟨false,59,3,0,0,[],false⟩,⟨true,28,5,0,1,[ints s',.bool true,.arr 9 i,.arr 10 0,.bool true],false⟩,⟨false,21,1,i,i,nums .i32 ((ks.take i).map (pickT t)),false⟩,⟨false,59,3,0,0,[],false⟩]⟩) ks.length
          ⟨_,rfl,0,by omega,by omega,by simp [getE,ints,runes,arrX,nums]⟩ ?_
        rintro N s0 ⟨i,hi,rfl,rfl⟩
        by_cases hlt:i<ks.length
        · have hlt':(i:Int)<(ks.length:Int):=by omega
          have hi0:(0:Int)≤(i:Int):=by omega
          have hi1:IntKind.i64.wrap ((i:Int)+1)=((i+1:Nat):Int):=by rw [wrap_i64 (by omega) (by omega)];omega
          have hsub:=sub_nums (k:=.i64) hlt
          have htk:ks.take (i+1)=ks.take i++[ks.getD i 0]:=takeAt hlt
          have hmt:nums .i32 ((ks.take (i+1)).map (pickT t))=nums .i32 ((ks.take i).map (pickT t))++[.int .i32 (pickT t (ks.getD i 0))]:=by rw [htk,List.map_append,nums_app];rfl
          have e1:(i+1)*4≤140737488355328:=by omega
          have e2:i+1≤140737488355328:=by omega
          generalize ks.getD i 0=k at *
          by_cases h1:k<0
          · have hp:pickT t k=32:=by rw [pickT,if_neg (by omega)]
            rw [hp] at hmt
            simp only [b64_0,arrX,runes,ints,go_sem,FL,subX1,subX2,subA3,hlt',hi0,hi1,Int.toNat_natCast,hsub,h1,e1,e2,List.flatten_cons,List.flatten_nil,Option.getD_some]
            refine loopQ_go rfl (ks.length - (i+1)) (by omega) ⟨i+1,by omega,rfl,?_⟩
            rw [hmt]
            rfl
          · by_cases h2:(t.length:Int)≤k
            · have hp:pickT t k=32:=by rw [pickT,if_neg (by omega)]
              rw [hp] at hmt
              simp only [b64_0,arrX,runes,ints,go_sem,FL,subX1,subX2,subA3,hlt',hi0,hi1,Int.toNat_natCast,hsub,h1,h2,e1,e2,List.flatten_cons,List.flatten_nil,Option.getD_some]
              refine loopQ_go rfl (ks.length - (i+1)) (by omega) ⟨i+1,by omega,rfl,?_⟩
              rw [hmt]
              rfl
            · obtain ⟨j,rfl⟩:=Int.eq_ofNat_of_zero_le (show 0≤k by omega)
              have hp:pickT t (j:Int)=t.getD j 0:=by rw [pickT,if_pos (by omega),Int.toNat_natCast]
              rw [hp] at hmt
              have hsj:=sub_nums (k:=.i32) (l:=t) (i:=j) (by omega)
              have h3:(0:Int)≤(j:Int):=by omega
              have h4:(j:Int)<(t.length:Int):=by omega
              simp only [b64_0,arrX,runes,ints,go_sem,FL,subX1,subX2,subA3,hlt',hi0,hi1,Int.toNat_natCast,hsub,hsj,h1,h2,h3,h4,e1,e2,List.flatten_cons,List.flatten_nil,Option.getD_some]
              refine loopQ_go rfl (ks.length - (i+1)) (by omega) ⟨i+1,by omega,rfl,?_⟩
              rw [hmt]
              rfl
        · have hlt':¬(i:Int)<(ks.length:Int):=by omega
          obtain rfl:i=ks.length:=by omega
          simp only [b64_0,k64_0,arrX,runes,ints,go_sem,subA5,hlt',List.take_length,FL]
          simp only [i64,OT,reduceIte,Nat.reduceEqDiff,subA5,arrX,runes,picksT,picksR,if_true,List.length_map]
          rfl
      | false=>
        simp only [c64,arrX,runes,ints,go_sem,FL,subX1]
        refine goP h35 ?_
        simp only [go_sem,FL,bne_self_eq_false,subX1]
        refine goZ (r':=ints s') h85 rfl ?_
        simp only [ints,go_sem,FL,subX1]
        refine mLoop (fun N st=>∃i:Nat,i≤ks.length∧N=ks.length - i∧st=⟨[(3,.loc 0 0 0),(6,.loc 4 0 0),(10,.loc 8 0 0),(32,ints ks),(33,.int .i64 ks.length),(34,.int .i64 i)],
          [⟨true,28,5,0,1,arrX s false t l,false⟩,⟨false,3,1,0,0,[],false⟩,⟨false,21,1,0,0,[],false⟩,⟨false,59,3,0,0,[],false⟩,⟨true,28,5,0,1,[.arr 1 0,.bool false,.arr 2 0,.arr 3 0,.bool false],false⟩,
           ⟨false,3,1,0,0,[],false⟩,⟨false,21,1,0,0,[],false⟩,⟨false,59,3,0,0,[],false⟩,⟨true,28,5,0,1,[ints s',.bool false,.arr 9 0,.arr 10 i,.bool true],false⟩,⟨false,21,1,0,0,[],false⟩,⟨false,59,3,i,i,rtsC ((ks.take i).map (pickR l)),false⟩]⟩) ks.length
          ⟨_,rfl,0,by omega,by omega,by simp [getE,ints,runes,arrX,rtsC]⟩ ?_
        rintro N s0 ⟨i,hi,rfl,rfl⟩
        by_cases hlt:i<ks.length
        · have hlt':(i:Int)<(ks.length:Int):=by omega
          have hi0:(0:Int)≤(i:Int):=by omega
          have hi1:IntKind.i64.wrap ((i:Int)+1)=((i+1:Nat):Int):=by rw [wrap_i64 (by omega) (by omega)];omega
          have hsub:=sub_nums (k:=.i64) hlt
          have htk:ks.take (i+1)=ks.take i++[ks.getD i 0]:=takeAt hlt
          have hmt:rtsC ((ks.take (i+1)).map (pickR l))=rtsC ((ks.take i).map (pickR l))++rtC (pickR l (ks.getD i 0)):=by rw [htk,List.map_append,List.map_cons,List.map_nil,rtsC_snoc]
          have e1:(i+1)*56≤140737488355328:=by omega
          have e2:i+1≤140737488355328:=by omega
          have h73:=c25_ok (s:=s) (t:=t) (ch:=false) (k:=ks.getD i 0) hl
          simp only [arrX,runes,ints,rtC,ratG,us32] at h73
          generalize ks.getD i 0=k at *
          simp only [b64_0,arrX,runes,ints,go_sem,FL,subX1,subX2,subA3,subA5,hlt',hi0,Int.toNat_natCast,hsub]
          refine goP h73 ?_
          simp only [go_sem,FL,subX1,subX2,subA3,hi1,e1,e2,List.flatten_cons,List.flatten_nil,Option.getD_some]
          refine loopQ_go rfl (ks.length - (i+1)) (by omega) ⟨i+1,by omega,rfl,?_⟩
          rw [hmt]
          rfl
        · have hlt':¬(i:Int)<(ks.length:Int):=by omega
          obtain rfl:i=ks.length:=by omega
          simp only [b64_0,k64_0,arrX,runes,ints,go_sem,subA5,hlt',List.take_length,FL]
          simp only [i64,OT,reduceIte,Nat.reduceEqDiff,subA5,arrX,runes,picksT,picksR,Bool.false_eq_true,if_false,List.length_map]
          rfl
    · have hf:fits s' ks.length=false:=by simp [fits,hc,hm]
      have hm':(m != (ks.length:Int))=true:=by simpa using hm
      simp only [c64,arrX,runes,ints,go_sem,FL]
      refine goP h35 ?_
      simp only [go_sem,FL,hm']
      simp only [i64,OT,reduceIte,Nat.reduceEqDiff,subA5,hf,noA,Bool.false_eq_true,if_false]
def pickN (l:List Nm) (k:Int):Nm:=if 0≤k∧k<l.length then nmAt l k.toNat else (false,[48],[49])
def picksN (ch:Bool) (l:List Nm) (ks:List Int):List Nm:=if ch then [] else ks.map (pickN l)
theorem dn_pos {q:Nat} (h:q≠0):dn q=q:=by
  unfold dn
  rw [if_neg h]
theorem back_nm {x:Nm} (h:RightN x.1 x.2.1 x.2.2):toNm (toRt x)=x:=by
  obtain ⟨n,a,b⟩:=x
  obtain ⟨hRa,hRb,t1,t2,hb48,_,_⟩:=h
  have ea:decL (sval a)=a:=by rw [←trimS_dec hRa.1 (fun h0=>by have:=hRa.2.1;rw [h0] at this;simp at this)];exact t1
  have eb:decL (sval b)=b:=by rw [←trimS_dec hRb.1 (fun h0=>by have:=hRb.2.1;rw [h0] at this;simp at this)];exact t2
  have hq:sval b≠0:=fun h=>hb48 ((right_zero hRb t2).1 h)
  have hd:=dn_pos hq
  simp only [toNm,toRt]
  rw [hd,ea,eb]
theorem right_ok {x:Nm} (h:RightN x.1 x.2.1 x.2.2):RtOk (toRt x):=by
  obtain ⟨hRa,hRb,t1,t2,hb48,_,_⟩:=h
  refine ⟨Right_lim hRa,?_⟩
  have hq:sval x.2.2≠0:=fun h=>hb48 ((right_zero hRb t2).1 h)
  show dn (sval x.2.2)<lim2000
  rw [dn_pos hq]
  exact Right_lim hRb
theorem rtAt_map {l:List Nm} {i:Nat} (h:i<l.length):rtAt (l.map toRt) i=toRt (nmAt l i):=by
  simp [rtAt,nmAt,List.getD,h]
theorem goFn0 {C:CallRel} {Q:X→St→Prop} {f:Nat} {xs:List AV} {d:Option Nat} {os:List IOp} {k:List Go.V.Item} {s:St} {r:AV} (h:C f xs [] r []) (hs:scalars r=true)
    (hk:Mach C Q (.ops os::k) .nrm ⟨putE s.env d r,s.mem⟩):MachF C Q (.fn f []) (some xs) d os k s:=by
  simp only [MachF,List.mapM_nil,Option.pure_def,Option.map_some,List.append_nil]
  exact goV h hs hk
def whC (n:Bool) (p:Nat):List AV:=[us32 (limG p),.bool n]
def wcmp (n:Bool) (p:Nat) (m:Bool) (q:Nat):Int:=if n=true∧m=false then -1 else if n=false∧m=true then 1 else if n=true then cmpZ q p else cmpZ p q
theorem subW2 {a b:AV}:sub true 2 [a,b] 0=some (.agg [a,b]):=rfl
theorem subW0 {a b:AV}:sub true 1 [a,b] 0=some (.agg [a]):=rfl
theorem subW1 {a b:AV}:sub false 1 [a,b] 1=some b:=rfl
section
variable {E:CallRel}
theorem c109_ok {n:Bool} {p q:Nat}:Go.V.Call tab E 109 [.agg (ratG n p q)] [] (.agg (whC false (dn q))) []:=by
  refine Go.V.Call.mach i109 c109 rfl rfl rfl rfl ?_
  have h100:=c79_gen (E:=E) (n:=n) (p:=p) (q:=q)
  have h118:=c136_ok (E:=E) (n:=false) (p:=dn q)
  simp only [ratG,natC,us32,Bool.false_and] at h100 h118
  simp only [c109,ratG,us32,go_sem,FL,subT3]
  refine goP h100 ?_
  simp only [us32,go_sem,FL]
  refine goP h118 ?_
  simp only [us32,go_sem,FL]
  simp only [i109,OT,reduceIte,Nat.reduceEqDiff,subW2,whC,us32]
theorem c108_ok {n m:Bool} {p q:Nat} (hp:(limG p).length≤1000000) (hq:(limG q).length≤1000000):Go.V.Call tab E 108 [.agg (whC n p),.sl 1 2 (whC m q)] [] (.agg (whC ((n != m)&&decide (p*q≠0)) (p*q))) []:=by
  refine Go.V.Call.mach i108 c108 rfl rfl rfl rfl ?_
  have h133:=c137_ok (E:=E) hp hq
  have h118:=c136_ok (E:=E) (n:=n != m) (p:=p*q)
  have hb:boolV .ne (.bool n) (.bool m)=some (.bool (n != m)):=by cases n<;>cases m<;>rfl
  simp only [natC,us32] at h133 h118
  simp only [c108,whC,us32,go_sem,FL,subW2]
  refine mLoop (fun N st=>∃(i:Nat) (b:Bool) (v:Nat),(i=0∧b=n∧v=p∨i=1∧b=((n != m)&&decide (p*q≠0))∧v=p*q)∧N=1 - i∧
    st=⟨[(2,.loc 0 0 0),(4,.loc 2 0 0),(7,.sl 1 2 (whC m q)),(8,.int .i64 1),(9,.int .i64 i)],[⟨true,57,2,0,1,whC b v,false⟩,⟨false,154,1,0,0,[],false⟩,⟨true,57,2,0,1,[.arr 1 0,.bool false],false⟩]⟩) 1
    ⟨_,rfl,0,n,p,.inl ⟨rfl,rfl,rfl⟩,by omega,by simp [getE,whC,us32]⟩ ?_
  rintro N s0 ⟨i,b,v,hiv,rfl,rfl⟩
  rcases hiv with ⟨rfl,rfl,rfl⟩|⟨rfl,rfl,rfl⟩
  · have hs2:sub true 2 (whC m q) (0*2)=some (.agg (whC m q)):=rfl
    have hs2':sub true 2 (whC m q) 0=some (.agg (whC m q)):=rfl
    have w1:IntKind.i64.wrap (0+1)=1:=by decide
    have h01:(0:Int)<((1:Nat):Int):=by omega
    simp only [whC,us32] at hs2 hs2'
    simp only [b108_0,whC,us32,go_sem,FL,subW2,subW0,subW1,h01,hs2,hs2']
    refine goF h133 ?_
    simp only [us32,go_sem,FL,subW2,subW0,subW1]
    refine goP h118 ?_
    simp only [us32,go_sem,FL,subW2,subW0,subW1,w1]
    exact loopQ_go rfl 0 (by omega) ⟨1,_,_,.inr ⟨rfl,rfl,rfl⟩,by omega,rfl⟩
  · have g:¬((1:Nat):Int)<1:=by omega
    simp only [b108_0,k108_0,whC,us32,go_sem,FL,subW2,subW0,subW1,Int.lt_irrefl,g]
    simp only [i108,OT,reduceIte,Nat.reduceEqDiff,subW2,whC,us32]
theorem c122_ok {n m:Bool} {p q:Nat} (hp:(limG p).length≤1000000) (hq:(limG q).length≤1000000):Go.V.Call tab E 122 [.agg (whC n p),.agg (whC m q)] [] (.int .i64 (wcmp n p m q)) []:=by
  refine Go.V.Call.mach i122 c122 rfl rfl rfl rfl ?_
  have h1:=c145_ok (E:=E) (a:=p) (b:=q) hp hq
  have h2:=c145_ok (E:=E) (a:=q) (b:=p) hq hp
  simp only [natC,us32] at h1 h2
  cases n<;>cases m
  · simp only [c122,whC,us32,go_sem,FL,subW0,subW1]
    refine goP h1 ?_
    simp only [go_sem]
    simp only [i122,OT,reduceIte,Nat.reduceEqDiff,wcmp,Bool.false_eq_true,false_and,if_false]
  · simp only [c122,whC,us32,go_sem,FL,subW0,subW1]
    simp only [i122,OT,reduceIte,Nat.reduceEqDiff,wcmp,Bool.false_eq_true,false_and,if_false,and_self,if_true]
  · simp only [c122,whC,us32,go_sem,FL,subW0,subW1]
    simp only [i122,OT,reduceIte,Nat.reduceEqDiff,wcmp,and_self,if_true]
  · simp only [c122,whC,us32,go_sem,FL,subW0,subW1]
    refine goP h2 ?_
    simp only [go_sem]
    simp only [i122,OT,reduceIte,Nat.reduceEqDiff,wcmp,Bool.true_eq_false,and_false,false_and,if_false,if_true]
def rcmp (x y:Rt):Int:=wcmp ((x.1 != false)&&decide (x.2.1*dn y.2.2≠0)) (x.2.1*dn y.2.2) ((y.1 != false)&&decide (y.2.1*dn x.2.2≠0)) (y.2.1*dn x.2.2)
theorem mul_len {p q:Nat} (hp:p<lim2000) (hq:q<lim2000):(limG (p*q)).length≤1000000:=by
  have h1:=lim2000_limbs hp
  have h2:=lim2000_limbs hq
  have h3:=limG_mul_len (a:=p) (b:=q)
  omega
theorem lim_len6 {p:Nat} (hp:p<lim2000):(limG p).length≤1000000:=by
  have:=lim2000_limbs hp
  omega
theorem c76_ok {x y:Rt} (hx:RtOk x) (hy:RtOk y):Go.V.Call tab E 76 [.agg (rtC x),.agg (rtC y)] [] (.int .i64 (rcmp x y)) []:=by
  obtain ⟨n,p,q⟩:=x
  obtain ⟨m,p',q'⟩:=y
  refine Go.V.Call.mach i76 c76 rfl rfl rfl rfl ?_
  have u1:=c109_ok (E:=E) (n:=m) (p:=p') (q:=q')
  have u2:=c109_ok (E:=E) (n:=n) (p:=p) (q:=q)
  have t1:=c108_ok (E:=E) (n:=n) (m:=false) (p:=p) (q:=dn q') (lim_len6 hx.1) (lim_len6 hy.2)
  have t2:=c108_ok (E:=E) (n:=m) (m:=false) (p:=p') (q:=dn q) (lim_len6 hy.1) (lim_len6 hx.2)
  have g:=c122_ok (E:=E) (n:=(n != false)&&decide (p*dn q'≠0)) (m:=(m != false)&&decide (p'*dn q≠0)) (p:=p*dn q') (q:=p'*dn q) (mul_len hx.1 hy.2) (mul_len hy.1 hx.2)
  simp only [ratG,whC,us32] at u1 u2 t1 t2 g
  simp only [c76,rtC,ratG,us32,go_sem,FL,subT3,sub]
  refine goP u1 ?_
  simp only [go_sem,FL,subT3,sub,List.flatten_cons,List.flatten_nil,Option.getD_some]
  refine goF t1 ?_
  simp only [go_sem,FL,subT3,sub]
  refine goP u2 ?_
  simp only [go_sem,FL,subT3,sub,List.flatten_cons,List.flatten_nil,Option.getD_some]
  refine goF t2 ?_
  simp only [go_sem,FL,subT3,sub]
  refine goP g ?_
  simp only [go_sem]
  simp only [i76,OT,reduceIte,Nat.reduceEqDiff,rcmp]
theorem c75_ok {x y:Rt} (hx:RtOk x) (hy:RtOk y):Go.V.Call tab E 75 [.agg (rtC x),.agg (rtC y)] [] (.bool (rcmp x y==0)) []:=by
  refine Go.V.Call.mach i75 c75 rfl rfl rfl rfl ?_
  have h:=c76_ok (E:=E) hx hy
  simp only [rtC,ratG,us32] at h
  simp only [c75,rtC,ratG,us32,go_sem,FL,subT3]
  refine goP h ?_
  simp only [go_sem]
  simp only [i75,OT,reduceIte,Nat.reduceEqDiff]
end
def RtRed (x:Rt):Prop:=RtOk x∧x.2.2≠0∧Nat.gcd x.2.1 x.2.2=1∧(x.1=true→x.2.1≠0)
theorem cmpZ_zero {a b:Nat}:cmpZ a b=0↔a=b:=by
  unfold cmpZ
  split
  · constructor<;>intro h<;>omega
  · split
    · rename_i h;exact ⟨fun _=>h,fun _=>rfl⟩
    · rename_i h;exact ⟨fun h2=>by omega,fun h2=>absurd h2 h⟩
theorem rcmp_zero {x y:Rt} (hx:RtRed x) (hy:RtRed y):rcmp x y=0↔x=y:=by
  obtain ⟨n,p,q⟩:=x
  obtain ⟨m,p',q'⟩:=y
  obtain ⟨_,hq,hg,hn⟩:=hx
  obtain ⟨_,hq',hg',hm⟩:=hy
  simp only at hq hg hn hq' hg' hm
  have eq1:p*q'=p'*q→p=p'∧q=q':=fun h=>by
    have d1:p ∣ p':=(Nat.Coprime.dvd_of_dvd_mul_right hg (by rw [←h];exact Nat.dvd_mul_right _ _))
    have d2:p' ∣ p:=(Nat.Coprime.dvd_of_dvd_mul_right hg' (by rw [h];exact Nat.dvd_mul_right _ _))
    have e:=Nat.dvd_antisymm d1 d2
    subst e
    refine ⟨rfl,?_⟩
    rcases Nat.eq_zero_or_pos p with h0|h0
    · subst h0
      rw [Nat.gcd_zero_left] at hg hg'
      rw [hg,hg']
    · exact (Nat.eq_of_mul_eq_mul_left h0 h).symm
  have nz:∀a b:Nat,b≠0→(a*b≠0↔a≠0):=fun a b hb=>by
    constructor
    · rintro h rfl;simp at h
    · intro h;exact Nat.mul_ne_zero h hb
  have hs1:((n != false)&&decide (p*q'≠0))=n:=by
    cases n with
    | false=>rfl
    | true=>
      rw [decide_eq_true ((nz p q' hq').2 (hn rfl))]
      rfl
  have hs2:((m != false)&&decide (p'*q≠0))=m:=by
    cases m with
    | false=>rfl
    | true=>
      rw [decide_eq_true ((nz p' q hq).2 (hm rfl))]
      rfl
  simp only [rcmp,dn_pos hq,dn_pos hq',hs1,hs2]
  constructor
  · intro h
    cases n<;>cases m
    · simp only [wcmp,Bool.false_eq_true,false_and,and_false,if_false,cmpZ_zero] at h
      obtain ⟨rfl,rfl⟩:=eq1 h
      rfl
    · simp [wcmp] at h
    · simp [wcmp] at h
    · simp only [wcmp,Bool.true_eq_false,and_false,false_and,if_false,if_true,cmpZ_zero] at h
      obtain ⟨rfl,rfl⟩:=eq1 h.symm
      rfl
  · intro h
    simp only [Prod.mk.injEq] at h
    obtain ⟨rfl,rfl,rfl⟩:=h
    cases n
    · simp only [wcmp,Bool.false_eq_true,false_and,and_false,if_false,cmpZ_zero]
    · simp only [wcmp,Bool.true_eq_false,and_false,false_and,if_false,if_true,cmpZ_zero]
theorem c73_ok {t u:List Int} (ht:(t.length:Int)≤1000000000000) (hu:(u.length:Int)≤1000000000000):Go.V.Call tab E 73 [runes t,runes u] [] (.bool (decide (t=u))) []:=by
  refine Go.V.Call.mach i73 c73 rfl rfl rfl rfl ?_
  by_cases hl:t.length=u.length
  · have q:((t.length:Int) != (u.length:Int))=false:=by rw [bne_eq_false_iff_eq];omega
    simp only [c73,runes,go_sem,q]
    refine mLoop (fun N st=>∃(k:Nat),k≤t.length∧N=t.length - k∧t.take k=u.take k∧
      st=⟨[(0,runes t),(1,runes u),(12,.int .i64 t.length),(13,.int .i64 k)],[]⟩) t.length ⟨_,rfl,0,by omega,by omega,rfl,rfl⟩ ?_
    rintro N s0 ⟨k,hk,rfl,htu,rfl⟩
    by_cases hlt:k<t.length
    · have hlt':(k:Int)<(t.length:Int):=by omega
      have hlt2:(k:Int)<(u.length:Int):=by omega
      have hk0:(0:Int)≤(k:Int):=by omega
      have hk1:IntKind.i64.wrap ((k:Int)+1)=((k+1:Nat):Int):=by rw [wrap_i64 (by omega) (by omega)];omega
      have hsub:=sub_nums (k:=.i32) hlt
      have hsub2:=sub_nums (k:=.i32) (l:=u) (i:=k) (by omega)
      have h1:=take_snoc hlt
      have h2:=take_snoc (l:=u) (m:=k) (by omega)
      by_cases hxy:t.getD k 0=u.getD k 0
      · have q2:(t.getD k 0 != u.getD k 0)=false:=by rw [bne_eq_false_iff_eq];exact hxy
        simp only [b73_0,runes,go_sem,hlt',hlt2,hk0,Int.toNat_natCast,hsub,hsub2,q2,hk1]
        exact loopQ_go rfl (t.length - (k+1)) (by omega) ⟨k+1,by omega,rfl,by rw [h1,h2,htu,hxy],rfl⟩
      · have q2:(t.getD k 0 != u.getD k 0)=true:=by rw [bne_iff_ne];exact hxy
        have hne:¬t=u:=fun h=>hxy (by rw [h])
        simp only [b73_0,runes,go_sem,hlt',hlt2,hk0,Int.toNat_natCast,hsub,hsub2,q2]
        simp only [i73,OT,reduceIte,Nat.reduceEqDiff,decide_eq_false hne]
    · have hlt':¬(k:Int)<(t.length:Int):=by omega
      have he:t=u:=by
        rw [List.take_of_length_le (by omega),List.take_of_length_le (by omega)] at htu
        exact htu
      subst he
      simp only [b73_0,k73_0,runes,go_sem,hlt']
      simp only [i73,OT,reduceIte,Nat.reduceEqDiff,decide_true]
  · have q:((t.length:Int) != (u.length:Int))=true:=by rw [bne_iff_ne];omega
    have hne:¬t=u:=fun h=>hl (by rw [h])
    simp only [c73,runes,go_sem,q]
    simp only [i73,OT,reduceIte,Nat.reduceEqDiff,decide_eq_false hne]
theorem c74_ok {l l':List Rt} (hl:(l.length:Int)≤1000000000000) (hl':(l'.length:Int)≤1000000000000) (hr:∀x∈l,RtRed x) (hr':∀x∈l',RtRed x) :
    Go.V.Call tab E 74 [.sl l.length 3 (rtsC l),.sl l'.length 3 (rtsC l'),.fn 75 []] [] (.bool (decide (l=l'))) []:=by
  refine Go.V.Call.mach i74 c74 rfl rfl rfl rfl ?_
  by_cases hll:l.length=l'.length
  · have q:((l.length:Int) != (l'.length:Int))=false:=by rw [bne_eq_false_iff_eq];omega
    simp only [c74,go_sem,q]
    refine mLoop (fun N st=>∃(k:Nat),k≤l.length∧N=l.length - k∧l.take k=l'.take k∧
      st=⟨[(1,.sl l'.length 3 (rtsC l')),(2,.fn 75 []),(15,.sl l.length 3 (rtsC l)),(16,.int .i64 l.length),(17,.int .i64 k)],[]⟩) l.length ⟨_,rfl,0,by omega,by omega,rfl,by simp [getE]⟩ ?_
    rintro N s0 ⟨k,hk,rfl,htk,rfl⟩
    by_cases hlt:k<l.length
    · have hlt':(k:Int)<(l.length:Int):=by omega
      have hlt2:(k:Int)<(l'.length:Int):=by omega
      have hk0:(0:Int)≤(k:Int):=by omega
      have hk1:IntKind.i64.wrap ((k:Int)+1)=((k+1:Nat):Int):=by rw [wrap_i64 (by omega) (by omega)];omega
      have hsub:=sub_rts hlt
      have hsub2:=sub_rts (l:=l') (i:=k) (by omega)
      have h1:l.take (k+1)=l.take k++[rtAt l k]:=takeAt hlt
      have h2:l'.take (k+1)=l'.take k++[rtAt l' k]:=takeAt (by omega)
      have r1:RtRed (rtAt l k):=hr _ (by simp [rtAt,List.getD,hlt])
      have r2:RtRed (rtAt l' k):=hr' _ (by simp [rtAt,List.getD,show k<l'.length by omega])
      have hz:=rcmp_zero r1 r2
      have h109:=c75_ok (E:=E) r1.1 r2.1
      simp only [rtC,ratG,us32] at h109
      by_cases hxy:rtAt l k=rtAt l' k
      · have hq:(rcmp (rtAt l k) (rtAt l' k)==0)=true:=by rw [beq_iff_eq];exact hz.2 hxy
        rw [hq] at h109
        simp only [b74_0,go_sem,FL,subT3,hlt',hlt2,hk0,Int.toNat_natCast,hsub,hsub2,rtC,ratG,us32]
        refine goFn0 h109 rfl ?_
        simp only [go_sem,hk1]
        exact loopQ_go rfl (l.length - (k+1)) (by omega) ⟨k+1,by omega,rfl,by rw [h1,h2,htk,hxy],rfl⟩
      · have hq:(rcmp (rtAt l k) (rtAt l' k)==0)=false:=by rw [beq_eq_false_iff_ne];exact fun h=>hxy (hz.1 h)
        rw [hq] at h109
        have hne:¬l=l':=fun h=>hxy (by rw [h])
        simp only [b74_0,go_sem,FL,subT3,hlt',hlt2,hk0,Int.toNat_natCast,hsub,hsub2,rtC,ratG,us32]
        refine goFn0 h109 rfl ?_
        simp only [go_sem]
        simp only [i74,OT,reduceIte,Nat.reduceEqDiff,decide_eq_false hne]
    · have hlt':¬(k:Int)<(l.length:Int):=by omega
      have he:l=l':=by
        rw [List.take_of_length_le (by omega),List.take_of_length_le (by omega)] at htk
        exact htk
      simp only [b74_0,k74_0,go_sem,hlt']
      simp only [i74,OT,reduceIte,Nat.reduceEqDiff,decide_eq_true he]
  · have q:((l.length:Int) != (l'.length:Int))=true:=by rw [bne_iff_ne];omega
    have hne:¬l=l':=fun h=>hll (by rw [h])
    simp only [c74,go_sem,q]
    simp only [i74,OT,reduceIte,Nat.reduceEqDiff,decide_eq_false hne]
theorem c22_ok {s t s' t':List Int} {l l':List Rt} {ch ch':Bool} (hs:(s.length:Int)≤1000000000000) (ht:(t.length:Int)≤1000000000000) (hl:(l.length:Int)≤1000000000000)
    (hs':(s'.length:Int)≤1000000000000) (ht':(t'.length:Int)≤1000000000000) (hl':(l'.length:Int)≤1000000000000) (hr:∀x∈l,RtRed x) (hr':∀x∈l',RtRed x) :
    Go.V.Call tab E 22 [.agg (arrX s ch t l),.agg (arrX s' ch' t' l')] [] (.bool (decide (ch=ch'∧s=s'∧t=t'∧l=l'))) []:=by
  refine Go.V.Call.mach i22 c22 rfl rfl rfl rfl ?_
  have hb:(ch==ch')=decide (ch=ch'):=by cases ch<;>cases ch'<;>rfl
  have h69:=c44_X (s:=s) (t:=t) (l:=l) (ch:=ch) hs
  have h69':=c44_X (s:=s') (t:=t') (l:=l') (ch:=ch') hs'
  have h83:=c72_ok (E:=E) (s:=s) (t:=s') (by omega) (by omega)
  have h107:=c73_ok ht ht'
  have h108:=c74_ok hl hl' hr hr'
  simp only [arrX,ints,runes] at h69 h69' h83 h107
  by_cases e1:ch=ch'
  · rw [decide_eq_true e1] at hb
    by_cases e2:s=s'
    · rw [decide_eq_true e2] at h83
      by_cases e3:t=t'
      · rw [decide_eq_true e3] at h107
        have hd:decide (ch=ch'∧s=s'∧t=t'∧l=l')=decide (l=l'):=by simp [e1,e2,e3]
        rw [hd]
        simp only [c22,arrX,runes,ints,go_sem,FL,subA5,subX1,subX2,subA3,hb]
        refine goP h69 ?_
        simp only [go_sem,FL,subA5,subX1,subX2,subA3]
        refine goP h69' ?_
        simp only [go_sem,FL,subA5,subX1,subX2,subA3]
        refine goP h83 ?_
        simp only [go_sem,FL,subA5,subX1,subX2,subA3]
        refine goP h107 ?_
        simp only [go_sem,FL,subA5,subX1,subX2,subA3]
        refine goP h108 ?_
        simp only [go_sem,FL,subA5,subX1,subX2,subA3]
        simp only [i22,OT,reduceIte,Nat.reduceEqDiff]
      · rw [decide_eq_false e3] at h107
        have hne:¬(ch=ch'∧s=s'∧t=t'∧l=l'):=fun h=>e3 h.2.2.1
        simp only [c22,arrX,runes,ints,go_sem,FL,subA5,subX1,subX2,subA3,hb]
        refine goP h69 ?_
        simp only [go_sem,FL,subA5,subX1,subX2,subA3]
        refine goP h69' ?_
        simp only [go_sem,FL,subA5,subX1,subX2,subA3]
        refine goP h83 ?_
        simp only [go_sem,FL,subA5,subX1,subX2,subA3]
        refine goP h107 ?_
        simp only [go_sem,FL,subA5,subX1,subX2,subA3]
        simp only [i22,OT,reduceIte,Nat.reduceEqDiff,decide_eq_false hne]
    · rw [decide_eq_false e2] at h83
      have hne:¬(ch=ch'∧s=s'∧t=t'∧l=l'):=fun h=>e2 h.2.1
      simp only [c22,arrX,runes,ints,go_sem,FL,subA5,subX1,subX2,subA3,hb]
      refine goP h69 ?_
      simp only [go_sem,FL,subA5,subX1,subX2,subA3]
      refine goP h69' ?_
      simp only [go_sem,FL,subA5,subX1,subX2,subA3]
      refine goP h83 ?_
      simp only [go_sem,FL,subA5,subX1,subX2,subA3]
      simp only [i22,OT,reduceIte,Nat.reduceEqDiff,decide_eq_false hne]
  · rw [decide_eq_false e1] at hb
    have hne:¬(ch=ch'∧s=s'∧t=t'∧l=l'):=fun h=>e1 h.1
    simp only [c22,arrX,runes,ints,go_sem,FL,subA5,subX1,subX2,subA3,hb]
    simp only [i22,OT,reduceIte,Nat.reduceEqDiff,decide_eq_false hne]
theorem right_red {x:Nm} (h:RightN x.1 x.2.1 x.2.2):RtRed (toRt x):=by
  have h':=h
  obtain ⟨hRa,hRb,t1,t2,hb48,g1,g2⟩:=h'
  refine ⟨right_ok h,fun h=>hb48 ((right_zero hRb t2).1 h),g1,fun hn h0=>g2 ⟨hn,(right_zero hRa t1).1 h0⟩⟩
theorem subT2 {a b c:AV}:sub true 2 [a,b,c] 0=some (.agg [a,b]):=rfl
def wint (n:Bool) (p:Nat):Option Int:=if n=true then (if p≤9223372036854775808 then some (-(p:Int)) else none) else if p<9223372036854775808 then some (p:Int) else none
def rint (x:Rt):Option Int:=if dn x.2.2=1 then wint x.1 x.2.1 else none
section
variable {E:CallRel}
theorem c156_ok {n:Nat}:Go.V.Call tab E 156 [natC n] [] (.bool (decide (n=1))) []:=by
  refine Go.V.Call.mach i156 c156 rfl rfl rfl rfl ?_
  by_cases h0:n=0
  · subst h0
    simp only [c156,natC,us32,limG_zero,nums,go_sem,sub,FL,show (((0:Nat):Int)==1)=false from rfl,show ((0:Int)==1)=false from rfl]
    simp only [i156,OT,reduceIte,Nat.reduceEqDiff,show decide ((0:Nat)=1)=false from rfl]
  · by_cases h1:n<4294967296
    · have hl:limG n=[(n:Int)]:=by rw [limG_pos h0,show n/4294967296=0 by omega,limG_zero,Nat.mod_eq_of_lt h1]
      have hb:((n:Int)==1)=decide (n=1):=by
        by_cases h:n=1
        · subst h;rfl
        · rw [decide_eq_false h,beq_eq_false_iff_ne];omega
      have e0:((1:Int)==1)=true:=rfl
      simp only [c156,natC,us32,hl,nums,go_sem,sub,FL,e0,hb,show (0:Int)<((1:Nat):Int) from by decide,show (((1:Nat):Int)==1)=true from rfl,show ((0:Nat)+1)=1 from rfl,List.length_singleton]
      simp only [i156,OT,reduceIte,Nat.reduceEqDiff]
    · have hne:limG n≠[]:=fun h=>h0 (limG_len0 (by rw [h];rfl))
      have hl:(((limG n).length:Int)==1)=false:=by
        rw [limG_pos h0,List.length_cons,beq_eq_false_iff_ne]
        intro h
        have:limG (n/4294967296)=[]:=List.length_eq_zero_iff.1 (by omega)
        have:=limG_len0 (n:=n/4294967296) (by rw [this];rfl)
        omega
      simp only [c156,natC,us32,go_sem,sub,FL,hl]
      simp only [i156,OT,reduceIte,Nat.reduceEqDiff,show decide (n=1)=false from decide_eq_false (by omega)]
theorem c147_gen {n:Bool} {p q:Nat}:Go.V.Call tab E 147 [.agg (ratG n p q)] [] (.bool (decide (dn q=1))) []:=by
  refine Go.V.Call.mach i147 c147 rfl rfl rfl rfl ?_
  have h100:=c79_gen (E:=E) (n:=n) (p:=p) (q:=q)
  have h130:=c156_ok (E:=E) (n:=dn q)
  simp only [natC,ratG,us32] at h100 h130
  simp only [c147,ratG,us32,go_sem,subT3,FL]
  refine goP h100 ?_
  simp only [go_sem]
  refine goP h130 ?_
  simp only [go_sem]
  simp only [i147,OT,reduceIte,Nat.reduceEqDiff]
theorem c148_gen {n:Bool} {p:Nat}:Go.V.Call tab E 148 [.agg (whC n p)] [] (optP (wint n p)) []:=by
  refine Go.V.Call.mach i148 c148 rfl rfl rfl rfl ?_
  by_cases hp:p<18446744073709551616
  · have h131:=c152_nat (E:=E) hp
    simp only [natC,us32] at h131
    simp only [c148,whC,us32,go_sem,subW0,FL]
    refine goP h131 ?_
    by_cases h1:9223372036854775808<p
    · have h1':(9223372036854775808:Int)<(p:Int):=by omega
      have hw:wint n p=none:=by unfold wint;split<;>rw [if_neg (by omega)]
      simp only [go_sem,h1']
      simp only [i148,OT,reduceIte,Nat.reduceEqDiff,hw,optP]
    · have h1':¬(9223372036854775808:Int)<(p:Int):=by omega
      cases n with
      | true=>
        have hw:wint true p=some (-(p:Int)):=by unfold wint;rw [if_pos rfl,if_pos (by omega)]
        have e:((p:Int)==9223372036854775808)=true∨((p:Int)==9223372036854775808)=false:=by cases h:((p:Int)==9223372036854775808)<;>simp
        by_cases h0:p=0
        · subst h0
          have e1:IntKind.u64.wrap (0 - 1)=18446744073709551615:=by decide
          have e2:IntKind.i64.wrap 18446744073709551615 = -1:=by decide
          have e3:IntKind.i64.wrap (0 - (-1))=1:=by decide
          have e4:IntKind.i64.wrap (1 - 1)=0:=by decide
          have e5:((0:Int)==9223372036854775808)=false:=rfl
          have e6:((0:Nat):Int)=0:=rfl
          simp only [go_sem,subW1,h1',e1,e2,e3,e4,e5,e6]
          simp only [i148,OT,reduceIte,Nat.reduceEqDiff,hw,optP]
          rfl
        · have e1:IntKind.u64.wrap ((p:Int) - 1)=(p:Int) - 1:=wrap_u64 (by omega) (by omega)
          have e2:IntKind.i64.wrap ((p:Int) - 1)=(p:Int) - 1:=wrap_i64 (by omega) (by omega)
          have e3:IntKind.i64.wrap (0 - ((p:Int) - 1))=1 - (p:Int):=by rw [wrap_i64 (by omega) (by omega)];omega
          have e4:IntKind.i64.wrap (1 - (p:Int) - 1) = -(p:Int):=by rw [wrap_i64 (by omega) (by omega)];omega
          rcases e with e|e
          · simp only [go_sem,subW1,h1',e,e1,e2,e3,e4]
            simp only [i148,OT,reduceIte,Nat.reduceEqDiff,hw,optP]
          · simp only [go_sem,subW1,h1',e,e1,e2,e3,e4]
            simp only [i148,OT,reduceIte,Nat.reduceEqDiff,hw,optP]
      | false=>
        by_cases h2:p=9223372036854775808
        · subst h2
          have e:(((9223372036854775808:Nat):Int)==9223372036854775808)=true:=rfl
          have hw:wint false 9223372036854775808=none:=rfl
          simp only [go_sem,subW1,h1',e]
          simp only [i148,OT,reduceIte,Nat.reduceEqDiff,hw,optP]
        · have e:((p:Int)==9223372036854775808)=false:=by rw [beq_eq_false_iff_ne];omega
          have hw:wint false p=some (p:Int):=by unfold wint;rw [if_neg (by simp),if_pos (by omega)]
          have e1:IntKind.i64.wrap (p:Int)=(p:Int):=wrap_i64 (by omega) (by omega)
          simp only [go_sem,subW1,h1',e,e1]
          simp only [i148,OT,reduceIte,Nat.reduceEqDiff,hw,optP]
  · have h131:=c152_big (E:=E) (n:=p) (by omega)
    have hw:wint n p=none:=by unfold wint;split<;>rw [if_neg (by omega)]
    simp only [natC,us32] at h131
    simp only [c148,whC,us32,go_sem,subW0,FL]
    refine goP h131 ?_
    simp only [go_sem]
    simp only [i148,OT,reduceIte,Nat.reduceEqDiff,hw,optP]
theorem c128_gen {x:Rt}:Go.V.Call tab E 128 [.agg (rtC x)] [] (optP (rint x)) []:=by
  obtain ⟨n,p,q⟩:=x
  refine Go.V.Call.mach i128 c128 rfl rfl rfl rfl ?_
  have h112:=c147_gen (E:=E) (n:=n) (p:=p) (q:=q)
  have h113:=c148_gen (E:=E) (n:=n) (p:=p)
  simp only [ratG,whC,us32] at h112 h113
  by_cases h:dn q=1
  · rw [decide_eq_true h] at h112
    simp only [c128,rtC,ratG,us32,go_sem,subT3,FL]
    refine goP h112 ?_
    simp only [go_sem,subT2]
    refine goP h113 ?_
    cases hw:wint n p with
    | none=>
      simp only [optP,go_sem]
      simp only [i128,OT,reduceIte,Nat.reduceEqDiff,rint,h,hw,optP,if_true]
    | some z=>
      simp only [optP,go_sem]
      simp only [i128,OT,reduceIte,Nat.reduceEqDiff,rint,h,hw,optP,if_true]
  · rw [decide_eq_false h] at h112
    simp only [c128,rtC,ratG,us32,go_sem,subT3,FL]
    refine goP h112 ?_
    simp only [go_sem]
    simp only [i128,OT,reduceIte,Nat.reduceEqDiff,rint,h,optP,if_false]
def rlimbs (x:Rt):Nat:=max (limG x.2.1).length (limG (dn x.2.2)).length
def wdC (n:Bool) (p:Nat):List AV:=[.bool n,.str (dec p)]
end
def rv (x:Rt):Int:=(rint x).getD 0
def WhO (l:List Rt):Prop:=∀x∈l,(rint x).isSome=true
theorem WhO_take {l:List Rt} {i:Nat} (h:i<l.length):WhO (l.take (i+1))↔WhO (l.take i)∧(rint (rtAt l i)).isSome=true:=by
  have:l.take (i+1)=l.take i++[rtAt l i]:=takeAt h
  rw [this]
  unfold WhO
  simp only [List.mem_append,List.mem_singleton]
  exact ⟨fun h=>⟨fun x hx=>h x (.inl hx),h _ (.inr rfl)⟩,fun h x hx=>hx.elim (h.1 x) (fun e=>e▸h.2)⟩
theorem rtAt_mem {l:List Rt} {i:Nat} (h:i<l.length):rtAt l i∈l:=by simp [rtAt,List.getD,h]
theorem rv_of {x:Rt} {z:Int} (h:rint x=some z):rv x=z:=by rw [rv,h];rfl
theorem RtOk.len {x:Rt} (h:RtOk x):(decL x.2.1).length≤1000000000∧(decL (dn x.2.2)).length≤1000000000:=⟨Nat.le_trans (lim2000_len h.1) (by omega),Nat.le_trans (lim2000_len h.2) (by omega)⟩
def lmax (l:List Rt):Nat:=l.foldl (fun a x=>max a (rlimbs x)) 0
def rbytes (x:Rt):Nat:=8+4*((limG x.2.1).length+(limG (dn x.2.2)).length)
def bsum (l:List Rt):Nat:=l.foldl (fun a x=>a+rbytes x) 0
def runeAt (t:List Int) (k:Int):Int:=if 0≤k∧k<t.length then t.getD k.toNat 0 else 0
theorem subX3 {a b c d e:AV}:sub false 1 [a,b,c,d,e] 3=some d:=rfl
theorem c68_ok {s t:List Int} {l:List Rt} {ch:Bool}:Go.V.Call tab E 68 [.agg (arrX s ch t l)] [] (.bool ch) []:=by
  refine Go.V.Call.mach i68 c68 rfl rfl rfl rfl ?_
  simp only [c68,arrX,runes,go_sem,subX1,FL]
  simp only [i68,OT,reduceIte,Nat.reduceEqDiff]
theorem c24_ok {s t:List Int} {l:List Rt} {ch:Bool} {k:Int} (ht:(t.length:Int)≤1000000000000):Go.V.Call tab E 24 [.agg (arrX s ch t l),.int .i64 k] [] (.int .i32 (runeAt t k)) []:=by
  refine Go.V.Call.mach i24 c24 rfl rfl rfl rfl ?_
  by_cases h1:k<0
  · have hp:runeAt t k=0:=by rw [runeAt,if_neg (by omega)]
    simp only [c24,arrX,runes,go_sem,subX2,FL,h1]
    simp only [i24,OT,reduceIte,Nat.reduceEqDiff,hp]
  · by_cases h2:(t.length:Int)≤k
    · have hp:runeAt t k=0:=by rw [runeAt,if_neg (by omega)]
      simp only [c24,arrX,runes,go_sem,subX2,FL,h1,h2]
      simp only [i24,OT,reduceIte,Nat.reduceEqDiff,hp]
    · have hp:runeAt t k=t.getD k.toNat 0:=by rw [runeAt,if_pos (by omega)]
      obtain ⟨j,rfl⟩:=Int.eq_ofNat_of_zero_le (show 0≤k by omega)
      rw [Int.toNat_natCast] at hp
      have hsub:=sub_nums (k:=.i32) (l:=t) (i:=j) (by omega)
      have h3:(0:Int)≤(j:Int):=by omega
      have h4:(j:Int)<(t.length:Int):=by omega
      simp only [c24,arrX,runes,go_sem,subX2,FL,h1,h2,h3,h4,Int.toNat_natCast,hsub]
      simp only [i24,OT,reduceIte,Nat.reduceEqDiff,hp]
theorem c91_X {s t:List Int} {l:List Rt} {ch ok:Bool} (ht:(t.length:Int)≤1000000000000) (hl:(l.length:Int)≤1000000000000) (hok:ok=true↔¬(ch=true∧0<t.length+l.length)∧WhO l) :
    Go.V.Call tab E 91 [.agg (arrX s ch t l)] [] (.tup [.arr 0 0,.bool ok]) [rowI (if ok then l.map rv else [])]:=by
  refine Go.V.Call.mach i91 c91 rfl rfl rfl rfl ?_
  have hfalse:¬(¬(ch=true∧0<t.length+l.length)∧WhO l)→ok=false:=fun h=>by rw [←Bool.not_eq_true,hok];exact h
  have h54:=c23_X (s:=s) (ch:=ch) ht hl
  simp only [arrX,runes,ints] at h54
  have main:¬(ch=true∧0<t.length+l.length)→Mach (Go.V.Call tab E) (Fin i91 [] (.tup [.arr 0 0,.bool ok]) [rowI (if ok then l.map rv else [])]) [.code (.seq (.seq (.reg none [⟨some 16,.faddr 3 (.t 1),none⟩,⟨some 17,.ld false 1 (.t 16),none⟩,⟨some 18,.lenf (.t 17),none⟩,⟨some 19,.mov (.k (.int .i64 0)),none⟩]) (.lv [4,17,18,19] (.block 0 (.loop [4,17,18,19] (some (3,[])) b91_0)))) k91_0)] .nrm
      ⟨[(1,.loc 0 0 0),(4,.arr 2 0)],[⟨true,28,5,0,1,arrX s ch t l,false⟩,⟨false,3,1,0,0,[],false⟩,⟨false,3,1,0,0,[],false⟩]⟩:=fun hch=>by
    simp only [arrX,runes,ints,go_sem,subX3,FL]
    refine mLoop (fun N st=>∃(i:Nat),i≤l.length∧N=l.length - i∧WhO (l.take i)∧
      st=⟨[(4,.arr 2 i),(17,.sl l.length 3 (rtsC l)),(18,.int .i64 l.length),(19,.int .i64 i)],
        [⟨true,28,5,0,1,arrX s ch t l,false⟩,⟨false,3,1,0,0,[],false⟩,⟨false,3,1,i,i,nums .i64 ((l.take i).map rv),false⟩]⟩) l.length
      ⟨_,rfl,0,by omega,by omega,fun x hx=>by simp at hx,by simp [nums,getE,ints,arrX,runes]⟩ ?_
    rintro N s0 ⟨i,hi,rfl,hw,rfl⟩
    by_cases hlt:i<l.length
    · have hlt':(i:Int)<(l.length:Int):=by omega
      have hi0:(0:Int)≤(i:Int):=by omega
      have hi1:IntKind.i64.wrap ((i:Int)+1)=((i+1:Nat):Int):=by rw [wrap_i64 (by omega) (by omega)];omega
      have hsub:=sub_rts hlt
      have htk:l.take (i+1)=l.take i++[rtAt l i]:=takeAt hlt
      have hwt:=WhO_take hlt
      have e1:(i+1)*8≤140737488355328:=by omega
      have e2:i+1≤140737488355328:=by omega
      have h88:=c128_gen (E:=E) (x:=rtAt l i)
      cases hr:rint (rtAt l i) with
      | none=>
        have:=hfalse (fun h=>by have:=h.2 _ (rtAt_mem hlt);rw [hr] at this;cases this)
        subst this
        rw [hr] at h88
        simp only [optP,rtC,ratG,us32] at h88
        simp only [b91_0,arrX,runes,ints,go_sem,hlt',hi0,Int.toNat_natCast,hsub,rtC,ratG,us32,subT3,FL]
        refine goR h88 rfl ?_
        simp only [go_sem,FL]
        simp only [i91,OT,reduceIte,Nat.reduceEqDiff,ownOut,ownL,ownV,scalar,List.contains_nil,List.length_nil,List.length_cons,List.nil_append,List.cons_append,storeOp,apartOf,freeze_nil,refsL,refs,List.flatMap_cons,List.flatMap_nil,List.append_nil,List.contains_nil,List.set_cons_zero,List.set_cons_succ,snap,snapL,fill_nums,flat_nums,nums_length,reduceCtorEq,Bool.false_eq_true,and_self,not_false_eq_true,beq_self_eq_true,Nat.zero_add]
        rfl
      | some z=>
        have hz:rv (rtAt l i)=z:=rv_of hr
        rw [hr] at h88 hwt
        simp only [optP,rtC,ratG,us32] at h88
        simp only [b91_0,arrX,runes,ints,go_sem,hlt',hi0,Int.toNat_natCast,hsub,rtC,ratG,us32,subT3,FL]
        refine goR h88 rfl ?_
        simp only [go_sem,FL,hi1,e1,e2,List.flatten_cons,List.flatten_nil,Option.getD_some]
        refine loopQ_go rfl (l.length - (i+1)) (by omega) ⟨i+1,by omega,rfl,hwt.2 ⟨hw,rfl⟩,?_⟩
        rw [htk]
        simp only [nums,List.map_append,List.map_cons,List.map_nil,hz,arrX,runes,ints]
        rfl
    · have hlt':¬(i:Int)<(l.length:Int):=by omega
      obtain rfl:i=l.length:=by omega
      rw [List.take_length] at hw
      have:=hok.2 ⟨hch,hw⟩
      subst this
      simp only [b91_0,k91_0,arrX,runes,ints,go_sem,hlt',List.take_length,Int.lt_irrefl]
      simp only [i91,OT,reduceIte,Nat.reduceEqDiff,ownOut,ownL,ownV,scalar,List.contains_nil,List.length_nil,List.length_cons,List.nil_append,List.cons_append,storeOp,apartOf,freeze_nil,refsL,refs,List.flatMap_cons,List.flatMap_nil,List.append_nil,List.contains_nil,List.set_cons_zero,List.set_cons_succ,snap,snapL,fill_nums,flat_nums,nums_length,reduceCtorEq,Bool.false_eq_true,and_self,not_false_eq_true,beq_self_eq_true,Nat.zero_add]
      simp [rowI]
  cases ch with
  | true=>
    simp only [c91,arrX,runes,ints,go_sem,subX1,subA5,FL]
    refine goP h54 ?_
    by_cases h0:0<t.length+l.length
    · have h0':(0:Int)<((t.length+l.length:Nat):Int):=by omega
      have:=hfalse (fun h=>h.1 ⟨rfl,h0⟩)
      subst this
      simp only [go_sem,h0']
      simp only [i91,OT,reduceIte,Nat.reduceEqDiff,ownOut,ownL,ownV,scalar,List.contains_nil,List.length_nil,List.length_cons,List.nil_append,List.cons_append,storeOp,apartOf,freeze_nil,refsL,refs,List.flatMap_cons,List.flatMap_nil,List.append_nil,List.contains_nil,List.set_cons_zero,List.set_cons_succ,snap,snapL,fill_nums,flat_nums,nums_length,reduceCtorEq,Bool.false_eq_true,and_self,not_false_eq_true,beq_self_eq_true,Nat.zero_add]
      rfl
    · have h0':¬(0:Int)<((t.length+l.length:Nat):Int):=by omega
      have hm:=main (fun h=>h0 h.2)
      simp only [arrX,runes,ints,go_sem,subX3,FL] at hm
      simp only [go_sem,h0',subX3]
      exact hm
  | false=>
    have hm:=main (fun h=>by cases h.1)
    simp only [arrX,runes,ints,go_sem,subX3,FL] at hm
    simp only [c91,arrX,runes,ints,go_sem,subX1,subX3,subA5,FL]
    exact hm
theorem c66_X {s t:List Int} {l:List Rt} {ch:Bool} (hs:(s.length:Int)≤1000000000000):Go.V.Call tab E 66 [.agg (arrX s ch t l)] [] (.int .i64 s.length) []:=by
  refine Go.V.Call.mach i66 c66 rfl rfl rfl rfl ?_
  have h69:=c44_X (s:=s) (t:=t) (l:=l) (ch:=ch) hs
  simp only [arrX,runes,ints] at h69
  simp only [c66,arrX,runes,ints,go_sem,subA5,FL]
  refine goP h69 ?_
  simp only [go_sem,FL]
  simp only [i66,OT,reduceIte,Nat.reduceEqDiff]
theorem c112_X {l:List Rt} (hl:(l.length:Int)≤1000000000000):Go.V.Call tab E 112 [.sl l.length 3 (rtsC l)] [] (.arr 0 0) [⟨false,59,3,0,l.length,rtsC l,false⟩]:=by
  refine ⟨0,?_⟩
  have h1:l.length*56≤140737488355328:=by omega
  have h2:l.length≤140737488355328:=by omega
  simp only [CallN,E,ext,cloneOf,h1,h2,and_self,if_true]
theorem c70_ok {s t:List Int} {l:List Rt} {ch:Bool} (hl:(l.length:Int)≤1000000000000):Go.V.Call tab E 70 [.agg (arrX s ch t l)] [] (.arr 0 0) [⟨false,59,3,0,l.length,rtsC l,false⟩]:=by
  refine Go.V.Call.mach i70 c70 rfl rfl rfl rfl ?_
  simp only [c70,arrX,runes,ints,go_sem,subX3,FL]
  refine goO (c112_X hl) rfl rfl ?_
  simp only [go_sem,FL]
  simp only [i70,OT,reduceIte,Nat.reduceEqDiff,ownOut,ownL,ownV,scalar,List.contains_nil,List.length_nil,List.length_cons,List.nil_append,List.cons_append,storeOp,apartOf,freeze_nil,refsL,refs,List.flatMap_cons,List.flatMap_nil,List.append_nil,List.contains_nil,List.set_cons_zero,List.set_cons_succ,snap,snapL,fill_nums,flat_nums,nums_length,reduceCtorEq,Bool.false_eq_true,and_self,not_false_eq_true,beq_self_eq_true,Nat.zero_add]
def roomX (s t:List Int) (l:List Rt):Nat:=16+4*s.length+t.length+bsum l
theorem sgn_mul {a b:Int}:decide (a*b<0)=((decide (a<0) != decide (b<0))&&decide (a.natAbs*b.natAbs≠0)):=by
  by_cases ha:a<0
  · by_cases hb:b<0
    · have h1:=Int.mul_pos_of_neg_of_neg ha hb
      rw [decide_eq_true ha,decide_eq_true hb,decide_eq_false (show ¬a*b<0 by omega)]
      rfl
    · rw [decide_eq_true ha,decide_eq_false hb]
      by_cases h0:b=0
      · subst h0;simp
      · have h1:=Int.mul_neg_of_neg_of_pos ha (show 0<b by omega)
        rw [decide_eq_true h1,decide_eq_true (Nat.mul_ne_zero (by omega) (by omega))]
        rfl
  · rw [decide_eq_false ha]
    by_cases hb:b<0
    · rw [decide_eq_true hb]
      by_cases h0:a=0
      · subst h0;simp
      · have h1:=Int.mul_neg_of_pos_of_neg (show 0<a by omega) hb
        rw [decide_eq_true h1,decide_eq_true (Nat.mul_ne_zero (by omega) (by omega))]
        rfl
    · have h1:=Int.mul_nonneg (show 0≤a by omega) (show 0≤b by omega)
      rw [decide_eq_false hb,decide_eq_false (show ¬a*b<0 by omega)]
      rfl
theorem divInt_parts {a b:Int} (hb:b≠0):(Rat.divInt a b).num.natAbs=a.natAbs/Nat.gcd a.natAbs b.natAbs∧(Rat.divInt a b).den=b.natAbs/Nat.gcd a.natAbs b.natAbs∧
    (decide ((Rat.divInt a b).num<0))=((decide (a<0) != decide (b<0))&&decide (a.natAbs/Nat.gcd a.natAbs b.natAbs≠0)):=by
  have hg:Int.gcd b a=Nat.gcd a.natAbs b.natAbs:=by rw [Int.gcd_comm];rfl
  have hgp:0<Nat.gcd a.natAbs b.natAbs:=Nat.gcd_pos_of_pos_right _ (by omega)
  have hd1:Nat.gcd a.natAbs b.natAbs ∣ a.natAbs:=Nat.gcd_dvd_left _ _
  rw [Rat.num_divInt,Rat.den_divInt,if_neg hb,hg]
  generalize Nat.gcd a.natAbs b.natAbs=g at *
  have hdi:(g:Int) ∣ a:=Int.dvd_natAbs.1 (Int.natCast_dvd_natCast.2 hd1)
  obtain ⟨k,hk⟩:=hdi
  have hgz:(g:Int)≠0:=by omega
  have hq:b.sign*a/(g:Int)=b.sign*k:=by
    rw [hk,←Int.mul_assoc,Int.mul_comm b.sign,Int.mul_assoc]
    exact Int.mul_ediv_cancel_left _ hgz
  have hka:a.natAbs/g=k.natAbs:=by
    rw [hk,Int.natAbs_mul,Int.natAbs_natCast]
    exact Nat.mul_div_cancel_left _ hgp
  have hs:(b.sign).natAbs=1:=Int.natAbs_sign_of_ne_zero hb
  rw [hq,hka]
  refine ⟨by rw [Int.natAbs_mul,hs,Nat.one_mul],rfl,?_⟩
  have hak:decide (a<0)=decide (k<0):=by
    by_cases h:k<0
    · have:=Int.mul_neg_of_pos_of_neg (show (0:Int)<g by omega) h
      rw [decide_eq_true h,decide_eq_true (show a<0 by omega)]
    · have:=Int.mul_nonneg (show (0:Int)≤g by omega) (show 0≤k by omega)
      rw [decide_eq_false h,decide_eq_false (show ¬a<0 by omega)]
  rw [hak,sgn_mul]
  have hsb:decide (b.sign<0)=decide (b<0):=by
    rcases Int.lt_trichotomy b 0 with h|h|h
    · rw [Int.sign_eq_neg_one_of_neg h];simp [h]
    · exact absurd h hb
    · rw [Int.sign_eq_one_of_pos h];simp;omega
  rw [hsb,hs,Nat.one_mul]
  cases decide (b<0)<;>cases decide (k<0)<;>rfl
theorem add_divInt (a b:Rat):Rat.divInt (a.num*b.den+b.num*a.den) ((a.den:Int)*b.den)=a+b:=by
  rw [Rat.add_def',←Rat.divInt_ofNat];rfl
theorem mul_divInt (a b:Rat):Rat.divInt (a.num*b.num) ((a.den:Int)*b.den)=a*b:=by
  rw [Rat.mul_def',←Rat.divInt_ofNat];rfl
theorem div_divInt (a b:Rat):Rat.divInt (a.num*b.den) ((a.den:Int)*b.num)=a/b:=by
  rw [Rat.div_def,Rat.inv_def]
  have:a=Rat.divInt a.num a.den:=by rw [Rat.divInt_ofNat];exact (Rat.mkRat_self a).symm
  conv=>rhs;lhs;rw [this]
  rw [Rat.divInt_mul_divInt]
def Sz (k:Nat) (r:Rat):Prop:=r.num.natAbs<2^k∧r.den<2^k
theorem Sz.mono {i j:Nat} {r:Rat} (h:Sz i r) (hij:i≤j):Sz j r:=⟨Nat.lt_of_lt_of_le h.1 (Nat.pow_le_pow_right (by omega) hij),Nat.lt_of_lt_of_le h.2 (Nat.pow_le_pow_right (by omega) hij)⟩
theorem lt_mul_pow {a b i j:Nat} (ha:a<2^i) (hb:b<2^j):a*b<2^(i+j):=by
  rw [Nat.pow_add]
  exact Nat.mul_lt_mul'' ha hb
theorem add_num_lt {a b:Rat} {i j:Nat} (ha:Sz i a) (hb:Sz j b):(a.num*b.den+b.num*a.den).natAbs<2^(i+j+1)∧((a.den:Int)*b.den).natAbs<2^(i+j):=by
  have h1:=lt_mul_pow ha.1 hb.2
  have h2:=lt_mul_pow hb.1 ha.2
  have h3:=lt_mul_pow ha.2 hb.2
  rw [Nat.add_comm j i] at h2
  have e1:(a.num*b.den).natAbs=a.num.natAbs*b.den:=by rw [Int.natAbs_mul,Int.natAbs_natCast]
  have e2:(b.num*a.den).natAbs=b.num.natAbs*a.den:=by rw [Int.natAbs_mul,Int.natAbs_natCast]
  refine ⟨?_,by rw [Int.natAbs_mul,Int.natAbs_natCast,Int.natAbs_natCast];exact h3⟩
  rw [Nat.pow_succ]
  have:=Int.natAbs_add_le (a.num*b.den) (b.num*a.den)
  omega
theorem Sz.of_divInt {a b:Int} {k:Nat} (h1:a.natAbs<2^k) (h2:b.natAbs<2^k) (hb:b≠0):Sz k (Rat.divInt a b):=by
  obtain ⟨p1,p2,_⟩:=divInt_parts (a:=a) hb
  exact ⟨by rw [p1];exact Nat.lt_of_le_of_lt (Nat.div_le_self _ _) h1,by rw [p2];exact Nat.lt_of_le_of_lt (Nat.div_le_self _ _) h2⟩
theorem den_mul_ne {a b:Rat}:((a.den:Int)*b.den)≠0:=by
  have:=a.den_nz;have:=b.den_nz
  exact Int.mul_ne_zero (by omega) (by omega)
theorem Sz.add {a b:Rat} {i j:Nat} (ha:Sz i a) (hb:Sz j b):Sz (i+j+1) (a+b):=by
  obtain ⟨h1,h2⟩:=add_num_lt ha hb
  rw [←add_divInt]
  exact Sz.of_divInt h1 (Nat.lt_trans h2 (Nat.pow_lt_pow_right (by omega) (by omega))) den_mul_ne
theorem mul_num_lt {a b:Rat} {i j:Nat} (ha:Sz i a) (hb:Sz j b):(a.num*b.num).natAbs<2^(i+j)∧((a.den:Int)*b.den).natAbs<2^(i+j):=
  ⟨by rw [Int.natAbs_mul];exact lt_mul_pow ha.1 hb.1,by rw [Int.natAbs_mul,Int.natAbs_natCast,Int.natAbs_natCast];exact lt_mul_pow ha.2 hb.2⟩
theorem Sz.mul {a b:Rat} {i j:Nat} (ha:Sz i a) (hb:Sz j b):Sz (i+j) (a*b):=by
  obtain ⟨h1,h2⟩:=mul_num_lt ha hb
  rw [←mul_divInt]
  exact Sz.of_divInt h1 h2 den_mul_ne
theorem div_num_lt {a b:Rat} {i j:Nat} (ha:Sz i a) (hb:Sz j b):(a.num*b.den).natAbs<2^(i+j)∧((a.den:Int)*b.num).natAbs<2^(i+j):=
  ⟨by rw [Int.natAbs_mul,Int.natAbs_natCast];exact lt_mul_pow ha.1 hb.2,by rw [Int.natAbs_mul,Int.natAbs_natCast];exact lt_mul_pow ha.2 hb.1⟩
theorem Sz.div {a b:Rat} {i j:Nat} (ha:Sz i a) (hb:Sz j b) (h0:b.num≠0):Sz (i+j) (a/b):=by
  obtain ⟨h1,h2⟩:=div_num_lt ha hb
  rw [←div_divInt]
  exact Sz.of_divInt h1 h2 (Int.mul_ne_zero (by have:=a.den_nz;omega) h0)
theorem Sz.neg {a:Rat} {i:Nat} (ha:Sz i a):Sz i (-a):=by
  unfold Sz
  rw [Rat.neg_num,Rat.neg_den,Int.natAbs_neg]
  exact ha
def rR (r:Rat):Rt:=(decide (r.num<0),r.num.natAbs,r.den)
def RV (x:Rt) (r:Rat):Prop:=x.1=decide (r.num<0)∧x.2.1=r.num.natAbs∧dn x.2.2=r.den
theorem RV.zero:RV (false,0,0) 0:=⟨rfl,rfl,rfl⟩
def wI (z:Int):List AV:=whC (decide (z<0)) z.natAbs
def ofN (x:Rt):Rat:=mkRat (if x.1 then -(x.2.1:Int) else x.2.1) x.2.2
def zR (z:Int):Rt:=(decide (z<0),z.natAbs,1)
theorem ratC_zR {z:Int} (hz:In64 z):ratC z=rtC (zR z):=by
  obtain ⟨h1,h2⟩:=hz
  rw [ratC,lim_limG (by omega)]
  show _=[us32 (limG z.natAbs),AV.bool (decide (z<0)),us32 (limG 1)]
  rw [limG_one (d:=1) (by omega) (by omega)]
  rfl
theorem ratsC_zR {l:List Int} (hl:∀z∈l,In64 z):ratsC l=rtsC (l.map zR):=by
  induction l with
  | nil=>rfl
  | cons z l ih=>
    have e1:ratsC (z::l)=ratC z++ratsC l:=by simp [ratsC]
    have e2:rtsC ((z::l).map zR)=rtC (zR z)++rtsC (l.map zR):=by simp [rtsC]
    rw [e1,e2,ratC_zR (hl z (by simp)),ih fun y hy=>hl y (by simp [hy])]
theorem arrV_X {s l:List Int} (hl:∀z∈l,In64 z):arrV s l=arrX s false [] (l.map zR):=by
  rw [arrV,arrX,ratsC_zR hl,List.length_map]
  rfl
theorem rint_zR {z:Int} (hz:In64 z):rint (zR z)=some z:=by
  obtain ⟨h1,h2⟩:=hz
  have hd:dn (zR z).2.2=1:=rfl
  rw [rint,if_pos hd]
  show wint (decide (z<0)) z.natAbs=some z
  by_cases h:z<0
  · rw [decide_eq_true h,wint,if_pos rfl,if_pos (by omega)]
    congr 1;omega
  · rw [decide_eq_false h,wint,if_neg (by simp),if_pos (by omega)]
    congr 1;omega
theorem rv_zR {z:Int} (hz:In64 z):rv (zR z)=z:=rv_of (rint_zR hz)
theorem map_rv_zR {l:List Int} (hl:∀z∈l,In64 z):(l.map zR).map rv=l:=by
  rw [List.map_map]
  conv=>rhs;rw [←List.map_id l]
  exact List.map_congr_left fun x hx=>rv_zR (hl x hx)
theorem wint_64 {n:Bool} {p:Nat} {z:Int} (h:wint n p=some z):In64 z:=by
  unfold wint at h
  split at h
  · split at h
    · simp at h;subst h;unfold In64;omega
    · cases h
  · split at h
    · simp at h;subst h;unfold In64;omega
    · cases h
theorem rv_64 {x:Rt}:In64 (rv x):=by
  unfold rv
  cases h:rint x with
  | none=>exact ⟨by decide,by decide⟩
  | some z=>
    unfold rint at h
    split at h
    · exact wint_64 h
    · cases h
def wholeB (ch:Bool) (t:List Int) (L:List Rt):Bool:=!(ch&&decide (0<t.length+L.length))&&L.all fun x=>(rint x).isSome
theorem wholeB_iff {ch:Bool} {t:List Int} {L:List Rt}:wholeB ch t L=true↔¬(ch=true∧0<t.length+L.length)∧WhO L:=by
  unfold wholeB WhO
  simp only [Bool.and_eq_true,Bool.not_eq_true',List.all_eq_true]
  refine and_congr_left' ?_
  cases ch<;>simp
def lisV (s:List Int) (ch:Bool) (t:List Int) (L:List Rt):List Int:=if s.length≤1∧wholeB ch t L=true then L.map rv else []
def lisE (s:List Int) (ch:Bool) (t:List Int) (L:List Rt):Int:=if 1<s.length then 23 else if wholeB ch t L=true then 0 else 22
def noP:List AV:=plX [] false [] []
def axA (s:List Int) (a:Int):Int:=if a<0 then (s.length:Int) - 1 else a
def axB (s:List Int) (a:Int):Bool:=decide (0≤axA s a)&&decide (axA s a<(s.length:Int))
theorem c11_X {l:List Int} (hl:(l.length:Int)≤1000000000000) (hz:∀z∈l,In64 z):Go.V.Call tab E 11 [ints l] [] (.agg (arrX [(l.length:Int)] false [] (l.map zR))) []:=by
  rw [←arrV_X hz]
  exact c11_ok hl hz
theorem fits_of {s:List Int} {n:Nat} (h:count s=some (n:Int)):fits s n=true:=by rw [fits,h];simp
def outA (e:Int) (s ks:List Int) (ch:Bool) (t:List Int) (L:List Rt):List AV:=if e=0 then arrX s ch (picksT ch t ks) (picksR ch L ks) else noA
def outP (e:Int) (s ks:List Int) (ch:Bool) (t:List Int) (l:List Nm):List AV:=if e=0 then plX s ch (picksT ch t ks) (picksN ch l ks) else noP
def negB (w:List Int):Bool:=w.any fun d=>decide (d<0)
def resE (e0:Int) (w:List Int):Int:=if e0≠0 then e0 else if negB w=true then 22 else match count w with|none=>if 8<w.length then 23 else 26|some _=>0
def cyc (w:List Int) (len:Nat):List Int:=(List.range (prd w).toNat).map fun i=>if len=0 then (-1:Int) else ((i % len:Nat):Int)
theorem lt_of {α:Type} {l:List α} {i:Nat} {a:α} (h:l[i]?=some a):i<l.length:=(List.getElem?_eq_some_iff.1 h).1
theorem mapIA {l:List AObj}:List.mapIdx (fun (_:Nat) (o:AObj)=>o) l=l:=by
  apply List.ext_getElem?
  intro i
  simp
theorem fill_one {cs:List AV} {i:Nat} {v:AV} (h:i<cs.length):fillIn cs (i*1) [v]=cs.set i v:=by
  unfold fillIn
  rw [Nat.mul_one,List.set_eq_take_append_cons_drop,if_pos h]
  simp
theorem snap_arr {M:List AObj} {n g k:Nat} {ob:AObj} (h:M[n]?=some ob) (hg:ob.g=g):snap M (k+1) (.arr n g)=(snapL M k ob.box ob.cs).map fun cs=>.sl ob.n ob.sz cs:=by
  have e:geto M n g=some ob:=by rw [geto,h];simp only [hg,if_true]
  rw [snap,e]
theorem goF_at {C:CallRel} {Q:X→St→Prop} {k:List Go.V.Item} {d:Option Nat} {os:List IOp} {f:Nat} {xs:List Opd} {env:Env} {M:List AObj} {vs:List AV} {r:AV} (ha:xs.mapM (fun x=>snap M 10 (ev env x))=some vs) (h:C f vs [] r [])
    (hk:Mach C Q (.ops os::k) .nrm ⟨putE env d r,Go.V.freeze (xs.flatMap fun x=>refs M 10 (ev env x)) M⟩):Mach C Q (.ops (⟨d,.callF f xs,none⟩::os)::k) .nrm ⟨env,M⟩:=by
  rw [mCallF]
  show MachA C Q .F f (xs.mapM fun x=>snap M 10 (ev env x)) _ d os k _
  rw [ha]
  exact goF h hk
theorem frz_get {M:List AObj} {ns:List Nat} {i:Nat} {o:AObj} (h:M[i]?=some o) (hn:ns.contains i=false):(Go.V.freeze ns M)[i]?=some o:=by
  unfold Go.V.freeze
  rw [List.getElem?_mapIdx,h]
  simp only [Option.map_some,hn]
  rfl
theorem getA {M:List AObj} {k:Nat} {o:AObj} (h:M[k]?=some o) (Y:List AObj):(M++Y)[k]?=some o:=by rw [List.getElem?_append_left (lt_of h)];exact h
theorem getL {M Y:List AObj} {o:AObj}:(M++o::Y)[M.length]?=some o:=by simp
theorem getLk {M Y:List AObj} {k:Nat}:(M++Y)[M.length+k]?=Y[k]?:=by rw [List.getElem?_append_right (by omega)];congr 1;omega
theorem refs_row {M:List AObj} {i g j:Nat} {o:AObj} (h:M[i]?=some o) (ho:o.box=false) (hj:i≠j):j∉refs M 10 (.arr i g):=by
  show j∉i::(match geto M i g with|some o=>refsL M 9 o.box o.cs|none=>[])
  rw [geto,h]
  intro hm
  rcases List.mem_cons.1 hm with rfl|hm
  · exact hj rfl
  split at hm
  · rename_i o' ho'
    simp only at ho'
    split at ho'
    · obtain rfl:=Option.some.inj ho'
      rw [ho] at hm
      cases hm
    · cases ho'
  · cases hm
theorem getS {M:List AObj} {i:Nat} {o o':AObj} (h:M[i]?=some o):(M.set i o')[i]?=some o':=by rw [List.getElem?_set_self (lt_of h)]
theorem snap1 {M:List AObj} {env:Env} {x:Opd} {a:AV} (h1:snap M 10 (ev env x)=some a):[x].mapM (fun x=>snap M 10 (ev env x))=some [a]:=by
  simp only [List.mapM_cons,List.mapM_nil,h1]
  rfl
theorem notin1 {M:List AObj} {env:Env} {x:Opd} {i:Nat} (h1:i∉refs M 10 (ev env x)):([x].flatMap fun x=>refs M 10 (ev env x)).contains i=false:=by
  simp only [List.flatMap_cons,List.flatMap_nil,List.append_nil]
  rw [Bool.eq_false_iff]
  exact fun h=>h1 (List.contains_iff_mem.1 h)
theorem refs_rows {M:List AObj} {i j ty m a b c d:Nat} {l l':List AV} {fr:Bool} (h:M[i]?=some ⟨true,ty,1,0,m,[.sl a b l,.sl c d l'],fr⟩) (hj:i≠j):j∉refs M 10 (.arr i 0):=by
  have e:refs M 10 (.arr i 0)=[i]:=by
    show i::(match geto M i 0 with|some o=>refsL M 9 o.box o.cs|none=>[])=_
    rw [geto,h]
    rfl
  rw [e]
  intro hm
  exact hj (List.mem_singleton.1 hm).symm
theorem getLs {M Y:List AObj} (k:Nat) {o:AObj} (h:Y[k]?=some o):(M++Y)[M.length+k]?=some o:=getLk.trans h
theorem getA0 {M:List AObj} {k:Nat} {ob:AObj} (h:M[k]?=some ob) (hk:0<k) (o:AObj) (Y:List AObj):((M++Y).set 0 o)[k]?=some ob:=by
  rw [List.getElem?_set_ne (by omega)];exact getA h Y
theorem flatK_len {α:Type} {f:α→List AV} {k:Nat} (hf:∀x,(f x).length=k):∀{l:List α},(l.flatMap f).length=l.length*k
  | []=>by simp
  | z::l=>by rw [List.flatMap_cons,List.length_append,hf,flatK_len hf,List.length_cons,Nat.add_mul];omega
theorem flatK_drop {α:Type} {f:α→List AV} {k:Nat} (hf:∀x,(f x).length=k) {d:α}:∀{l:List α} {i:Nat},i<l.length→∃r,(l.flatMap f).drop (i*k)=f (l.getD i d)++r
  | [],i,h=>by simp at h
  | z::l,0,_=>⟨l.flatMap f,by simp⟩
  | z::l,i+1,h=>by
    obtain ⟨r,hr⟩:=flatK_drop hf (d:=d) (l:=l) (i:=i) (by simpa using h)
    refine ⟨r,?_⟩
    rw [List.flatMap_cons,List.drop_append,hf,List.drop_eq_nil_of_le (by rw [hf,Nat.add_mul];omega),List.nil_append,show (i+1)*k - k=i*k by rw [Nat.add_mul];omega,hr]
    rfl
theorem sub_flatK {α:Type} {f:α→List AV} {k:Nat} (hf:∀x,(f x).length=k) {d:α} {l:List α} {i off n:Nat} {agg:Bool} (h:i<l.length) (ho:off+n≤k):sub agg n (l.flatMap f) (i*k+off)=sub agg n (f (l.getD i d)) off:=by
  obtain ⟨r,hr⟩:=flatK_drop hf (d:=d) h
  have hl:=flatK_len hf (l:=l)
  have hle:(i+1)*k≤l.length*k:=Nat.mul_le_mul_right _ h
  rw [Nat.add_mul,Nat.one_mul] at hle
  have hfx:=hf (l.getD i d)
  have e1:(l.flatMap f).drop (i*k+off)=(f (l.getD i d)).drop off++r:=by
    rw [←List.drop_drop,hr,List.drop_append,show off - (f (l.getD i d)).length=0 by omega,List.drop_zero]
  have c1:i*k+off+n≤(l.flatMap f).length:=by omega
  have c2:off+n≤(f (l.getD i d)).length:=by omega
  unfold sub
  rw [if_pos c1,if_pos c2]
  cases agg with
  | true=>
    simp only [if_true,e1]
    rw [List.take_append_of_le_length (by rw [List.length_drop];omega)]
  | false=>
    simp only [Bool.false_eq_true,if_false]
    by_cases h1:n=1
    · rw [if_pos h1,if_pos h1]
      have e2:(l.flatMap f)[i*k+off]?=((l.flatMap f).drop (i*k+off))[0]?:=by rw [List.getElem?_drop];simp
      rw [e2,e1,List.getElem?_append_left (by rw [List.length_drop];omega),List.getElem?_drop]
      simp
    · rw [if_neg h1,if_neg h1]
structure SubN where
  all:Bool
  s:List Int
  ch:Bool
  t:List Int
  l:List Nm
def sub0:SubN:=⟨false,[],false,[],[]⟩
def sbN (x:SubN):List AV:=.bool x.all::plX x.s x.ch x.t x.l
def sbA (x:SubN):List AV:=.bool x.all::arrX x.s x.ch x.t (x.l.map toRt)
def sbsN (L:List SubN):List AV:=L.flatMap sbN
def sbsA (L:List SubN):List AV:=L.flatMap sbA
def sbAt (L:List SubN) (i:Nat):SubN:=L.getD i sub0
theorem sbsN_len {L:List SubN}:(sbsN L).length=L.length*5:=flatK_len (f:=sbN) (k:=5) (fun _=>rfl)
theorem sbN_all {L:List SubN} {i:Nat} (h:i<L.length):sub false 1 (sbsN L) (i*5+0)=some (.bool (sbAt L i).all):=sub_flatK (f:=sbN) (k:=5) (d:=sub0) (fun _=>rfl) h (by omega)
theorem sbN_pl {L:List SubN} {i:Nat} (h:i<L.length):sub true 4 (sbsN L) (i*5+1)=some (.agg (plX (sbAt L i).s (sbAt L i).ch (sbAt L i).t (sbAt L i).l)):=sub_flatK (f:=sbN) (k:=5) (d:=sub0) (fun _=>rfl) h (by omega)
theorem sbA_at {L:List SubN} {i:Nat} (h:i<L.length):sub true 6 (sbsA L) (i*6)=some (.agg (sbA (sbAt L i))):=(sub_flatK (f:=sbA) (k:=6) (d:=sub0) (off:=0) (fun _=>rfl) h (by omega)).trans rfl
theorem sbsA_snoc {L:List SubN} {i:Nat} (h:i<L.length):sbsA (L.take i)++sbA (sbAt L i)=sbsA (L.take (i+1)):=by
  rw [takeAt (d:=sub0) h,sbsA,sbsA,List.flatMap_append];simp [sbAt]
def prS (L:List SubN):Nat→Nat
  | 0=>1
  | i+1=>prS L i*max 1 ((sbAt L i).t.length+(sbAt L i).l.length)
def SubsP (L:List SubN):Prop:=L.length≤20∧∀i,i<L.length→LightP (sbAt L i).s (sbAt L i).ch (sbAt L i).t (sbAt L i).l 60∧prS L (i+1)≤5000
theorem sbAt_mem {L:List SubN} {i:Nat} (h:i<L.length):sbAt L i∈L:=by simp [sbAt,List.getD,h]
theorem mx1 {n:Nat}:(if (n:Int) > 1 then (n:Int) else 1)=((max 1 n:Nat):Int):=by
  by_cases h:(n:Int) > 1
  · rw [if_pos h];omega
  · rw [if_neg h];omega
theorem sbA6 {x:SubN}:sbA x=[.bool x.all,.sl x.s.length 1 (nums .i64 x.s),.bool x.ch,.sl x.t.length 1 (nums .i32 x.t),.sl (x.l.map toRt).length 3 (rtsC (x.l.map toRt)),.bool true]:=rfl
set_option maxHeartbeats 1000000 in
theorem c16_ok {L:List SubN} {ok:Bool} (hs:∀x∈L,∀d∈x.s,In64 d) (hu:∀x∈L,∀y∈x.l,U8 y.2.1∧U8 y.2.2) (hok:ok=true↔SubsP L) :
    Go.V.Call tab E 16 [.sl L.length 5 (sbsN L)] [] (.tup [if ok then .sl L.length 6 (sbsA L) else .sl 0 6 [],.bool ok]) []:=by
  refine Go.V.Call.mach i16 c16 rfl rfl rfl rfl ?_
  have hfalse:¬SubsP L→ok=false:=fun h=>by rw [←Bool.not_eq_true,hok];exact h
  by_cases h20:(20:Int)<(L.length:Int)
  · have:=hfalse (fun h=>by have:=h.1;omega)
    subst this
    simp only [c16,go_sem,FL,h20]
    simp only [i16,OT,reduceIte,Nat.reduceEqDiff]
  have h0:sbsA (L.take 0)=[]:=rfl
  simp only [c16,go_sem,FL,h20]
  refine mLoop (fun N st=>∃k:Nat,k≤L.length∧N=L.length - k∧(∀i,i<k→LightP (sbAt L i).s (sbAt L i).ch (sbAt L i).t (sbAt L i).l 60∧prS L (i+1)≤5000)∧
    st=⟨[(0,.sl L.length 5 (sbsN L)),(4,.arr 1 k),(5,.int .i64 (prS L k)),(6,.int .i64 k)],[⟨false,97,6,0,0,[],false⟩,⟨false,97,6,k,k,sbsA (L.take k),false⟩]⟩) L.length
    ⟨_,rfl,0,by omega,by omega,fun i hi=>by omega,by simp [getE,sbsA,prS]⟩ ?_
  rintro N s0 ⟨k,hk,rfl,hr,rfl⟩
  by_cases hlt:k<L.length
  · have hlt':(k:Int)<(L.length:Int):=by omega
    have hk0:(0:Int)≤(k:Int):=by omega
    have hk1:IntKind.i64.wrap ((k:Int)+1)=((k+1:Nat):Int):=by rw [wrap_i64 (by omega) (by omega)];omega
    have g0:=sbN_all hlt
    have g1:=sbN_pl hlt
    have hm:=sbAt_mem hlt
    have hxs:=hs _ hm
    have hxu:=hu _ hm
    have hpk:prS L k≤5000:=by
      rcases k with _|k
      · simp [prS]
      · exact (hr k (by omega)).2
    have hsn:=sbsA_snoc hlt
    have hpr:prS L (k+1)=prS L k*max 1 ((sbAt L k).t.length+(sbAt L k).l.length):=rfl
    have hPall:∀h:LightP (sbAt L k).s (sbAt L k).ch (sbAt L k).t (sbAt L k).l 60∧prS L (k+1)≤5000,∀i,i<k+1→LightP (sbAt L i).s (sbAt L i).ch (sbAt L i).t (sbAt L i).l 60∧prS L (i+1)≤5000:=fun h i hi=>by
      by_cases hik:i=k
      · subst hik;exact h
      · exact hr i (by omega)
    have h10:=fun okk h=>c17_ok (s:=(sbAt L k).s) (t:=(sbAt L k).t) (l:=(sbAt L k).l) (ch:=(sbAt L k).ch) (ok:=okk) (most:=60) (by omega) hxs hxu h
    by_cases hL:LightP (sbAt L k).s (sbAt L k).ch (sbAt L k).t (sbAt L k).l 60
    · have g10:=h10 true ⟨fun _=>hL,fun _=>rfl⟩
      obtain ⟨l1,l2,l3,l4,hR⟩:=hL
      have g20:=c59_ok (s:=(sbAt L k).s) (t:=(sbAt L k).t) (l:=(sbAt L k).l) (ch:=(sbAt L k).ch) (by omega) (by omega)
      have hU:∀x∈(sbAt L k).l,NmU x:=fun x hx=>⟨(hxu x hx).1,(hxu x hx).2,by have:=(l4 x hx).1;omega,by have:=(l4 x hx).2;omega⟩
      have g13:=c19_ok hxs (by omega) (by omega) (by omega) hU hR
      have hbm:prS L k*max 1 ((sbAt L k).t.length+(sbAt L k).l.length)≤5000*200:=Nat.mul_le_mul hpk (by omega)
      have hmx:=mx1 (n:=(sbAt L k).t.length+(sbAt L k).l.length)
      have hw:IntKind.i64.wrap (((prS L k:Nat):Int)*((max 1 ((sbAt L k).t.length+(sbAt L k).l.length):Nat):Int))=((prS L (k+1):Nat):Int):=by rw [hpr,←Int.natCast_mul,wrap_i64 (by omega) (by omega)]
      by_cases h5:prS L (k+1)≤5000
      · have h5':¬(5000:Int)<((prS L (k+1):Nat):Int):=by omega
        have hP2:=hPall ⟨⟨l1,l2,l3,l4,hR⟩,h5⟩
        have y1:(k+1)*96≤140737488355328:=by omega
        have y2:k+1≤140737488355328:=by omega
        clear hPall h10 hbm hpr l4 hR hU hm hxs hxu
        simp only [sbA6] at hsn
        generalize sbAt L k=x at *
        generalize hq:prS L (k+1)=q at *
        simp only [plX,arrX,runes,ints] at g1 g10 g20 g13
        simp only [b16_0,go_sem,FL,hlt',hk0,g0,g1,Int.toNat_natCast]
        refine goP g10 ?_
        simp only [go_sem,FL,hlt',hk0,g0,g1,Int.toNat_natCast]
        refine goP g20 ?_
        simp only [go_sem,FL,hlt',hk0,g0,g1,Int.toNat_natCast,hmx,hw,h5']
        refine goP g13 ?_
        simp only [go_sem,FL,List.flatten_cons,List.flatten_nil,Option.getD_some,List.append_nil,y1,y2,hsn,hk1]
        exact loopQ_go rfl (L.length - (k+1)) (by omega) ⟨k+1,by omega,rfl,hP2,by rw [hq];rfl⟩
      · have:=hfalse (fun h=>h5 (h.2 k hlt).2)
        subst this
        have h5':(5000:Int)<((prS L (k+1):Nat):Int):=by omega
        simp only [plX,arrX,runes,ints] at g1 g10 g20 g13
        simp only [b16_0,go_sem,FL,hlt',hk0,g0,g1,Int.toNat_natCast]
        refine goP g10 ?_
        simp only [go_sem,FL,hlt',hk0,g0,g1,Int.toNat_natCast]
        refine goP g20 ?_
        simp only [go_sem,FL,hlt',hk0,g0,g1,Int.toNat_natCast,hmx,hw,h5']
        simp only [i16,OT,reduceIte,Nat.reduceEqDiff]
    · have g10:=h10 false ⟨fun h=>(by cases h),fun h=>absurd h hL⟩
      have:=hfalse (fun h=>hL (h.2 k hlt).1)
      subst this
      simp only [plX,runes,ints] at g1 g10
      simp only [b16_0,go_sem,FL,hlt',hk0,g0,g1,Int.toNat_natCast]
      refine goP g10 ?_
      simp only [go_sem,FL]
      simp only [i16,OT,reduceIte,Nat.reduceEqDiff]
  · obtain rfl:k=L.length:=by omega
    have:ok=true:=hok.2 ⟨by omega,hr⟩
    subst this
    rw [List.take_length]
    simp only [b16_0,k16_0,go_sem,FL,Int.lt_irrefl]
    simp only [i16,OT,reduceIte,Nat.reduceEqDiff]
def upL (n:Nat) (o:Int):List Int:=(List.range n).map fun i:Nat=>o+(i:Int)
theorem upL_len {n:Nat} {o:Int}:(upL n o).length=n:=by simp [upL]
theorem upL_succ {n:Nat} {o:Int}:upL (n+1) o=upL n o++[o+(n:Int)]:=by unfold upL;rw [List.range_succ,List.map_append];rfl
def upT (n:Nat) (o:Int) (i:Nat):List Int:=upL i o++List.replicate (n - i) 0
theorem upT_put {n:Nat} {o:Int} {i:Nat} (h:i<n):(upT n o i).take i++(o+(i:Int))::(upT n o i).drop (i+1)=upT n o (i+1):=by
  unfold upT
  have h1:=upL_len (n:=i) (o:=o)
  rw [List.take_append_of_le_length (by omega),List.take_of_length_le (by omega),List.drop_append,List.drop_eq_nil_of_le (by omega),List.nil_append,h1,List.drop_replicate,upL_succ,List.append_assoc]
  congr 2
  rw [show n - i - (i+1 - i)=n - (i+1) by omega]
  rfl
theorem upT_all {n:Nat} {o:Int}:upT n o n=upL n o:=by unfold upT;rw [Nat.sub_self];simp
theorem upT_len {n:Nat} {o:Int} {i:Nat} (h:i≤n):(upT n o i).length=n:=by unfold upT;rw [List.length_append,upL_len,List.length_replicate];omega
theorem c120_ok {n:Nat} {o:Int} (hn:n≤4096) (ho:0≤o∧o≤1):Go.V.Call tab E 120 [.int .i64 n,.int .i64 o] [] (.arr 0 0) [rowI (upL n o)]:=by
  refine Go.V.Call.mach i120 c120 rfl rfl rfl rfl ?_
  have z0:(0:Int)≤(n:Int):=by omega
  have z1:8*n≤140737488355328:=by omega
  have z2:(n:Int)≤140737488355328:=by omega
  have h0:upT n o 0=List.replicate n 0:=by unfold upT;rw [Nat.sub_zero];rfl
  simp only [c120,go_sem,FL,z0,z1,z2,Int.toNat_natCast,flat_nums]
  refine mLoop (fun N st=>∃i:Nat,i≤n∧N=n - i∧st=⟨[(1,.int .i64 o),(5,.arr 1 0),(10,.int .i64 n),(11,.int .i64 i)],[⟨false,3,1,0,0,[],false⟩,⟨false,3,1,0,n,nums .i64 (upT n o i),false⟩]⟩) n
    ⟨_,rfl,0,by omega,by omega,by simp [getE,h0]⟩ ?_
  rintro N s0 ⟨i,hi,rfl,rfl⟩
  by_cases hin:i<n
  · have hi':(i:Int)<(n:Int):=by omega
    have hi0:(0:Int)≤(i:Int):=by omega
    have hi1:IntKind.i64.wrap ((i:Int)+1)=((i+1:Nat):Int):=by rw [wrap_i64 (by omega) (by omega)];omega
    have hw:IntKind.i64.wrap (o+(i:Int))=o+(i:Int):=wrap_i64 (by omega) (by omega)
    have hp:=upT_put (o:=o) hin
    have hl:=upT_len (o:=o) (show i≤n by omega)
    have hln:i*1+1≤(upT n o i).length:=by rw [hl];omega
    simp only [b120_0,go_sem,hi',hi0,Int.toNat_natCast,hw,hp,hln,hi1]
    exact loopQ_go rfl (n - (i+1)) (by omega) ⟨i+1,by omega,rfl,rfl⟩
  · obtain rfl:i=n:=by omega
    rw [←upT_all]
    have hl:=upT_len (o:=o) (Nat.le_refl i)
    simp only [b120_0,k120_0,go_sem,Int.lt_irrefl]
    simp only [i120,OT,reduceIte,Nat.reduceEqDiff,rowI,hl]
    rfl
end Go.Proofs.Ytlejgleocnemoaa.I

namespace Go.Proofs.Ytlejgleocnemoaa.I
open Go Go.V Go.ChangeShapes Go.WideShapes Go.Deep
section
variable {H:Type} {enc:TypeId × Value→H} {P:Program} {w:World} {spare:Nat→Bool} {held:Bool}
theorem open_row {t e:TypeId} {k:IntKind} {fuel:Nat} {v:Value} {x:DataW H × List MemPlace} (ht:P.underlying t=some (.slice e)) (he:P.underlying e=some (.int k)) (hc:P.cellsOf e=1) (h:DataW.trod enc P w 0 spare held fuel t [v]=some x) :
    ∃zs:List Int,v.oneCell'=true∧RG w (fun b=>b<w.heap.size) (.sl zs.length 1 (nums k zs)) v∧∀n∈zs,(Lit.int k n).wf=true:=by
  rcases open_ints ht he hc h with ⟨hcs,_⟩|⟨a,len,cap,zs,hcs,_,hl,hm,hz,_,hcell,hwz⟩
  · simp at hcs;subst hcs
    exact ⟨[],rfl,.sl0,fun n hn=>by cases hn⟩
  · simp at hcs;subst hcs
    refine ⟨zs.take len,rfl,?_,fun n hn=>hwz n (List.mem_of_mem_take hn)⟩
    by_cases hs:spare a.block=true
    · exact rg_row (.inr ⟨a,rfl,hl,by simpa [hs] using hz,hcell⟩)
    · have hzl:zs.length=len:=by simpa [hs] using hz
      have h1:RG w (fun b=>b<w.heap.size) (.sl (zs.take len).length 1 (nums k (zs.take len))) (.slice (some a) len len):=rg_row (.inr ⟨a,rfl,Nat.le_refl _,hzl,hcell⟩)
      generalize hq:AV.sl (zs.take len).length 1 (nums k (zs.take len))=q at h1 ⊢
      cases h1 with
      | any=>cases hq
      | sl0=>exact .sl0
      | sl g0 g1 g2 g3 g4 g5 g6 g7=>exact .sl g0 hl g2 g3 g4 g5 g6 g7
theorem in64_of {n:Int} (h:(Lit.int .i64 n).wf=true):In64 n:=by
  have h1:IntKind.i64.min = -9223372036854775808:=by decide
  have h2:IntKind.i64.max=9223372036854775807:=by decide
  simp only [Lit.wf,Bool.and_eq_true,decide_eq_true_eq,h1,h2] at h
  exact h
theorem open_sub1 {e b0 b1 b2:TypeId} {f0 f1 p0 p1 p2 p3 q0 q1 q2:Field} {fuel:Nat} {a:Addr} {cs:List Value} {y:DataW H × List MemPlace} (he:P.underlying e=some (.struct #[f0,f1])) (ho:f0.offset=0∧P.cellsOf f0.type=1∧f1.offset=1∧P.cellsOf f1.type=4)
    (h0:P.underlying f0.type=some .bool) (hp:P.underlying f1.type=some (.struct #[p0,p1,p2,p3])) (hone:oneCellFields P #[p0,p1,p2,p3]=true)
    (k0:P.underlying p0.type=some (.slice b0)) (k0':P.underlying b0=some (.int .i64)) (k0c:P.cellsOf b0=1) (k1:P.underlying p1.type=some .bool) (k2:P.underlying p2.type=some (.slice b1)) (k2':P.underlying b1=some (.int .i32)) (k2c:P.cellsOf b1=1)
    (k3:P.underlying p3.type=some (.slice b2)) (k3':P.underlying b2=some (.struct #[q0,q1,q2])) (k3o:oneCellFields P #[q0,q1,q2]=true) (k3c:P.cellsOf b2=3) (j0:P.underlying q0.type=some .bool) (j1:P.underlying q1.type=some .string) (j2:P.underlying q2.type=some .string)
    (hc:w.cells? 0 a 5=some cs) (h:DataW.trod enc P w 0 spare held fuel e cs=some y) :
    ∃ q:SubN × List Value,(q.2.length=5∧(∀(j:Nat) (u:Value),q.2[j]?=some u→w.cell? (a.add j)=some u)∧(∀u∈q.2,u.oneCell'=true)∧(∀(j:Nat) (c:AV) (u:Value),(sbN q.1)[j]?=some c→q.2[j]?=some u→RG w (fun b=>b<w.heap.size) c u))∧
      (∀d∈q.1.s,In64 d)∧∀x∈q.1.l,U8 x.2.1∧U8 x.2.2:=by
  obtain ⟨_,hlen,hcell⟩:=World.cells?_some hc
  obtain ⟨xs,k,_,_,_,hxl,hf⟩:=DataW.trod_struct he h
  obtain ⟨o0,o1,o2,o3⟩:=ho
  obtain ⟨u0,v0⟩:=hone_of hone 0 p0 rfl
  obtain ⟨u1,v1⟩:=hone_of hone 1 p1 rfl
  obtain ⟨u2,v2⟩:=hone_of hone 2 p2 rfl
  obtain ⟨u3,v3⟩:=hone_of hone 3 p3 rfl
  match xs,hxl,cs,hlen with
  | [y0,y1],_,[c0,c1,c2,c3,c4],_=>
    have g0:=hf 0 f0 rfl
    have g1:=hf 1 f1 rfl
    simp [o0,o1] at g0
    simp [o2,o3] at g1
    obtain ⟨b,hb,_⟩:=DataW.trod_bool h0 g0
    obtain ⟨zs,kk,_,_,_,hzl,hg⟩:=DataW.trod_struct hp g1
    match zs,hzl with
    | [z0,z1,z2,z3],_=>
      have r0:=hg 0 p0 rfl
      have r1:=hg 1 p1 rfl
      have r2:=hg 2 p2 rfl
      have r3:=hg 3 p3 rfl
      simp [u0,v0] at r0
      simp [u1,v1] at r1
      simp [u2,v2] at r2
      simp [u3,v3] at r3
      obtain ⟨s,e1,s1,s2⟩:=open_row k0 k0' k0c r0
      obtain ⟨ch,hch,_⟩:=DataW.trod_bool k1 r1
      obtain ⟨t,e2,t1,t2⟩:=open_row k2 k2' k2c r2
      obtain ⟨na,nl,nc,l,hn,_,_,l1,l2⟩:=open_nums k3 k3' k3o k3c j0 j1 j2 r3
      simp only [List.cons.injEq,and_true] at hb hch hn
      subst hb;subst hch;subst hn
      refine ⟨(⟨b,s,ch,t,l⟩,[.bool b,c1,.bool ch,c3,.slice na nl nc]),⟨rfl,fun j u hu=>?_,fun u hu=>?_,fun j c u hc hu=>?_⟩,fun d hd=>in64_of (s2 d hd),fun x hx=>⟨(l1 x hx).1,(l1 x hx).2.1⟩⟩
      · have hj:j<5:=by have:=(List.getElem?_eq_some_iff.1 hu).1;simpa using this
        have:=hcell j hj
        rw [this]
        exact hu
      · simp only [List.mem_cons,List.not_mem_nil,or_false] at hu
        rcases hu with rfl|rfl|rfl|rfl|rfl
        · rfl
        · exact e1
        · rfl
        · exact e2
        · rfl
      · match j,hc,hu with
        | 0,hc,hu=>simp [sbN,plX] at hc hu;subst hc;subst hu;exact .bool
        | 1,hc,hu=>simp [sbN,plX] at hc hu;subst hc;subst hu;exact s1
        | 2,hc,hu=>simp [sbN,plX] at hc hu;subst hc;subst hu;exact .bool
        | 3,hc,hu=>simp [sbN,plX] at hc hu;subst hc;subst hu;exact t1
        | 4,hc,hu=>simp [sbN,plX] at hc hu;subst hc;subst hu;exact l2
        | j+5,hc,hu=>simp at hu
theorem open_subs {t e b0 b1 b2:TypeId} {f0 f1 p0 p1 p2 p3 q0 q1 q2:Field} {fuel:Nat} {cs:List Value} {x:DataW H × List MemPlace} (ht:P.underlying t=some (.slice e)) (he:P.underlying e=some (.struct #[f0,f1])) (hC:P.cellsOf e=5) (ho:f0.offset=0∧P.cellsOf f0.type=1∧f1.offset=1∧P.cellsOf f1.type=4)
    (h0:P.underlying f0.type=some .bool) (hp:P.underlying f1.type=some (.struct #[p0,p1,p2,p3])) (hone:oneCellFields P #[p0,p1,p2,p3]=true)
    (k0:P.underlying p0.type=some (.slice b0)) (k0':P.underlying b0=some (.int .i64)) (k0c:P.cellsOf b0=1) (k1:P.underlying p1.type=some .bool) (k2:P.underlying p2.type=some (.slice b1)) (k2':P.underlying b1=some (.int .i32)) (k2c:P.cellsOf b1=1)
    (k3:P.underlying p3.type=some (.slice b2)) (k3':P.underlying b2=some (.struct #[q0,q1,q2])) (k3o:oneCellFields P #[q0,q1,q2]=true) (k3c:P.cellsOf b2=3) (j0:P.underlying q0.type=some .bool) (j1:P.underlying q1.type=some .string) (j2:P.underlying q2.type=some .string)
    (h:DataW.trod enc P w 0 spare held fuel t cs=some x) :
    ∃(a:Option Addr) (len cap:Nat) (L:List SubN),cs=[.slice a len cap]∧((∀y∈L,∀d∈y.s,In64 d)∧∀y∈L,∀z∈y.l,U8 z.2.1∧U8 z.2.2)∧RG w (fun b=>b<w.heap.size) (.sl L.length 5 (sbsN L)) (.slice a len cap):=by
  rcases open_slice ht h with ⟨rfl,_⟩|⟨a,len,cap,m,n,D,Pl,rfl,_,hl,hm,hmm,_,hx⟩
  · exact ⟨none,0,0,[],rfl,⟨fun y hy=>absurd hy List.not_mem_nil,fun y hy=>absurd hy List.not_mem_nil⟩,.sl0⟩
  have hlm:len≤m:=by rw [hmm];split<;>omega
  rw [hC] at hx
  have each:∀i,i<len→∃q:SubN × List Value,(q.2.length=5∧(∀(j:Nat) (u:Value),q.2[j]?=some u→w.cell? ((a.add (i*5)).add j)=some u)∧(∀u∈q.2,u.oneCell'=true)∧(∀(j:Nat) (c:AV) (u:Value),(sbN q.1)[j]?=some c→q.2[j]?=some u→RG w (fun b=>b<w.heap.size) c u))∧
      (∀d∈q.1.s,In64 d)∧∀x∈q.1.l,U8 x.2.1∧U8 x.2.2:=fun i hi=>by
    obtain ⟨cs',hc,hy⟩:=hx i (by omega)
    exact open_sub1 he ho h0 hp hone k0 k0' k0c k1 k2 k2' k2c k3 k3' k3o k3c j0 j1 j2 hc hy
  haveI:Inhabited (SubN × List Value):=⟨(sub0,[])⟩
  obtain ⟨f,hf⟩:=choose_lt (α:=SubN × List Value) each
  have hmem:∀y∈((List.range len).map f).map (·.1),∃i,i<len∧y=(f i).1:=fun y hy=>by
    obtain ⟨z,hz,rfl⟩:=List.mem_map.1 hy
    obtain ⟨i,hi,rfl⟩:=List.mem_map.1 hz
    exact ⟨i,List.mem_range.1 hi,rfl⟩
  refine ⟨some a,len,cap,((List.range len).map f).map (·.1),rfl,⟨fun y hy=>?_,fun y hy=>?_⟩,?_⟩
  · obtain ⟨i,hi,rfl⟩:=hmem y hy
    exact (hf i hi).2.1
  · obtain ⟨i,hi,rfl⟩:=hmem y hy
    exact (hf i hi).2.2
  · have hll:((List.range len).map f).length=len:=by simp
    rw [List.length_map,hll]
    by_cases hz:len=0
    · subst hz;exact .sl0
    obtain ⟨b,o,sp⟩:=a
    obtain ⟨hw5,hwc,_,_⟩:=(hf 0 (by omega)).1
    have hc0:=hwc 0 ((f 0).2[0]'(by omega)) (List.getElem?_eq_getElem (by omega))
    have hsp:sp=none:=by
      simp only [Addr.add,Nat.zero_mul,if_true,World.cell?] at hc0
      split at hc0
      · split at hc0
        · cases hc0
        · rename_i hh;simpa using hh
      · cases hc0
    subst hsp
    have addE:∀i,(⟨b,o,none⟩:Addr).add i=⟨b,o+i,none⟩:=fun i=>by
      unfold Addr.add
      split
      · rename_i h;rw [h];rfl
      · rfl
    have hb:b<w.heap.size:=by
      rw [addE] at hc0
      unfold Addr.add World.cell? at hc0
      split at hc0
      · rename_i hh
        split at hh
        · exact (Array.getElem?_eq_some_iff.1 hh).1
        · exact (Array.getElem?_eq_some_iff.1 hh).1
      · cases hc0
    have hat:∀i,i<len→((List.range len).map f).getD i (sub0,[])=f i:=fun i hi=>by simp [List.getD,hi]
    have hflat:∀(l:List (SubN × List Value)),(∀q∈l,q.2.length=5)→(l.flatMap (·.2)).length=l.length*5:=fun l=>by
      induction l with
      | nil=>intro _;rfl
      | cons q l ih=>intro h;rw [List.flatMap_cons,List.length_append,ih (fun q hq=>h q (List.mem_cons_of_mem _ hq)),h q (List.mem_cons_self ..),List.length_cons];omega
    have vget:∀(l:List (SubN × List Value)) (i k:Nat),(∀q∈l,q.2.length=5)→i<l.length→k<5→(l.flatMap (·.2))[i*5+k]?=(l.getD i (sub0,[])).2[k]?:=fun l=>by
      induction l with
      | nil=>intro i k _ h;simp at h
      | cons q l ih=>
        intro i k h5 hi hk
        have hq:=h5 q (List.mem_cons_self ..)
        cases i with
        | zero=>rw [List.flatMap_cons,Nat.zero_mul,Nat.zero_add,List.getElem?_append_left (by omega)];rfl
        | succ i=>
          rw [List.flatMap_cons,List.getElem?_append_right (by omega)]
          have e:(i+1)*5+k - q.2.length=i*5+k:=by omega
          rw [e,ih i k (fun q hq=>h5 q (List.mem_cons_of_mem _ hq)) (by simpa using hi) hk]
          rfl
    have cget:∀(l:List (SubN × List Value)) (i k:Nat),i<l.length→k<5→(sbsN (l.map (·.1)))[i*5+k]?=(sbN (l.getD i (sub0,[])).1)[k]?:=fun l=>by
      induction l with
      | nil=>intro i k h;simp at h
      | cons q l ih=>
        intro i k hi hk
        have hq:(sbN q.1).length=5:=rfl
        cases i with
        | zero=>rw [List.map_cons,sbsN,List.flatMap_cons,Nat.zero_mul,Nat.zero_add,List.getElem?_append_left (by omega)];rfl
        | succ i=>
          rw [List.map_cons,sbsN,List.flatMap_cons,List.getElem?_append_right (by omega)]
          have e:(i+1)*5+k - (sbN q.1).length=i*5+k:=by omega
          rw [e]
          exact (ih i k (by simpa using hi) hk).trans rfl
    have h5:∀q∈(List.range len).map f,q.2.length=5:=fun q hq=>by
      obtain ⟨i,hi,rfl⟩:=List.mem_map.1 hq
      exact (hf i (List.mem_range.1 hi)).1.1
    have splitk:∀j,j<len*5→∃i k,i<len∧k<5∧j=i*5+k:=fun j hj=>⟨j/5,j % 5,by omega,by omega,by omega⟩
    refine .sl (vs:=((List.range len).map f).flatMap (·.2)) (by omega) hl (by rw [sbsN_len];simp) (by rw [hflat _ h5,sbsN_len];simp) hb (fun u hu=>?_) (fun j u hu=>?_) (fun j c u hc hu=>?_)
    · obtain ⟨q,hq,hqu⟩:=List.mem_flatMap.1 hu
      obtain ⟨i,hi,rfl⟩:=List.mem_map.1 hq
      exact (hf i (List.mem_range.1 hi)).1.2.2.1 u hqu
    · have hj:=(List.getElem?_eq_some_iff.1 hu).1
      rw [hflat _ h5,hll] at hj
      obtain ⟨i,k,hi,hk,rfl⟩:=splitk j hj
      rw [vget _ i k h5 (by rw [hll];exact hi) hk,hat i hi] at hu
      have:=(hf i hi).1.2.1 k u hu
      rw [add_add,addE] at this
      exact this
    · have hj:=(List.getElem?_eq_some_iff.1 hu).1
      rw [hflat _ h5,hll] at hj
      obtain ⟨i,k,hi,hk,rfl⟩:=splitk j hj
      rw [vget _ i k h5 (by rw [hll];exact hi) hk,hat i hi] at hu
      rw [cget _ i k (by rw [hll];exact hi) hk,hat i hi] at hc
      exact (hf i hi).1.2.2.2 k c u hc hu
end
end Go.Proofs.Ytlejgleocnemoaa.I
