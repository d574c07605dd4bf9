/- The texts VFit VClone VGrow VExt L17a WSized L07a L07b L07f L06a L07g L06b L01a L06c L06d L17b L17c L07c L07d L07i L01b L07h L07j L07k L07l L01c L01d L06e L06f L07n L07m L07o L07p L08p L11a L01g, one behind the other. Conditions: each text's own. -/
import Derived.Test.YtlejgleocnemoaaProg
import Derived.Test.YtlejgleocnemoaaG03
import Derived.Test.YtlejgleocnemoaaG02
import Derived.WalkKit
import Derived.Lib.AppendZeros
import Derived.RegionTactic
import Derived.SizedLaws
import Derived.ChangeSlices
set_option linter.unusedSimpArgs false
set_option linter.unusedVariables false
namespace Go.Proofs.Ytlejgleocnemoaa.I
open Go Go.V
theorem ok4:okFun Try.prog 4 i4=true:=by kernel_rfl
theorem ok11:okFun Try.prog 11 i11=true:=by kernel_rfl
theorem ok12:okFun Try.prog 12 i12=true:=by kernel_rfl
theorem ok16:okFun Try.prog 16 i16=true:=by kernel_rfl
theorem ok17:okFun Try.prog 17 i17=true:=by kernel_rfl
theorem ok18:okFun Try.prog 18 i18=true:=by kernel_rfl
theorem ok19:okFun Try.prog 19 i19=true:=by kernel_rfl
theorem ok20:okFun Try.prog 20 i20=true:=by kernel_rfl
theorem ok21:okFun Try.prog 21 i21=true:=by kernel_rfl
theorem ok22:okFun Try.prog 22 i22=true:=by kernel_rfl
theorem ok23:okFun Try.prog 23 i23=true:=by kernel_rfl
theorem ok24:okFun Try.prog 24 i24=true:=by kernel_rfl
theorem ok25:okFun Try.prog 25 i25=true:=by kernel_rfl
theorem ok26:okFun Try.prog 26 i26=true:=by kernel_rfl
theorem ok33:okFun Try.prog 33 i33=true:=by kernel_rfl
theorem ok35:okFun Try.prog 35 i35=true:=by kernel_rfl
theorem ok41:okFun Try.prog 41 i41=true:=by kernel_rfl
theorem ok43:okFun Try.prog 43 i43=true:=by kernel_rfl
theorem ok44:okFun Try.prog 44 i44=true:=by kernel_rfl
theorem ok52:okFun Try.prog 52 i52=true:=by kernel_rfl
theorem ok53:okFun Try.prog 53 i53=true:=by kernel_rfl
theorem ok54:okFun Try.prog 54 i54=true:=by kernel_rfl
theorem ok58:okFun Try.prog 58 i58=true:=by kernel_rfl
theorem ok59:okFun Try.prog 59 i59=true:=by kernel_rfl
theorem ok60:okFun Try.prog 60 i60=true:=by kernel_rfl
theorem ok61:okFun Try.prog 61 i61=true:=by kernel_rfl
theorem ok62:okFun Try.prog 62 i62=true:=by kernel_rfl
theorem ok63:okFun Try.prog 63 i63=true:=by kernel_rfl
theorem ok64:okFun Try.prog 64 i64=true:=by kernel_rfl
theorem ok65:okFun Try.prog 65 i65=true:=by kernel_rfl
theorem ok66:okFun Try.prog 66 i66=true:=by kernel_rfl
theorem ok67:okFun Try.prog 67 i67=true:=by kernel_rfl
theorem ok68:okFun Try.prog 68 i68=true:=by kernel_rfl
theorem ok69:okFun Try.prog 69 i69=true:=by kernel_rfl
theorem ok70:okFun Try.prog 70 i70=true:=by kernel_rfl
theorem ok71:okFun Try.prog 71 i71=true:=by kernel_rfl
theorem ok72:okFun Try.prog 72 i72=true:=by kernel_rfl
theorem ok73:okFun Try.prog 73 i73=true:=by kernel_rfl
theorem ok74:okFun Try.prog 74 i74=true:=by kernel_rfl
theorem ok75:okFun Try.prog 75 i75=true:=by kernel_rfl
theorem ok76:okFun Try.prog 76 i76=true:=by kernel_rfl
theorem ok77:okFun Try.prog 77 i77=true:=by kernel_rfl
theorem ok78:okFun Try.prog 78 i78=true:=by kernel_rfl
theorem ok79:okFun Try.prog 79 i79=true:=by kernel_rfl
theorem ok83:okFun Try.prog 83 i83=true:=by kernel_rfl
theorem ok85:okFun Try.prog 85 i85=true:=by kernel_rfl
theorem ok86:okFun Try.prog 86 i86=true:=by kernel_rfl
theorem ok91:okFun Try.prog 91 i91=true:=by kernel_rfl
theorem ok101:okFun Try.prog 101 i101=true:=by kernel_rfl
theorem ok107:okFun Try.prog 107 i107=true:=by kernel_rfl
theorem ok108:okFun Try.prog 108 i108=true:=by kernel_rfl
theorem ok109:okFun Try.prog 109 i109=true:=by kernel_rfl
theorem ok113:okFun Try.prog 113 i113=true:=by kernel_rfl
theorem ok114:okFun Try.prog 114 i114=true:=by kernel_rfl
theorem ok115:okFun Try.prog 115 i115=true:=by kernel_rfl
theorem ok116:okFun Try.prog 116 i116=true:=by kernel_rfl
theorem ok117:okFun Try.prog 117 i117=true:=by kernel_rfl
theorem ok119:okFun Try.prog 119 i119=true:=by kernel_rfl
theorem ok120:okFun Try.prog 120 i120=true:=by kernel_rfl
theorem ok121:okFun Try.prog 121 i121=true:=by kernel_rfl
theorem ok122:okFun Try.prog 122 i122=true:=by kernel_rfl
theorem ok123:okFun Try.prog 123 i123=true:=by kernel_rfl
theorem ok124:okFun Try.prog 124 i124=true:=by kernel_rfl
theorem ok128:okFun Try.prog 128 i128=true:=by kernel_rfl
theorem ok133:okFun Try.prog 133 i133=true:=by kernel_rfl
theorem ok134:okFun Try.prog 134 i134=true:=by kernel_rfl
theorem ok135:okFun Try.prog 135 i135=true:=by kernel_rfl
theorem ok136:okFun Try.prog 136 i136=true:=by kernel_rfl
theorem ok137:okFun Try.prog 137 i137=true:=by kernel_rfl
theorem ok139:okFun Try.prog 139 i139=true:=by kernel_rfl
theorem ok140:okFun Try.prog 140 i140=true:=by kernel_rfl
theorem ok141:okFun Try.prog 141 i141=true:=by kernel_rfl
theorem ok142:okFun Try.prog 142 i142=true:=by kernel_rfl
theorem ok143:okFun Try.prog 143 i143=true:=by kernel_rfl
theorem ok144:okFun Try.prog 144 i144=true:=by kernel_rfl
theorem ok145:okFun Try.prog 145 i145=true:=by kernel_rfl
theorem ok147:okFun Try.prog 147 i147=true:=by kernel_rfl
theorem ok148:okFun Try.prog 148 i148=true:=by kernel_rfl
theorem ok151:okFun Try.prog 151 i151=true:=by kernel_rfl
theorem ok152:okFun Try.prog 152 i152=true:=by kernel_rfl
theorem ok153:okFun Try.prog 153 i153=true:=by kernel_rfl
theorem ok154:okFun Try.prog 154 i154=true:=by kernel_rfl
theorem ok155:okFun Try.prog 155 i155=true:=by kernel_rfl
theorem ok156:okFun Try.prog 156 i156=true:=by kernel_rfl
theorem ok157:okFun Try.prog 157 i157=true:=by kernel_rfl
theorem ok158:okFun Try.prog 158 i158=true:=by kernel_rfl
theorem ok159:okFun Try.prog 159 i159=true:=by kernel_rfl
theorem ok160:okFun Try.prog 160 i160=true:=by kernel_rfl
theorem ok161:okFun Try.prog 161 i161=true:=by kernel_rfl
theorem ok162:okFun Try.prog 162 i162=true:=by kernel_rfl
theorem ok163:okFun Try.prog 163 i163=true:=by kernel_rfl
theorem ok164:okFun Try.prog 164 i164=true:=by kernel_rfl
theorem ok165:okFun Try.prog 165 i165=true:=by kernel_rfl
theorem ok166:okFun Try.prog 166 i166=true:=by kernel_rfl
theorem ok167:okFun Try.prog 167 i167=true:=by kernel_rfl
theorem tab0_ok:∀f i,tab0 f=some i→okFun Try.prog f i=true:=by
  intro f i h
  unfold tab0 at h
  split at h
  · exact Option.some.inj h▸ok4
  · exact Option.some.inj h▸ok11
  · exact Option.some.inj h▸ok12
  · exact Option.some.inj h▸ok16
  · exact Option.some.inj h▸ok17
  · exact Option.some.inj h▸ok18
  · exact Option.some.inj h▸ok19
  · exact Option.some.inj h▸ok20
  · exact Option.some.inj h▸ok21
  · exact Option.some.inj h▸ok22
  · exact Option.some.inj h▸ok23
  · exact Option.some.inj h▸ok24
  · exact Option.some.inj h▸ok25
  · exact Option.some.inj h▸ok26
  · exact Option.some.inj h▸ok33
  · exact Option.some.inj h▸ok35
  · exact Option.some.inj h▸ok41
  · exact Option.some.inj h▸ok43
  · exact Option.some.inj h▸ok44
  · exact Option.some.inj h▸ok52
  · exact Option.some.inj h▸ok53
  · exact Option.some.inj h▸ok54
  · exact Option.some.inj h▸ok58
  · exact Option.some.inj h▸ok59
  · exact Option.some.inj h▸ok60
  · exact Option.some.inj h▸ok61
  · exact Option.some.inj h▸ok62
  · exact Option.some.inj h▸ok63
  · exact Option.some.inj h▸ok64
  · exact Option.some.inj h▸ok65
  · exact Option.some.inj h▸ok66
  · exact Option.some.inj h▸ok67
  · exact Option.some.inj h▸ok68
  · exact Option.some.inj h▸ok69
  · exact Option.some.inj h▸ok70
  · exact Option.some.inj h▸ok71
  · exact Option.some.inj h▸ok72
  · exact Option.some.inj h▸ok73
  · exact Option.some.inj h▸ok74
  · exact Option.some.inj h▸ok75
  · exact Option.some.inj h▸ok76
  · exact Option.some.inj h▸ok77
  · exact Option.some.inj h▸ok78
  · exact Option.some.inj h▸ok79
  · exact Option.some.inj h▸ok83
  · exact Option.some.inj h▸ok85
  · exact Option.some.inj h▸ok86
  · exact Option.some.inj h▸ok91
  · cases h
theorem tab1_ok:∀f i,tab1 f=some i→okFun Try.prog f i=true:=by
  intro f i h
  unfold tab1 at h
  split at h
  · exact Option.some.inj h▸ok101
  · exact Option.some.inj h▸ok107
  · exact Option.some.inj h▸ok108
  · exact Option.some.inj h▸ok109
  · exact Option.some.inj h▸ok113
  · exact Option.some.inj h▸ok114
  · exact Option.some.inj h▸ok115
  · exact Option.some.inj h▸ok116
  · exact Option.some.inj h▸ok117
  · exact Option.some.inj h▸ok119
  · exact Option.some.inj h▸ok120
  · exact Option.some.inj h▸ok121
  · exact Option.some.inj h▸ok122
  · exact Option.some.inj h▸ok123
  · exact Option.some.inj h▸ok124
  · exact Option.some.inj h▸ok128
  · exact Option.some.inj h▸ok133
  · exact Option.some.inj h▸ok134
  · exact Option.some.inj h▸ok135
  · exact Option.some.inj h▸ok136
  · exact Option.some.inj h▸ok137
  · exact Option.some.inj h▸ok139
  · exact Option.some.inj h▸ok140
  · exact Option.some.inj h▸ok141
  · exact Option.some.inj h▸ok142
  · exact Option.some.inj h▸ok143
  · exact Option.some.inj h▸ok144
  · exact Option.some.inj h▸ok145
  · exact Option.some.inj h▸ok147
  · exact Option.some.inj h▸ok148
  · exact Option.some.inj h▸ok151
  · exact Option.some.inj h▸ok152
  · exact Option.some.inj h▸ok153
  · exact Option.some.inj h▸ok154
  · exact Option.some.inj h▸ok155
  · exact Option.some.inj h▸ok156
  · exact Option.some.inj h▸ok157
  · exact Option.some.inj h▸ok158
  · exact Option.some.inj h▸ok159
  · exact Option.some.inj h▸ok160
  · exact Option.some.inj h▸ok161
  · exact Option.some.inj h▸ok162
  · exact Option.some.inj h▸ok163
  · exact Option.some.inj h▸ok164
  · exact Option.some.inj h▸ok165
  · exact Option.some.inj h▸ok166
  · exact Option.some.inj h▸ok167
  · cases h
theorem tab_ok:∀f i,tab f=some i→okFun Try.prog f i=true:=by
  intro f i h
  unfold tab at h
  cases h0:tab0 f with
  | some j=>rw [h0] at h;exact Option.some.inj h▸tab0_ok f j h0
  | none=>
  rw [h0] at h
  simp only at h
  exact tab1_ok f i h
theorem mixed:Try.prog.follows .mixedOrders=true:=by kernel_rfl
end Go.Proofs.Ytlejgleocnemoaa.I

namespace Go.V
open Go
section
variable {P:Program}
theorem fin_own {w:World} {fz:Nat→Prop} {N:Nat} {s:St} {a:Act} {w':World} {fn:Func} {rs:List Res} {rv r:AV} {m:List AObj} (hs:SR w fz [] [] N s a w') (hk:okRess P N fn.results.toList rs=true) (h6:resAll s rs=some rv) (h7:ownOut s.mem rv=some (r,m)) :
    a.defers=[]∧∃v,(results fn a.tmps).run P w'=.ok v w'∧∃v' fz' ρ',Ending.returned v=.returned v'∧Ext w fz [] [] w' fz' m ρ'∧Mem w' fz' m ρ'∧Rep w' fz' m ρ' r v':=by
  obtain ⟨fz1,ρ1,e1,e2,e3,e4,e5⟩:=hs
  obtain ⟨u,g1,g2⟩:=results_ok (fn:=fn) (env:=s.env) e2 e3 (by rw [e4];exact hk) h6
  obtain ⟨ρ2,q1,q2,q3⟩:=own_out e2 h7 g2
  refine ⟨e5,u,g1,u,fz1,ρ2,rfl,⟨e1.os,e1.tape,e1.output,e1.size,e1.blk,e1.fzblk,e1.sub,e1.new,fun n o h=>by simp at h,fun n v b hv hb=>?_⟩,q1,q2⟩
  obtain ⟨k,rfl⟩:=q3 n v hv
  cases hρ:ρ1[k]? with
  | none=>rw [hρ] at hb;simp [undef,Value.ownBlock] at hb
  | some v=>
    rw [hρ] at hb
    exact e1.own k v b hρ hb
theorem equalIn_slice (d:Nat) {t e:TypeId} {w:World} (ht:P.underlying t=some (.slice e)) (A:Option Addr) (n c:Nat):(Op.equalIn (d+1) t (.slice A n c) (.slice none 0 0)).run P w=.ok A.isNone w:=by
  cases A<;>simp only [Op.equalIn,Sem.run_bind,run_underlying ht,Result.andThen_ok,Sem.run_pure,Option.isNone]
def nilIR (e sz:Nat):IR:=.seq (.reg none [⟨some 2,.newnil e sz,none⟩]) .ret
def cloneIR (e sz bytes:Nat):IR:=.seq (.reg none [⟨some 5,.bsl e sz [],none⟩,⟨some 6,.mov (.t 0),none⟩,⟨some 7,.app e sz bytes (.t 5) (.t 6),none⟩,⟨some 2,.mov (.t 7),none⟩]) .ret
theorem rep_slA {w:World} {fz:Nat→Prop} {mem:List AObj} {ρ:List Value} {n sz:Nat} {cs:List AV} {v:Value} (h:Rep w fz mem ρ (.sl n sz cs) v):∃A c,v=.slice A n c∧(A=none→n=0∧cs=[]):=by
  cases h with
  | gr h=>
    cases h with
    | sl0=>exact ⟨_,_,rfl,fun _=>⟨rfl,rfl⟩⟩
    | sl=>exact ⟨_,_,rfl,fun h=>by cases h⟩
theorem clone_ok {f T T' e sz bytes i0 i1:Nat} {ops0:Array Oper} {o3 o4:Oper} {c2 c3:Code} (hm:P.follows .mixedOrders=true) (fn:Func) (hfn:P.funcs[f]?=some fn)
    (hbody : fn.body = some (.seq (.region i0 ops0 false) (.seq (.seq (.region i1 #[o3, o4] false) (.cond (.tmp 4) c2 .skip)) c3))) (hname : (fn.name == "runtime.NumGoroutine") = false) (hN : fn.ntmps = 8)
    (hres:okRess P 8 fn.results.toList [.t 2]=true) (h0:okRegion P 8 ops0 false none [⟨some 2,.newnil e sz,none⟩]=true) (h3:okAt P 8 #[o3,o4] 0 ⟨some 3,.mov (.t 0),none⟩=true)
    (h4:o4.op=.binOp .eql T (.tmp 3) (.const (.slice none 0 0)) T') (h4d:o4.dst=some 4) (h4g:o4.guard=none) (hT:P.underlying T=some (.slice e)) (hc2:okCode P 8 c2 (nilIR e sz)=true) (hc3:okCode P 8 c3 (cloneIR e sz bytes)=true)
    {n:Nat} {cs:List AV} (hb1:n*bytes≤140737488355328) (hb2:n≤140737488355328) :
    okFn P f=true∧CallS P f [.sl n sz cs] [] (.arr 0 0) [⟨false,e,sz,0,n,cs,false⟩]:=by
  refine ⟨by simp [okFn,hfn,hbody,hname],?_⟩
  intro w fz ρ vals hM hsz hrep
  have hρ:ρ=[]:=List.length_eq_zero_iff.1 hM.len
  subst hρ
  have hno:CallsOk P (fun _ _ _ _ _=>False):=fun h=>h.elim
  obtain ⟨v,rfl⟩:∃v,vals = #[v]:=by
    have:vals.size=1:=by simpa using hsz
    exact ⟨vals[0],by
      apply Array.ext
      · simpa using this
      · intro i h1 h2
        have:i=0:=by simp at h2;exact h2
        subst this
        rfl⟩
  have hv:=hrep 0 _ v rfl rfl
  refine calls_of_wp hfn hbody ?_
  have hs0:SR w fz [] [] 8 ⟨[(0,.sl n sz cs)],[]⟩ { tmps:=#[v]++Array.replicate (fn.ntmps - 1) undef,defers:=[] } w:=by
    refine ⟨fz,[],Ext.refl,hM,fun k hk=>?_,by simp [hN],rfl⟩
    cases k with
    | zero=>
      have:(#[v]++Array.replicate (fn.ntmps - 1) undef).getD 0 undef=v:=by simp [Array.getD,show 0<1+(fn.ntmps - 1) by omega]
      simp only [getE,if_true]
      rw [this]
      exact hv
    | succ k=>simp only [getE];exact .gr .any
  refine wp_seq ?_
  refine region_ok hno hm h0 hs0 (s':=⟨[(2,.arr 0 0),(0,.sl n sz cs)],[⟨false,e,sz,0,0,[],false⟩]⟩) (.cons (.go (.inl rfl) (.op rfl)) .nil) (fun a1 w1 hs1=>?_)
  refine wp_seq (wp_seq (wp_region ?_))
  show wpOps P #[o3,o4] _ [0,1] a1 w1
  rw [wpOps_cons]
  refine step_ok hno h3 hs1 (s':=⟨[(3,.sl n sz cs),(2,.arr 0 0),(0,.sl n sz cs)],[⟨false,e,sz,0,0,[],false⟩]⟩) (.go (.inl rfl) (.op rfl)) (fun a2 w2 hs2=>?_)
  rw [wpOps_cons]
  obtain ⟨fz2,ρ2,x1,x2,x3,x4,x5⟩:=id hs2
  obtain ⟨A,c,hA,hA0⟩:=rep_slA (x3 3 (by omega))
  have hrun:(execOp a2.eval o4).run P w2=.ok (.value (.bool A.isNone)) w2:=by
    have e1:a2.eval (.tmp 3)=.slice A n c:=hA
    have e2:a2.eval (.const (.slice none 0 0))=.slice none 0 0:=rfl
    have e3:(Op.equal T (.slice A n c) (.slice none 0 0)).run P w2=.ok A.isNone w2:=equalIn_slice 9999 hT A n c
    simp only [execOp,h4,e1,e2,Sem.run_bind,eqGuard,Result.andThen_ok,binOp,e3,Sem.run_pure]
    simp [e3]
  have hs3:SR w fz [] [] 8 ⟨[(4,.bool A.isNone),(3,.sl n sz cs),(2,.arr 0 0),(0,.sl n sz cs)],[⟨false,e,sz,0,0,[],false⟩]⟩ (a2.put o4.dst (.bool A.isNone)) w2:=by
    refine ⟨fz2,ρ2,x1,x2,?_,by rw [put_size];exact x4,by rw [put_defers];exact x5⟩
    rw [h4d]
    exact x3.put (d:=some 4) Ext.refl (.gr .bool)
  show wpOp P #[o3,o4] _ 1 _ a2 w2
  unfold wpOp
  simp only [show (#[o3,o4]:Array Oper)[1]?=some o4 from rfl,Region.wanted,h4g,if_true]
  refine .inl ?_
  unfold Oper.wp
  rw [hrun]
  rw [Oper.upon_value]
  simp only [wpOps,Exit.then]
  cases A with
  | none=>
    obtain ⟨rfl,rfl⟩:=hA0 rfl
    obtain ⟨k,hk⟩:=exec_ok (P:=P) (w0:=w) (fz0:=fz) (mem0:=[]) (ρ0:=[]) (N:=8) (C:=fun _ _ _ _ _=>False) hno hm (ir:=.cond (.t 4) (nilIR e sz) .skip) (c:=.cond (.tmp 4) c2 .skip)
      (s:=⟨[(4,.bool true),(3,.sl 0 sz []),(2,.arr 0 0),(0,.sl 0 sz [])],[⟨false,e,sz,0,0,[],false⟩]⟩)
      (.condT rfl (.seqN (.reg (.cons (.go (.inl rfl) (.op rfl)) .nil)) .ret)) (Q:=Exit.then (c3.wp P (bodyPost P fn fun e_1 w'=>∃v fz' ρ',e_1=.returned v∧Ext w fz [] [] w' fz' [⟨false,e,sz,0,0,[],false⟩] ρ'∧Mem w' fz' [⟨false,e,sz,0,0,[],false⟩] ρ'∧Rep w' fz' [⟨false,e,sz,0,0,[],false⟩] ρ' (.arr 0 0) v)) (bodyPost P fn fun e_1 w'=>∃v fz' ρ',e_1=.returned v∧Ext w fz [] [] w' fz' [⟨false,e,sz,0,0,[],false⟩] ρ'∧Mem w' fz' [⟨false,e,sz,0,0,[],false⟩] ρ'∧Rep w' fz' [⟨false,e,sz,0,0,[],false⟩] ρ' (.arr 0 0) v))
      (by simp [okCode,hc2,okOpd]) (.inl rfl) (fun a' w' hs'=>fin_own hs' hres rfl rfl)
    exact (hk _ _ hs3).wp
  | some A=>
    have happ:evalOp [⟨false,e,sz,0,0,[],false⟩,⟨false,e,sz,0,0,[],false⟩] (ev [(6,.sl n sz cs),(5,.arr 1 0),(4,.bool false),(3,.sl n sz cs),(2,.arr 0 0),(0,.sl n sz cs)]) (.app e sz bytes (.t 5) (.t 6)) =
        some (.arr 1 1,[⟨false,e,sz,0,0,[],false⟩,⟨false,e,sz,1,n,cs,false⟩]):=by
      simp [evalOp,rowOf,ev,getE,geto,hb1,hb2]
    have hexec:Exec (fun _ _ _ _ _=>False) (cloneIR e sz bytes) ⟨[(4,.bool false),(3,.sl n sz cs),(2,.arr 0 0),(0,.sl n sz cs)],[⟨false,e,sz,0,0,[],false⟩]⟩ .ret
        ⟨[(2,.arr 1 1),(7,.arr 1 1),(6,.sl n sz cs),(5,.arr 1 0),(4,.bool false),(3,.sl n sz cs),(2,.arr 0 0),(0,.sl n sz cs)],[⟨false,e,sz,0,0,[],false⟩,⟨false,e,sz,1,n,cs,false⟩]⟩:=
      .seqN (.reg (.cons (.go (.inl rfl) (.op rfl)) (.cons (.go (.inl rfl) (.op rfl)) (.cons (.go (.inl rfl) (.op happ)) (.cons (.go (.inl rfl) (.op rfl)) .nil))))) .ret
    obtain ⟨k2,hk2⟩:=exec_ok (P:=P) (w0:=w) (fz0:=fz) (mem0:=[]) (ρ0:=[]) (N:=8) (C:=fun _ _ _ _ _=>False) hno hm hexec (c:=c3)
      (Q:=bodyPost P fn fun e_1 w'=>∃v fz' ρ',e_1=.returned v∧Ext w fz [] [] w' fz' [⟨false,e,sz,0,n,cs,false⟩] ρ'∧Mem w' fz' [⟨false,e,sz,0,n,cs,false⟩] ρ'∧Rep w' fz' [⟨false,e,sz,0,n,cs,false⟩] ρ' (.arr 0 0) v)
      hc3 (.inl rfl) (fun a' w' hs'=>fin_own hs' hres rfl rfl)
    obtain ⟨k,hk⟩:=exec_ok (P:=P) (w0:=w) (fz0:=fz) (mem0:=[]) (ρ0:=[]) (N:=8) (C:=fun _ _ _ _ _=>False) hno hm (ir:=.cond (.t 4) (nilIR e sz) .skip) (c:=.cond (.tmp 4) c2 .skip)
      (s:=⟨[(4,.bool false),(3,.sl n sz cs),(2,.arr 0 0),(0,.sl n sz cs)],[⟨false,e,sz,0,0,[],false⟩]⟩)
      (.condF rfl .skip) (Q:=Exit.then (c3.wp P (bodyPost P fn fun e_1 w'=>∃v fz' ρ',e_1=.returned v∧Ext w fz [] [] w' fz' [⟨false,e,sz,0,n,cs,false⟩] ρ'∧Mem w' fz' [⟨false,e,sz,0,n,cs,false⟩] ρ'∧Rep w' fz' [⟨false,e,sz,0,n,cs,false⟩] ρ' (.arr 0 0) v)) (bodyPost P fn fun e_1 w'=>∃v fz' ρ',e_1=.returned v∧Ext w fz [] [] w' fz' [⟨false,e,sz,0,n,cs,false⟩] ρ'∧Mem w' fz' [⟨false,e,sz,0,n,cs,false⟩] ρ'∧Rep w' fz' [⟨false,e,sz,0,n,cs,false⟩] ρ' (.arr 0 0) v))
      (by simp [okCode,hc2,okOpd]) (.inl rfl) (fun a' w' hs'=>(hk2 _ _ hs').wp)
    exact (hk _ _ hs3).wp
end
end Go.V

namespace Go.Proofs.Ytlejgleocnemoaa.I
open Go Go.V Go.RowKit
theorem info3:(Try.prog.info? 3).map (fun i=>(i.zero,i.size,i.bytes))=some (some (.int .i64 0),1,8):=by kernel_rfl
set_option maxHeartbeats 3200000 in
set_option maxRecDepth 100000 in
theorem grow_run0 (w:World):Calls Try.prog 131 #[.slice none 0 0,.int .i64 0] w fun e w'=>e=.returned (.slice none 0 0)∧w'=w:=by
  have t22:=Try.underlying24
  have t3:=Try.underlying3
  go_enter Try.func131,Try.ntmps131
  go_wp2
  go_ret
  exact ⟨rfl,rfl⟩
set_option maxHeartbeats 3200000 in
set_option maxRecDepth 100000 in
theorem grow_run {n:Nat} (h0:0<n) (hn:n*8≤140737488355328) (w:World):Calls Try.prog 131 #[.slice none 0 0,.int .i64 n] w fun e w'=>
    ∃cur:Array Value,e=.returned (.slice (some ⟨w.heap.size,0,none⟩) 0 (grownCap w n 0 3))∧w'=w.drew.alloc (.cells cur 3)∧cur.size=grownCap w n 0 3*1:=by
  have t22:=Try.underlying24
  have t3:=Try.underlying3
  obtain ⟨i,hi,hz,hs,hb⟩:=info_parts info3
  have happ:=fun W=>Lib.run_append_nil_zeros (P:=Try.prog) W 24 3 24 3 i (.int .i64 0) .i64 .i64 t22 t3 hi hz n h0 (by rw [hs];omega) (by omega) (by rw [hb];omega)
  have hpos:(0:Int)<(n:Int):=by omega
  have hw:IntKind.i64.wrap ((n:Int) - 0)=(n:Int):=by rw [wrap_i64 (by omega) (by omega)];omega
  go_enter Try.func131,Try.ntmps131
  go_wp2_with (at_builtin;refine Lib.wpList_append_run _ rfl _ _ _ _ rfl _ _ rfl rfl _ _ (happ _) ?_)
  go_ret
  refine ⟨_,rfl,rfl,?_⟩
  have hge:=grownCap_ge w n 0 3
  simp only [Array.size_append,size_zeroCells]
  simp
  omega
theorem grow_ok {n ty sz:Nat} (hn:(n:Int)*8≤140737488355328):okFn Try.prog 131=true∧CallS Try.prog 131 [.nilsl ty sz,.int .i64 n] [] (.arr 0 0) [⟨false,3,1,0,0,[],false⟩]:=by
  refine ⟨by kernel_rfl,?_⟩
  intro w fz ρ vals hM hsz hrep
  have hρ:ρ=[]:=List.length_eq_zero_iff.1 hM.len
  subst hρ
  obtain ⟨v0,v1,rfl⟩:∃v0 v1,vals = #[v0,v1]:=by
    have:vals.size=2:=by simpa using hsz
    exact ⟨vals[0],vals[1],by
      apply Array.ext
      · simpa using this
      · intro i h1 h2
        have:i=0∨i=1:=by simp at h2;omega
        rcases this with rfl|rfl<;>rfl⟩
  have r0:=hrep 0 _ v0 rfl rfl
  have r1:=rep_int (hrep 1 _ v1 rfl rfl)
  obtain rfl:v0=.slice none 0 0:=by cases r0 with|gr h=>cases h;rfl
  subst r1
  have fin:∀(v:Value) (w':World),Old w w'→w'.ownsRow 0 3 1 v 0 []→(∀b,v.ownBlock=some b→w.heap.size≤b)→
      ∃u fz' ρ',Ending.returned v=.returned u∧Ext w fz [] [] w' fz' [⟨false,3,1,0,0,[],false⟩] ρ'∧Mem w' fz' [⟨false,3,1,0,0,[],false⟩] ρ'∧Rep w' fz' [⟨false,3,1,0,0,[],false⟩] ρ' (.arr 0 0) u:=fun v w' hw hr hb=>by
    obtain ⟨c1,c2⟩:=hM.push hw ⟨false,3,1,0,0,[],false⟩ v rfl (by decide) hb ⟨[],hr,rfl,fun u hu=>by simp at hu,fun j c u h=>by simp at h⟩
    refine ⟨v,fz,_,rfl,c1,c2,.arr (o:=⟨false,3,1,0,0,[],false⟩) rfl (Nat.le_refl _) ?_ (fun _=>rfl)⟩
    rcases hr.2 with ⟨rfl,_⟩|⟨g,cap,cur,rfl,_⟩<;>rfl
  rcases Nat.eq_zero_or_pos n with rfl|h0
  · refine (grow_run0 w).mono ?_
    rintro e w' ⟨rfl,rfl⟩
    exact fin _ _ (Old.refl _) (World.ownsRow_nil _ _ _ _) (fun b h=>by simp [Value.ownBlock] at h)
  · refine (grow_run h0 (by omega) w).mono ?_
    rintro e w' ⟨cur,rfl,rfl,hs⟩
    refine fin _ _ ?_ (World.ownsRow_made w.drew cur _ (Nat.zero_le _) (grownCap_le_maxLen w n 0 3 (by simp only [maxLen];omega)) hs) (fun b h=>?_)
    · have h1:=Old.drew w
      have h2:=Old.alloc w.drew (.cells cur 3)
      exact ⟨h2.os.trans h1.os,h2.tape.trans h1.tape,h2.output.trans h1.output,Nat.le_trans h1.size h2.size,fun b hb=>(h2.blk b hb).trans (h1.blk b hb)⟩
    · simp only [Value.ownBlock,Option.some.injEq] at h
      omega
end Go.Proofs.Ytlejgleocnemoaa.I

namespace Go.Proofs.Ytlejgleocnemoaa.I
open Go Go.V
def cloneOf (sz e bytes:Nat) (ys:List AV) (mem:List AObj):Option (AV × List AObj):=
  match ys,mem with
  | [.sl n sz' cs],[]=>if sz'=sz∧n*bytes≤140737488355328∧n≤140737488355328 then some (.arr 0 0,[⟨false,e,sz,0,n,cs,false⟩]) else none
  | _,_=>none
def growOf (e sz:Nat) (bytes:Int) (ys:List AV) (mem:List AObj):Option (AV × List AObj):=
  match ys,mem with
  | [.nilsl _ _,.int .i64 n],[]=>if 0≤n∧n*bytes≤140737488355328 then some (.arr 0 0,[⟨false,e,sz,0,0,[],false⟩]) else none
  | _,_=>none
def ext:CallF:=fun f ys mem=>
  match f with
  | 131=>growOf 3 1 8 ys mem
  | 102=>cloneOf 1 3 8 ys mem
  | 112=>cloneOf 3 59 56 ys mem
  | 118=>cloneOf 1 21 4 ys mem
  | _=>none
def E:CallRel:=fun f ys mem r m=>ext f ys mem=some (r,m)
theorem cloneOf_spec {sz e bytes:Nat} {ys:List AV} {mem:List AObj} {r:AV} {m:List AObj} (h:cloneOf sz e bytes ys mem=some (r,m)) :
    ∃n cs,ys=[.sl n sz cs]∧mem=[]∧n*bytes≤140737488355328∧n≤140737488355328∧r=.arr 0 0∧m=[⟨false,e,sz,0,n,cs,false⟩]:=by
  unfold cloneOf at h
  split at h
  · split at h
    · rename_i hc
      obtain ⟨rfl,h1,h2⟩:=hc
      simp only [Option.some.injEq,Prod.mk.injEq] at h
      exact ⟨_,_,rfl,rfl,h1,h2,h.1.symm,h.2.symm⟩
    · cases h
  · cases h
theorem growOf_spec {sz e:Nat} {bytes:Int} {ys:List AV} {mem:List AObj} {r:AV} {m:List AObj} (h:growOf e sz bytes ys mem=some (r,m)) :
    ∃ty sz' n,ys=[.nilsl ty sz',.int .i64 n]∧mem=[]∧0≤n∧n*bytes≤140737488355328∧r=.arr 0 0∧m=[⟨false,e,sz,0,0,[],false⟩]:=by
  unfold growOf at h
  split at h
  · split at h
    · rename_i hc
      obtain ⟨h1,h2⟩:=hc
      simp only [Option.some.injEq,Prod.mk.injEq] at h
      exact ⟨_,_,_,rfl,rfl,h1,h2,h.1.symm,h.2.symm⟩
    · cases h
  · cases h
theorem calls_ok:CallsOk Try.prog E:=by
  intro f ys mem r m h
  unfold E ext at h
  split at h
  · obtain ⟨ty,sz',n,rfl,rfl,h1,h2,rfl,rfl⟩:=growOf_spec h
    obtain ⟨m,rfl⟩:=Int.eq_ofNat_of_zero_le h1
    exact grow_ok (by omega)
  · obtain ⟨n,cs,rfl,rfl,h1,h2,rfl,rfl⟩:=cloneOf_spec h
    exact clone_ok (T:=24) (bytes:=8) (by kernel_rfl) Try.f102 (by kernel_rfl) rfl (by decide +kernel) rfl (by kernel_rfl) (by kernel_rfl) (by kernel_rfl) rfl rfl rfl (by kernel_rfl) (by kernel_rfl) (by kernel_rfl) h1 h2
  · obtain ⟨n,cs,rfl,rfl,h1,h2,rfl,rfl⟩:=cloneOf_spec h
    exact clone_ok (T:=26) (bytes:=56) (by kernel_rfl) Try.f112 (by kernel_rfl) rfl (by decide +kernel) rfl (by kernel_rfl) (by kernel_rfl) (by kernel_rfl) rfl rfl rfl (by kernel_rfl) (by kernel_rfl) (by kernel_rfl) h1 h2
  · obtain ⟨n,cs,rfl,rfl,h1,h2,rfl,rfl⟩:=cloneOf_spec h
    exact clone_ok (T:=25) (bytes:=4) (by kernel_rfl) Try.f118 (by kernel_rfl) rfl (by decide +kernel) rfl (by kernel_rfl) (by kernel_rfl) (by kernel_rfl) rfl rfl rfl (by kernel_rfl) (by kernel_rfl) (by kernel_rfl) h1 h2
  · cases h
end Go.Proofs.Ytlejgleocnemoaa.I

namespace Go.Proofs.YtlejgleocnemoaaW.PrintWords
open Go.ChangeShapes Go.WideShapes
end Go.Proofs.YtlejgleocnemoaaW.PrintWords

namespace Go.Proofs.Ytlejgleocnemoaa.I
open Go Go.V
attribute [local go_sem_proc ↓] reduceIte
attribute [local go_sem_proc] Nat.reduceEqDiff Nat.reduceAdd Nat.reduceMul Nat.reduceLeDiff Nat.reduceLT Int.reduceToNat Int.reduceLT Int.reduceLE reduceCtorEq Nat.reduceBEq
attribute [local go_sem] mNil nat0 beq_self_eq_true mSkip mRet mExit mReg mSeq mCond mTrue mFalse mBlock mLv mCodeE mCodeR mEndN mEndR mEndE mOps mSome mGuard mGtt mGff mGtf mGft mGu mCallP mCallR mCallF mCallO mCallZ mCallG mCallM mCallV loopQ_exit loopQ_ret mO_mov mO_newnil mO_pick mO_alloc mO_box mO_build mO_bsl mO_bslF mO_newnilB mO_bslB mO_lenB mO_appB mO_allocA mO_bslA mO_appA mO_ldb mO_faddrb mRsv mO_ldf mO_ld mO_st mO_sta mO_nilchk mO_bin mO_binb mO_binp mO_bins mO_neg mO_com mO_not mO_conv mO_mk mO_mk0 mO_mkB mO_s2b mO_b2s mO_cpy mO_cut mO_faddr mO_fld mO_iaddr mO_iaddrf mO_sidx mO_len mO_lenf mO_slen mO_scut mO_app mO_ext mO_mx mO_mn mO_mkfn evalOp cutOp argsE ev getE putE cellsOf adopt rowOf binV boolV nilV ar_add ar_sub ar_mul ar_quo ar_rem ar_eq ar_ne ar_lt ar_le ar_gt ar_ge ar_and ar_or ar_xor geto bound finRet finNrm ints List.length_cons List.length_nil List.length_append List.getElem?_cons_zero List.getElem?_cons_succ List.nil_append List.cons_append List.map_cons List.map_nil List.mapM_cons List.mapM_nil Option.map_some Option.map_none Option.bind_some Option.pure_def Option.bind_eq_bind List.drop_zero or_self or_false false_or or_true true_or true_and and_true and_self decide_true decide_false Bool.false_eq_true Bool.true_eq_false Bool.not_true Bool.not_false Nat.le_refl eq_self gt_iff_lt ge_iff_le ne_eq not_true_eq_false not_false_eq_true
def cnt:Int→Int→List Int→Option Int
  | _,n,[]=>some n
  | most,n,d::ds=>if d<0∨4096<most*max 1 d then none else cnt (most*max 1 d) (n*d) ds
def count (s:List Int):Option Int:=if 8<s.length then none else cnt 1 1 s
def optP:Option Int→AV
  | some n=>.tup [.int .i64 n,.bool true]
  | none=>.tup [.int .i64 0,.bool false]
def In64 (n:Int):Prop:=-9223372036854775808≤n∧n≤9223372036854775807
theorem getD_drop {s:List Int} {k:Nat} (h:k<s.length):s.drop k=s.getD k 0::s.drop (k+1):=by
  rw [List.drop_eq_getElem_cons h];simp [List.getD,h]
theorem getD_in {s:List Int} (hs:∀d∈s,In64 d) {k:Nat} (h:k<s.length):In64 (s.getD k 0):=hs _ (by simp [List.getD,h])
section
variable {E:CallRel}
theorem c83_ok {s:List Int} (hs:∀d∈s,In64 d) (hl:(s.length:Int)≤9223372036854775807):Go.V.Call tab E 83 [ints s] [] (optP (count s)) []:=by
  refine Go.V.Call.mach i83 c83 rfl rfl rfl rfl ?_
  by_cases h8:8<s.length
  · have h8':(8:Int)<(s.length:Int):=by omega
    simp only [c83,go_sem,h8',count,h8,optP]
    simp only [i83,OT,reduceIte,Nat.reduceEqDiff]
  · have h8':¬(8:Int)<(s.length:Int):=by omega
    simp only [c83,go_sem,h8']
    refine mLoop (fun N st=>∃(k:Nat) (most:Int) (e:Bool),k≤s.length∧N=s.length - k∧1≤most∧most≤4096∧count s=cnt most (if e then 0 else most) (s.drop k)∧
      st=⟨[(4,.int .i64 most),(5,.bool e),(11,ints s),(12,.int .i64 s.length),(13,.int .i64 k)],[]⟩) s.length ⟨_,rfl,0,1,false,by omega,by omega,by omega,by omega,by simp [count,h8],rfl⟩ ?_
    rintro n s0 ⟨k,most,e,hk,rfl,h1,h2,h3,rfl⟩
    by_cases hlt:k<s.length
    · have hlt':(k:Int)<(s.length:Int):=by omega
      have hk0:(0:Int)≤(k:Int):=by omega
      have hd:=getD_in hs hlt
      have hk1:IntKind.i64.wrap ((k:Int)+1)=((k+1:Nat):Int):=by rw [wrap_i64 (by omega) (by omega)];omega
      rw [getD_drop hlt] at h3
      have hsub:=sub_nums (k:=.i64) hlt
      generalize s.getD k 0=d at *
      by_cases hneg:d<0
      · simp only [b83_0,go_sem,hlt',hk0,Int.toNat_natCast,hsub,hneg]
        simp only [i83,OT,reduceIte,Nat.reduceEqDiff,h3,cnt,optP,hneg,true_or]
      · have hm0:most≠0:=by omega
        have hq:IntKind.i64.wrap (Int.tdiv 4096 most)=4096/most:=by
          rw [Int.tdiv_eq_ediv_of_nonneg (by omega)]
          have:=Int.ediv_le_self (a:=4096) most (by omega)
          have:=Int.ediv_nonneg (a:=4096) (b:=most) (by omega) (by omega)
          exact wrap_i64 (by omega) (by omega)
        by_cases hbig:4096/most<d
        · have hbig':4096<most*d:=by
            have:=(Int.ediv_lt_iff_lt_mul (a:=4096) (b:=d) (c:=most) (by omega)).1 hbig
            rw [Int.mul_comm];exact this
          have hmx:max 1 d=d:=by
            have:d≠0:=fun h=>by subst h;omega
            rw [Int.max_def];split<;>omega
          simp only [b83_0,go_sem,hlt',hk0,Int.toNat_natCast,hsub,hneg,hm0,hq,hbig]
          simp only [i83,OT,reduceIte,Nat.reduceEqDiff,h3,cnt,optP,hneg,hmx,hbig',or_true,reduceIte]
        · have hbig':most*d≤4096:=by
            have h:=mt (Int.ediv_lt_iff_lt_mul (a:=4096) (b:=d) (c:=most) (by omega)).2 hbig
            rw [Int.mul_comm];omega
          have hmx:(if 1<d then d else 1)=max 1 d:=by rw [Int.max_def];split<;>split<;>omega
          have hm1:1≤most*max 1 d∧most*max 1 d≤4096:=by
            by_cases h1d:1<d
            · rw [show max 1 d=d by rw [Int.max_def];split<;>omega]
              refine ⟨?_,hbig'⟩
              have:=Int.mul_le_mul_of_nonneg_left (a:=1) (b:=d) (c:=most) (by omega) (by omega)
              omega
            · rw [show max 1 d=1 by rw [Int.max_def];split<;>omega];omega
          have hw:IntKind.i64.wrap (most*max 1 d)=most*max 1 d:=wrap_i64 (by omega) (by omega)
          have hcnt:count s=cnt (most*max 1 d) (if (e || d==0)=true then 0 else most*max 1 d) (s.drop (k+1)):=by
            rw [h3,cnt,if_neg (by omega)]
            congr 1
            cases e
            · by_cases hd0:d=0
              · subst hd0;simp
              · have:max 1 d=d:=by rw [Int.max_def];split<;>omega
                simp [hd0,this]
            · simp
          cases e
          · simp only [b83_0,go_sem,hlt',hk0,Int.toNat_natCast,hsub,hneg,hm0,hq,hbig,hmx,hw,hk1]
            exact loopQ_go rfl (s.length - (k+1)) (by omega) ⟨k+1,most*max 1 d,(d==0),by omega,rfl,hm1.1,hm1.2,by simpa using hcnt,rfl⟩
          · simp only [b83_0,go_sem,hlt',hk0,Int.toNat_natCast,hsub,hneg,hm0,hq,hbig,hmx,hw,hk1]
            exact loopQ_go rfl (s.length - (k+1)) (by omega) ⟨k+1,most*max 1 d,true,by omega,rfl,hm1.1,hm1.2,by simpa using hcnt,rfl⟩
    · have hlt':¬(k:Int)<(s.length:Int):=by omega
      simp only [b83_0,k83_0,go_sem,hlt']
      obtain rfl:k=s.length:=by omega
      rw [List.drop_length] at h3
      cases e
      · simp only [go_sem]
        simp only [i83,OT,reduceIte,Nat.reduceEqDiff,h3,cnt,optP,Bool.false_eq_true]
      · simp only [go_sem]
        simp only [i83,OT,reduceIte,Nat.reduceEqDiff,h3,cnt,optP]
end
section
variable {E:CallRel}
theorem max1 {d:Int}:max 1 d=if 1≤d then d else 1:=by rw [Int.max_def]
theorem mul_bound {a b A B:Int} (h1:0≤a) (h2:a≤A) (h3:0≤b) (h4:b≤B):0≤a*b∧a*b≤A*B:=
  ⟨Int.mul_nonneg h1 h3,Int.mul_le_mul h2 h4 h3 (by omega)⟩
theorem c116_ok {s:List Int} (hs:∀d∈s,In64 d) (hl:(s.length:Int)≤9223372036854775806):Go.V.Call tab E 116 [ints s] [] (optP (count s)) []:=by
  refine Go.V.Call.mach i116 c116 rfl rfl rfl rfl ?_
  simp only [c116,go_sem]
  refine mLoop (fun N st=>∃(k:Nat) (most n:Int),k≤s.length∧k≤8∧N=s.length - k∧1≤most∧most≤4096∧0≤n∧n≤most∧cnt 1 1 s=cnt most n (s.drop k)∧
    st=⟨[(0,ints s),(4,.int .i64 most),(5,.int .i64 n),(6,.int .i64 k)],[]⟩) s.length ⟨_,rfl,0,1,1,by omega,by omega,by omega,by omega,by omega,by omega,by omega,by simp,rfl⟩ ?_
  rintro N s0 ⟨k,most,n,hk,hk8,rfl,h1,h2,h3,h4,h5,rfl⟩
  by_cases hlt:k<s.length
  · have hlt':(k:Int)<(s.length:Int):=by omega
    have hk0:(0:Int)≤(k:Int):=by omega
    have hk1:IntKind.i64.wrap ((k:Int)+1)=((k+1:Nat):Int):=by rw [wrap_i64 (by omega) (by omega)];omega
    have hd:=getD_in hs hlt
    rw [getD_drop hlt] at h5
    have hsub:=sub_nums (k:=.i64) hlt
    generalize s.getD k 0=d at *
    by_cases he8:8≤k
    · have he8':(8:Int)≤(k:Int):=by omega
      have:count s=none:=by rw [count,if_pos (by omega)]
      simp only [b116_0,go_sem,hlt',he8']
      simp only [i116,OT,reduceIte,Nat.reduceEqDiff,this,optP]
    · have he8':¬(8:Int)≤(k:Int):=by omega
      have none_of:(d<0∨4096<most*max 1 d)→count s=none:=by
        intro h
        rw [count,h5,cnt,if_pos h]
        split<;>rfl
      by_cases hneg:d<0
      · simp only [b116_0,go_sem,hlt',he8',hk0,Int.toNat_natCast,hsub,hneg]
        simp only [i116,OT,reduceIte,Nat.reduceEqDiff,none_of (.inl hneg),optP]
      · by_cases hbig:4096<d
        · have:count s=none:=none_of (.inr (by
            rw [max1,if_pos (by omega)]
            have:=Int.mul_le_mul_of_nonneg_right (a:=1) (b:=most) (c:=d) h1 (by omega)
            omega))
          simp only [b116_0,go_sem,hlt',he8',hk0,Int.toNat_natCast,hsub,hneg,hbig]
          simp only [i116,OT,reduceIte,Nat.reduceEqDiff,this,optP]
        · have hnd:=mul_bound h3 (Int.le_trans h4 h2) (show 0≤d by omega) (show d≤4096 by omega)
          have hmd:=mul_bound (show 0≤most by omega) h2 (show 0≤d by omega) (show d≤4096 by omega)
          have hw1:IntKind.i64.wrap (n*d)=n*d:=wrap_i64 (by omega) (by omega)
          have hw2:IntKind.i64.wrap (most*d)=most*d:=wrap_i64 (by omega) (by omega)
          by_cases hpos:0<d
          · have hm:most*max 1 d=most*d:=by rw [max1,if_pos (by omega)]
            by_cases hov:4096<most*d
            · simp only [b116_0,go_sem,hlt',he8',hk0,Int.toNat_natCast,hsub,hneg,hbig,hw1,hw2,hpos,hov]
              simp only [i116,OT,reduceIte,Nat.reduceEqDiff,none_of (.inr (by rw [hm];exact hov)),optP]
            · have g1:1≤most*d:=by
                have:=Int.mul_le_mul_of_nonneg_left (a:=1) (b:=d) (c:=most) (by omega) (by omega)
                omega
              have g2:n*d≤most*d:=Int.mul_le_mul_of_nonneg_right h4 (by omega)
              have g3:cnt 1 1 s=cnt (most*d) (n*d) (s.drop (k+1)):=by rw [h5,cnt,if_neg (by rw [hm];omega),hm]
              simp only [b116_0,go_sem,hlt',he8',hk0,Int.toNat_natCast,hsub,hneg,hbig,hw1,hw2,hpos,hov,hk1]
              exact loopQ_go rfl (s.length - (k+1)) (by omega) ⟨k+1,most*d,n*d,by omega,by omega,rfl,g1,by omega,hnd.1,g2,g3,rfl⟩
          · obtain rfl:d=0:=by omega
            have g3:cnt 1 1 s=cnt most 0 (s.drop (k+1)):=by rw [h5,cnt,if_neg (by rw [max1];simp;omega)];simp [max1]
            have hnov:¬4096<most:=by omega
            simp only [b116_0,go_sem,hlt',he8',hk0,Int.toNat_natCast,hsub,hneg,hbig,hw1,hw2,hpos,hnov,hk1]
            exact loopQ_go rfl (s.length - (k+1)) (by omega) ⟨k+1,most,n*0,by omega,by omega,rfl,h1,h2,by simp,by simp;omega,by simpa using g3,rfl⟩
  · have hlt':¬(k:Int)<(s.length:Int):=by omega
    obtain rfl:k=s.length:=by omega
    have:count s=some n:=by rw [count,if_neg (by omega),h5,List.drop_length,cnt]
    simp only [b116_0,k116_0,go_sem,hlt']
    simp only [i116,OT,reduceIte,Nat.reduceEqDiff,this,optP]
end
section
variable {E:CallRel}
end
def prodW (s:List Int):Int:=s.foldl (fun n d=>IntKind.i64.wrap (n*d)) 1
section
variable {E:CallRel}
end
end Go.Proofs.Ytlejgleocnemoaa.I

namespace Go.Proofs.Ytlejgleocnemoaa.I
open Go Go.V
attribute [local go_sem_proc ↓] reduceIte
attribute [local go_sem_proc] Nat.reduceEqDiff Nat.reduceAdd Nat.reduceMul Nat.reduceLeDiff Nat.reduceLT Int.reduceToNat Int.reduceLT Int.reduceLE reduceCtorEq Nat.reduceBEq
attribute [local go_sem] mNil nat0 beq_self_eq_true mSkip mRet mExit mReg mSeq mCond mTrue mFalse mBlock mLv mCodeE mCodeR mEndN mEndR mEndE mOps mSome mGuard mGtt mGff mGtf mGft mGu mCallP mCallR mCallF mCallO mCallZ mCallG mCallM mCallV loopQ_exit loopQ_ret mO_mov mO_newnil mO_pick mO_alloc mO_box mO_build mO_bsl mO_bslF mO_newnilB mO_bslB mO_lenB mO_appB mO_allocA mO_bslA mO_appA mO_ldb mO_faddrb mRsv mO_ldf mO_ld mO_st mO_sta mO_nilchk mO_bin mO_binb mO_binp mO_bins mO_neg mO_com mO_not mO_conv mO_mk mO_mk0 mO_mkB mO_s2b mO_b2s mO_cpy mO_cut mO_faddr mO_fld mO_iaddr mO_iaddrf mO_sidx mO_len mO_lenf mO_slen mO_scut mO_app mO_ext mO_mx mO_mn mO_mkfn evalOp cutOp argsE ev getE putE cellsOf adopt rowOf binV boolV nilV ar_add ar_sub ar_mul ar_quo ar_rem ar_eq ar_ne ar_lt ar_le ar_gt ar_ge ar_and ar_or ar_xor geto bound finRet finNrm ints List.length_cons List.length_nil List.length_append List.getElem?_cons_zero List.getElem?_cons_succ List.nil_append List.cons_append List.map_cons List.map_nil List.mapM_cons List.mapM_nil Option.map_some Option.map_none Option.bind_some Option.pure_def Option.bind_eq_bind List.drop_zero or_self or_false false_or or_true true_or true_and and_true and_self decide_true decide_false Bool.false_eq_true Bool.true_eq_false Bool.not_true Bool.not_false Nat.le_refl eq_self gt_iff_lt ge_iff_le ne_eq not_true_eq_false not_false_eq_true storeOp apartOf freeze_nil refsL refs List.flatMap_cons List.flatMap_nil List.append_nil List.contains_nil List.set_cons_zero List.set_cons_succ snap snapL fill_nums flat_nums nums_length Go.V.freeze List.mapIdx_cons List.mapIdx_nil List.contains_cons Bool.or_false Bool.false_or Bool.or_true Bool.true_or
def us32 (l:List Int):AV:=.sl l.length 1 (nums .u32 l)
def trimL:List Int→List Int
  | []=>[]
  | x::xs=>match trimL xs with
    | []=>if x=0 then [] else [x]
    | y::ys=>x::y::ys
theorem trimL_snoc0:∀{l:List Int},trimL (l++[0])=trimL l
  | []=>rfl
  | x::l=>by simp only [List.cons_append,trimL,trimL_snoc0]
theorem trimL_snoc {x:Int} (h:x≠0):∀{l:List Int},trimL (l++[x])=l++[x]
  | []=>by simp [trimL,h]
  | y::l=>by
    simp only [List.cons_append,trimL,trimL_snoc h]
    cases l<;>rfl
theorem take_snoc {l:List Int} {m:Nat} (h:m<l.length):l.take (m+1)=l.take m++[l.getD m 0]:=by
  rw [List.take_add_one]
  congr 1
  simp [List.getD,h]
theorem wrap_u64 {n:Int} (h1:0≤n) (h2:n≤18446744073709551615):IntKind.u64.wrap n=n:=by
  simp only [IntKind.wrap,IntKind.bits,IntKind.signed]
  simp
  omega
theorem wrap_u32 {n:Int}:IntKind.u32.wrap n=n % 4294967296:=by
  simp only [IntKind.wrap,IntKind.bits,IntKind.signed]
  simp
def lim (n:Nat):List Int:=if n=0 then [] else if n<4294967296 then [(n:Int)] else [((n % 4294967296:Nat):Int),((n/4294967296:Nat):Int)]
theorem trim_lim {n:Nat}:trimL [((n % 4294967296:Nat):Int),((n/4294967296:Nat):Int)]=lim n:=by
  simp only [trimL,lim]
  by_cases h0:n=0
  · subst h0;rfl
  · rw [if_neg h0]
    by_cases h1:n<4294967296
    · have e1:n/4294967296=0:=by omega
      have e2:n % 4294967296=n:=by omega
      rw [if_pos h1,e1,e2]
      simp
      omega
    · have:¬((n/4294967296:Nat):Int)=0:=by omega
      rw [if_neg h1,if_neg this]
def ratC (z:Int):List AV:=[us32 (lim z.natAbs),.bool (decide (z<0)),us32 [1]]
theorem cut_to {k:IntKind} {t:List Int} {m:Nat} (h:m≤t.length):AV.sl m 1 ((nums k t).take (m*1))=.sl (t.take m).length 1 (nums k (t.take m)):=by
  simp only [nums,Nat.mul_one,List.map_take,List.length_take]
  congr 1
  omega
section
variable {E:CallRel}
theorem c139_ok {l:List Int} (hl:(l.length:Int)≤1000000000000):Go.V.Call tab E 139 [us32 l] [] (.agg [us32 (trimL l)]) []:=by
  refine Go.V.Call.mach i139 c139 rfl rfl rfl rfl ?_
  simp only [c139,go_sem,us32]
  refine mLoop (fun N st=>∃(k:Nat),k≤l.length∧N=k∧trimL l=trimL (l.take k)∧
    st=⟨[(0,us32 (l.take k)),(2,.loc 1 0 0)],[⟨false,154,1,0,0,[],false⟩,⟨true,55,1,0,1,[.arr 0 0],false⟩]⟩) l.length ⟨_,rfl,l.length,by omega,rfl,by rw [List.take_length],by rw [List.take_length];rfl⟩ ?_
  rintro N s0 ⟨k,hk,rfl,ht,rfl⟩
  have hfin:fillIn [.arr 0 0] 0 [us32 (l.take N)]=[us32 (l.take N)]:=rfl
  cases N with
  | zero=>
    simp only [b139_0,k139_0,go_sem,FL,us32]
    rw [List.take_zero,trimL] at ht
    simp only [i139,OT,reduceIte,Nat.reduceEqDiff,sub,ht,FL,List.length_cons,List.length_nil,Nat.le_refl]
  | succ m=>
    have hm:m<(l.take (m+1)).length:=by simp;omega
    have hlen:(l.take (m+1)).length=m+1:=by simp;omega
    have hlen':(((l.take (m+1)).length:Nat):Int)=((m+1:Nat):Int):=by omega
    have hpos:(0:Int)<((m+1:Nat):Int):=by omega
    have hw:IntKind.i64.wrap (((m+1:Nat):Int) - 1)=(m:Int):=by rw [wrap_i64 (by omega) (by omega)];omega
    have hm0:(0:Int)≤(m:Int):=by omega
    have hm1:(m:Int)<((m+1:Nat):Int):=by omega
    have hm2:(m:Int)≤((m+1:Nat):Int):=by omega
    have hsub:=sub_nums (k:=.u32) hm
    have hlast:(l.take (m+1)).getD m 0=l.getD m 0:=by simp [List.getD]
    have hts:=take_snoc (l:=l) (m:=m) (by omega)
    have htt:(l.take (m+1)).take m=l.take m:=by rw [List.take_take];congr 1;omega
    have hcut:=cut_to (k:=.u32) (t:=l.take (m+1)) (m:=m) (by omega)
    rw [htt] at hcut
    rw [hlast] at hsub
    by_cases h0:l.getD m 0=0
    · rw [h0] at hsub hts
      simp only [b139_0,go_sem,us32,hlen',hpos,hw,hm0,hm1,hm2,Int.toNat_natCast,hsub,Nat.sub_zero,hcut]
      refine loopQ_go rfl m (by omega) ⟨m,by omega,rfl,?_,rfl⟩
      rw [ht,hts,trimL_snoc0]
    · have h0':(l.getD m 0==0)=false:=by simpa using h0
      simp only [b139_0,k139_0,go_sem,us32,hlen',hpos,hw,hm0,hm1,hm2,Int.toNat_natCast,hsub,h0',FL]
      rw [hts,trimL_snoc h0,←hts] at ht
      simp only [i139,OT,reduceIte,Nat.reduceEqDiff,sub,ht,FL,List.length_cons,List.length_nil,Nat.le_refl]
theorem c114_ok {n:Nat} (hn:n<18446744073709551616):Go.V.Call tab E 114 [.int .u64 n] [] (.agg [us32 (lim n)]) []:=by
  refine Go.V.Call.mach i114 c114 rfl rfl rfl rfl ?_
  have h1:IntKind.u32.wrap (n:Int)=((n % 4294967296:Nat):Int):=by rw [wrap_u32];omega
  have h2:IntKind.u32.wrap (((n/4294967296:Nat):Int))=((n/4294967296:Nat):Int):=by rw [wrap_u32];omega
  have h3:shiftOp .shr .u64 (n:Int) 32=some (.int .u64 ((n/4294967296:Nat):Int)):=by
    simp [shiftOp,IntKind.bits,Int.fdiv_eq_ediv_of_nonneg]
  have h:=c139_ok (E:=E) (l:=[((n % 4294967296:Nat):Int),((n/4294967296:Nat):Int)]) (by simp)
  rw [trim_lim] at h
  simp only [c114,go_sem,h1,h2,h3,List.flatten_cons,List.flatten_nil,Option.getD_some]
  refine goF h ?_
  simp only [go_sem,FL,us32]
  simp only [i114,OT,reduceIte,Nat.reduceEqDiff,sub,FL,List.length_cons,List.length_nil,Nat.le_refl]
theorem c123_ok {l:List Int}:Go.V.Call tab E 123 [.agg [us32 l]] [] (.bool ((l.length:Int)==0)) []:=by
  refine Go.V.Call.mach i123 c123 rfl rfl rfl rfl ?_
  simp only [c123,go_sem,us32,sub,FL]
  simp only [i123,OT,reduceIte,Nat.reduceEqDiff]
theorem c113_ok {z:Int} (hz:In64 z):Go.V.Call tab E 113 [.int .i64 z] [] (.agg [us32 (lim z.natAbs),.bool (decide (z<0))]) []:=by
  obtain ⟨hz1,hz2⟩:=hz
  refine Go.V.Call.mach i113 c113 rfl rfl rfl rfl ?_
  by_cases h0:z<0
  · have e1:IntKind.i64.wrap (z+1)=z+1:=wrap_i64 (by omega) (by omega)
    have e2:IntKind.i64.wrap (0 - (z+1)) = -(z+1):=by rw [wrap_i64 (by omega) (by omega)];omega
    have e3:IntKind.u64.wrap (-(z+1)) = -(z+1):=wrap_u64 (by omega) (by omega)
    have e4:IntKind.u64.wrap (-(z+1)+1)=(z.natAbs:Int):=by rw [wrap_u64 (by omega) (by omega)];omega
    simp only [c113,go_sem,h0,e1,e2,e3,e4,snap]
    refine goP (c114_ok (by omega)) ?_
    simp only [go_sem,FL,us32]
    simp only [i113,OT,reduceIte,Nat.reduceEqDiff,sub,FL,List.length_cons,List.length_nil,Nat.le_refl]
  · have e1:IntKind.u64.wrap z=(z.natAbs:Int):=by rw [wrap_u64 (by omega) (by omega)];omega
    simp only [c113,go_sem,h0,e1,snap]
    refine goP (c114_ok (by omega)) ?_
    simp only [go_sem,FL,us32]
    simp only [i113,OT,reduceIte,Nat.reduceEqDiff,sub,FL,List.length_cons,List.length_nil,Nat.le_refl]
theorem c114_one:Go.V.Call tab E 114 [.int .u64 1] [] (.agg [us32 [1]]) []:=c114_ok (n:=1) (by omega)
theorem c53_ok {z:Int} (hz:In64 z):Go.V.Call tab E 53 [.int .i64 z] [] (.agg (ratC z)) []:=by
  refine Go.V.Call.mach i53 c53 rfl rfl rfl rfl ?_
  simp only [c53,go_sem,snap]
  refine goP (c113_ok hz) ?_
  simp only [go_sem]
  refine goP c114_one ?_
  simp only [go_sem,FL,us32]
  simp only [i53,OT,reduceIte,Nat.reduceEqDiff,sub,FL,List.length_cons,List.length_nil,Nat.le_refl,ratC,us32]
theorem or_shl {a b:Nat} (ha:a<4294967296) (hb:b<4294967296):IntKind.u64.wrap (((BitVec.ofInt 64 (a:Int) ||| BitVec.ofInt 64 ((b:Int)*4294967296)).toNat:Nat):Int)=(b:Int)*4294967296+a:=by
  have h1:(BitVec.ofInt 64 (a:Int)).toNat=a:=by simp [BitVec.toNat_ofInt];omega
  have h2:(BitVec.ofInt 64 ((b:Int)*4294967296)).toNat=b*4294967296:=by simp [BitVec.toNat_ofInt];omega
  rw [BitVec.toNat_or,h1,h2]
  have h3:a ||| b*4294967296=b*4294967296+a:=by
    have:=Nat.shiftLeft_add_eq_or_of_lt (i:=32) (b:=a) (by simpa using ha) b
    rw [Nat.shiftLeft_eq] at this
    rw [Nat.or_comm]
    simpa using this.symm
  rw [h3,wrap_u64 (by omega) (by omega)]
  omega
theorem c152_ok {n:Nat} (hn:n<18446744073709551616):Go.V.Call tab E 152 [.agg [us32 (lim n)]] [] (.tup [.int .u64 n,.bool true]) []:=by
  refine Go.V.Call.mach i152 c152 rfl rfl rfl rfl ?_
  by_cases h0:n=0
  · subst h0
    simp only [c152,go_sem,us32,sub,FL,lim,nums]
    simp only [i152,OT,reduceIte,Nat.reduceEqDiff]
  · by_cases h1:n<4294967296
    · have hw:IntKind.u64.wrap (n:Int)=(n:Int):=wrap_u64 (by omega) (by omega)
      simp only [c152,go_sem,us32,sub,FL,lim,nums,h0,h1,show ((1:Nat):Int)=1 from rfl,show ((1:Int)==0)=false from rfl,hw]
      simp only [i152,OT,reduceIte,Nat.reduceEqDiff]
    · have e1:=or_shl (a:=n % 4294967296) (b:=n/4294967296) (by omega) (by omega)
      have e2:((n/4294967296:Nat):Int)*4294967296+((n % 4294967296:Nat):Int)=(n:Int):=by omega
      rw [e2] at e1
      have w1:IntKind.u64.wrap ((n % 4294967296:Nat):Int)=((n % 4294967296:Nat):Int):=wrap_u64 (by omega) (by omega)
      have w2:IntKind.u64.wrap ((n/4294967296:Nat):Int)=((n/4294967296:Nat):Int):=wrap_u64 (by omega) (by omega)
      have w3:shiftOp .shl .u64 ((n/4294967296:Nat):Int) 32=some (.int .u64 (((n/4294967296:Nat):Int)*4294967296)):=by
        have:IntKind.u64.wrap (((n/4294967296:Nat):Int)*4294967296)=((n/4294967296:Nat):Int)*4294967296:=wrap_u64 (by omega) (by omega)
        simp only [shiftOp,IntKind.bits]
        simp
        exact this
      simp only [c152,go_sem,us32,sub,FL,lim,nums,h0,h1,show ((2:Nat):Int)=2 from rfl,show ((2:Int)==0)=false from rfl,show ((2:Int)==1)=false from rfl,w1,w2,w3]
      simp only [i152,OT,reduceIte,Nat.reduceEqDiff]
      exact congrArg (fun x=>some (AV.tup [AV.int .u64 x,.bool true])) e1
end
def nval:List Int→Nat
  | []=>0
  | x::xs=>x.toNat+4294967296*nval xs
def R32 (l:List Int):Prop:=∀x∈l,0≤x∧x<4294967296
def limG (n:Nat):List Int:=if h:n=0 then [] else ((n % 4294967296:Nat):Int)::limG (n/4294967296)
termination_by n
decreasing_by omega
theorem limG_zero:limG 0=[]:=by rw [limG];rfl
theorem limG_pos {n:Nat} (h:n≠0):limG n=((n % 4294967296:Nat):Int)::limG (n/4294967296):=by
  rw [limG,dif_neg h]
theorem lim_limG {n:Nat} (h:n<18446744073709551616):lim n=limG n:=by
  unfold lim
  by_cases h0:n=0
  · subst h0;rw [limG_zero];rfl
  · rw [if_neg h0,limG_pos h0]
    by_cases h1:n<4294967296
    · rw [if_pos h1,Nat.mod_eq_of_lt h1,Nat.div_eq_of_lt h1,limG_zero]
    · have e1:n/4294967296≠0:=by omega
      have e2:n/4294967296/4294967296=0:=by omega
      have e3:n/4294967296 % 4294967296=n/4294967296:=by omega
      rw [if_neg h1,limG_pos e1,e2,e3,limG_zero]
theorem nval_limG:∀{n:Nat},nval (limG n)=n:=by
  intro n
  induction n using Nat.strongRecOn with
  | _ n ih=>
    by_cases h0:n=0
    · subst h0;rw [limG_zero];rfl
    · rw [limG_pos h0,nval,ih _ (by omega)]
      omega
theorem R32_limG:∀{n:Nat},R32 (limG n):=by
  intro n
  induction n using Nat.strongRecOn with
  | _ n ih=>
    by_cases h0:n=0
    · subst h0;rw [limG_zero];intro x hx;simp at hx
    · rw [limG_pos h0]
      intro x hx
      rcases List.mem_cons.1 hx with rfl|hx
      · omega
      · exact ih _ (by omega) x hx
theorem limG_mono:∀{b a:Nat},a≤b→(limG a).length≤(limG b).length:=by
  intro b
  induction b using Nat.strongRecOn with
  | _ b ih=>
    intro a hab
    by_cases h0:a=0
    · subst h0;rw [limG_zero];simp
    · rw [limG_pos h0,limG_pos (n:=b) (by omega),List.length_cons,List.length_cons]
      have:=ih (b/4294967296) (by omega) (a:=a/4294967296) (Nat.div_le_div_right hab)
      omega
theorem trimL_limG:∀{l:List Int},R32 l→trimL l=limG (nval l)
  | [],_=>by rw [nval,limG_zero];rfl
  | x::xs,h=>by
    have h':R32 xs:=fun y hy=>h y (by simp [hy])
    have hx:=h x (by simp)
    have ih:=trimL_limG h'
    rw [trimL,ih,nval]
    by_cases hv:nval xs=0
    · rw [hv,limG_zero,Nat.mul_zero,Nat.add_zero]
      by_cases h0:x=0
      · subst h0;simp [limG_zero]
      · have e1:x.toNat≠0:=by omega
        have e2:x.toNat % 4294967296=x.toNat:=by omega
        have e3:x.toNat/4294967296=0:=by omega
        have e4:(x.toNat:Int)=x:=by omega
        rw [if_neg h0,limG_pos e1,e2,e3,limG_zero,e4]
    · have e1:(x.toNat+4294967296*nval xs)/4294967296=nval xs:=by omega
      have e2:(((x.toNat+4294967296*nval xs) % 4294967296:Nat):Int)=x:=by omega
      rw [limG_pos (n:=x.toNat+4294967296*nval xs) (by omega),e1,e2]
      cases hq:limG (nval xs) with
      | nil=>
        have:=nval_limG (n:=nval xs)
        rw [hq] at this
        exact absurd this.symm hv
      | cons y ys=>rfl
def dgs (n:Nat):List Int:=if h:n=0 then [] else ((n % 10:Nat):Int)::dgs (n/10)
termination_by n
decreasing_by omega
theorem dgs_zero:dgs 0=[]:=by rw [dgs];rfl
theorem dgs_pos {n:Nat} (h:n≠0):dgs n=((n % 10:Nat):Int)::dgs (n/10):=by
  rw [dgs,dif_neg h]
theorem dgs_range:∀{n:Nat},∀d∈dgs n,0≤d∧d≤9:=by
  intro n
  induction n using Nat.strongRecOn with
  | _ n ih=>
    by_cases h0:n=0
    · subst h0;rw [dgs_zero];intro d hd;simp at hd
    · rw [dgs_pos h0]
      intro d hd
      rcases List.mem_cons.1 hd with rfl|hd
      · omega
      · exact ih _ (by omega) d hd
theorem dgs_last:∀{n:Nat},n≠0→∃l d,dgs n=l++[d]∧1≤d∧d≤9:=by
  intro n
  induction n using Nat.strongRecOn with
  | _ n ih=>
    intro h0
    rw [dgs_pos h0]
    by_cases h1:n/10=0
    · rw [h1,dgs_zero]
      exact ⟨[],_,rfl,by omega,by omega⟩
    · obtain ⟨l,d,e,h2⟩:=ih _ (by omega) h1
      rw [e]
      exact ⟨_::l,d,rfl,h2⟩
theorem nums_app {k:IntKind} {a b:List Int}:nums k (a++b)=nums k a++nums k b:=by simp [nums]
def bs (l:List Int):ByteArray:=⟨(l.map fun n=>UInt8.ofNat n.toNat).toArray⟩
def asc (l:List Int):List Int:=l.map fun d=>48+d
def dec (n:Nat):ByteArray:=if n=0 then ⟨#[48]⟩ else bs (asc (dgs n)).reverse
theorem bytesOf_nums:∀{l:List Int},bytesOfAV (nums .u8 l)=some (bs l):=by
  intro l
  have:(nums .u8 l).mapM byteOfAV=some (l.map fun n=>UInt8.ofNat n.toNat):=by
    induction l with
    | nil=>rfl
    | cons x l ih=>
      have e:nums .u8 (x::l)=.int .u8 x::nums .u8 l:=rfl
      rw [e,List.mapM_cons,ih]
      rfl
  simp only [bytesOfAV,this,Option.map_some,bs]
theorem bs_size {l:List Int}:(bs l).size=l.length:=by simp [bs,ByteArray.size]
def ratsC (l:List Int):List AV:=l.flatMap ratC
theorem subT3 {a b c:AV}:sub true 3 [a,b,c] 0=some (.agg [a,b,c]):=rfl
def arrV (s:List Int) (l:List Int):List AV:=[ints s,.bool false,.sl 0 1 [],.sl l.length 3 (ratsC l),.bool true]
section
variable {E:CallRel}
end
section
theorem c102_ok {s:List Int} (hs:(s.length:Int)≤1000000000000):Go.V.Call tab E 102 [ints s] [] (.arr 0 0) [⟨false,3,1,0,s.length,nums .i64 s,false⟩]:=by
  refine ⟨0,?_⟩
  have h1:s.length*8≤140737488355328:=by omega
  have h2:s.length≤140737488355328:=by omega
  simp only [CallN,E,ext,cloneOf,ints,h1,h2,and_self,if_true]
end
section
variable {E:CallRel}
def rowI (l:List Int):AObj:=⟨false,3,1,0,l.length,nums .i64 l,false⟩
end
theorem ratsC_snoc {l:List Int} {z:Int}:ratsC (l++[z])=ratsC l++ratC z:=by simp [ratsC]
theorem subA5 {a b c d e:AV}:sub true 5 [a,b,c,d,e] 0=some (.agg [a,b,c,d,e]):=rfl
theorem subA3 {a b c d e:AV}:sub false 1 [a,b,c,d,e] 3=some d:=rfl
section
variable {E:CallRel}
theorem c11_ok {l:List Int} (hl:(l.length:Int)≤1000000000000) (hz:∀z∈l,In64 z):Go.V.Call tab E 11 [ints l] [] (.agg (arrV [(l.length:Int)] l)) []:=by
  refine Go.V.Call.mach i11 c11 rfl rfl rfl rfl ?_
  simp only [c11,go_sem,FL,List.flatten_cons,List.flatten_nil,Option.getD_some]
  refine mLoop (fun N st=>∃(i:Nat),i≤l.length∧N=l.length - i∧
    st=⟨[(2,.loc 3 0 0),(3,.loc 8 0 0),(10,ints l),(11,.int .i64 l.length),(12,.int .i64 i)],
      [⟨false,3,1,0,0,[],false⟩,⟨false,21,1,0,0,[],false⟩,⟨false,59,3,0,0,[],false⟩,⟨true,28,5,0,1,[.arr 0 0,.bool false,.arr 1 0,.arr 2 0,.bool false],false⟩,
       ⟨false,3,1,0,1,[.int .i64 l.length],false⟩,⟨false,3,1,0,0,[],false⟩,⟨false,21,1,0,0,[],false⟩,⟨false,59,3,0,0,[],false⟩,⟨true,28,5,0,1,[.arr 4 0,.bool false,.arr 9 0,.arr 10 i,.bool true],false⟩,
       ⟨false,21,1,0,0,[],false⟩,⟨false,59,3,i,i,ratsC (l.take i),false⟩]⟩) l.length
    ⟨_,rfl,0,by omega,by omega,by simp [getE,ints,ratsC]⟩ ?_
  rintro N s0 ⟨i,hi,rfl,rfl⟩
  by_cases hlt:i<l.length
  · have hlt':(i:Int)<(l.length:Int):=by omega
    have hi0:(0:Int)≤(i:Int):=by omega
    have hi1:IntKind.i64.wrap ((i:Int)+1)=((i+1:Nat):Int):=by rw [wrap_i64 (by omega) (by omega)];omega
    have hsub:=sub_nums (k:=.i64) hlt
    have hzi:In64 (l.getD i 0):=hz _ (by simp [List.getD,hlt])
    have htk:=take_snoc hlt
    have e1:(i+1)*56≤140737488355328:=by omega
    have e2:i+1≤140737488355328:=by omega
    simp only [b11_0,go_sem,hlt',hi0,Int.toNat_natCast,hsub,subA3,Nat.zero_add]
    refine goP (c53_ok hzi) ?_
    simp only [go_sem,FL,hi1,e1,e2,ratC,us32,List.flatten_cons,List.flatten_nil,Option.getD_some]
    refine loopQ_go rfl (l.length - (i+1)) (by omega) ⟨i+1,by omega,rfl,?_⟩
    rw [htk,ratsC_snoc]
    rfl
  · have hlt':¬(i:Int)<(l.length:Int):=by omega
    obtain rfl:i=l.length:=by omega
    simp only [b11_0,k11_0,go_sem,hlt',List.take_length,subA5,FL]
    simp only [i11,OT,reduceIte,Nat.reduceEqDiff,arrV,subA5,nums,List.map_cons,List.map_nil,List.length_cons,List.length_nil]
end
def us (l:List Int):AV:=.sl l.length 1 (nums .u64 l)
def srcR (l:List Int):AObj:=⟨false,145,1,0,l.length,nums .u64 l,false⟩
def srcB (i:Nat):AObj:=⟨true,9112,2,0,1,[.arr 0 0,.int .i64 i],false⟩
section
variable {E:CallRel}
end
theorem getD_fill {y:List Int} {m j:Nat} {v:Int} (h:m<y.length):(y.take m++v::y.drop (m+1)).getD j 0=if j=m then v else y.getD j 0:=by
  simp only [List.getD,List.getElem?_append,List.length_take,Nat.min_eq_left (Nat.le_of_lt h)]
  by_cases h1:j<m
  · rw [if_pos h1,if_neg (by omega),List.getElem?_take,if_pos h1]
  · rw [if_neg h1]
    by_cases h2:j=m
    · subst h2;simp
    · rw [if_neg h2]
      obtain ⟨d,rfl⟩:∃d,j=m+1+d:=⟨j - m - 1,by omega⟩
      rw [show m+1+d - m=d+1 by omega,List.getElem?_cons_succ,List.getElem?_drop]
theorem fill_len {y:List Int} {m:Nat} {v:Int} (h:m<y.length):(y.take m++v::y.drop (m+1)).length=y.length:=by
  simp;omega
def Good (o n:Int) (c:List Int):Prop:=(∀i j,i<c.length→j<c.length→c.getD i 0=c.getD j 0→i=j)∧∀i,i<c.length→o≤c.getD i 0∧c.getD i 0<o+n
def swp (c:List Int) (i k:Nat):List Int:=
  (c.take i++c.getD k 0::c.drop (i+1)).take k++c.getD i 0::(c.take i++c.getD k 0::c.drop (i+1)).drop (k+1)
theorem swp_len {c:List Int} {i k:Nat} (hi:i<c.length) (hk:k<c.length):(swp c i k).length=c.length:=by
  unfold swp
  rw [fill_len (by rw [fill_len hi];exact hk),fill_len hi]
theorem swp_get {c:List Int} {i k j:Nat} (hi:i<c.length) (hk:k<c.length):(swp c i k).getD j 0=if j=k then c.getD i 0 else if j=i then c.getD k 0 else c.getD j 0:=by
  unfold swp
  rw [getD_fill (by rw [fill_len hi];exact hk),getD_fill hi]
def sig (i k j:Nat):Nat:=if j=k then i else if j=i then k else j
theorem sig_inj {i k a b:Nat} (h:sig i k a=sig i k b):a=b:=by
  unfold sig at h
  split at h<;>split at h<;>(try split at h)<;>(try split at h)<;>omega
theorem Good.swp {o n:Int} {c:List Int} {i k:Nat} (h:Good o n c) (hi:i<c.length) (hk:k<c.length):Good o n (swp c i k):=by
  obtain ⟨h1,h2⟩:=h
  have hg:∀j,(I.swp c i k).getD j 0=c.getD (sig i k j) 0:=fun j=>by
    rw [swp_get hi hk]
    unfold sig
    split
    · rfl
    · split<;>rfl
  have hl:∀j,j<c.length→sig i k j<c.length:=fun j hj=>by
    unfold sig
    split
    · exact hi
    · split
      · exact hk
      · exact hj
  refine ⟨fun a b ha hb hab=>?_,fun a ha=>?_⟩
  · rw [swp_len hi hk] at ha hb
    rw [hg,hg] at hab
    exact sig_inj (h1 _ _ (hl a ha) (hl b hb) hab)
  · rw [swp_len hi hk] at ha
    rw [hg]
    exact h2 _ (hl a ha)
def pl:Int→List Int→List Int→Option Int
  | n,d::ds,x::xs=>if x<0∨d≤x then none else pl (n*d+x) ds xs
  | n,_,_=>some n
def place (s idx:List Int):Option Int:=if count s=none∨s.length≠idx.length then none else pl 0 s idx
section
variable {E:CallRel}
def PlI (s idx:List Int) (k:Nat) (n:Int):Prop:=
  count s≠none→∃most m,count s=cnt most m (s.drop k)∧1≤most∧most≤4096∧0≤n∧n<most∧pl 0 s idx=pl n (s.drop k) (idx.drop k)
theorem PlI.zero {s idx:List Int}:PlI s idx 0 0:=fun h=>by
  refine ⟨1,1,?_,by omega,by omega,by omega,by omega,by simp⟩
  unfold count at h ⊢
  split
  · rename_i h8;rw [if_pos h8] at h;exact absurd rfl h
  · simp
theorem PlI.step {s idx:List Int} {k:Nat} {n:Int} (h:PlI s idx k n) (h1:k<s.length) (h2:k<idx.length) (hx:¬idx.getD k 0<0) (hd:¬s.getD k 0≤idx.getD k 0) :
    PlI s idx (k+1) (IntKind.i64.wrap (IntKind.i64.wrap (n*s.getD k 0)+idx.getD k 0)):=by
  intro hc
  obtain ⟨most,m,g1,g2,g3,g4,g5,g6⟩:=h hc
  rw [getD_drop h1] at g1 g6
  rw [getD_drop h2] at g6
  generalize s.getD k 0=d at *
  generalize idx.getD k 0=x at *
  rw [cnt] at g1
  split at g1
  · exact absurd g1 hc
  · rename_i hno
    have hm:max 1 d=d:=by rw [max1,if_pos (by omega)]
    rw [hm] at g1 hno
    have b1:n*d≤(most - 1)*d:=Int.mul_le_mul_of_nonneg_right (by omega) (by omega)
    have b2:0≤n*d:=Int.mul_nonneg g4 (by omega)
    have b3:(most - 1)*d=most*d - d:=by rw [Int.sub_mul];omega
    have w1:IntKind.i64.wrap (n*d)=n*d:=wrap_i64 (by omega) (by omega)
    have w2:IntKind.i64.wrap (n*d+x)=n*d+x:=wrap_i64 (by omega) (by omega)
    rw [w1,w2]
    refine ⟨most*d,m*d,g1,by omega,by omega,by omega,by omega,?_⟩
    rw [g6,pl,if_neg (by omega)]
theorem PlI.done {s idx:List Int} {k:Nat} {n:Int} (h:PlI s idx k n) (h1:s.length≤k∨idx.length≤k) (hc:count s≠none):0≤n∧pl 0 s idx=some n:=by
  obtain ⟨most,m,g1,g2,g3,g4,g5,g6⟩:=h hc
  refine ⟨g4,?_⟩
  rw [g6]
  rcases h1 with h1|h1
  · rw [List.drop_eq_nil_of_le h1,pl]
    intro _ _ _ _ h;cases h
  · rw [List.drop_eq_nil_of_le h1,pl]
    intro _ _ _ _ _ h;cases h
end
def ix:List Int→Int→List Int × Int
  | [],a=>([],a)
  | d::ds,a=>((ix ds a).2 % d::(ix ds a).1,(ix ds a).2/d)
def index (s:List Int) (a:Int):Option (List Int):=
  match count s with
  | none=>none
  | some n=>if a<0∨n≤a then none else some (ix s a).1
def optL:Option (List Int)→AV
  | some l=>.tup [ints l,.bool true]
  | none=>.tup [.sl 0 1 [],.bool false]
section
variable {E:CallRel}
end
def strW:List Int→List Int
  | []=>[]
  | _::ds=>prodW ds::strW ds
section
variable {E:CallRel}
end
end Go.Proofs.Ytlejgleocnemoaa.I

namespace Go.Proofs.Ytlejgleocnemoaa.I
open Go Go.V
attribute [local go_sem_proc ↓] reduceIte
attribute [local go_sem_proc] Nat.reduceEqDiff Nat.reduceAdd Nat.reduceMul Nat.reduceLeDiff Nat.reduceLT Int.reduceToNat Int.reduceLT Int.reduceLE reduceCtorEq Nat.reduceBEq
attribute [local go_sem] mNil nat0 beq_self_eq_true mSkip mRet mExit mReg mSeq mCond mTrue mFalse mBlock mLv mCodeE mCodeR mEndN mEndR mEndE mOps mSome mGuard mGtt mGff mGtf mGft mGu mCallP mCallR mCallF mCallO mCallZ mCallG mCallM mCallV loopQ_exit loopQ_ret mO_mov mO_newnil mO_pick mO_alloc mO_box mO_build mO_bsl mO_bslF mO_newnilB mO_bslB mO_lenB mO_appB mO_allocA mO_bslA mO_appA mO_ldb mO_faddrb mRsv mO_ldf mO_ld mO_st mO_sta mO_nilchk mO_bin mO_binb mO_binp mO_bins mO_neg mO_com mO_not mO_conv mO_mk mO_mk0 mO_mkB mO_s2b mO_b2s mO_cpy mO_cut mO_faddr mO_fld mO_iaddr mO_iaddrf mO_sidx mO_len mO_lenf mO_slen mO_scut mO_app mO_ext mO_mx mO_mn mO_mkfn evalOp cutOp argsE ev getE putE cellsOf adopt rowOf binV boolV nilV ar_add ar_sub ar_mul ar_quo ar_rem ar_eq ar_ne ar_lt ar_le ar_gt ar_ge ar_and ar_or ar_xor geto bound finRet finNrm ints List.length_cons List.length_nil List.length_append List.getElem?_cons_zero List.getElem?_cons_succ List.nil_append List.cons_append List.map_cons List.map_nil List.mapM_cons List.mapM_nil Option.map_some Option.map_none Option.bind_some Option.pure_def Option.bind_eq_bind List.drop_zero or_self or_false false_or or_true true_or true_and and_true and_self decide_true decide_false Bool.false_eq_true Bool.true_eq_false Bool.not_true Bool.not_false Nat.le_refl eq_self gt_iff_lt ge_iff_le ne_eq not_true_eq_false not_false_eq_true
theorem shl_or {a b:Nat} (ha:a<4294967296) (hb:b<4294967296):IntKind.u64.wrap (((BitVec.ofInt 64 ((b:Int)*4294967296) ||| BitVec.ofInt 64 (a:Int)).toNat:Nat):Int)=(b:Int)*4294967296+a:=by
  rw [BitVec.or_comm]
  exact or_shl ha hb
theorem shl32 {b:Nat} (hb:b<4294967296):shiftOp .shl .u64 (b:Int) 32=some (.int .u64 ((b:Int)*4294967296)):=by
  have:IntKind.u64.wrap ((b:Int)*4294967296)=(b:Int)*4294967296:=wrap_u64 (by omega) (by omega)
  simp only [shiftOp,IntKind.bits]
  simp
  exact this
theorem small_step {d x v:Nat} (hd:0<d):(x+4294967296*v)/d=4294967296*(v/d)+(v % d*4294967296+x)/d∧(x+4294967296*v) % d=(v % d*4294967296+x) % d:=by
  have e:x+4294967296*v=(v % d*4294967296+x)+d*(4294967296*(v/d)):=by
    have h:=Nat.div_add_mod v d
    have h2:4294967296*v=4294967296*(d*(v/d))+4294967296*(v % d):=by rw [←Nat.mul_add,h]
    have h3:d*(4294967296*(v/d))=4294967296*(d*(v/d)):=by rw [←Nat.mul_assoc,←Nat.mul_assoc,Nat.mul_comm d]
    omega
  rw [e,Nat.add_mul_div_left _ _ hd,Nat.add_mul_mod_self_left]
  exact ⟨by omega,rfl⟩
theorem subB1 {a:AV}:sub false 1 [a] 0=some a:=rfl
section
variable {E:CallRel}
theorem c124_ok {l:List Int} {d:Nat} (hl:R32 l) (hll:(l.length:Int)≤1000000000000) (hd:0<d∧d<4294967296):Go.V.Call tab E 124 [.agg [us32 l],.int .u32 d] [] (.tup [.agg [us32 (limG (nval l/d))],.int .u32 ((nval l % d:Nat):Int)]) []:=by
  refine Go.V.Call.mach i124 c124 rfl rfl rfl rfl ?_
  have b1:(0:Int)≤(l.length:Int):=by omega
  have b2:4*l.length≤140737488355328:=by omega
  have b3:(l.length:Int)≤140737488355328:=by omega
  have w0:IntKind.i64.wrap ((l.length:Int) - 1)=(l.length:Int) - 1:=wrap_i64 (by omega) (by omega)
  simp only [c124,us32,go_sem,storeOp,apartOf,freeze_nil,refsL,refs,List.flatMap_cons,List.flatMap_nil,List.append_nil,List.contains_nil,List.set_cons_zero,List.set_cons_succ,snap,snapL,fill_nums,flat_nums,nums_length,sub,FL,Go.V.freeze,List.mapIdx_cons,List.mapIdx_nil,List.contains_cons,Nat.reduceBEq,Bool.or_false,Bool.false_or,Bool.or_true,Bool.true_or,b1,b2,b3,w0,Int.toNat_natCast,flat_nums]
  refine mLoop (fun N st=>∃(j:Nat) (jj:Int) (q:List Int),j≤l.length∧N=j∧jj=(j:Int) - 1∧R32 q∧q.length=l.length - j∧nval q=nval (l.drop j)/d∧
    st=⟨[(1,.int .u32 d),(2,.loc 0 0 0),(4,.loc 2 0 0),(6,.arr 3 0),(7,.int .u64 ((nval (l.drop j) % d:Nat):Int)),(8,.int .i64 jj)],
      [⟨true,55,1,0,1,[us32 l],false⟩,⟨false,154,1,0,0,[],false⟩,⟨true,55,1,0,1,[.arr 1 0],false⟩,⟨false,154,1,0,l.length,nums .u32 (List.replicate j 0++q),false⟩]⟩) l.length
    ⟨_,rfl,l.length,_,[],by omega,rfl,rfl,fun x hx=>by simp at hx,by simp,by rw [List.drop_length];simp [nval],by rw [List.drop_length,List.append_nil];simp [nval,getE,us32]⟩ ?_
  rintro N s0 ⟨j,jj,q,hj,rfl,hjj,hq,hql,hqv,rfl⟩
  cases N with
  | zero=>
    have hjn:¬0≤jj:=by omega
    rw [List.drop_zero] at hqv
    have h114:=c139_ok (E:=E) (l:=q) (by omega)
    rw [trimL_limG hq,hqv] at h114
    have w1:IntKind.u32.wrap ((nval l % d:Nat):Int)=((nval l % d:Nat):Int):=by
      have:=Nat.mod_lt (nval l) hd.1
      rw [wrap_u32];omega
    have hlen:l.length=q.length:=by omega
    simp only [b124_0,k124_0,us32,go_sem,storeOp,apartOf,freeze_nil,refsL,refs,List.flatMap_cons,List.flatMap_nil,List.append_nil,List.contains_nil,List.set_cons_zero,List.set_cons_succ,snap,snapL,fill_nums,flat_nums,nums_length,FL,Go.V.freeze,List.mapIdx_cons,List.mapIdx_nil,List.contains_cons,Nat.reduceBEq,Bool.or_false,Bool.false_or,Bool.or_true,Bool.true_or,hjn,List.replicate_zero,List.drop_zero,hlen]
    refine goF h114 ?_
    simp only [us32,go_sem,storeOp,apartOf,freeze_nil,refsL,refs,List.flatMap_cons,List.flatMap_nil,List.append_nil,List.contains_nil,List.set_cons_zero,List.set_cons_succ,snap,snapL,fill_nums,flat_nums,nums_length,FL,Go.V.freeze,List.mapIdx_cons,List.mapIdx_nil,List.contains_cons,Nat.reduceBEq,Bool.or_false,Bool.false_or,Bool.or_true,Bool.true_or,w1]
    simp only [i124,OT,reduceIte,Nat.reduceEqDiff,sub,FL,List.length_cons,List.length_nil,Nat.le_refl,us32]
  | succ k=>
    obtain rfl:jj=(k:Int):=by omega
    have hlt:k<l.length:=by omega
    have hlt':(k:Int)<(l.length:Int):=by omega
    have hk0:(0:Int)≤(k:Int):=by omega
    have hk1:IntKind.i64.wrap ((k:Int) - 1)=(k:Int) - 1:=wrap_i64 (by omega) (by omega)
    have hsub:=sub_nums (k:=.u32) hlt
    have hx:=hl (l.getD k 0) (by simp [List.getD,hlt])
    have hdr:=getD_drop hlt
    obtain ⟨x,hxx⟩:=Int.eq_ofNat_of_zero_le hx.1
    rw [hxx] at hsub hdr
    have hxl:x<4294967296:=by omega
    have hr:=Nat.mod_lt (nval (l.drop (k+1))) hd.1
    have hnv:nval (l.drop k)=x+4294967296*nval (l.drop (k+1)):=by rw [hdr,nval,Int.toNat_natCast]
    obtain ⟨s1,s2⟩:=small_step (d:=d) (x:=x) (v:=nval (l.drop (k+1))) hd.1
    rw [←hnv] at s1 s2
    generalize nval (l.drop (k+1))=V at *
    have hrl:V % d<4294967296:=by omega
    have wx:IntKind.u64.wrap (x:Int)=(x:Int):=wrap_u64 (by omega) (by omega)
    have wd:IntKind.u64.wrap (d:Int)=(d:Int):=wrap_u64 (by omega) (by omega)
    have hs:=shl32 hrl
    have ho:=shl_or hxl hrl
    have et:((V % d:Nat):Int)*4294967296+(x:Int)=((V % d*4294967296+x:Nat):Int):=by omega
    rw [et] at ho
    generalize hT:V % d*4294967296+x=T at *
    have hTd:T<d*4294967296:=by
      have:V % d*4294967296+4294967296≤d*4294967296:=by
        rw [←Nat.succ_mul]
        exact Nat.mul_le_mul_right _ hr
      omega
    have hTq:T/d<4294967296:=(Nat.div_lt_iff_lt_mul hd.1).2 (by rw [Nat.mul_comm];exact hTd)
    have ho':IntKind.u64.wrap (((BitVec.ofInt IntKind.u64.bits (((V % d:Nat):Int)*4294967296) ||| BitVec.ofInt IntKind.u64.bits (x:Int)).toNat:Nat):Int)=(T:Int):=ho
    have hd0:¬(d:Int)=0:=by omega
    have hquo:Int.tdiv (T:Int) (d:Int)=((T/d:Nat):Int):=by
      rw [Int.tdiv_eq_ediv_of_nonneg (by omega),←Int.natCast_ediv]
    have hrem:Int.tmod (T:Int) (d:Int)=((T % d:Nat):Int):=by
      rw [Int.tmod_eq_emod_of_nonneg (by omega),←Int.natCast_emod]
    have hnew:(List.take k (List.replicate (k+1) (0:Int)++q)++((T/d:Nat):Int)::List.drop (k+1) (List.replicate (k+1) (0:Int)++q))=List.replicate k 0++((T/d:Nat):Int)::q:=by
      rw [List.take_append_of_le_length (by simp),List.take_replicate,List.drop_append_of_le_length (by simp)]
      simp
    have hfin:nval (((T/d:Nat):Int)::q)=nval (l.drop k)/d:=by rw [nval,Int.toNat_natCast,hqv,s1];omega
    rw [←s2] at hrem
    generalize T/d=Q at *
    have hquo':IntKind.u64.wrap (Q:Int)=(Q:Int):=wrap_u64 (by omega) (by omega)
    have hc:IntKind.u32.wrap (Q:Int)=(Q:Int):=by rw [wrap_u32];omega
    have hst:k*1+1≤(List.replicate (k+1) (0:Int)).length+q.length:=by simp
    simp only [b124_0,us32,mNil,nat0,beq_self_eq_true,mSkip,mRet,mExit,mReg,mSeq,mCond,mTrue,mFalse,mBlock,mLv,mCodeE,mCodeR,mEndN,mEndR,mEndE,mOps,mSome,mGuard,mGtt,mGff,mGtf,mGft,mGu,mCallP,mCallR,mCallF,mCallO,mCallZ,mCallG,mCallM,mCallV,loopQ_exit,loopQ_ret,mO_mov,mO_newnil,mO_pick,mO_alloc,mO_box,mO_build,mO_bsl,mO_bslF,mO_newnilB,mO_bslB,mO_lenB,mO_appB,mO_allocA,mO_bslA,mO_appA,mO_ldb,mO_faddrb,mRsv,mO_ldf,mO_ld,mO_st,mO_sta,mO_nilchk,mO_bin,mO_binb,mO_binp,mO_bins,mO_neg,mO_com,mO_not,mO_conv,mO_mk,mO_mk0,mO_mkB,mO_s2b,mO_b2s,mO_cpy,mO_cut,mO_faddr,mO_fld,mO_iaddr,mO_iaddrf,mO_sidx,mO_len,mO_lenf,mO_slen,mO_scut,mO_app,mO_ext,mO_mx,mO_mn,mO_mkfn,evalOp,cutOp,argsE,ev,getE,putE,cellsOf,adopt,rowOf,binV,boolV,nilV,ar_add,ar_sub,ar_mul,ar_quo,ar_rem,ar_eq,ar_ne,ar_lt,ar_le,ar_gt,ar_ge,ar_and,ar_or,ar_xor,geto,bound,finRet,finNrm,ints,List.length_cons,List.length_nil,List.length_append,List.getElem?_cons_zero,List.getElem?_cons_succ,List.nil_append,List.cons_append,List.map_cons,List.map_nil,List.mapM_cons,List.mapM_nil,Option.map_some,Option.map_none,Option.bind_some,Option.pure_def,Option.bind_eq_bind,List.drop_zero,↓reduceIte,Nat.reduceEqDiff,Nat.reduceAdd,Nat.reduceMul,Nat.reduceLeDiff,Nat.reduceLT,Int.reduceToNat,Int.reduceLT,Int.reduceLE,reduceCtorEq,or_self,or_false,false_or,or_true,true_or,true_and,and_true,and_self,decide_true,decide_false,Bool.false_eq_true,Bool.true_eq_false,Bool.not_true,Bool.not_false,Nat.le_refl,eq_self,gt_iff_lt,ge_iff_le,ne_eq,not_true_eq_false,not_false_eq_true,storeOp,apartOf,freeze_nil,refsL,refs,List.flatMap_cons,List.flatMap_nil,List.append_nil,List.contains_nil,List.set_cons_zero,List.set_cons_succ,snap,snapL,fill_nums,flat_nums,nums_length,subB1,Go.V.freeze,List.mapIdx_cons,List.mapIdx_nil,List.contains_cons,Nat.reduceBEq,Bool.or_false,Bool.false_or,Bool.or_true,Bool.true_or,hk0,hlt',Int.toNat_natCast,wx,wd,hs,hsub,ho',hd0,hquo,hquo',hrem,hc,hst,hnew,hk1]
    refine loopQ_go rfl k (by omega) ⟨k,_,((Q:Nat):Int)::q,by omega,rfl,rfl,fun y hy=>?_,by simp;omega,hfin,rfl⟩
    rcases List.mem_cons.1 hy with rfl|hy
    · omega
    · exact hq y hy
end
def prodR:List Int→Int
  | []=>1
  | d::ds=>IntKind.i64.wrap (prodR ds*d)
def str:List Int→List Int
  | []=>[]
  | _::ds=>prodR ds::str ds
theorem str_len:∀{s:List Int},(str s).length=s.length
  | []=>rfl
  | d::ds=>by simp [str,str_len]
section
variable {E:CallRel}
theorem c121_ok {s:List Int} (hl:(s.length:Int)≤1000000000000):Go.V.Call tab E 121 [ints s] [] (ints (str s)) []:=by
  refine Go.V.Call.mach i121 c121 rfl rfl rfl rfl ?_
  have hmk:8*s.length≤140737488355328:=by omega
  have hmk2:(s.length:Int)≤140737488355328:=by omega
  have hn0:(0:Int)≤(s.length:Int):=by omega
  have hw:IntKind.i64.wrap ((s.length:Int) - 1)=(s.length:Int) - 1:=wrap_i64 (by omega) (by omega)
  simp only [c121,go_sem,Int.toNat_natCast,hmk,hmk2,hn0,flat_nums,hw]
  refine mLoop (fun N st=>∃(j:Nat) (i:Int),j≤s.length∧N=j∧i=(j:Int) - 1∧
    st=⟨[(0,ints s),(3,.arr 1 0),(4,.int .i64 (prodR (s.drop j))),(5,.int .i64 i)],[⟨false,3,1,0,0,[],false⟩,⟨false,3,1,0,s.length,nums .i64 (List.replicate j 0++str (s.drop j)),false⟩]⟩) s.length
    ⟨_,rfl,s.length,_,by omega,rfl,rfl,by rw [List.drop_length];simp only [prodR,str,List.append_nil];rfl⟩ ?_
  rintro N s0 ⟨j,i,hj,rfl,hi,rfl⟩
  cases N with
  | zero=>
    have hi':¬0≤i:=by omega
    simp only [b121_0,k121_0,go_sem,hi']
    simp only [i121,OT,reduceIte,Nat.reduceEqDiff,List.drop_zero,List.replicate_zero,List.nil_append,str_len]
  | succ k=>
    obtain rfl:i=(k:Int):=by omega
    have hlt:k<s.length:=by omega
    have hlt':(k:Int)<(s.length:Int):=by omega
    have hk0:(0:Int)≤(k:Int):=by omega
    have hk1:IntKind.i64.wrap ((k:Int) - 1)=(k:Int) - 1:=wrap_i64 (by omega) (by omega)
    have hsub:=sub_nums (k:=.i64) hlt
    have hst:k*1+1≤(List.replicate (k+1) (0:Int)).length+(str (s.drop (k+1))).length:=by simp
    simp only [b121_0,go_sem,storeOp,apartOf,freeze_nil,refsL,refs,List.flatMap_cons,List.flatMap_nil,List.append_nil,List.contains_nil,List.set_cons_zero,List.set_cons_succ,snap,snapL,fill_nums,flat_nums,nums_length,hlt',hk0,Int.toNat_natCast,hsub,hst,hk1]
    refine loopQ_go rfl k (by omega) ⟨k,(k:Int) - 1,by omega,rfl,rfl,?_⟩
    have:List.take k (List.replicate (k+1) (0:Int)++str (s.drop (k+1)))++prodR (s.drop (k+1))::List.drop (k+1) (List.replicate (k+1) (0:Int)++str (s.drop (k+1)))=List.replicate k 0++str (s.drop k):=by
      rw [List.take_append_of_le_length (by simp),List.take_replicate,List.drop_append_of_le_length (by simp),getD_drop hlt,str]
      simp
    rw [this,getD_drop hlt,prodR]
    rfl
end
def prd:List Int→Int
  | []=>1
  | d::ds=>d*prd ds
theorem wrap_def (n:Int):IntKind.i64.wrap n=(n+9223372036854775808) % 18446744073709551616 - 9223372036854775808:=by
  simp only [IntKind.wrap,IntKind.bits,IntKind.signed]
  simp
  omega
theorem wrap_eq (n:Int):∃k,IntKind.i64.wrap n=n+18446744073709551616*k:=by
  refine ⟨-((n+9223372036854775808)/18446744073709551616),?_⟩
  rw [wrap_def]
  omega
theorem wrap_add_mul (n k:Int):IntKind.i64.wrap (n+18446744073709551616*k)=IntKind.i64.wrap n:=by
  rw [wrap_def,wrap_def]
  omega
theorem wrap_mul_l (a b:Int):IntKind.i64.wrap (IntKind.i64.wrap a*b)=IntKind.i64.wrap (a*b):=by
  obtain ⟨k,hk⟩:=wrap_eq a
  rw [hk,Int.add_mul,Int.mul_assoc,wrap_add_mul]
theorem prodR_wrap:∀{s:List Int},prodR s=IntKind.i64.wrap (prd s)
  | []=>by rw [prodR,prd,wrap_i64 (by omega) (by omega)]
  | d::ds=>by rw [prodR,prodR_wrap,wrap_mul_l,prd,Int.mul_comm]
theorem cnt_prd:∀{s:List Int} {most m n:Int},cnt most m s=some n→n=m*prd s
  | [],most,m,n,h=>by rw [cnt] at h;rw [prd,Int.mul_one];exact (Option.some.inj h).symm
  | d::ds,most,m,n,h=>by
    rw [cnt] at h
    split at h
    · cases h
    · rw [cnt_prd h,prd,Int.mul_assoc]
theorem count_prd {s:List Int} {n:Int} (h:count s=some n):n=prd s:=by
  unfold count at h
  split at h
  · cases h
  · rw [cnt_prd h,Int.one_mul]
def inc:List Int→List Int→List Int × Bool
  | d::ds,x::xs=>if (inc ds xs).2 then (if x+1<d then ((x+1)::(inc ds xs).1,false) else (0::(inc ds xs).1,true)) else (x::(inc ds xs).1,false)
  | _,_=>([],true)
def allS (L:List (List Int)) (d:Nat):List (List Int):=L.flatMap fun p=>(List.range d).map fun n:Nat=>p++[(n:Int)]
def allL (s:List Int):List (List Int):=s.foldl (fun L d=>allS L d.toNat) [[]]
def rows (L:List (List Int)):AV:=.sl L.length 1 (L.map ints)
theorem cnt_bound:∀{s:List Int} {most m n:Int},cnt most m s=some n→1≤most→most≤4096→(∀d∈s,0≤d∧d≤4096)∧∀k,0≤prd (s.take k)∧most*prd (s.take k)≤4096
  | [],most,m,n,h,h1,h2=>⟨fun d hd=>by simp at hd,fun k=>by simp [prd];omega⟩
  | d::ds,most,m,n,h,h1,h2=>by
    rw [cnt] at h
    split at h
    · cases h
    · rename_i hno
      have hmx:1≤max 1 d∧d≤max 1 d:=by rw [max1];split<;>omega
      have hmm:1≤most*max 1 d:=by
        have:=Int.mul_le_mul_of_nonneg_left (a:=1) (b:=max 1 d) (c:=most) hmx.1 (by omega)
        omega
      have hd:d≤most*max 1 d:=by
        have:=Int.mul_le_mul_of_nonneg_right (a:=1) (b:=most) (c:=max 1 d) h1 (by omega)
        omega
      obtain ⟨g1,g2⟩:=cnt_bound h hmm (by omega)
      refine ⟨fun x hx=>?_,fun k=>?_⟩
      · rcases List.mem_cons.1 hx with rfl|hx
        · omega
        · exact g1 x hx
      · cases k with
        | zero=>simp [prd];omega
        | succ k=>
          rw [List.take_succ_cons,prd]
          obtain ⟨e1,e2⟩:=g2 k
          have e3:d*prd (ds.take k)≤max 1 d*prd (ds.take k):=Int.mul_le_mul_of_nonneg_right hmx.2 e1
          have e4:=Int.mul_le_mul_of_nonneg_left (c:=most) e3 (by omega)
          rw [←Int.mul_assoc] at e4
          rw [←Int.mul_assoc] at e4
          refine ⟨Int.mul_nonneg (by omega) e1,?_⟩
          rw [←Int.mul_assoc]
          omega
theorem count_bound {s:List Int} {n:Int} (h:count s=some n):s.length≤8∧(∀d∈s,0≤d∧d≤4096)∧∀k,0≤prd (s.take k)∧prd (s.take k)≤4096:=by
  unfold count at h
  split at h
  · cases h
  · obtain ⟨h1,h2⟩:=cnt_bound h (by omega) (by omega)
    exact ⟨by omega,h1,fun k=>by have:=h2 k;rwa [Int.one_mul] at this⟩
theorem sub_rows {L:List (List Int)} {j:Nat} (h:j<L.length):sub false 1 (L.map ints) (j*1)=some (ints (L.getD j [])):=by
  simp only [sub,List.length_map,Nat.mul_one,Bool.false_eq_true,if_false,if_true]
  rw [if_pos (by omega),List.getElem?_map,List.getElem?_eq_getElem h]
  simp [List.getD,h]
section
variable {E:CallRel}
end
theorem set_set {y:List Int} {m:Nat} {v u:Int} (h:m<y.length):(y.take m++v::y.drop (m+1)).take m++u::(y.take m++v::y.drop (m+1)).drop (m+1)=y.take m++u::y.drop (m+1):=by
  have e1:(y.take m).length=m:=by simp;omega
  rw [List.take_append_of_le_length (by omega),List.take_take,Nat.min_self,List.drop_append,e1,List.drop_eq_nil_of_le (by omega)]
  simp [show m+1 - m=1 by omega]
section
variable {E:CallRel}
end
end Go.Proofs.Ytlejgleocnemoaa.I

namespace Go.Proofs.Ytlejgleocnemoaa.I
open Go Go.V
attribute [local go_sem_proc ↓] reduceIte
attribute [local go_sem_proc] Nat.reduceEqDiff Nat.reduceAdd Nat.reduceMul Nat.reduceLeDiff Nat.reduceLT Int.reduceToNat Int.reduceLT Int.reduceLE reduceCtorEq Nat.reduceBEq
attribute [local go_sem] mNil nat0 beq_self_eq_true mSkip mRet mExit mReg mSeq mCond mTrue mFalse mBlock mLv mCodeE mCodeR mEndN mEndR mEndE mOps mSome mGuard mGtt mGff mGtf mGft mGu mCallP mCallR mCallF mCallO mCallZ mCallG mCallM mCallV loopQ_exit loopQ_ret mO_mov mO_newnil mO_pick mO_alloc mO_box mO_build mO_bsl mO_bslF mO_newnilB mO_bslB mO_lenB mO_appB mO_allocA mO_bslA mO_appA mO_ldb mO_faddrb mRsv mO_ldf mO_ld mO_st mO_sta mO_nilchk mO_bin mO_binb mO_binp mO_bins mO_neg mO_com mO_not mO_conv mO_mk mO_mk0 mO_mkB mO_s2b mO_b2s mO_cpy mO_cut mO_faddr mO_fld mO_iaddr mO_iaddrf mO_sidx mO_len mO_lenf mO_slen mO_scut mO_app mO_ext mO_mx mO_mn mO_mkfn evalOp cutOp argsE ev getE putE cellsOf adopt rowOf binV boolV nilV ar_add ar_sub ar_mul ar_quo ar_rem ar_eq ar_ne ar_lt ar_le ar_gt ar_ge ar_and ar_or ar_xor geto bound finRet finNrm ints List.length_cons List.length_nil List.length_append List.getElem?_cons_zero List.getElem?_cons_succ List.nil_append List.cons_append List.map_cons List.map_nil List.mapM_cons List.mapM_nil Option.map_some Option.map_none Option.bind_some Option.pure_def Option.bind_eq_bind List.drop_zero or_self or_false false_or or_true true_or true_and and_true and_self decide_true decide_false Bool.false_eq_true Bool.true_eq_false Bool.not_true Bool.not_false Nat.le_refl eq_self gt_iff_lt ge_iff_le ne_eq not_true_eq_false not_false_eq_true storeOp apartOf freeze_nil refsL refs List.flatMap_cons List.flatMap_nil List.append_nil List.contains_nil List.set_cons_zero List.set_cons_succ snap snapL fill_nums flat_nums nums_length Go.V.freeze List.mapIdx_cons List.mapIdx_nil List.contains_cons Bool.or_false Bool.false_or Bool.or_true Bool.true_or
theorem asc_len {a:List Int}:(asc a).length=a.length:=by simp [asc]
def Half (y x:List Int) (i:Nat):Prop:=x.length=y.length∧∀p,p<y.length→x.getD p 0=if p<i∨y.length<p+1+i then y.getD (y.length - 1 - p) 0 else y.getD p 0
theorem half_zero {y:List Int}:Half y y 0:=⟨rfl,fun p hp=>by rw [if_neg (by omega)]⟩
theorem half_step {y x:List Int} {i:Nat} (h:Half y x i) (hi:i+i+1<y.length):Half y (swp x i (y.length - 1 - i)) (i+1):=by
  obtain ⟨h1,h2⟩:=h
  refine ⟨by rw [swp_len (by omega) (by omega),h1],fun p hp=>?_⟩
  rw [swp_get (by omega) (by omega)]
  have ei:=h2 i (by omega)
  have ej:=h2 (y.length - 1 - i) (by omega)
  rw [if_neg (by omega)] at ei ej
  split
  · rename_i hpj
    rw [ei,if_pos (by omega)]
    congr 1
    omega
  · split
    · rename_i hpi
      rw [ej,if_pos (by omega)]
      congr 1
      omega
    · rw [h2 p hp]
      split
      · rw [if_pos (by omega)]
      · rw [if_neg (by omega)]
theorem half_done {y x:List Int} {i:Nat} (h:Half y x i) (hi:y.length≤i+i+1):x=y.reverse:=by
  obtain ⟨h1,h2⟩:=h
  refine List.ext_getElem (by simp [h1]) (fun p hp hq=>?_)
  have hp':p<y.length:=by omega
  have e:=h2 p hp'
  have e1:x.getD p 0=x[p]:=by simp [List.getD,hp]
  have e2:y.getD (y.length - 1 - p) 0=y[y.length - 1 - p]'(by omega):=by simp [List.getD,show y.length - 1 - p<y.length by omega]
  rw [e1] at e
  rw [List.getElem_reverse,←e2,e]
  split
  · rfl
  · rename_i hn
    congr 1
    omega
theorem subT1 {a:AV}:sub true 1 [a] 0=some (.agg [a]):=rfl
section
variable {E:CallRel}
theorem c78_ok {n:Nat} (h1:(limG n).length≤1000000) (h2:(dgs n).length≤1000000):Go.V.Call tab E 78 [.agg [us32 (limG n)]] [] (.str (dec n)) []:=by
  refine Go.V.Call.mach i78 c78 rfl rfl rfl rfl ?_
  by_cases h0:n=0
  · subst h0
    simp only [c78,us32,limG_zero,go_sem,subB1,subT1,FL,show ((0:Int)==0)=true from rfl]
    simp only [i78,OT,reduceIte,Nat.reduceEqDiff,dec]
  · have hlen:(limG n).length≠0:=by rw [limG_pos h0];simp
    have hlen':(((limG n).length:Int)==0)=false:=by rw [beq_eq_false_iff_ne];omega
    simp only [c78,us32,go_sem,subB1,subT1,FL,hlen']
    refine mLoop (fun N st=>∃(m:Nat) (out:List Int),m≤n∧N=m∧dgs n=out++dgs m∧
      st=⟨[(1,.loc 0 0 0),(3,.arr 1 out.length)],[⟨true,55,1,0,1,[us32 (limG m)],false⟩,⟨false,5,1,out.length,out.length,nums .u8 (asc out),false⟩]⟩) n ⟨_,rfl,n,[],by omega,rfl,by simp,by simp [getE,us32,asc,nums]⟩ ?_
    rintro N s0 ⟨m,out,hm,rfl,hd,rfl⟩
    by_cases hN:N=0
    · subst hN
      rw [dgs_zero,List.append_nil] at hd
      have hlast:=dgs_last h0
      have hol:1≤out.length:=by
        obtain ⟨l,d,e,_⟩:=hlast
        rw [←hd,e];simp
      have hw:IntKind.i64.wrap ((out.length:Int) - 1)=(out.length:Int) - 1:=by
        rw [hd] at h2
        exact wrap_i64 (by omega) (by omega)
      rw [hd] at h2
      simp only [b78_0,k78_2,us32,limG_zero,go_sem,subB1,subT1,FL]
      refine goR (c123_ok (l:=[])) rfl ?_
      simp only [go_sem,List.length_nil,show (((0:Nat):Int))=0 from rfl,show ((0:Int)==0)=true from rfl,hw]
      refine mLoop (fun N st=>∃(i:Nat) (x:List Int) (jj:Int),i≤out.length∧N=out.length - i∧jj=(out.length:Int) - 1 - (i:Int)∧Half (asc out) x i∧
        st=⟨[(3,.arr 1 out.length),(7,.int .i64 i),(8,.int .i64 jj)],[⟨true,55,1,0,1,[.sl 0 1 (nums .u32 [])],false⟩,⟨false,5,1,out.length,out.length,nums .u8 x,false⟩]⟩) out.length ⟨_,rfl,0,asc out,_,by omega,by omega,rfl,half_zero,by simp [getE]⟩ ?_
      rintro N s0 ⟨i,x,jj,hi,rfl,hjj,hx,rfl⟩
      have hxl:x.length=out.length:=by rw [hx.1,asc_len]
      by_cases hlt:i+i+1<out.length
      · have hlt':(i:Int)<jj:=by omega
        obtain ⟨j,hj⟩:∃j:Nat,jj=j:=⟨jj.toNat,by omega⟩
        subst hj
        have hi0:(0:Int)≤(i:Int):=by omega
        have hj0:(0:Int)≤(j:Int):=by omega
        have hil:(i:Int)<(out.length:Int):=by omega
        have hjl:(j:Int)<(out.length:Int):=by omega
        have hsi:=sub_nums (k:=.u8) (l:=x) (i:=i) (by omega)
        have hsj:=sub_nums (k:=.u8) (l:=x) (i:=j) (by omega)
        have ht1:i*1+1≤x.length:=by omega
        have ht2:j*1+1≤(x.take i).length+((x.drop (i+1)).length+1):=by simp;omega
        have hi1:IntKind.i64.wrap ((i:Int)+1)=((i+1:Nat):Int):=by rw [wrap_i64 (by omega) (by omega)];omega
        have hj1:IntKind.i64.wrap ((j:Int) - 1)=(j:Int) - 1:=wrap_i64 (by omega) (by omega)
        have hst:=half_step hx (by rw [asc_len];exact hlt)
        have hjeq:(asc out).length - 1 - i=j:=by rw [asc_len];omega
        rw [hjeq] at hst
        simp only [b78_2,go_sem,hlt',hi0,hj0,hil,hjl,hsi,hsj,ht1,ht2,hi1,hj1,Int.toNat_natCast]
        exact loopQ_go rfl (out.length - (i+1)) (by omega) ⟨i+1,swp x i j,_,by omega,rfl,by omega,hst,rfl⟩
      · have hlt':¬(i:Int)<jj:=by omega
        have hxx:=half_done hx (by rw [asc_len];omega)
        simp only [b78_2,k78_1,go_sem,hlt',bytesOf_nums]
        simp only [i78,OT,reduceIte,Nat.reduceEqDiff,dec,if_neg h0,hxx,hd]
    · have hlenN:(limG N).length≠0:=by rw [limG_pos hN];simp
      have hlenN':(((limG N).length:Int)==0)=false:=by rw [beq_eq_false_iff_ne];omega
      have hmono:=limG_mono hm
      have hsm:=c124_ok (E:=E) (l:=limG N) (d:=1000000000) R32_limG (by omega) (by omega)
      rw [nval_limG] at hsm
      have hqr:=Nat.div_add_mod N 1000000000
      have hrl:=Nat.mod_lt N (show 0<1000000000 by omega)
      have hqN:N/1000000000<N:=by omega
      simp only [b78_0,us32,go_sem,subB1,subT1,FL]
      refine goR (c123_ok (l:=limG N)) rfl ?_
      simp only [us32,go_sem,subB1,subT1,FL,hlenN']
      refine goF hsm ?_
      generalize N/1000000000=q at *
      generalize N % 1000000000=r at *
      simp only [us32,go_sem,subB1,subT1,FL]
      refine mLoop (fun N' st=>∃(i:Nat) (o:List Int) (r':Nat),i≤9∧N'=9 - i∧r'<10^(9 - i)∧dgs n=o++dgs (q*10^(9 - i)+r')∧
        st=⟨[(1,.loc 0 0 0),(3,.arr 1 o.length),(4,.loc 3 0 0),(5,.int .u32 r'),(6,.int .i64 i)],
          [⟨true,55,1,0,1,[us32 (limG N)],false⟩,⟨false,5,1,o.length,o.length,nums .u8 (asc o),false⟩,⟨false,154,1,0,0,[],false⟩,⟨true,55,1,0,1,[us32 (limG q)],false⟩]⟩) 9
        ⟨_,rfl,0,out,r,by omega,by omega,by simpa using hrl,by rw [hd];congr 2;simp;omega,by simp [getE,us32]⟩ ?_
      rintro N' s0 ⟨i,o,r',hi,rfl,hr',hdo,rfl⟩
      have exitC:∀V,V=q→dgs n=o++dgs V→dgs n=o++dgs q:=fun V h1 h2=>by rw [←h1];exact h2
      by_cases hi9:i<9
      · have hi9':(i:Int)<9:=by omega
        have hp:10^(9 - i)=10*10^(9 - (i+1)):=by rw [show 9 - i=(9 - (i+1))+1 by omega,Nat.pow_succ,Nat.mul_comm]
        have hpp:0<10^(9 - (i+1)):=Nat.pow_pos (by omega)
        rw [hp] at hr' hdo
        have hV:q*(10*10^(9 - (i+1)))=10*(q*10^(9 - (i+1))):=by rw [←Nat.mul_assoc,←Nat.mul_assoc,Nat.mul_comm q]
        rw [hV] at hdo
        have step:q*10^(9 - (i+1))+r'≠0→(o.length+1≤1000000∧dgs n=(o++[((r' % 10:Nat):Int)])++dgs (q*10^(9 - (i+1))+r'/10)):=by
          intro hne
          have e:dgs (10*(q*10^(9 - (i+1)))+r')=((r' % 10:Nat):Int)::dgs (q*10^(9 - (i+1))+r'/10):=by
            generalize q*10^(9 - (i+1))=G at *
            rw [dgs_pos (by omega)]
            congr 2<;>omega
          rw [e] at hdo
          refine ⟨?_,by rw [hdo];simp⟩
          rw [hdo] at h2
          simp at h2
          omega
        have hr10:r'/10<10^(9 - (i+1)):=by omega
        have hrl2:r'<10000000000:=by
          have:10^(9 - (i+1))≤10^8:=Nat.pow_le_pow_right (by omega) (by omega)
          omega
        have hrl3:r'<1000000000:=by
          have:10^(9 - (i+1))≤10^8:=Nat.pow_le_pow_right (by omega) (by omega)
          omega
        have t1:Int.tmod (r':Int) 10=((r' % 10:Nat):Int):=by rw [Int.tmod_eq_emod_of_nonneg (by omega)];omega
        have t2:IntKind.u32.wrap (Int.tdiv (r':Int) 10)=((r'/10:Nat):Int):=by rw [Int.tdiv_eq_ediv_of_nonneg (by omega),wrap_u32];omega
        have t3:IntKind.u32.wrap (48+((r' % 10:Nat):Int))=48+((r' % 10:Nat):Int):=by rw [wrap_u32];omega
        have t4:IntKind.u8.wrap (48+((r' % 10:Nat):Int))=48+((r' % 10:Nat):Int):=by
          simp only [IntKind.wrap,IntKind.bits,IntKind.signed]
          simp
          omega
        have t5:¬(10:Int)=0:=by omega
        have hi1:IntKind.i64.wrap ((i:Int)+1)=((i+1:Nat):Int):=by rw [wrap_i64 (by omega) (by omega)];omega
        have hasc:nums .u8 (asc (o++[((r' % 10:Nat):Int)]))=nums .u8 (asc o)++[.int .u8 (48+((r' % 10:Nat):Int))]:=by simp [nums,asc]
        by_cases hr0:r'=0
        · subst hr0
          have z1:¬(0:Int)<((0:Nat):Int):=by omega
          by_cases hq0:q=0
          · subst hq0
            simp only [b78_1,k78_0,us32,limG_zero,go_sem,subB1,subT1,FL,hi9',z1]
            refine goR (c123_ok (l:=[])) rfl ?_
            simp only [us32,limG_zero,go_sem,subB1,subT1,FL,List.length_nil,show (((0:Nat):Int))=0 from rfl,show ((0:Int)==0)=true from rfl]
            refine loopQ_go rfl 0 (by omega) ⟨0,o,by omega,rfl,?_,?_⟩
            · rw [hdo];simp
            · rw [limG_zero];rfl
          · have hlq:(((limG q).length:Int)==0)=false:=by
              have:(limG q).length≠0:=by rw [limG_pos hq0];simp
              rw [beq_eq_false_iff_ne];omega
            have hne:q*10^(9 - (i+1))+0≠0:=by
              have:=Nat.mul_pos (Nat.pos_of_ne_zero hq0) hpp
              omega
            obtain ⟨e1,e2⟩:=step hne
            have e3:(o.length+1)*1≤140737488355328:=by omega
            have e4:o.length+1≤140737488355328:=by omega
            simp only [b78_1,us32,go_sem,subB1,subT1,FL,hi9',z1]
            refine goR (c123_ok (l:=limG q)) rfl ?_
            simp only [us32,go_sem,subB1,subT1,FL,hlq,t1,t2,t3,t4,t5,e3,e4,hi1,Nat.mul_one,List.flatten_cons,List.flatten_nil,Option.getD_some]
            refine loopQ_go rfl (9 - (i+1)) (by omega) ⟨i+1,_,_,by omega,rfl,hr10,e2,?_⟩
            rw [hasc,List.length_append]
            rfl
        · have z1:(0:Int)<(r':Int):=by omega
          obtain ⟨e1,e2⟩:=step (by omega)
          have e3:(o.length+1)*1≤140737488355328:=by omega
          have e4:o.length+1≤140737488355328:=by omega
          simp only [b78_1,us32,go_sem,subB1,subT1,FL,hi9',z1,t1,t2,t3,t4,t5,e3,e4,hi1,Nat.mul_one,List.flatten_cons,List.flatten_nil,Option.getD_some]
          refine loopQ_go rfl (9 - (i+1)) (by omega) ⟨i+1,_,_,by omega,rfl,hr10,e2,?_⟩
          rw [hasc,List.length_append]
          rfl
      · have hi9':¬(i:Int)<9:=by omega
        obtain rfl:i=9:=by omega
        simp only [Nat.sub_self,Nat.pow_zero,Nat.mul_one] at hr' hdo
        obtain rfl:r'=0:=by omega
        simp only [b78_1,k78_0,us32,go_sem,subB1,subT1,FL,hi9']
        refine loopQ_go rfl q (by omega) ⟨q,o,by omega,rfl,?_,rfl⟩
        rw [hdo]
        rfl
end
section
variable {E:CallRel}
def numC (z:Int):List AV:=[.bool (decide (z<0)),.str (dec z.natAbs),.str ⟨#[49]⟩]
end
def runes (t:List Int):AV:=.sl t.length 1 (nums .i32 t)
def arrG (s:List Int) (ch:Bool) (t l:List Int):List AV:=[ints s,.bool ch,runes t,.sl l.length 3 (ratsC l),.bool true]
def numsC (l:List Int):List AV:=l.flatMap numC
def plG (s:List Int) (ch:Bool) (t l:List Int):List AV:=[ints s,.bool ch,runes t,.sl l.length 3 (numsC l)]
def noA:List AV:=[.sl 0 1 [],.bool false,.sl 0 1 [],.sl 0 3 [],.bool false]
theorem beqBA {a:ByteArray}:(a==a)=true:=by
  obtain ⟨⟨l⟩⟩:=a
  show ((⟨l⟩:Array UInt8)==⟨l⟩)=true
  simp
section
variable {E:CallRel}
end
theorem c118_ok {t:List Int} (ht:(t.length:Int)≤1000000000000):Go.V.Call tab E 118 [runes t] [] (.arr 0 0) [⟨false,21,1,0,t.length,nums .i32 t,false⟩]:=by
  refine ⟨0,?_⟩
  have h1:t.length*4≤140737488355328:=by omega
  have h2:t.length≤140737488355328:=by omega
  simp only [CallN,E,ext,cloneOf,runes,h1,h2,and_self,if_true]
section
variable {E:CallRel}
end
theorem subP4 {a b c d:AV}:sub true 4 [a,b,c,d] 0=some (.agg [a,b,c,d]):=rfl
theorem subP3 {a b c d:AV}:sub false 1 [a,b,c,d] (0+3)=some d:=rfl
theorem subP3' {a b c d:AV}:sub false 1 [a,b,c,d] 3=some d:=rfl
def fits (s:List Int) (n:Nat):Bool:=decide (count s=some (n:Int))
theorem c71_ok {s t:List Int} (hs:∀d∈s,In64 d) (hsl:(s.length:Int)≤1000000000000) (ht:(t.length:Int)≤1000000000000):Go.V.Call tab E 71 [ints s,runes t] [] (.tup [if fits s t.length then .agg (arrG s true t []) else .agg noA,.bool (fits s t.length)]) []:=by
  refine Go.V.Call.mach i71 c71 rfl rfl rfl rfl ?_
  simp only [c71,runes,go_sem,FL]
  refine goP (c83_ok hs (by omega)) ?_
  cases hc:count s with
  | none=>
    have hf:fits s t.length=false:=by simp [fits,hc]
    simp only [optP,go_sem,FL]
    simp only [i71,OT,reduceIte,Nat.reduceEqDiff,subA5,hf,noA,Bool.false_eq_true]
  | some m=>
    by_cases hm:m=(t.length:Int)
    · subst hm
      have hf:fits s t.length=true:=by simp [fits,hc]
      simp only [optP,go_sem,FL,bne_self_eq_false]
      refine goO (c102_ok hsl) rfl rfl ?_
      simp only [go_sem,FL]
      refine goO (c118_ok ht) rfl rfl ?_
      simp only [go_sem,FL]
      simp only [i71,OT,reduceIte,Nat.reduceEqDiff,subA5,hf,arrG,runes]
      rfl
    · have hf:fits s t.length=false:=by simp [fits,hc,hm]
      have hm':(m != (t.length:Int))=true:=by simpa using hm
      simp only [optP,go_sem,FL,hm']
      simp only [i71,OT,reduceIte,Nat.reduceEqDiff,subA5,hf,noA,Bool.false_eq_true]
section
variable {E:CallRel}
end
section
variable {E:CallRel}
theorem c72_ok {s t:List Int} (hs:(s.length:Int)≤1000000000000000) (ht:(t.length:Int)≤1000000000000000):Go.V.Call tab E 72 [ints s,ints t] [] (.bool (decide (s=t))) []:=by
  refine Go.V.Call.mach i72 c72 rfl rfl rfl rfl ?_
  by_cases hl:s.length=t.length
  · have hl':(s.length:Int)=(t.length:Int):=by omega
    simp only [c72,go_sem,hl',bne_self_eq_false]
    refine mLoop (fun N st=>∃(k:Nat),k≤s.length∧N=s.length - k∧s.take k=t.take k∧
      st=⟨[(0,ints s),(1,ints t),(12,.int .i64 t.length),(13,.int .i64 k)],[]⟩) s.length ⟨_,rfl,0,by omega,by omega,by simp,rfl⟩ ?_
    rintro N s0 ⟨k,hk,rfl,hp,rfl⟩
    by_cases hlt:k<s.length
    · have hlt':(k:Int)<(t.length:Int):=by omega
      have hlt2:k<t.length:=by omega
      have hk0:(0:Int)≤(k:Int):=by omega
      have hk1:IntKind.i64.wrap ((k:Int)+1)=((k+1:Nat):Int):=by rw [wrap_i64 (by omega) (by omega)];omega
      have hsub:=sub_nums (k:=.i64) hlt
      have hsub2:=sub_nums (k:=.i64) hlt2
      by_cases he:s.getD k 0=t.getD k 0
      · simp only [b72_0,go_sem,hl',hlt',hk0,Int.toNat_natCast,hsub,hsub2,he,bne_self_eq_false,hk1]
        refine loopQ_go (rfl) (s.length - (k+1)) (by omega) ⟨k+1,by omega,rfl,?_,rfl⟩
        rw [List.take_add_one,List.take_add_one,hp]
        congr 1
        have h1:s[k]?=some (s.getD k 0):=by simp [List.getD,hlt]
        have h2:t[k]?=some (t.getD k 0):=by simp [List.getD,hlt2]
        rw [h1,h2,he]
      · have he':(s.getD k 0 != t.getD k 0)=true:=by simpa using he
        have hne:s≠t:=fun h=>he (by rw [h])
        simp only [b72_0,go_sem,hl',hlt',hk0,Int.toNat_natCast,hsub,hsub2,he']
        simp only [i72,OT,reduceIte,Nat.reduceEqDiff,hne,decide_false]
    · have hlt':¬(k:Int)<(t.length:Int):=by omega
      have heq:s=t:=by
        rw [List.take_of_length_le (by omega),List.take_of_length_le (by omega)] at hp
        exact hp
      simp only [b72_0,k72_0,go_sem,hl',hlt']
      simp only [i72,OT,reduceIte,Nat.reduceEqDiff,heq,decide_true]
  · have hl':((s.length:Int) != (t.length:Int))=true:=by simp;omega
    have hne:s≠t:=fun h=>hl (by rw [h])
    simp only [c72,go_sem,hl']
    simp only [i72,OT,reduceIte,Nat.reduceEqDiff,hne,decide_false]
theorem c67_ok {s t:List Int} (hs:(s.length:Int)≤1000000000000000) (ht:(t.length:Int)≤1000000000000000):Go.V.Call tab E 67 [ints s,ints t] [] (.bool (decide (s=t))) []:=by
  refine Go.V.Call.mach i67 c67 rfl rfl rfl rfl ?_
  simp only [c67,go_sem,snap]
  refine goP (c72_ok hs ht) ?_
  simp only [go_sem]
  simp only [i67,OT,reduceIte,Nat.reduceEqDiff]
end
theorem nums_append {k:IntKind} {a b:List Int}:nums k (a++b)=nums k a++nums k b:=by simp [nums]
def lensum (L:List (List Int)):Nat:=L.flatten.length
theorem lensum_snoc {L:List (List Int)} {p:List Int}:lensum (L++[p])=lensum L+p.length:=by simp [lensum]
theorem lensum_take {L:List (List Int)} {k:Nat}:lensum (L.take k)≤lensum L:=by
  have:L=L.take k++L.drop k:=(List.take_append_drop k L).symm
  conv=>rhs;rw [this]
  simp only [lensum,List.flatten_append,List.length_append]
  omega
theorem take_snocL {L:List (List Int)} {m:Nat} (h:m<L.length):L.take (m+1)=L.take m++[L.getD m []]:=by
  rw [List.take_add_one]
  congr 1
  simp [List.getD,h]
theorem c131_ok {n:Nat} (hn:(n:Int)≤10000000000000):Go.V.Call tab E 131 [.nilsl 3 1,.int .i64 n] [] (.arr 0 0) [⟨false,3,1,0,0,[],false⟩]:=by
  refine ⟨0,?_⟩
  have h1:(0:Int)≤(n:Int)∧(n:Int)*8≤140737488355328:=by omega
  simp only [CallN,E,ext,growOf,h1,and_self,if_true]
theorem c101_ok {L:List (List Int)} (hL:(L.length:Int)≤1000000000000) (hs:lensum L≤1000000000000):Go.V.Call tab E 101 [rows L] [] (ints L.flatten) []:=by
  refine Go.V.Call.mach i101 c101 rfl rfl rfl rfl ?_
  simp only [c101,rows,go_sem]
  refine mLoop (fun N st=>∃(i:Nat),i≤L.length∧N=L.length - i∧
    st=⟨[(0,rows L),(3,.int .i64 (lensum (L.take i):Nat)),(9,rows L),(10,.int .i64 L.length),(11,.int .i64 i)],[⟨false,3,1,0,0,[],false⟩]⟩) L.length ⟨_,rfl,0,by omega,by omega,by simp [getE,rows,lensum]⟩ ?_
  rintro N s0 ⟨i,hi,rfl,rfl⟩
  by_cases hlt:i<L.length
  · have hlt':(i:Int)<(L.length:Int):=by omega
    have hi0:(0:Int)≤(i:Int):=by omega
    have hi1:IntKind.i64.wrap ((i:Int)+1)=((i+1:Nat):Int):=by rw [wrap_i64 (by omega) (by omega)];omega
    have hsub:=sub_rows hlt
    have htk:=take_snocL hlt
    have hle:=lensum_take (L:=L) (k:=i+1)
    have hsn:lensum (L.take (i+1))=lensum (L.take i)+(L.getD i []).length:=by rw [htk,lensum_snoc]
    have hw:IntKind.i64.wrap ((lensum (L.take i):Int)+((L.getD i []).length:Int))=(lensum (L.take (i+1)):Int):=by rw [wrap_i64 (by omega) (by omega)];omega
    have hneg:¬(lensum (L.take (i+1)):Int)<0:=by omega
    simp only [b101_0,rows,go_sem,hlt',hi0,Int.toNat_natCast,hsub,hw,hneg,hi1]
    exact loopQ_go rfl (L.length - (i+1)) (by omega) ⟨i+1,by omega,rfl,rfl⟩
  · have hlt':¬(i:Int)<(L.length:Int):=by omega
    obtain rfl:i=L.length:=by omega
    simp only [b101_0,k101_1,rows,go_sem,hlt',List.take_length]
    refine goG rfl (c131_ok (n:=lensum L) (by omega)) rfl rfl ?_
    simp only [go_sem,FL,shiftO]
    refine mLoop (fun N st=>∃(j:Nat),j≤L.length∧N=L.length - j∧
      st=⟨[(6,.arr 1 j),(25,rows L),(26,.int .i64 L.length),(27,.int .i64 j)],[⟨false,3,1,0,0,[],false⟩,⟨false,3,1,j,lensum (L.take j),nums .i64 (L.take j).flatten,false⟩]⟩) L.length ⟨_,rfl,0,by omega,by omega,by simp [getE,rows,lensum,nums]⟩ ?_
    rintro N s0 ⟨j,hj,rfl,rfl⟩
    by_cases hjl:j<L.length
    · have hjl':(j:Int)<(L.length:Int):=by omega
      have hj0:(0:Int)≤(j:Int):=by omega
      have hj1:IntKind.i64.wrap ((j:Int)+1)=((j+1:Nat):Int):=by rw [wrap_i64 (by omega) (by omega)];omega
      have hsub:=sub_rows hjl
      have htk:=take_snocL hjl
      have hle:=lensum_take (L:=L) (k:=j+1)
      have hsn:lensum (L.take (j+1))=lensum (L.take j)+(L.getD j []).length:=by rw [htk,lensum_snoc]
      have e1:(lensum (L.take j)+(L.getD j []).length)*8≤140737488355328:=by omega
      have e2:lensum (L.take j)+(L.getD j []).length≤140737488355328:=by omega
      simp only [b101_1,rows,go_sem,hjl',hj0,Int.toNat_natCast,hsub,e1,e2,hj1]
      refine loopQ_go rfl (L.length - (j+1)) (by omega) ⟨j+1,by omega,rfl,?_⟩
      rw [hsn,htk,List.flatten_append,List.flatten_cons,List.flatten_nil,List.append_nil,nums_append]
      rfl
    · have hjl':¬(j:Int)<(L.length:Int):=by omega
      obtain rfl:j=L.length:=by omega
      simp only [b101_1,k101_0,rows,go_sem,hjl',List.take_length]
      simp only [i101,OT,reduceIte,Nat.reduceEqDiff]
      rfl
theorem c43_ok {L:List (List Int)} (hL:(L.length:Int)≤1000000000000) (hs:lensum L≤1000000000000):Go.V.Call tab E 43 [rows L] [] (ints L.flatten) []:=by
  refine Go.V.Call.mach i43 c43 rfl rfl rfl rfl ?_
  simp only [c43,rows,go_sem]
  refine goP (c101_ok hL hs) ?_
  simp only [go_sem]
  simp only [i43,OT,reduceIte,Nat.reduceEqDiff]
section
variable {E:CallRel}
end
def wi (s:List Int) (a n:Int):List Int:=if 0≤a∧a<s.length then s.take a.toNat++n::s.drop (a.toNat+1) else s
def wo (s:List Int) (a:Int):List Int:=if 0≤a∧a<s.length then s.take a.toNat++s.drop (a.toNat+1) else s
section
variable {E:CallRel}
end
def mprd:List Int→Int
  | []=>1
  | d::ds=>max 1 d*mprd ds
theorem mprd_pos:∀{s:List Int},1≤mprd s
  | []=>Int.le_refl _
  | d::ds=>by
    have h1:=mprd_pos (s:=ds)
    have h2:1≤max 1 d:=by rw [max1];split<;>omega
    have:=Int.mul_le_mul_of_nonneg_left (a:=1) (b:=mprd ds) (c:=max 1 d) h1 (by omega)
    rw [mprd]
    omega
theorem mprd_append:∀{s t:List Int},mprd (s++t)=mprd s*mprd t
  | [],t=>by rw [List.nil_append,mprd,Int.one_mul]
  | d::ds,t=>by rw [List.cons_append,mprd,mprd,mprd_append,Int.mul_assoc]
theorem cnt_iff:∀{s:List Int} {most n:Int},1≤most→most≤4096→((∀d∈s,0≤d)∧most*mprd s≤4096→cnt most n s=some (n*prd s))∧(cnt most n s≠none→(∀d∈s,0≤d)∧most*mprd s≤4096)
  | [],most,n,h1,h2=>⟨fun _=>by rw [cnt,prd,Int.mul_one],fun _=>⟨fun d hd=>by simp at hd,by rw [mprd,Int.mul_one];exact h2⟩⟩
  | d::ds,most,n,h1,h2=>by
    have hmx:1≤max 1 d:=by rw [max1];split<;>omega
    have hmm:1≤most*max 1 d:=by
      have:=Int.mul_le_mul_of_nonneg_left (a:=1) (b:=max 1 d) (c:=most) hmx (by omega)
      omega
    have hp:=mprd_pos (s:=ds)
    rw [cnt,mprd,prd]
    refine ⟨fun ⟨h3,h4⟩=>?_,fun h=>?_⟩
    · have hd:=h3 d (by simp)
      have h5:most*max 1 d≤4096:=by
        have:=Int.mul_le_mul_of_nonneg_left (a:=1) (b:=mprd ds) (c:=most*max 1 d) hp (by omega)
        rw [←Int.mul_assoc] at h4
        omega
      rw [if_neg (by omega),(cnt_iff hmm h5).1 ⟨fun x hx=>h3 x (by simp [hx]),by rw [Int.mul_assoc];exact h4⟩,Int.mul_assoc]
    · split at h
      · exact absurd rfl h
      · rename_i hno
        obtain ⟨h3,h4⟩:=(cnt_iff hmm (by omega)).2 h
        refine ⟨fun x hx=>?_,by rw [←Int.mul_assoc];exact h4⟩
        rcases List.mem_cons.1 hx with rfl|hx
        · omega
        · exact h3 x hx
theorem count_iff {s:List Int}:(s.length≤8∧(∀d∈s,0≤d)∧mprd s≤4096→count s=some (prd s))∧(count s≠none→s.length≤8∧(∀d∈s,0≤d)∧mprd s≤4096):=by
  unfold count
  obtain ⟨h1,h2⟩:=cnt_iff (s:=s) (most:=1) (n:=1) (by omega) (by omega)
  refine ⟨fun ⟨h3,h4,h5⟩=>?_,fun h=>?_⟩
  · rw [if_neg (by omega),h1 ⟨h4,by rw [Int.one_mul];exact h5⟩,Int.one_mul]
  · split at h
    · exact absurd rfl h
    · obtain ⟨h3,h4⟩:=h2 h
      exact ⟨by omega,h3,by rwa [Int.one_mul] at h4⟩
theorem count_parts {s:List Int} (h:count s≠none) (k:Nat):count (s.take k)=some (prd (s.take k))∧count (s.drop k)=some (prd (s.drop k))∧0≤prd (s.take k)∧prd (s.take k)≤4096∧0≤prd (s.drop k)∧prd (s.drop k)≤4096:=by
  obtain ⟨h1,h2,h3⟩:=count_iff.2 h
  have hs:s=s.take k++s.drop k:=(List.take_append_drop k s).symm
  have hm:=mprd_append (s:=s.take k) (t:=s.drop k)
  rw [←hs] at hm
  have p1:=mprd_pos (s:=s.take k)
  have p2:=mprd_pos (s:=s.drop k)
  have q1:mprd (s.take k)≤mprd s:=by
    have:=Int.mul_le_mul_of_nonneg_left (a:=1) (b:=mprd (s.drop k)) (c:=mprd (s.take k)) p2 (by omega)
    omega
  have q2:mprd (s.drop k)≤mprd s:=by
    have:=Int.mul_le_mul_of_nonneg_right (a:=1) (b:=mprd (s.take k)) (c:=mprd (s.drop k)) p1 (by omega)
    omega
  have c1:=count_iff.1 ⟨by simp;omega,fun d hd=>h2 d (List.mem_of_mem_take hd),(by omega:mprd (s.take k)≤4096)⟩
  have c2:=count_iff.1 ⟨by simp;omega,fun d hd=>h2 d (List.mem_of_mem_drop hd),(by omega:mprd (s.drop k)≤4096)⟩
  obtain ⟨_,_,b1⟩:=count_bound c1
  obtain ⟨_,_,b2⟩:=count_bound c2
  have b1:=b1 (s.take k).length
  have b2:=b2 (s.drop k).length
  rw [List.take_length] at b1 b2
  exact ⟨c1,c2,b1.1,b1.2,b2.1,b2.2⟩
def spl (s:List Int) (a:Int):AV:=
  if count s=none∨a<0∨(s.length:Int)≤a then .tup [.int .i64 0,.int .i64 0,.int .i64 0,.bool false]
  else .tup [.int .i64 (prd (s.take a.toNat)),.int .i64 (s.getD a.toNat 0),.int .i64 (prd (s.drop (a.toNat+1))),.bool true]
section
variable {E:CallRel}
end
def dmin (k:Int):List Int→List Int→Int→Int
  | a::l,b::s,d=>dmin k l s (if a=k then min d b else d)
  | _,_,d=>d
def shpT (l s:List Int) (m:Nat):List Int:=(List.range m).map fun k:Nat=>dmin k l s 4096
def pN (g:Nat→Int):Nat→Int
  | 0=>1
  | m+1=>pN g m*g m
def gT (l s:List Int) (k:Nat):Int:=if (k:Int)∈l then max 1 (dmin k l s 4096) else 1
def strP:List Int→List Int
  | []=>[]
  | _::ds=>prd ds::strP ds
theorem strP_len:∀{s:List Int},(strP s).length=s.length
  | []=>rfl
  | d::ds=>by simp [strP,strP_len]
theorem str_P:∀{s:List Int},(∀k:Nat,0≤prd (s.drop k)∧prd (s.drop k)≤4096)→str s=strP s
  | [],_=>rfl
  | d::ds,h=>by
    have h1:=h 1
    rw [List.drop_succ_cons,List.drop_zero] at h1
    rw [str,strP,prodR_wrap,wrap_i64 (by omega) (by omega),str_P fun k=>h (k+1)]
theorem strP_get:∀{s:List Int} {i:Nat},i<s.length→(strP s).getD i 0=prd (s.drop (i+1))
  | d::ds,0,_=>rfl
  | d::ds,i+1,h=>by
    rw [strP,List.getD_cons_succ,List.drop_succ_cons]
    exact strP_get (by simpa using h)
  | [],i,h=>by simp at h
def inR:List Int→List Int→Prop
  | [],[]=>True
  | d::ds,x::xs=>(0≤x∧x<d)∧inR ds xs
  | _,_=>False
def dI:List Int→List Int→Int
  | d::ds,x::xs=>x*prd ds+dI ds xs
  | _,_=>0
def dotT:List Int→List Int→List Int→Int
  | a::l,w::st,x=>w*x.getD a.toNat 0+dotT l st x
  | _,_,_=>0
def turnK (l s:List Int) (m n:Nat):List Int:=(List.range n).map fun j:Nat=>dotT l (strP s) (ix (shpT l s m) j).1
def revl (m:Nat):List Int:=(List.range m).map fun i:Nat=>(m:Int) - 1 - i
def crsN (st:List Int) (V:List (List Int)):Nat→List Int
  | 0=>[0]
  | i+1=>(crsN st V i).flatMap fun f=>(V.getD i []).map fun n=>f+n*st.getD i 0
def tupN (W:List (List Int)) (o:Int):Nat→List (List Int)
  | 0=>[[]]
  | i+1=>(tupN W o i).flatMap fun u=>(W.getD i []).map fun n=>u++[n - o]
def lesO (o:Int) (W:List (List Int)):List (List Int):=W.map fun w=>w.map (· - o)
theorem lesO_get {o:Int} {W:List (List Int)} {i:Nat}:(lesO o W).getD i []=(W.getD i []).map (· - o):=by
  unfold lesO
  simp only [List.getD,List.getElem?_map]
  cases W[i]?<;>rfl
theorem lesO_len {o:Int} {W:List (List Int)}:(lesO o W).length=W.length:=by simp [lesO]
theorem crsN_len {st:List Int} {V:List (List Int)}:∀{i:Nat},(crsN st V (i+1)).length=(crsN st V i).length*(V.getD i []).length
  | i=>by
    rw [crsN]
    generalize crsN st V i=l
    induction l with
    | nil=>simp
    | cons f l ih=>rw [List.flatMap_cons,List.length_append,ih,List.length_map,List.length_cons,Nat.add_mul];omega
def pmL (V:List (List Int)):Nat→Nat
  | 0=>1
  | i+1=>pmL V i*max 1 (V.getD i []).length
theorem crsN_le {st:List Int} {V:List (List Int)}:∀{i:Nat},(crsN st V i).length≤pmL V i
  | 0=>Nat.le_refl _
  | i+1=>by
    rw [crsN_len,pmL]
    exact Nat.mul_le_mul crsN_le (Nat.le_max_right _ _)
theorem pmL_mono {V:List (List Int)}:∀{i j:Nat},i≤j→pmL V i≤pmL V j:=by
  intro i j h
  induction h with
  | refl=>exact Nat.le_refl _
  | step _ ih=>exact Nat.le_trans ih (by rw [pmL];exact Nat.le_mul_of_pos_right _ (by omega))
theorem crsN_bnd {st:List Int} {V:List (List Int)} {B:Nat} (hst:∀i,0≤st.getD i 0∧st.getD i 0≤4096) (hV:∀i,∀n∈V.getD i [],0≤n∧n≤4096):∀{i:Nat},∀f∈crsN st V i,0≤f∧f≤i*16777216
  | 0,f,h=>by
    obtain rfl:=List.mem_singleton.1 h
    exact ⟨by omega,by omega⟩
  | i+1,f,h=>by
    obtain ⟨g,hg,h⟩:=List.mem_flatMap.1 h
    obtain ⟨n,hn,rfl⟩:=List.mem_map.1 h
    have h1:=crsN_bnd (B:=B) hst hV g hg
    have h2:=hV i n hn
    have h3:=hst i
    have h4:=Int.mul_nonneg h2.1 h3.1
    have h5:=Int.mul_le_mul h2.2 h3.2 h3.1 (by omega)
    omega
end Go.Proofs.Ytlejgleocnemoaa.I

namespace Go.Proofs.Ytlejgleocnemoaa.I
open Go Go.V
attribute [local go_sem_proc ↓] reduceIte
attribute [local go_sem_proc] Nat.reduceEqDiff Nat.reduceAdd Nat.reduceMul Nat.reduceLeDiff Nat.reduceLT Int.reduceToNat Int.reduceLT Int.reduceLE reduceCtorEq Nat.reduceBEq
attribute [local go_sem] mNil nat0 beq_self_eq_true mSkip mRet mExit mReg mSeq mCond mTrue mFalse mBlock mLv mCodeE mCodeR mEndN mEndR mEndE mOps mSome mGuard mGtt mGff mGtf mGft mGu mCallP mCallR mCallF mCallO mCallZ mCallG mCallM mCallV loopQ_exit loopQ_ret mO_mov mO_newnil mO_pick mO_alloc mO_box mO_build mO_bsl mO_bslF mO_newnilB mO_bslB mO_lenB mO_appB mO_allocA mO_bslA mO_appA mO_ldb mO_faddrb mRsv mO_ldf mO_ld mO_st mO_sta mO_nilchk mO_bin mO_binb mO_binp mO_bins mO_neg mO_com mO_not mO_conv mO_mk mO_mk0 mO_mkB mO_s2b mO_b2s mO_cpy mO_cut mO_faddr mO_fld mO_iaddr mO_iaddrf mO_sidx mO_len mO_lenf mO_slen mO_scut mO_app mO_ext mO_mx mO_mn mO_mkfn evalOp cutOp argsE ev getE putE cellsOf adopt rowOf binV boolV nilV ar_add ar_sub ar_mul ar_quo ar_rem ar_eq ar_ne ar_lt ar_le ar_gt ar_ge ar_and ar_or ar_xor geto bound finRet finNrm ints List.length_cons List.length_nil List.length_append List.getElem?_cons_zero List.getElem?_cons_succ List.nil_append List.cons_append List.map_cons List.map_nil List.mapM_cons List.mapM_nil Option.map_some Option.map_none Option.bind_some Option.pure_def Option.bind_eq_bind List.drop_zero or_self or_false false_or or_true true_or true_and and_true and_self decide_true decide_false Bool.false_eq_true Bool.true_eq_false Bool.not_true Bool.not_false Nat.le_refl eq_self gt_iff_lt ge_iff_le ne_eq not_true_eq_false not_false_eq_true
theorem nval_append:∀{a b:List Int},nval (a++b)=nval a+4294967296^a.length*nval b
  | [],b=>by simp [nval]
  | x::a,b=>by
    have e:4294967296^a.length*4294967296*nval b=4294967296*(4294967296^a.length*nval b):=by rw [Nat.mul_comm (4294967296^a.length),Nat.mul_assoc]
    rw [List.cons_append,nval,nval,nval_append,List.length_cons,Nat.pow_succ,e]
    omega
theorem nval_lt:∀{l:List Int},R32 l→nval l<4294967296^l.length
  | [],_=>by simp [nval]
  | x::a,h=>by
    have h1:=h x (by simp)
    have h2:=nval_lt (l:=a) fun y hy=>h y (by simp [hy])
    rw [nval,List.length_cons,Nat.pow_succ]
    omega
theorem R32_cons {x:Int} {l:List Int} (h1:0≤x∧x<4294967296) (h2:R32 l):R32 (x::l):=fun y hy=>by
  rcases List.mem_cons.1 hy with rfl|hy
  · exact h1
  · exact h2 y hy
theorem R32_zeros {n:Nat}:R32 (List.replicate n 0):=fun x hx=>by
  have:=(List.mem_replicate.1 hx).2
  omega
theorem nval_zeros:∀{n:Nat},nval (List.replicate n 0)=0
  | 0=>rfl
  | n+1=>by rw [List.replicate_succ,nval,nval_zeros];rfl
theorem R32_get {l:List Int} (h:R32 l) (k:Nat):0≤l.getD k 0∧l.getD k 0<4294967296:=by
  by_cases hk:k<l.length
  · exact h _ (by simp [List.getD,hk])
  · rw [List.getD_eq_getElem?_getD,List.getElem?_eq_none (by omega)];simp
theorem R32_take {l:List Int} (h:R32 l) (k:Nat):R32 (l.take k):=fun x hx=>h x (List.mem_of_mem_take hx)
theorem R32_drop {l:List Int} (h:R32 l) (k:Nat):R32 (l.drop k):=fun x hx=>h x (List.mem_of_mem_drop hx)
theorem R32_app {a b:List Int} (h1:R32 a) (h2:R32 b):R32 (a++b):=fun x hx=>by
  rcases List.mem_append.1 hx with hx|hx
  · exact h1 x hx
  · exact h2 x hx
theorem nval_split {l:List Int} (k:Nat) (h:k≤l.length):nval l=nval (l.take k)+4294967296^k*nval (l.drop k):=by
  have:=nval_append (a:=l.take k) (b:=l.drop k)
  rwa [List.take_append_drop,List.length_take,Nat.min_eq_left h] at this
theorem nval_drop {l:List Int} (hl:R32 l) (k:Nat):nval (l.drop k)=nval l/4294967296^k:=by
  by_cases h:k≤l.length
  · have h1:=nval_split k h
    have h2:=nval_lt (R32_take hl k)
    rw [List.length_take,Nat.min_eq_left h] at h2
    rw [h1,Nat.add_mul_div_left _ _ (Nat.pow_pos (by omega)),Nat.div_eq_of_lt h2,Nat.zero_add]
  · have h1:=nval_lt hl
    have h2:4294967296^l.length≤4294967296^k:=Nat.pow_le_pow_right (by omega) (by omega)
    rw [List.drop_eq_nil_of_le (by omega),Nat.div_eq_of_lt (by omega)];rfl
theorem nval_take_succ {l:List Int} {k:Nat} (h:k<l.length):nval (l.take (k+1))=nval (l.take k)+4294967296^k*(l.getD k 0).toNat:=by
  have e:l.take (k+1)=l.take k++[l.getD k 0]:=by
    rw [List.take_add_one,List.getElem?_eq_getElem h];simp [List.getD,h]
  rw [e,nval_append,List.length_take,Nat.min_eq_left (by omega),nval,nval]
  simp
def put (l:List Int) (k:Nat) (v:Int):List Int:=l.take k++v::l.drop (k+1)
theorem put_len {l:List Int} {k:Nat} {v:Int} (h:k<l.length):(put l k v).length=l.length:=by
  simp [put];omega
theorem put_R32 {l:List Int} {k:Nat} {v:Int} (h:R32 l) (hv:0≤v∧v<4294967296):R32 (put l k v):=R32_app (R32_take h k) (R32_cons hv (R32_drop h _))
theorem put_get {l:List Int} {k j:Nat} {v:Int} (h:k<l.length):(put l k v).getD j 0=if j=k then v else l.getD j 0:=by
  simp only [put,List.getD_eq_getElem?_getD]
  by_cases hj:j<k
  · rw [if_neg (by omega),List.getElem?_append_left (by rw [List.length_take];omega),List.getElem?_take,if_pos hj]
  · rw [List.getElem?_append_right (by rw [List.length_take];omega),List.length_take,Nat.min_eq_left (by omega)]
    by_cases hk:j=k
    · subst hk;simp
    · obtain ⟨d,rfl⟩:∃d,j=k+d+1:=⟨j - k - 1,by omega⟩
      rw [if_neg hk,show k+d+1 - k=d+1 by omega,List.getElem?_cons_succ,List.getElem?_drop]
      congr 2
      omega
theorem put_nval {l:List Int} {k:Nat} {v:Int} (h:k<l.length):nval (put l k v)+4294967296^k*(l.getD k 0).toNat=nval l+4294967296^k*v.toNat:=by
  have h1:=nval_split (l:=l) k (by omega)
  rw [getD_drop h,nval] at h1
  rw [h1,put,nval_append,List.length_take,Nat.min_eq_left (by omega),nval]
  rw [Nat.mul_add,Nat.mul_add]
  omega
theorem limG_len {n k:Nat} (h:n<4294967296^k):(limG n).length≤k:=by
  induction k generalizing n with
  | zero => obtain rfl:n=0:=by simpa using h
            rw [limG_zero];simp
  | succ k ih=>
    by_cases h0:n=0
    · subst h0;rw [limG_zero];simp
    · rw [limG_pos h0,List.length_cons]
      have:=ih (n:=n/4294967296) (by rw [Nat.pow_succ] at h;omega)
      omega
theorem limG_lt (n:Nat):n<4294967296^(limG n).length:=by
  have:=nval_lt (R32_limG (n:=n))
  rwa [nval_limG] at this
theorem limG_last:∀{n:Nat},n≠0→∃l d,limG n=l++[d]∧1≤d∧d<4294967296:=by
  intro n
  induction n using Nat.strongRecOn with
  | _ n ih=>
    intro h0
    rw [limG_pos h0]
    by_cases h1:n/4294967296=0
    · rw [h1,limG_zero]
      exact ⟨[],_,rfl,by omega,by omega⟩
    · obtain ⟨l,d,e,h2⟩:=ih _ (by omega) h1
      rw [e]
      exact ⟨_::l,d,rfl,h2⟩
theorem or_add {a b k:Nat} (h:a<2^k):a ||| b*2^k=a+b*2^k:=by
  rw [Nat.or_comm,Nat.mul_comm,←Nat.two_pow_add_eq_or_of_lt h]
  omega
theorem u32v {n:Nat} (h:n<4294967296):(BitVec.ofInt IntKind.u32.bits (n:Int)).toNat=n:=by
  show (BitVec.ofInt 32 (n:Int)).toNat=n
  simp [BitVec.toNat_ofInt];omega
theorem or_u32 {a b k:Nat} (h:a<2^k) (hb:a+b*2^k<4294967296):IntKind.u32.wrap (((BitVec.ofInt IntKind.u32.bits (a:Int) ||| BitVec.ofInt IntKind.u32.bits ((b*2^k:Nat):Int)).toNat:Nat):Int)=((a+b*2^k:Nat):Int):=by
  rw [BitVec.toNat_or,u32v (by omega),u32v (by omega),or_add h,wrap_u32]
  omega
theorem shl_u64 {x s:Nat} (hs:s<64) (h:x*2^s<18446744073709551616):shiftOp .shl .u64 (x:Int) (s:Int)=some (.int .u64 ((x*2^s:Nat):Int)):=by
  have h1:¬(s:Int)<0:=by omega
  have h2:min (s:Int).toNat IntKind.u64.bits=s:=by simp [IntKind.bits];omega
  have h3:((x:Int)*2^s)=((x*2^s:Nat):Int):=by simp
  simp only [shiftOp,h1,if_false,h2,h3]
  rw [wrap_u64 (by omega) (by omega)]
theorem shr_u64 {x s:Nat} (hs:s<64):shiftOp .shr .u64 (x:Int) (s:Int)=some (.int .u64 ((x/2^s:Nat):Int)):=by
  have h1:¬(s:Int)<0:=by omega
  have h2:min (s:Int).toNat IntKind.u64.bits=s:=by simp [IntKind.bits];omega
  simp only [shiftOp,h1,if_false,h2]
  rw [Int.fdiv_eq_ediv_of_nonneg _ (by exact Int.le_of_lt (Int.pow_pos (by omega)))]
  simp
theorem shr_u32 {x s:Nat} (hs:s<32):shiftOp .shr .u32 (x:Int) (s:Int)=some (.int .u32 ((x/2^s:Nat):Int)):=by
  have h1:¬(s:Int)<0:=by omega
  have h2:min (s:Int).toNat IntKind.u32.bits=s:=by simp [IntKind.bits];omega
  simp only [shiftOp,h1,if_false,h2]
  rw [Int.fdiv_eq_ediv_of_nonneg _ (by exact Int.le_of_lt (Int.pow_pos (by omega)))]
  simp
theorem shr32 {x:Nat}:shiftOp .shr .u64 (x:Int) 32=some (.int .u64 ((x/4294967296:Nat):Int)):=shr_u64 (s:=32) (by omega)
section
variable {E:CallRel}
theorem c158_ok {x y c:Nat} (hx:x<4294967296) (hy:y<4294967296) (hc:c≤1):Go.V.Call tab E 158 [.int .u32 x,.int .u32 y,.int .u32 c] [] (.tup [.int .u32 (((x+y+c) % 4294967296:Nat):Int),.int .u32 (((x+y+c)/4294967296:Nat):Int)]) []:=by
  refine Go.V.Call.mach i158 c158 rfl rfl rfl rfl ?_
  have w1:IntKind.u64.wrap (x:Int)=x:=wrap_u64 (by omega) (by omega)
  have w2:IntKind.u64.wrap (y:Int)=y:=wrap_u64 (by omega) (by omega)
  have w3:IntKind.u64.wrap (c:Int)=c:=wrap_u64 (by omega) (by omega)
  have w4:IntKind.u64.wrap ((x:Int)+y)=((x+y:Nat):Int):=by rw [wrap_u64 (by omega) (by omega)];omega
  have w5:IntKind.u64.wrap (((x+y:Nat):Int)+c)=((x+y+c:Nat):Int):=by rw [wrap_u64 (by omega) (by omega)];omega
  have w6:IntKind.u32.wrap ((x+y+c:Nat):Int)=(((x+y+c) % 4294967296:Nat):Int):=by rw [wrap_u32];omega
  have w7:IntKind.u32.wrap (((x+y+c)/4294967296:Nat):Int)=(((x+y+c)/4294967296:Nat):Int):=by rw [wrap_u32];omega
  have w8:=shr32 (x:=x+y+c)
  generalize x+y+c=t at *
  simp only [c158,go_sem,storeOp,apartOf,freeze_nil,refsL,refs,List.flatMap_cons,List.flatMap_nil,List.append_nil,List.contains_nil,List.set_cons_zero,List.set_cons_succ,snap,snapL,fill_nums,flat_nums,nums_length,w1,w2,w3,w4,w5,w6,w8,w7]
  simp only [i158,OT,reduceIte,Nat.reduceEqDiff]
theorem msb_shr {v:BitVec 32}:v.toNat/2147483648=if v.msb then 1 else 0:=by
  have:=v.isLt
  rw [BitVec.msb_eq_decide]
  split<;>rename_i h<;>simp at h<;>omega
theorem v32 {n:Nat} (h:n<4294967296):(BitVec.ofInt 32 (n:Int)).toNat=n:=u32v h
theorem com32' {n:Nat} (h:n<4294967296):(BitVec.ofInt 32 4294967295 ^^^ BitVec.ofInt 32 (n:Int)).toNat=4294967295 - n:=by
  have e1:BitVec.ofInt 32 4294967295=BitVec.allOnes 32:=by decide
  rw [e1,BitVec.allOnes_xor,BitVec.toNat_not,v32 h]
theorem com32 {n:Nat} (h:n<4294967296):IntKind.u32.wrap (((BitVec.ofInt IntKind.u32.bits (if IntKind.u32.signed then -1 else IntKind.u32.max) ^^^ BitVec.ofInt IntKind.u32.bits (n:Int)).toNat:Nat):Int)=((4294967295 - n:Nat):Int):=by
  have e:(BitVec.ofInt IntKind.u32.bits (if IntKind.u32.signed then -1 else IntKind.u32.max) ^^^ BitVec.ofInt IntKind.u32.bits (n:Int)).toNat=4294967295 - n:=com32' h
  rw [e,wrap_u32]
  omega
theorem borrow32' {x y b:Nat} (hx:x<4294967296) (hy:y<4294967296) (hb:b≤1) {d a1 e a2:Nat} (hd:d=(x+4294967296 - y+4294967296 - b) % 4294967296)
    (h1:a1=(BitVec.ofInt 32 ((4294967295 - x:Nat):Int) &&& BitVec.ofInt 32 (y:Int)).toNat)
    (he:e=(BitVec.ofInt 32 (x:Int) ^^^ BitVec.ofInt 32 (y:Int)).toNat)
    (h2:a2=(BitVec.ofInt 32 ((4294967295 - e:Nat):Int) &&& BitVec.ofInt 32 (d:Int)).toNat) :
    (BitVec.ofInt 32 (a1:Int) ||| BitVec.ofInt 32 (a2:Int)).toNat/2147483648=if x<y+b then 1 else 0:=by
  have el:e<4294967296:=by rw [he];exact (BitVec.ofInt 32 (x:Int) ^^^ BitVec.ofInt 32 (y:Int)).isLt
  have dl:d<4294967296:=by omega
  have cast:∀v:BitVec 32,BitVec.ofInt 32 (v.toNat:Int)=v:=fun v=>by
    apply BitVec.eq_of_toNat_eq
    exact v32 v.isLt
  have mm:∀n:Nat,n<4294967296→(BitVec.ofInt 32 (n:Int)).msb=decide (2147483648≤n):=fun n hn=>by
    have h:=BitVec.msb_eq_decide (BitVec.ofInt 32 (n:Int))
    rw [v32 hn] at h
    exact h
  have h0:=msb_shr (v:=BitVec.ofInt 32 (a1:Int) ||| BitVec.ofInt 32 (a2:Int))
  have e1:BitVec.ofInt 32 (a1:Int)=BitVec.ofInt 32 ((4294967295 - x:Nat):Int) &&& BitVec.ofInt 32 (y:Int):=by rw [h1];exact cast _
  have e2:BitVec.ofInt 32 (a2:Int)=BitVec.ofInt 32 ((4294967295 - e:Nat):Int) &&& BitVec.ofInt 32 (d:Int):=by rw [h2];exact cast _
  have e3:(BitVec.ofInt 32 (x:Int) ^^^ BitVec.ofInt 32 (y:Int)).msb=decide (2147483648≤e):=by
    rw [BitVec.msb_eq_decide,←he]
  rw [BitVec.msb_xor,mm x hx,mm y hy] at e3
  rw [h0,BitVec.msb_or,e1,e2,BitVec.msb_and,BitVec.msb_and,mm _ (by omega),mm y hy,mm _ (by omega),mm d dl]
  have d1:decide (2147483648≤4294967295 - x) = !decide (2147483648≤x):=by
    by_cases p':2147483648≤x<;>simp [p']<;>omega
  have d2:decide (2147483648≤4294967295 - e) = !decide (2147483648≤e):=by
    by_cases p':2147483648≤e<;>simp [p']<;>omega
  rw [d1,d2,←e3]
  clear e3 e2 e1 h0 mm cast d1 d2 el he h1 h2
  by_cases p:2147483648≤x<;>by_cases q:2147483648≤y<;>by_cases r:2147483648≤d<;>by_cases z:x<y+b<;>simp only [p,q,r,z,decide_true,decide_false,Bool.not_true,Bool.not_false,Bool.true_and,Bool.false_and,Bool.and_true,Bool.and_false,Bool.or_false,Bool.false_or,Bool.true_or,Bool.or_true,Bool.xor_self,Bool.xor_false,Bool.false_xor,Bool.true_xor,Bool.xor_true,Bool.false_eq_true,if_true,if_false]<;>omega
theorem borrow32 {x y b:Nat} (hx:x<4294967296) (hy:y<4294967296) (hb:b≤1) {d:Nat} (hd:d=(x+4294967296 - y+4294967296 - b) % 4294967296) :
    (BitVec.ofInt IntKind.u32.bits (((BitVec.ofInt IntKind.u32.bits ((4294967295 - x:Nat):Int) &&& BitVec.ofInt IntKind.u32.bits (y:Int)).toNat:Nat):Int) ||| BitVec.ofInt IntKind.u32.bits (((BitVec.ofInt IntKind.u32.bits ((4294967295 - (BitVec.ofInt IntKind.u32.bits (x:Int) ^^^ BitVec.ofInt IntKind.u32.bits (y:Int)).toNat:Nat):Int) &&& BitVec.ofInt IntKind.u32.bits (d:Int)).toNat:Nat):Int)).toNat/2147483648=if x<y+b then 1 else 0:=
  borrow32' hx hy hb hd rfl rfl rfl
theorem c157_ok {x y b:Nat} (hx:x<4294967296) (hy:y<4294967296) (hb:b≤1):Go.V.Call tab E 157 [.int .u32 x,.int .u32 y,.int .u32 b] [] (.tup [.int .u32 (((x+4294967296 - y+4294967296 - b) % 4294967296:Nat):Int),.int .u32 ((if x<y+b then 1 else 0:Nat):Int)]) []:=by
  refine Go.V.Call.mach i157 c157 rfl rfl rfl rfl ?_
  have key:=borrow32 hx hy hb rfl
  have w1:IntKind.u32.wrap ((x:Int) - y)=(((x+4294967296 - y) % 4294967296:Nat):Int):=by rw [wrap_u32];omega
  have w2:IntKind.u32.wrap ((((x+4294967296 - y) % 4294967296:Nat):Int) - b)=(((x+4294967296 - y+4294967296 - b) % 4294967296:Nat):Int):=by rw [wrap_u32];omega
  have wv:∀v:BitVec IntKind.u32.bits,IntKind.u32.wrap ((v.toNat:Nat):Int)=((v.toNat:Nat):Int):=fun v=>by
    have:v.toNat<4294967296:=v.isLt
    rw [wrap_u32];omega
  have c1:=com32 hx
  have c2:=com32 (n:=(BitVec.ofInt IntKind.u32.bits (x:Int) ^^^ BitVec.ofInt IntKind.u32.bits (y:Int)).toNat) (BitVec.isLt _)
  generalize (x+4294967296 - y+4294967296 - b) % 4294967296=d at *
  have s1:shiftOp .shr .u32 (((BitVec.ofInt IntKind.u32.bits (((BitVec.ofInt IntKind.u32.bits ((4294967295 - x:Nat):Int) &&& BitVec.ofInt IntKind.u32.bits (y:Int)).toNat:Nat):Int) ||| BitVec.ofInt IntKind.u32.bits (((BitVec.ofInt IntKind.u32.bits ((4294967295 - (BitVec.ofInt IntKind.u32.bits (x:Int) ^^^ BitVec.ofInt IntKind.u32.bits (y:Int)).toNat:Nat):Int) &&& BitVec.ofInt IntKind.u32.bits (d:Int)).toNat:Nat):Int)).toNat:Nat):Int) 31=some (.int .u32 ((if x<y+b then 1 else 0:Nat):Int)):=by
    have h:=shr_u32 (x:=(BitVec.ofInt IntKind.u32.bits (((BitVec.ofInt IntKind.u32.bits ((4294967295 - x:Nat):Int) &&& BitVec.ofInt IntKind.u32.bits (y:Int)).toNat:Nat):Int) ||| BitVec.ofInt IntKind.u32.bits (((BitVec.ofInt IntKind.u32.bits ((4294967295 - (BitVec.ofInt IntKind.u32.bits (x:Int) ^^^ BitVec.ofInt IntKind.u32.bits (y:Int)).toNat:Nat):Int) &&& BitVec.ofInt IntKind.u32.bits (d:Int)).toNat:Nat):Int)).toNat) (s:=31) (by omega)
    rw [show (2^31:Nat)=2147483648 from rfl,key] at h
    exact h
  simp only [c157,mNil,nat0,beq_self_eq_true,mSkip,mRet,mExit,mReg,mSeq,mCond,mTrue,mFalse,mBlock,mLv,mCodeE,mCodeR,mEndN,mEndR,mEndE,mOps,mSome,mGuard,mGtt,mGff,mGtf,mGft,mGu,mCallP,mCallR,mCallF,mCallO,mCallZ,mCallG,mCallM,mCallV,loopQ_exit,loopQ_ret,mO_mov,mO_newnil,mO_pick,mO_alloc,mO_box,mO_build,mO_bsl,mO_bslF,mO_newnilB,mO_bslB,mO_lenB,mO_appB,mO_allocA,mO_bslA,mO_appA,mO_ldb,mO_faddrb,mRsv,mO_ldf,mO_ld,mO_st,mO_sta,mO_nilchk,mO_bin,mO_binb,mO_binp,mO_bins,mO_neg,mO_com,mO_not,mO_conv,mO_mk,mO_mk0,mO_mkB,mO_s2b,mO_b2s,mO_cpy,mO_cut,mO_faddr,mO_fld,mO_iaddr,mO_iaddrf,mO_sidx,mO_len,mO_lenf,mO_slen,mO_scut,mO_app,mO_ext,mO_mx,mO_mn,mO_mkfn,evalOp,cutOp,argsE,ev,getE,putE,cellsOf,adopt,rowOf,binV,boolV,nilV,ar_add,ar_sub,ar_mul,ar_quo,ar_rem,ar_eq,ar_ne,ar_lt,ar_le,ar_gt,ar_ge,ar_and,ar_or,ar_xor,geto,bound,finRet,finNrm,ints,List.length_cons,List.length_nil,List.length_append,List.getElem?_cons_zero,List.getElem?_cons_succ,List.nil_append,List.cons_append,List.map_cons,List.map_nil,List.mapM_cons,List.mapM_nil,Option.map_some,Option.map_none,Option.bind_some,Option.pure_def,Option.bind_eq_bind,List.drop_zero,↓reduceIte,Nat.reduceEqDiff,Nat.reduceAdd,Nat.reduceMul,Nat.reduceLeDiff,Nat.reduceLT,Int.reduceToNat,Int.reduceLT,Int.reduceLE,reduceCtorEq,or_self,or_false,false_or,or_true,true_or,true_and,and_true,and_self,decide_true,decide_false,Bool.false_eq_true,Bool.true_eq_false,Bool.not_true,Bool.not_false,Nat.le_refl,eq_self,gt_iff_lt,ge_iff_le,ne_eq,not_true_eq_false,not_false_eq_true,storeOp,apartOf,freeze_nil,refsL,refs,List.flatMap_cons,List.flatMap_nil,List.append_nil,List.contains_nil,List.set_cons_zero,List.set_cons_succ,snap,snapL,fill_nums,flat_nums,nums_length,w1,w2,c1,c2,wv,s1]
  simp only [i157,OT,reduceIte,Nat.reduceEqDiff]
def lenTab:ByteArray:=⟨#[0,1,2,2,3,3,3,3,4,4,4,4,4,4,4,4,5,5,5,5,5,5,5,5,5,5,5,5,5,5,5,5,6,6,6,6,6,6,6,6,6,6,6,6,6,6,6,6,6,6,6,6,6,6,6,6,6,6,6,6,6,6,6,6,7,7,7,7,7,7,7,7,7,7,7,7,7,7,7,7,7,7,7,7,7,7,7,7,7,7,7,7,7,7,7,7,7,7,7,7,7,7,7,7,7,7,7,7,7,7,7,7,7,7,7,7,7,7,7,7,7,7,7,7,7,7,7,7,8,8,8,8,8,8,8,8,8,8,8,8,8,8,8,8,8,8,8,8,8,8,8,8,8,8,8,8,8,8,8,8,8,8,8,8,8,8,8,8,8,8,8,8,8,8,8,8,8,8,8,8,8,8,8,8,8,8,8,8,8,8,8,8,8,8,8,8,8,8,8,8,8,8,8,8,8,8,8,8,8,8,8,8,8,8,8,8,8,8,8,8,8,8,8,8,8,8,8,8,8,8,8,8,8,8,8,8,8,8,8,8,8,8,8,8,8,8,8,8,8,8,8,8,8,8,8,8]⟩
theorem lenTab_size:lenTab.size=256:=by decide +kernel
theorem lenTab_ok:∀n<256,∃v:Nat,(lenTab[n]?).map (fun b=>b.toNat)=some v∧n<2^v∧(n=0∨2^v≤2*n):=by
  have h:∀n:Fin 256,∃v:Fin 9,(lenTab[n.val]?).map (fun b=>b.toNat)=some v.val∧n.val<2^v.val∧(n.val=0∨2^v.val≤2*n.val):=by decide +kernel
  intro n hn
  obtain ⟨v,hv⟩:=h ⟨n,hn⟩
  exact ⟨v.val,hv⟩
def c166t:IR:=
 .seq (.reg none [⟨some 2,.mov (.k (.int .i64 0)),none⟩])
 (.lv [0,2] (.seq (.seq (.reg none [⟨some 3,.mov (.t 0),none⟩,⟨some 4,.bin .ge (.t 3) (.k (.int .u32 65536)),none⟩])
 (.lv [0,2,4] (.cond (.t 4) (.lv [0] (.seq (.reg none [⟨some 5,.mov (.t 0),none⟩,⟨some 6,.bin .shr (.t 5) (.k (.int .u64 16)),none⟩,⟨some 0,.mov (.t 6),none⟩])
 (.lv [0] (.reg none [⟨some 2,.mov (.k (.int .i64 16)),none⟩]))))
 (.skip))))
 (.lv [0,2] (.seq (.seq (.reg none [⟨some 7,.mov (.t 0),none⟩,⟨some 8,.bin .ge (.t 7) (.k (.int .u32 256)),none⟩])
 (.lv [0,2,8] (.cond (.t 8) (.lv [0,2] (.seq (.reg none [⟨some 9,.mov (.t 0),none⟩,⟨some 10,.bin .shr (.t 9) (.k (.int .u64 8)),none⟩,⟨some 0,.mov (.t 10),none⟩])
 (.lv [0,2] (.reg none [⟨some 11,.mov (.t 2),none⟩,⟨some 12,.bin .add (.t 11) (.k (.int .i64 8)),none⟩,⟨some 2,.mov (.t 12),none⟩]))))
 (.skip))))
 (.lv [0,2] (.seq (.reg none [⟨some 13,.mov (.t 2),none⟩,⟨some 14,.mov (.t 0),none⟩,⟨some 15,.conv .u8 (.t 14),none⟩,⟨some 16,.sidx (.k (.str lenTab)) (.t 15),none⟩,⟨some 17,.conv .i64 (.t 16),none⟩,⟨some 18,.bin .add (.t 13) (.t 17),none⟩,⟨some 2,.mov (.t 18),none⟩])
 (.ret)))))))
theorem c166_ok {x:Nat} (hx:x<4294967296) (h0:0<x):∃v:Nat,x<2^v∧2^v≤2*x∧v≤32∧Go.V.Call tab E 166 [.int .u32 x] [] (.int .i64 v) []:=by
  have step:∀n:Nat,n≤24→x/2^n<256→0<x/2^n→∃v:Nat,(lenTab[x/2^n]?).map (fun b=>b.toNat)=some v∧v<256∧x<2^(n+v)∧2^(n+v)≤2*x∧n+v≤32:=fun n hn hy hy0=>by
    obtain ⟨v,h1,h2,h3⟩:=lenTab_ok _ hy
    have hp:0<2^n:=Nat.pow_pos (by omega)
    have ha:2^(n+v)≤2*x:=by
      rw [Nat.pow_add]
      have e1:2^n*2^v≤2^n*(2*(x/2^n)):=Nat.mul_le_mul_left _ (by omega)
      have e2:2^n*(2*(x/2^n))=2*(2^n*(x/2^n)):=by rw [Nat.mul_left_comm]
      have e3:=Nat.mul_div_le x (2^n)
      omega
    refine ⟨v,h1,?_,?_,ha,?_⟩
    · have hb:lenTab[x/2^n]?=some (lenTab[x/2^n]'(by rw [lenTab_size];exact hy)):=getElem?_pos ..
      rw [hb] at h1
      simp at h1
      rw [←h1]
      exact UInt8.toNat_lt _
    · have e4:x/2^n<2^v:=h2
      rw [Nat.div_lt_iff_lt_mul hp] at e4
      rw [Nat.pow_add,Nat.mul_comm]
      exact e4
    · rcases Nat.lt_or_ge 32 (n+v) with h|h
      · have:2^33≤2^(n+v):=Nat.pow_le_pow_right (by omega) h
        omega
      · exact h
  have idx:∀(y v:Nat),(lenTab[y]?).map (fun b=>b.toNat)=some v→∃b:UInt8,lenTab[y]?=some b∧((b.toNat:Nat):Int)=(v:Int):=fun y v h=>by
    cases hb:lenTab[y]? with
    | none=>rw [hb] at h;cases h
    | some b=>rw [hb] at h;simp at h;exact ⟨b,rfl,by omega⟩
  have w8:∀y:Nat,y<256→IntKind.u8.wrap (y:Int)=(y:Int):=fun y hy=>by
    simp only [IntKind.wrap,IntKind.bits,IntKind.signed]
    simp
    omega
  have s16:shiftOp .shr .u32 (x:Int) 16=some (.int .u32 ((x/2^16:Nat):Int)):=shr_u32 (s:=16) (by omega)
  have s8:shiftOp .shr .u32 (x:Int) 8=some (.int .u32 ((x/2^8:Nat):Int)):=shr_u32 (s:=8) (by omega)
  have s24:shiftOp .shr .u32 ((x/2^16:Nat):Int) 8=some (.int .u32 ((x/2^16/2^8:Nat):Int)):=shr_u32 (s:=8) (by omega)
  have e24:x/2^16/2^8=x/2^24:=by omega
  rw [e24] at s24
  by_cases g1:65536≤x
  · have g1':(65536:Int)≤(x:Int):=by omega
    by_cases g2:256≤x/2^16
    · have g2':(256:Int)≤((x/2^16:Nat):Int):=by omega
      obtain ⟨v,h1,h2,h3,h4,h5⟩:=step 24 (by omega) (by omega) (by omega)
      obtain ⟨b,hb,hbv⟩:=idx _ _ h1
      refine ⟨24+v,h3,h4,h5,?_⟩
      refine Go.V.Call.mach i166 c166t rfl rfl rfl rfl ?_
      have u:=w8 (x/2^24) (by omega)
      have u0:(0:Int)≤((x/2^24:Nat):Int):=by omega
      have u1:IntKind.i64.wrap (v:Int)=(v:Int):=wrap_i64 (by omega) (by omega)
      have u2:IntKind.i64.wrap (24+(v:Int))=((24+v:Nat):Int):=by rw [wrap_i64 (by omega) (by omega)];omega
      have u3:IntKind.i64.wrap (16+8)=24:=by decide
      generalize x/2^24=y at *
      generalize x/2^16=z at *
      simp only [c166t,go_sem,storeOp,apartOf,freeze_nil,refsL,refs,List.flatMap_cons,List.flatMap_nil,List.append_nil,List.contains_nil,List.set_cons_zero,List.set_cons_succ,snap,snapL,fill_nums,flat_nums,nums_length,g1',g2',s16,s24,u,u0,Int.toNat_natCast,hb,hbv,u1,u2,u3]
      simp only [i166,OT,reduceIte,Nat.reduceEqDiff]
    · have g2n:¬(256:Int)≤((x/2^16:Nat):Int):=by omega
      obtain ⟨v,h1,h2,h3,h4,h5⟩:=step 16 (by omega) (by omega) (by omega)
      obtain ⟨b,hb,hbv⟩:=idx _ _ h1
      refine ⟨16+v,h3,h4,h5,?_⟩
      refine Go.V.Call.mach i166 c166t rfl rfl rfl rfl ?_
      have u:=w8 (x/2^16) (by omega)
      have u0:(0:Int)≤((x/2^16:Nat):Int):=by omega
      have u1:IntKind.i64.wrap (v:Int)=(v:Int):=wrap_i64 (by omega) (by omega)
      have u2:IntKind.i64.wrap (16+(v:Int))=((16+v:Nat):Int):=by rw [wrap_i64 (by omega) (by omega)];omega
      generalize x/2^16=y at *
      simp only [c166t,go_sem,storeOp,apartOf,freeze_nil,refsL,refs,List.flatMap_cons,List.flatMap_nil,List.append_nil,List.contains_nil,List.set_cons_zero,List.set_cons_succ,snap,snapL,fill_nums,flat_nums,nums_length,g1',g2n,s16,u,u0,Int.toNat_natCast,hb,hbv,u1,u2]
      simp only [i166,OT,reduceIte,Nat.reduceEqDiff]
  · have g1n:¬(65536:Int)≤(x:Int):=by omega
    by_cases g2:256≤x
    · have g2':(256:Int)≤(x:Int):=by omega
      obtain ⟨v,h1,h2,h3,h4,h5⟩:=step 8 (by omega) (by omega) (by omega)
      obtain ⟨b,hb,hbv⟩:=idx _ _ h1
      refine ⟨8+v,h3,h4,h5,?_⟩
      refine Go.V.Call.mach i166 c166t rfl rfl rfl rfl ?_
      have u:=w8 (x/2^8) (by omega)
      have u0:(0:Int)≤((x/2^8:Nat):Int):=by omega
      have u1:IntKind.i64.wrap (v:Int)=(v:Int):=wrap_i64 (by omega) (by omega)
      have u2:IntKind.i64.wrap (8+(v:Int))=((8+v:Nat):Int):=by rw [wrap_i64 (by omega) (by omega)];omega
      have u3:IntKind.i64.wrap (0+8)=8:=by decide
      generalize x/2^8=y at *
      simp only [c166t,go_sem,storeOp,apartOf,freeze_nil,refsL,refs,List.flatMap_cons,List.flatMap_nil,List.append_nil,List.contains_nil,List.set_cons_zero,List.set_cons_succ,snap,snapL,fill_nums,flat_nums,nums_length,g1n,g2',s8,u,u0,Int.toNat_natCast,hb,hbv,u1,u2,u3]
      simp only [i166,OT,reduceIte,Nat.reduceEqDiff]
    · have g2n:¬(256:Int)≤(x:Int):=by omega
      obtain ⟨v,h1,h2,h3,h4,h5⟩:=step 0 (by omega) (by simpa using (show x<256 by omega)) (by simpa using h0)
      rw [show x/2^0=x by simp] at h1
      obtain ⟨b,hb,hbv⟩:=idx _ _ h1
      refine ⟨0+v,h3,h4,h5,?_⟩
      refine Go.V.Call.mach i166 c166t rfl rfl rfl rfl ?_
      have u:=w8 (x) (by omega)
      have u0:(0:Int)≤((x:Nat):Int):=by omega
      have u1:IntKind.i64.wrap (v:Int)=(v:Int):=wrap_i64 (by omega) (by omega)
      have u2:IntKind.i64.wrap (0+(v:Int))=((0+v:Nat):Int):=by rw [wrap_i64 (by omega) (by omega)];omega
      simp only [c166t,go_sem,storeOp,apartOf,freeze_nil,refsL,refs,List.flatMap_cons,List.flatMap_nil,List.append_nil,List.contains_nil,List.set_cons_zero,List.set_cons_succ,snap,snapL,fill_nums,flat_nums,nums_length,g1n,g2n,u,u0,Int.toNat_natCast,hb,hbv,u1,u2]
      simp only [i166,OT,reduceIte,Nat.reduceEqDiff]
theorem c159_ok {x:Nat} (hx:x<4294967296) (h0:0<x):∃s:Nat,s<32∧2147483648≤x*2^s∧x*2^s<4294967296∧Go.V.Call tab E 159 [.int .u32 x] [] (.int .i64 s) []:=by
  obtain ⟨v,h1,h2,h3,h4⟩:=c166_ok (E:=E) hx h0
  have hv0:0<v:=by
    rcases Nat.eq_zero_or_pos v with rfl|h
    · simp at h1;omega
    · exact h
  have e1:2^v*2^(32 - v)=4294967296:=by rw [←Nat.pow_add,show v+(32 - v)=32 by omega]
  have hp:0<2^(32 - v):=Nat.pow_pos (by omega)
  refine ⟨32 - v,by omega,?_,?_,?_⟩
  · have:=Nat.mul_le_mul_right (2^(32 - v)) h2
    rw [e1,Nat.mul_assoc] at this
    omega
  · have:=(Nat.mul_lt_mul_right hp).2 h1
    rw [e1] at this
    exact this
  · refine Go.V.Call.mach i159 c159 rfl rfl rfl rfl ?_
    have w:IntKind.i64.wrap (32 - (v:Int))=((32 - v:Nat):Int):=by rw [wrap_i64 (by omega) (by omega)];omega
    simp only [c159,go_sem]
    refine goP h4 ?_
    simp only [go_sem,w]
    simp only [i159,OT,reduceIte,Nat.reduceEqDiff]
end
end Go.Proofs.Ytlejgleocnemoaa.I
