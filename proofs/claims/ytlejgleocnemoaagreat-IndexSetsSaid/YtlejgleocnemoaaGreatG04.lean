/- The texts VFit VClone VGrow VExt L17a WSized L07a L07b L06a L07g L07f L06b L01a L06c L06d L17b L17c L07c L07d L07i L01b L07h L07j L07k L07l L01c L01d L06e L06f L07n L07m L07o L07p L08p L11a, one behind the other. Conditions: each text's own. -/
import Derived.Test.YtlejgleocnemoaaGreatProg
import Derived.Test.YtlejgleocnemoaaGreatG03
import Derived.Test.YtlejgleocnemoaaGreatG02
import Derived.WalkKit
import Derived.Lib.AppendZeros
import Derived.RegionTactic
import Derived.SizedLaws
import Derived.ChangeSlices
set_option linter.unusedSimpArgs false
set_option linter.unusedVariables false
namespace Go.Proofs.YtlejgleocnemoaaGreat.I
open Go Go.V
theorem ok4:okFun Tryz.prog 4 i4=true:=by kernel_rfl
theorem ok9:okFun Tryz.prog 9 i9=true:=by kernel_rfl
theorem ok10:okFun Tryz.prog 10 i10=true:=by kernel_rfl
theorem ok11:okFun Tryz.prog 11 i11=true:=by kernel_rfl
theorem ok12:okFun Tryz.prog 12 i12=true:=by kernel_rfl
theorem ok13:okFun Tryz.prog 13 i13=true:=by kernel_rfl
theorem ok16:okFun Tryz.prog 16 i16=true:=by kernel_rfl
theorem ok17:okFun Tryz.prog 17 i17=true:=by kernel_rfl
theorem ok18:okFun Tryz.prog 18 i18=true:=by kernel_rfl
theorem ok20:okFun Tryz.prog 20 i20=true:=by kernel_rfl
theorem ok29:okFun Tryz.prog 29 i29=true:=by kernel_rfl
theorem ok31:okFun Tryz.prog 31 i31=true:=by kernel_rfl
theorem ok32:okFun Tryz.prog 32 i32=true:=by kernel_rfl
theorem ok44:okFun Tryz.prog 44 i44=true:=by kernel_rfl
theorem ok45:okFun Tryz.prog 45 i45=true:=by kernel_rfl
theorem ok46:okFun Tryz.prog 46 i46=true:=by kernel_rfl
theorem ok47:okFun Tryz.prog 47 i47=true:=by kernel_rfl
theorem ok48:okFun Tryz.prog 48 i48=true:=by kernel_rfl
theorem ok49:okFun Tryz.prog 49 i49=true:=by kernel_rfl
theorem ok50:okFun Tryz.prog 50 i50=true:=by kernel_rfl
theorem ok51:okFun Tryz.prog 51 i51=true:=by kernel_rfl
theorem ok52:okFun Tryz.prog 52 i52=true:=by kernel_rfl
theorem ok54:okFun Tryz.prog 54 i54=true:=by kernel_rfl
theorem ok55:okFun Tryz.prog 55 i55=true:=by kernel_rfl
theorem ok56:okFun Tryz.prog 56 i56=true:=by kernel_rfl
theorem ok57:okFun Tryz.prog 57 i57=true:=by kernel_rfl
theorem ok58:okFun Tryz.prog 58 i58=true:=by kernel_rfl
theorem ok59:okFun Tryz.prog 59 i59=true:=by kernel_rfl
theorem ok60:okFun Tryz.prog 60 i60=true:=by kernel_rfl
theorem ok61:okFun Tryz.prog 61 i61=true:=by kernel_rfl
theorem ok62:okFun Tryz.prog 62 i62=true:=by kernel_rfl
theorem ok63:okFun Tryz.prog 63 i63=true:=by kernel_rfl
theorem ok64:okFun Tryz.prog 64 i64=true:=by kernel_rfl
theorem ok65:okFun Tryz.prog 65 i65=true:=by kernel_rfl
theorem ok69:okFun Tryz.prog 69 i69=true:=by kernel_rfl
theorem ok78:okFun Tryz.prog 78 i78=true:=by kernel_rfl
theorem ok86:okFun Tryz.prog 86 i86=true:=by kernel_rfl
theorem ok87:okFun Tryz.prog 87 i87=true:=by kernel_rfl
theorem ok88:okFun Tryz.prog 88 i88=true:=by kernel_rfl
theorem ok90:okFun Tryz.prog 90 i90=true:=by kernel_rfl
theorem ok99:okFun Tryz.prog 99 i99=true:=by kernel_rfl
theorem ok100:okFun Tryz.prog 100 i100=true:=by kernel_rfl
theorem ok103:okFun Tryz.prog 103 i103=true:=by kernel_rfl
theorem ok106:okFun Tryz.prog 106 i106=true:=by kernel_rfl
theorem ok107:okFun Tryz.prog 107 i107=true:=by kernel_rfl
theorem ok108:okFun Tryz.prog 108 i108=true:=by kernel_rfl
theorem ok109:okFun Tryz.prog 109 i109=true:=by kernel_rfl
theorem ok111:okFun Tryz.prog 111 i111=true:=by kernel_rfl
theorem ok113:okFun Tryz.prog 113 i113=true:=by kernel_rfl
theorem ok114:okFun Tryz.prog 114 i114=true:=by kernel_rfl
theorem ok116:okFun Tryz.prog 116 i116=true:=by kernel_rfl
theorem ok121:okFun Tryz.prog 121 i121=true:=by kernel_rfl
theorem ok126:okFun Tryz.prog 126 i126=true:=by kernel_rfl
theorem ok127:okFun Tryz.prog 127 i127=true:=by kernel_rfl
theorem ok137:okFun Tryz.prog 137 i137=true:=by kernel_rfl
theorem ok138:okFun Tryz.prog 138 i138=true:=by kernel_rfl
theorem ok139:okFun Tryz.prog 139 i139=true:=by kernel_rfl
theorem ok143:okFun Tryz.prog 143 i143=true:=by kernel_rfl
theorem ok144:okFun Tryz.prog 144 i144=true:=by kernel_rfl
theorem ok145:okFun Tryz.prog 145 i145=true:=by kernel_rfl
theorem ok146:okFun Tryz.prog 146 i146=true:=by kernel_rfl
theorem ok147:okFun Tryz.prog 147 i147=true:=by kernel_rfl
theorem ok148:okFun Tryz.prog 148 i148=true:=by kernel_rfl
theorem ok149:okFun Tryz.prog 149 i149=true:=by kernel_rfl
theorem ok150:okFun Tryz.prog 150 i150=true:=by kernel_rfl
theorem ok151:okFun Tryz.prog 151 i151=true:=by kernel_rfl
theorem ok154:okFun Tryz.prog 154 i154=true:=by kernel_rfl
theorem ok155:okFun Tryz.prog 155 i155=true:=by kernel_rfl
theorem ok156:okFun Tryz.prog 156 i156=true:=by kernel_rfl
theorem ok157:okFun Tryz.prog 157 i157=true:=by kernel_rfl
theorem ok158:okFun Tryz.prog 158 i158=true:=by kernel_rfl
theorem ok165:okFun Tryz.prog 165 i165=true:=by kernel_rfl
theorem ok169:okFun Tryz.prog 169 i169=true:=by kernel_rfl
theorem ok170:okFun Tryz.prog 170 i170=true:=by kernel_rfl
theorem ok171:okFun Tryz.prog 171 i171=true:=by kernel_rfl
theorem ok172:okFun Tryz.prog 172 i172=true:=by kernel_rfl
theorem ok173:okFun Tryz.prog 173 i173=true:=by kernel_rfl
theorem ok174:okFun Tryz.prog 174 i174=true:=by kernel_rfl
theorem ok175:okFun Tryz.prog 175 i175=true:=by kernel_rfl
theorem ok176:okFun Tryz.prog 176 i176=true:=by kernel_rfl
theorem ok178:okFun Tryz.prog 178 i178=true:=by kernel_rfl
theorem ok179:okFun Tryz.prog 179 i179=true:=by kernel_rfl
theorem ok180:okFun Tryz.prog 180 i180=true:=by kernel_rfl
theorem ok182:okFun Tryz.prog 182 i182=true:=by kernel_rfl
theorem ok185:okFun Tryz.prog 185 i185=true:=by kernel_rfl
theorem ok186:okFun Tryz.prog 186 i186=true:=by kernel_rfl
theorem ok188:okFun Tryz.prog 188 i188=true:=by kernel_rfl
theorem ok189:okFun Tryz.prog 189 i189=true:=by kernel_rfl
theorem ok190:okFun Tryz.prog 190 i190=true:=by kernel_rfl
theorem ok191:okFun Tryz.prog 191 i191=true:=by kernel_rfl
theorem ok192:okFun Tryz.prog 192 i192=true:=by kernel_rfl
theorem ok193:okFun Tryz.prog 193 i193=true:=by kernel_rfl
theorem ok194:okFun Tryz.prog 194 i194=true:=by kernel_rfl
theorem ok195:okFun Tryz.prog 195 i195=true:=by kernel_rfl
theorem ok196:okFun Tryz.prog 196 i196=true:=by kernel_rfl
theorem ok197:okFun Tryz.prog 197 i197=true:=by kernel_rfl
theorem ok200:okFun Tryz.prog 200 i200=true:=by kernel_rfl
theorem ok201:okFun Tryz.prog 201 i201=true:=by kernel_rfl
theorem tab0_ok:∀f i,tab0 f=some i→okFun Tryz.prog f i=true:=by
  intro f i h
  unfold tab0 at h
  split at h
  · exact Option.some.inj h▸ok4
  · exact Option.some.inj h▸ok9
  · exact Option.some.inj h▸ok10
  · exact Option.some.inj h▸ok11
  · exact Option.some.inj h▸ok12
  · exact Option.some.inj h▸ok13
  · exact Option.some.inj h▸ok16
  · exact Option.some.inj h▸ok17
  · exact Option.some.inj h▸ok18
  · exact Option.some.inj h▸ok20
  · exact Option.some.inj h▸ok29
  · exact Option.some.inj h▸ok31
  · exact Option.some.inj h▸ok32
  · exact Option.some.inj h▸ok44
  · exact Option.some.inj h▸ok45
  · exact Option.some.inj h▸ok46
  · exact Option.some.inj h▸ok47
  · exact Option.some.inj h▸ok48
  · exact Option.some.inj h▸ok49
  · exact Option.some.inj h▸ok50
  · exact Option.some.inj h▸ok51
  · exact Option.some.inj h▸ok52
  · exact Option.some.inj h▸ok54
  · exact Option.some.inj h▸ok55
  · exact Option.some.inj h▸ok56
  · exact Option.some.inj h▸ok57
  · exact Option.some.inj h▸ok58
  · exact Option.some.inj h▸ok59
  · exact Option.some.inj h▸ok60
  · exact Option.some.inj h▸ok61
  · exact Option.some.inj h▸ok62
  · exact Option.some.inj h▸ok63
  · exact Option.some.inj h▸ok64
  · exact Option.some.inj h▸ok65
  · exact Option.some.inj h▸ok69
  · exact Option.some.inj h▸ok78
  · exact Option.some.inj h▸ok86
  · exact Option.some.inj h▸ok87
  · exact Option.some.inj h▸ok88
  · exact Option.some.inj h▸ok90
  · cases h
theorem tab1_ok:∀f i,tab1 f=some i→okFun Tryz.prog f i=true:=by
  intro f i h
  unfold tab1 at h
  split at h
  · exact Option.some.inj h▸ok99
  · exact Option.some.inj h▸ok100
  · exact Option.some.inj h▸ok103
  · exact Option.some.inj h▸ok106
  · exact Option.some.inj h▸ok107
  · exact Option.some.inj h▸ok108
  · exact Option.some.inj h▸ok109
  · exact Option.some.inj h▸ok111
  · exact Option.some.inj h▸ok113
  · exact Option.some.inj h▸ok114
  · exact Option.some.inj h▸ok116
  · exact Option.some.inj h▸ok121
  · exact Option.some.inj h▸ok126
  · exact Option.some.inj h▸ok127
  · exact Option.some.inj h▸ok137
  · exact Option.some.inj h▸ok138
  · exact Option.some.inj h▸ok139
  · exact Option.some.inj h▸ok143
  · exact Option.some.inj h▸ok144
  · exact Option.some.inj h▸ok145
  · exact Option.some.inj h▸ok146
  · exact Option.some.inj h▸ok147
  · exact Option.some.inj h▸ok148
  · exact Option.some.inj h▸ok149
  · exact Option.some.inj h▸ok150
  · exact Option.some.inj h▸ok151
  · exact Option.some.inj h▸ok154
  · exact Option.some.inj h▸ok155
  · exact Option.some.inj h▸ok156
  · exact Option.some.inj h▸ok157
  · exact Option.some.inj h▸ok158
  · exact Option.some.inj h▸ok165
  · exact Option.some.inj h▸ok169
  · exact Option.some.inj h▸ok170
  · exact Option.some.inj h▸ok171
  · exact Option.some.inj h▸ok172
  · exact Option.some.inj h▸ok173
  · exact Option.some.inj h▸ok174
  · exact Option.some.inj h▸ok175
  · exact Option.some.inj h▸ok176
  · exact Option.some.inj h▸ok178
  · exact Option.some.inj h▸ok179
  · exact Option.some.inj h▸ok180
  · exact Option.some.inj h▸ok182
  · exact Option.some.inj h▸ok185
  · cases h
theorem tab2_ok:∀f i,tab2 f=some i→okFun Tryz.prog f i=true:=by
  intro f i h
  unfold tab2 at h
  split at h
  · exact Option.some.inj h▸ok186
  · exact Option.some.inj h▸ok188
  · exact Option.some.inj h▸ok189
  · exact Option.some.inj h▸ok190
  · exact Option.some.inj h▸ok191
  · exact Option.some.inj h▸ok192
  · exact Option.some.inj h▸ok193
  · exact Option.some.inj h▸ok194
  · exact Option.some.inj h▸ok195
  · exact Option.some.inj h▸ok196
  · exact Option.some.inj h▸ok197
  · exact Option.some.inj h▸ok200
  · exact Option.some.inj h▸ok201
  · cases h
theorem tab_ok:∀f i,tab f=some i→okFun Tryz.prog f i=true:=by
  intro f i h
  unfold tab at h
  cases h0:tab0 f with
  | some j=>rw [h0] at h;exact Option.some.inj h▸tab0_ok f j h0
  | none=>
  rw [h0] at h
  simp only at h
  cases h1:tab1 f with
  | some j=>rw [h1] at h;exact Option.some.inj h▸tab1_ok f j h1
  | none=>
  rw [h1] at h
  simp only at h
  exact tab2_ok f i h
theorem mixed:Tryz.prog.follows .mixedOrders=true:=by kernel_rfl
end Go.Proofs.YtlejgleocnemoaaGreat.I

namespace Go.V
open Go
section
variable {P:Program}
theorem fin_own {w:World} {fz:Nat→Prop} {N:Nat} {s:St} {a:Act} {w':World} {fn:Func} {rs:List Res} {rv r:AV} {m:List AObj} (hs:SR w fz [] [] N s a w') (hk:okRess P N fn.results.toList rs=true) (h6:resAll s rs=some rv) (h7:ownOut s.mem rv=some (r,m)) :
    a.defers=[]∧∃v,(results fn a.tmps).run P w'=.ok v w'∧∃v' fz' ρ',Ending.returned v=.returned v'∧Ext w fz [] [] w' fz' m ρ'∧Mem w' fz' m ρ'∧Rep w' fz' m ρ' r v':=by
  obtain ⟨fz1,ρ1,e1,e2,e3,e4,e5⟩:=hs
  obtain ⟨u,g1,g2⟩:=results_ok (fn:=fn) (env:=s.env) e2 e3 (by rw [e4];exact hk) h6
  obtain ⟨ρ2,q1,q2,q3⟩:=own_out e2 h7 g2
  refine ⟨e5,u,g1,u,fz1,ρ2,rfl,⟨e1.os,e1.tape,e1.output,e1.size,e1.blk,e1.fzblk,e1.sub,e1.new,fun n o h=>by simp at h,fun n v b hv hb=>?_⟩,q1,q2⟩
  obtain ⟨k,rfl⟩:=q3 n v hv
  cases hρ:ρ1[k]? with
  | none=>rw [hρ] at hb;simp [undef,Value.ownBlock] at hb
  | some v=>
    rw [hρ] at hb
    exact e1.own k v b hρ hb
theorem equalIn_slice (d:Nat) {t e:TypeId} {w:World} (ht:P.underlying t=some (.slice e)) (A:Option Addr) (n c:Nat):(Op.equalIn (d+1) t (.slice A n c) (.slice none 0 0)).run P w=.ok A.isNone w:=by
  cases A<;>simp only [Op.equalIn,Sem.run_bind,run_underlying ht,Result.andThen_ok,Sem.run_pure,Option.isNone]
def nilIR (e sz:Nat):IR:=.seq (.reg none [⟨some 2,.newnil e sz,none⟩]) .ret
def cloneIR (e sz bytes:Nat):IR:=.seq (.reg none [⟨some 5,.bsl e sz [],none⟩,⟨some 6,.mov (.t 0),none⟩,⟨some 7,.app e sz bytes (.t 5) (.t 6),none⟩,⟨some 2,.mov (.t 7),none⟩]) .ret
theorem rep_slA {w:World} {fz:Nat→Prop} {mem:List AObj} {ρ:List Value} {n sz:Nat} {cs:List AV} {v:Value} (h:Rep w fz mem ρ (.sl n sz cs) v):∃A c,v=.slice A n c∧(A=none→n=0∧cs=[]):=by
  cases h with
  | gr h=>
    cases h with
    | sl0=>exact ⟨_,_,rfl,fun _=>⟨rfl,rfl⟩⟩
    | sl=>exact ⟨_,_,rfl,fun h=>by cases h⟩
theorem clone_ok {f T T' e sz bytes i0 i1:Nat} {ops0:Array Oper} {o3 o4:Oper} {c2 c3:Code} (hm:P.follows .mixedOrders=true) (fn:Func) (hfn:P.funcs[f]?=some fn)
    (hbody : fn.body = some (.seq (.region i0 ops0 false) (.seq (.seq (.region i1 #[o3, o4] false) (.cond (.tmp 4) c2 .skip)) c3))) (hname : (fn.name == "runtime.NumGoroutine") = false) (hN : fn.ntmps = 8)
    (hres:okRess P 8 fn.results.toList [.t 2]=true) (h0:okRegion P 8 ops0 false none [⟨some 2,.newnil e sz,none⟩]=true) (h3:okAt P 8 #[o3,o4] 0 ⟨some 3,.mov (.t 0),none⟩=true)
    (h4:o4.op=.binOp .eql T (.tmp 3) (.const (.slice none 0 0)) T') (h4d:o4.dst=some 4) (h4g:o4.guard=none) (hT:P.underlying T=some (.slice e)) (hc2:okCode P 8 c2 (nilIR e sz)=true) (hc3:okCode P 8 c3 (cloneIR e sz bytes)=true)
    {n:Nat} {cs:List AV} (hb1:n*bytes≤140737488355328) (hb2:n≤140737488355328) :
    okFn P f=true∧CallS P f [.sl n sz cs] [] (.arr 0 0) [⟨false,e,sz,0,n,cs,false⟩]:=by
  refine ⟨by simp [okFn,hfn,hbody,hname],?_⟩
  intro w fz ρ vals hM hsz hrep
  have hρ:ρ=[]:=List.length_eq_zero_iff.1 hM.len
  subst hρ
  have hno:CallsOk P (fun _ _ _ _ _=>False):=fun h=>h.elim
  obtain ⟨v,rfl⟩:∃v,vals = #[v]:=by
    have:vals.size=1:=by simpa using hsz
    exact ⟨vals[0],by
      apply Array.ext
      · simpa using this
      · intro i h1 h2
        have:i=0:=by simp at h2;exact h2
        subst this
        rfl⟩
  have hv:=hrep 0 _ v rfl rfl
  refine calls_of_wp hfn hbody ?_
  have hs0:SR w fz [] [] 8 ⟨[(0,.sl n sz cs)],[]⟩ { tmps:=#[v]++Array.replicate (fn.ntmps - 1) undef,defers:=[] } w:=by
    refine ⟨fz,[],Ext.refl,hM,fun k hk=>?_,by simp [hN],rfl⟩
    cases k with
    | zero=>
      have:(#[v]++Array.replicate (fn.ntmps - 1) undef).getD 0 undef=v:=by simp [Array.getD,show 0<1+(fn.ntmps - 1) by omega]
      simp only [getE,if_true]
      rw [this]
      exact hv
    | succ k=>simp only [getE];exact .gr .any
  refine wp_seq ?_
  refine region_ok hno hm h0 hs0 (s':=⟨[(2,.arr 0 0),(0,.sl n sz cs)],[⟨false,e,sz,0,0,[],false⟩]⟩) (.cons (.go (.inl rfl) (.op rfl)) .nil) (fun a1 w1 hs1=>?_)
  refine wp_seq (wp_seq (wp_region ?_))
  show wpOps P #[o3,o4] _ [0,1] a1 w1
  rw [wpOps_cons]
  refine step_ok hno h3 hs1 (s':=⟨[(3,.sl n sz cs),(2,.arr 0 0),(0,.sl n sz cs)],[⟨false,e,sz,0,0,[],false⟩]⟩) (.go (.inl rfl) (.op rfl)) (fun a2 w2 hs2=>?_)
  rw [wpOps_cons]
  obtain ⟨fz2,ρ2,x1,x2,x3,x4,x5⟩:=id hs2
  obtain ⟨A,c,hA,hA0⟩:=rep_slA (x3 3 (by omega))
  have hrun:(execOp a2.eval o4).run P w2=.ok (.value (.bool A.isNone)) w2:=by
    have e1:a2.eval (.tmp 3)=.slice A n c:=hA
    have e2:a2.eval (.const (.slice none 0 0))=.slice none 0 0:=rfl
    have e3:(Op.equal T (.slice A n c) (.slice none 0 0)).run P w2=.ok A.isNone w2:=equalIn_slice 9999 hT A n c
    simp only [execOp,h4,e1,e2,Sem.run_bind,eqGuard,Result.andThen_ok,binOp,e3,Sem.run_pure]
    simp [e3]
  have hs3:SR w fz [] [] 8 ⟨[(4,.bool A.isNone),(3,.sl n sz cs),(2,.arr 0 0),(0,.sl n sz cs)],[⟨false,e,sz,0,0,[],false⟩]⟩ (a2.put o4.dst (.bool A.isNone)) w2:=by
    refine ⟨fz2,ρ2,x1,x2,?_,by rw [put_size];exact x4,by rw [put_defers];exact x5⟩
    rw [h4d]
    exact x3.put (d:=some 4) Ext.refl (.gr .bool)
  show wpOp P #[o3,o4] _ 1 _ a2 w2
  unfold wpOp
  simp only [show (#[o3,o4]:Array Oper)[1]?=some o4 from rfl,Region.wanted,h4g,if_true]
  refine .inl ?_
  unfold Oper.wp
  rw [hrun]
  rw [Oper.upon_value]
  simp only [wpOps,Exit.then]
  cases A with
  | none=>
    obtain ⟨rfl,rfl⟩:=hA0 rfl
    obtain ⟨k,hk⟩:=exec_ok (P:=P) (w0:=w) (fz0:=fz) (mem0:=[]) (ρ0:=[]) (N:=8) (C:=fun _ _ _ _ _=>False) hno hm (ir:=.cond (.t 4) (nilIR e sz) .skip) (c:=.cond (.tmp 4) c2 .skip)
      (s:=⟨[(4,.bool true),(3,.sl 0 sz []),(2,.arr 0 0),(0,.sl 0 sz [])],[⟨false,e,sz,0,0,[],false⟩]⟩)
      (.condT rfl (.seqN (.reg (.cons (.go (.inl rfl) (.op rfl)) .nil)) .ret)) (Q:=Exit.then (c3.wp P (bodyPost P fn fun e_1 w'=>∃v fz' ρ',e_1=.returned v∧Ext w fz [] [] w' fz' [⟨false,e,sz,0,0,[],false⟩] ρ'∧Mem w' fz' [⟨false,e,sz,0,0,[],false⟩] ρ'∧Rep w' fz' [⟨false,e,sz,0,0,[],false⟩] ρ' (.arr 0 0) v)) (bodyPost P fn fun e_1 w'=>∃v fz' ρ',e_1=.returned v∧Ext w fz [] [] w' fz' [⟨false,e,sz,0,0,[],false⟩] ρ'∧Mem w' fz' [⟨false,e,sz,0,0,[],false⟩] ρ'∧Rep w' fz' [⟨false,e,sz,0,0,[],false⟩] ρ' (.arr 0 0) v))
      (by simp [okCode,hc2,okOpd]) (.inl rfl) (fun a' w' hs'=>fin_own hs' hres rfl rfl)
    exact (hk _ _ hs3).wp
  | some A=>
    have happ:evalOp [⟨false,e,sz,0,0,[],false⟩,⟨false,e,sz,0,0,[],false⟩] (ev [(6,.sl n sz cs),(5,.arr 1 0),(4,.bool false),(3,.sl n sz cs),(2,.arr 0 0),(0,.sl n sz cs)]) (.app e sz bytes (.t 5) (.t 6)) =
        some (.arr 1 1,[⟨false,e,sz,0,0,[],false⟩,⟨false,e,sz,1,n,cs,false⟩]):=by
      simp [evalOp,rowOf,ev,getE,geto,hb1,hb2]
    have hexec:Exec (fun _ _ _ _ _=>False) (cloneIR e sz bytes) ⟨[(4,.bool false),(3,.sl n sz cs),(2,.arr 0 0),(0,.sl n sz cs)],[⟨false,e,sz,0,0,[],false⟩]⟩ .ret
        ⟨[(2,.arr 1 1),(7,.arr 1 1),(6,.sl n sz cs),(5,.arr 1 0),(4,.bool false),(3,.sl n sz cs),(2,.arr 0 0),(0,.sl n sz cs)],[⟨false,e,sz,0,0,[],false⟩,⟨false,e,sz,1,n,cs,false⟩]⟩:=
      .seqN (.reg (.cons (.go (.inl rfl) (.op rfl)) (.cons (.go (.inl rfl) (.op rfl)) (.cons (.go (.inl rfl) (.op happ)) (.cons (.go (.inl rfl) (.op rfl)) .nil))))) .ret
    obtain ⟨k2,hk2⟩:=exec_ok (P:=P) (w0:=w) (fz0:=fz) (mem0:=[]) (ρ0:=[]) (N:=8) (C:=fun _ _ _ _ _=>False) hno hm hexec (c:=c3)
      (Q:=bodyPost P fn fun e_1 w'=>∃v fz' ρ',e_1=.returned v∧Ext w fz [] [] w' fz' [⟨false,e,sz,0,n,cs,false⟩] ρ'∧Mem w' fz' [⟨false,e,sz,0,n,cs,false⟩] ρ'∧Rep w' fz' [⟨false,e,sz,0,n,cs,false⟩] ρ' (.arr 0 0) v)
      hc3 (.inl rfl) (fun a' w' hs'=>fin_own hs' hres rfl rfl)
    obtain ⟨k,hk⟩:=exec_ok (P:=P) (w0:=w) (fz0:=fz) (mem0:=[]) (ρ0:=[]) (N:=8) (C:=fun _ _ _ _ _=>False) hno hm (ir:=.cond (.t 4) (nilIR e sz) .skip) (c:=.cond (.tmp 4) c2 .skip)
      (s:=⟨[(4,.bool false),(3,.sl n sz cs),(2,.arr 0 0),(0,.sl n sz cs)],[⟨false,e,sz,0,0,[],false⟩]⟩)
      (.condF rfl .skip) (Q:=Exit.then (c3.wp P (bodyPost P fn fun e_1 w'=>∃v fz' ρ',e_1=.returned v∧Ext w fz [] [] w' fz' [⟨false,e,sz,0,n,cs,false⟩] ρ'∧Mem w' fz' [⟨false,e,sz,0,n,cs,false⟩] ρ'∧Rep w' fz' [⟨false,e,sz,0,n,cs,false⟩] ρ' (.arr 0 0) v)) (bodyPost P fn fun e_1 w'=>∃v fz' ρ',e_1=.returned v∧Ext w fz [] [] w' fz' [⟨false,e,sz,0,n,cs,false⟩] ρ'∧Mem w' fz' [⟨false,e,sz,0,n,cs,false⟩] ρ'∧Rep w' fz' [⟨false,e,sz,0,n,cs,false⟩] ρ' (.arr 0 0) v))
      (by simp [okCode,hc2,okOpd]) (.inl rfl) (fun a' w' hs'=>(hk2 _ _ hs').wp)
    exact (hk _ _ hs3).wp
end
end Go.V

namespace Go.Proofs.YtlejgleocnemoaaGreat.I
open Go Go.V Go.RowKit
theorem info3:(Tryz.prog.info? 3).map (fun i=>(i.zero,i.size,i.bytes))=some (some (.int .i64 0),1,8):=by kernel_rfl
set_option maxHeartbeats 3200000 in
set_option maxRecDepth 100000 in
theorem grow_run0 (w:World):Calls Tryz.prog 152 #[.slice none 0 0,.int .i64 0] w fun e w'=>e=.returned (.slice none 0 0)∧w'=w:=by
  have t22:=Tryz.underlying22
  have t3:=Tryz.underlying3
  go_enter Tryz.func152,Tryz.ntmps152
  go_wp2
  go_ret
  exact ⟨rfl,rfl⟩
set_option maxHeartbeats 3200000 in
set_option maxRecDepth 100000 in
theorem grow_run {n:Nat} (h0:0<n) (hn:n*8≤140737488355328) (w:World):Calls Tryz.prog 152 #[.slice none 0 0,.int .i64 n] w fun e w'=>
    ∃cur:Array Value,e=.returned (.slice (some ⟨w.heap.size,0,none⟩) 0 (grownCap w n 0 3))∧w'=w.drew.alloc (.cells cur 3)∧cur.size=grownCap w n 0 3*1:=by
  have t22:=Tryz.underlying22
  have t3:=Tryz.underlying3
  obtain ⟨i,hi,hz,hs,hb⟩:=info_parts info3
  have happ:=fun W=>Lib.run_append_nil_zeros (P:=Tryz.prog) W 22 3 22 3 i (.int .i64 0) .i64 .i64 t22 t3 hi hz n h0 (by rw [hs];omega) (by omega) (by rw [hb];omega)
  have hpos:(0:Int)<(n:Int):=by omega
  have hw:IntKind.i64.wrap ((n:Int) - 0)=(n:Int):=by rw [wrap_i64 (by omega) (by omega)];omega
  go_enter Tryz.func152,Tryz.ntmps152
  go_wp2_with (at_builtin;refine Lib.wpList_append_run _ rfl _ _ _ _ rfl _ _ rfl rfl _ _ (happ _) ?_)
  go_ret
  refine ⟨_,rfl,rfl,?_⟩
  have hge:=grownCap_ge w n 0 3
  simp only [Array.size_append,size_zeroCells]
  simp
  omega
theorem grow_ok {n ty sz:Nat} (hn:(n:Int)*8≤140737488355328):okFn Tryz.prog 152=true∧CallS Tryz.prog 152 [.nilsl ty sz,.int .i64 n] [] (.arr 0 0) [⟨false,3,1,0,0,[],false⟩]:=by
  refine ⟨by kernel_rfl,?_⟩
  intro w fz ρ vals hM hsz hrep
  have hρ:ρ=[]:=List.length_eq_zero_iff.1 hM.len
  subst hρ
  obtain ⟨v0,v1,rfl⟩:∃v0 v1,vals = #[v0,v1]:=by
    have:vals.size=2:=by simpa using hsz
    exact ⟨vals[0],vals[1],by
      apply Array.ext
      · simpa using this
      · intro i h1 h2
        have:i=0∨i=1:=by simp at h2;omega
        rcases this with rfl|rfl<;>rfl⟩
  have r0:=hrep 0 _ v0 rfl rfl
  have r1:=rep_int (hrep 1 _ v1 rfl rfl)
  obtain rfl:v0=.slice none 0 0:=by cases r0 with|gr h=>cases h;rfl
  subst r1
  have fin:∀(v:Value) (w':World),Old w w'→w'.ownsRow 0 3 1 v 0 []→(∀b,v.ownBlock=some b→w.heap.size≤b)→
      ∃u fz' ρ',Ending.returned v=.returned u∧Ext w fz [] [] w' fz' [⟨false,3,1,0,0,[],false⟩] ρ'∧Mem w' fz' [⟨false,3,1,0,0,[],false⟩] ρ'∧Rep w' fz' [⟨false,3,1,0,0,[],false⟩] ρ' (.arr 0 0) u:=fun v w' hw hr hb=>by
    obtain ⟨c1,c2⟩:=hM.push hw ⟨false,3,1,0,0,[],false⟩ v rfl (by decide) hb ⟨[],hr,rfl,fun u hu=>by simp at hu,fun j c u h=>by simp at h⟩
    refine ⟨v,fz,_,rfl,c1,c2,.arr (o:=⟨false,3,1,0,0,[],false⟩) rfl (Nat.le_refl _) ?_ (fun _=>rfl)⟩
    rcases hr.2 with ⟨rfl,_⟩|⟨g,cap,cur,rfl,_⟩<;>rfl
  rcases Nat.eq_zero_or_pos n with rfl|h0
  · refine (grow_run0 w).mono ?_
    rintro e w' ⟨rfl,rfl⟩
    exact fin _ _ (Old.refl _) (World.ownsRow_nil _ _ _ _) (fun b h=>by simp [Value.ownBlock] at h)
  · refine (grow_run h0 (by omega) w).mono ?_
    rintro e w' ⟨cur,rfl,rfl,hs⟩
    refine fin _ _ ?_ (World.ownsRow_made w.drew cur _ (Nat.zero_le _) (grownCap_le_maxLen w n 0 3 (by simp only [maxLen];omega)) hs) (fun b h=>?_)
    · have h1:=Old.drew w
      have h2:=Old.alloc w.drew (.cells cur 3)
      exact ⟨h2.os.trans h1.os,h2.tape.trans h1.tape,h2.output.trans h1.output,Nat.le_trans h1.size h2.size,fun b hb=>(h2.blk b hb).trans (h1.blk b hb)⟩
    · simp only [Value.ownBlock,Option.some.injEq] at h
      omega
end Go.Proofs.YtlejgleocnemoaaGreat.I

namespace Go.Proofs.YtlejgleocnemoaaGreat.I
open Go Go.V
def cloneOf (sz e bytes:Nat) (ys:List AV) (mem:List AObj):Option (AV × List AObj):=
  match ys,mem with
  | [.sl n sz' cs],[]=>if sz'=sz∧n*bytes≤140737488355328∧n≤140737488355328 then some (.arr 0 0,[⟨false,e,sz,0,n,cs,false⟩]) else none
  | _,_=>none
def growOf (e sz:Nat) (bytes:Int) (ys:List AV) (mem:List AObj):Option (AV × List AObj):=
  match ys,mem with
  | [.nilsl _ _,.int .i64 n],[]=>if 0≤n∧n*bytes≤140737488355328 then some (.arr 0 0,[⟨false,e,sz,0,0,[],false⟩]) else none
  | _,_=>none
def ext:CallF:=fun f ys mem=>
  match f with
  | 152=>growOf 3 1 8 ys mem
  | 110=>cloneOf 1 3 8 ys mem
  | 117=>cloneOf 3 98 56 ys mem
  | 112=>cloneOf 1 21 4 ys mem
  | _=>none
def E:CallRel:=fun f ys mem r m=>ext f ys mem=some (r,m)
theorem cloneOf_spec {sz e bytes:Nat} {ys:List AV} {mem:List AObj} {r:AV} {m:List AObj} (h:cloneOf sz e bytes ys mem=some (r,m)) :
    ∃n cs,ys=[.sl n sz cs]∧mem=[]∧n*bytes≤140737488355328∧n≤140737488355328∧r=.arr 0 0∧m=[⟨false,e,sz,0,n,cs,false⟩]:=by
  unfold cloneOf at h
  split at h
  · split at h
    · rename_i hc
      obtain ⟨rfl,h1,h2⟩:=hc
      simp only [Option.some.injEq,Prod.mk.injEq] at h
      exact ⟨_,_,rfl,rfl,h1,h2,h.1.symm,h.2.symm⟩
    · cases h
  · cases h
theorem growOf_spec {sz e:Nat} {bytes:Int} {ys:List AV} {mem:List AObj} {r:AV} {m:List AObj} (h:growOf e sz bytes ys mem=some (r,m)) :
    ∃ty sz' n,ys=[.nilsl ty sz',.int .i64 n]∧mem=[]∧0≤n∧n*bytes≤140737488355328∧r=.arr 0 0∧m=[⟨false,e,sz,0,0,[],false⟩]:=by
  unfold growOf at h
  split at h
  · split at h
    · rename_i hc
      obtain ⟨h1,h2⟩:=hc
      simp only [Option.some.injEq,Prod.mk.injEq] at h
      exact ⟨_,_,_,rfl,rfl,h1,h2,h.1.symm,h.2.symm⟩
    · cases h
  · cases h
theorem calls_ok:CallsOk Tryz.prog E:=by
  intro f ys mem r m h
  unfold E ext at h
  split at h
  · obtain ⟨ty,sz',n,rfl,rfl,h1,h2,rfl,rfl⟩:=growOf_spec h
    obtain ⟨m,rfl⟩:=Int.eq_ofNat_of_zero_le h1
    exact grow_ok (by omega)
  · obtain ⟨n,cs,rfl,rfl,h1,h2,rfl,rfl⟩:=cloneOf_spec h
    exact clone_ok (T:=22) (bytes:=8) (by kernel_rfl) Tryz.f110 (by kernel_rfl) rfl (by decide +kernel) rfl (by kernel_rfl) (by kernel_rfl) (by kernel_rfl) rfl rfl rfl (by kernel_rfl) (by kernel_rfl) (by kernel_rfl) h1 h2
  · obtain ⟨n,cs,rfl,rfl,h1,h2,rfl,rfl⟩:=cloneOf_spec h
    exact clone_ok (T:=33) (bytes:=56) (by kernel_rfl) Tryz.f117 (by kernel_rfl) rfl (by decide +kernel) rfl (by kernel_rfl) (by kernel_rfl) (by kernel_rfl) rfl rfl rfl (by kernel_rfl) (by kernel_rfl) (by kernel_rfl) h1 h2
  · obtain ⟨n,cs,rfl,rfl,h1,h2,rfl,rfl⟩:=cloneOf_spec h
    exact clone_ok (T:=23) (bytes:=4) (by kernel_rfl) Tryz.f112 (by kernel_rfl) rfl (by decide +kernel) rfl (by kernel_rfl) (by kernel_rfl) (by kernel_rfl) rfl rfl rfl (by kernel_rfl) (by kernel_rfl) (by kernel_rfl) h1 h2
  · cases h
end Go.Proofs.YtlejgleocnemoaaGreat.I

namespace Go.Proofs.YtlejgleocnemoaaGreatW.PrintWords
open Go.ChangeShapes Go.WideShapes
end Go.Proofs.YtlejgleocnemoaaGreatW.PrintWords

namespace Go.Proofs.YtlejgleocnemoaaGreat.I
open Go Go.V
attribute [local go_sem_proc ↓] reduceIte
attribute [local go_sem_proc] Nat.reduceEqDiff Nat.reduceAdd Nat.reduceMul Nat.reduceLeDiff Nat.reduceLT Int.reduceToNat Int.reduceLT Int.reduceLE reduceCtorEq Nat.reduceBEq
attribute [local go_sem] mNil nat0 beq_self_eq_true mSkip mRet mExit mReg mSeq mCond mTrue mFalse mBlock mLv mCodeE mCodeR mEndN mEndR mEndE mOps mSome mGuard mGtt mGff mGtf mGft mGu mCallP mCallR mCallF mCallO mCallZ mCallG mCallM mCallV loopQ_exit loopQ_ret mO_mov mO_newnil mO_pick mO_alloc mO_box mO_build mO_bsl mO_bslF mO_newnilB mO_bslB mO_lenB mO_appB mO_allocA mO_bslA mO_appA mO_ldb mO_faddrb mRsv mO_ldf mO_ld mO_st mO_sta mO_nilchk mO_bin mO_binb mO_binp mO_bins mO_neg mO_com mO_not mO_conv mO_mk mO_mk0 mO_mkB mO_s2b mO_b2s mO_cpy mO_cut mO_faddr mO_fld mO_iaddr mO_iaddrf mO_sidx mO_len mO_lenf mO_slen mO_scut mO_app mO_ext mO_mx mO_mn mO_mkfn evalOp cutOp argsE ev getE putE cellsOf adopt rowOf binV boolV nilV ar_add ar_sub ar_mul ar_quo ar_rem ar_eq ar_ne ar_lt ar_le ar_gt ar_ge ar_and ar_or ar_xor geto bound finRet finNrm ints List.length_cons List.length_nil List.length_append List.getElem?_cons_zero List.getElem?_cons_succ List.nil_append List.cons_append List.map_cons List.map_nil List.mapM_cons List.mapM_nil Option.map_some Option.map_none Option.bind_some Option.pure_def Option.bind_eq_bind List.drop_zero or_self or_false false_or or_true true_or true_and and_true and_self decide_true decide_false Bool.false_eq_true Bool.true_eq_false Bool.not_true Bool.not_false Nat.le_refl eq_self gt_iff_lt ge_iff_le ne_eq not_true_eq_false not_false_eq_true
def cnt:Int→Int→List Int→Option Int
  | _,n,[]=>some n
  | most,n,d::ds=>if d<0∨4096<most*max 1 d then none else cnt (most*max 1 d) (n*d) ds
def count (s:List Int):Option Int:=if 8<s.length then none else cnt 1 1 s
def optP:Option Int→AV
  | some n=>.tup [.int .i64 n,.bool true]
  | none=>.tup [.int .i64 0,.bool false]
def In64 (n:Int):Prop:=-9223372036854775808≤n∧n≤9223372036854775807
theorem getD_drop {s:List Int} {k:Nat} (h:k<s.length):s.drop k=s.getD k 0::s.drop (k+1):=by
  rw [List.drop_eq_getElem_cons h];simp [List.getD,h]
theorem getD_in {s:List Int} (hs:∀d∈s,In64 d) {k:Nat} (h:k<s.length):In64 (s.getD k 0):=hs _ (by simp [List.getD,h])
section
variable {E:CallRel}
theorem c90_ok {s:List Int} (hs:∀d∈s,In64 d) (hl:(s.length:Int)≤9223372036854775807):Go.V.Call tab E 90 [ints s] [] (optP (count s)) []:=by
  refine Go.V.Call.mach i90 c90 rfl rfl rfl rfl ?_
  by_cases h8:8<s.length
  · have h8':(8:Int)<(s.length:Int):=by omega
    simp only [c90,go_sem,h8',count,h8,optP]
    simp only [i90,OT,reduceIte,Nat.reduceEqDiff]
  · have h8':¬(8:Int)<(s.length:Int):=by omega
    simp only [c90,go_sem,h8']
    refine mLoop (fun N st=>∃(k:Nat) (most:Int) (e:Bool),k≤s.length∧N=s.length - k∧1≤most∧most≤4096∧count s=cnt most (if e then 0 else most) (s.drop k)∧
      st=⟨[(4,.int .i64 most),(5,.bool e),(11,ints s),(12,.int .i64 s.length),(13,.int .i64 k)],[]⟩) s.length ⟨_,rfl,0,1,false,by omega,by omega,by omega,by omega,by simp [count,h8],rfl⟩ ?_
    rintro n s0 ⟨k,most,e,hk,rfl,h1,h2,h3,rfl⟩
    by_cases hlt:k<s.length
    · have hlt':(k:Int)<(s.length:Int):=by omega
      have hk0:(0:Int)≤(k:Int):=by omega
      have hd:=getD_in hs hlt
      have hk1:IntKind.i64.wrap ((k:Int)+1)=((k+1:Nat):Int):=by rw [wrap_i64 (by omega) (by omega)];omega
      rw [getD_drop hlt] at h3
      have hsub:=sub_nums (k:=.i64) hlt
      generalize s.getD k 0=d at *
      by_cases hneg:d<0
      · simp only [b90_0,go_sem,hlt',hk0,Int.toNat_natCast,hsub,hneg]
        simp only [i90,OT,reduceIte,Nat.reduceEqDiff,h3,cnt,optP,hneg,true_or]
      · have hm0:most≠0:=by omega
        have hq:IntKind.i64.wrap (Int.tdiv 4096 most)=4096/most:=by
          rw [Int.tdiv_eq_ediv_of_nonneg (by omega)]
          have:=Int.ediv_le_self (a:=4096) most (by omega)
          have:=Int.ediv_nonneg (a:=4096) (b:=most) (by omega) (by omega)
          exact wrap_i64 (by omega) (by omega)
        by_cases hbig:4096/most<d
        · have hbig':4096<most*d:=by
            have:=(Int.ediv_lt_iff_lt_mul (a:=4096) (b:=d) (c:=most) (by omega)).1 hbig
            rw [Int.mul_comm];exact this
          have hmx:max 1 d=d:=by
            have:d≠0:=fun h=>by subst h;omega
            rw [Int.max_def];split<;>omega
          simp only [b90_0,go_sem,hlt',hk0,Int.toNat_natCast,hsub,hneg,hm0,hq,hbig]
          simp only [i90,OT,reduceIte,Nat.reduceEqDiff,h3,cnt,optP,hneg,hmx,hbig',or_true,reduceIte]
        · have hbig':most*d≤4096:=by
            have h:=mt (Int.ediv_lt_iff_lt_mul (a:=4096) (b:=d) (c:=most) (by omega)).2 hbig
            rw [Int.mul_comm];omega
          have hmx:(if 1<d then d else 1)=max 1 d:=by rw [Int.max_def];split<;>split<;>omega
          have hm1:1≤most*max 1 d∧most*max 1 d≤4096:=by
            by_cases h1d:1<d
            · rw [show max 1 d=d by rw [Int.max_def];split<;>omega]
              refine ⟨?_,hbig'⟩
              have:=Int.mul_le_mul_of_nonneg_left (a:=1) (b:=d) (c:=most) (by omega) (by omega)
              omega
            · rw [show max 1 d=1 by rw [Int.max_def];split<;>omega];omega
          have hw:IntKind.i64.wrap (most*max 1 d)=most*max 1 d:=wrap_i64 (by omega) (by omega)
          have hcnt:count s=cnt (most*max 1 d) (if (e || d==0)=true then 0 else most*max 1 d) (s.drop (k+1)):=by
            rw [h3,cnt,if_neg (by omega)]
            congr 1
            cases e
            · by_cases hd0:d=0
              · subst hd0;simp
              · have:max 1 d=d:=by rw [Int.max_def];split<;>omega
                simp [hd0,this]
            · simp
          cases e
          · simp only [b90_0,go_sem,hlt',hk0,Int.toNat_natCast,hsub,hneg,hm0,hq,hbig,hmx,hw,hk1]
            exact loopQ_go rfl (s.length - (k+1)) (by omega) ⟨k+1,most*max 1 d,(d==0),by omega,rfl,hm1.1,hm1.2,by simpa using hcnt,rfl⟩
          · simp only [b90_0,go_sem,hlt',hk0,Int.toNat_natCast,hsub,hneg,hm0,hq,hbig,hmx,hw,hk1]
            exact loopQ_go rfl (s.length - (k+1)) (by omega) ⟨k+1,most*max 1 d,true,by omega,rfl,hm1.1,hm1.2,by simpa using hcnt,rfl⟩
    · have hlt':¬(k:Int)<(s.length:Int):=by omega
      simp only [b90_0,k90_0,go_sem,hlt']
      obtain rfl:k=s.length:=by omega
      rw [List.drop_length] at h3
      cases e
      · simp only [go_sem]
        simp only [i90,OT,reduceIte,Nat.reduceEqDiff,h3,cnt,optP,Bool.false_eq_true]
      · simp only [go_sem]
        simp only [i90,OT,reduceIte,Nat.reduceEqDiff,h3,cnt,optP]
end
section
variable {E:CallRel}
theorem max1 {d:Int}:max 1 d=if 1≤d then d else 1:=by rw [Int.max_def]
theorem mul_bound {a b A B:Int} (h1:0≤a) (h2:a≤A) (h3:0≤b) (h4:b≤B):0≤a*b∧a*b≤A*B:=
  ⟨Int.mul_nonneg h1 h3,Int.mul_le_mul h2 h4 h3 (by omega)⟩
theorem c78_ok {s:List Int} (hs:∀d∈s,In64 d) (hl:(s.length:Int)≤9223372036854775806):Go.V.Call tab E 78 [ints s] [] (optP (count s)) []:=by
  refine Go.V.Call.mach i78 c78 rfl rfl rfl rfl ?_
  simp only [c78,go_sem]
  refine mLoop (fun N st=>∃(k:Nat) (most n:Int),k≤s.length∧k≤8∧N=s.length - k∧1≤most∧most≤4096∧0≤n∧n≤most∧cnt 1 1 s=cnt most n (s.drop k)∧
    st=⟨[(0,ints s),(4,.int .i64 most),(5,.int .i64 n),(6,.int .i64 k)],[]⟩) s.length ⟨_,rfl,0,1,1,by omega,by omega,by omega,by omega,by omega,by omega,by omega,by simp,rfl⟩ ?_
  rintro N s0 ⟨k,most,n,hk,hk8,rfl,h1,h2,h3,h4,h5,rfl⟩
  by_cases hlt:k<s.length
  · have hlt':(k:Int)<(s.length:Int):=by omega
    have hk0:(0:Int)≤(k:Int):=by omega
    have hk1:IntKind.i64.wrap ((k:Int)+1)=((k+1:Nat):Int):=by rw [wrap_i64 (by omega) (by omega)];omega
    have hd:=getD_in hs hlt
    rw [getD_drop hlt] at h5
    have hsub:=sub_nums (k:=.i64) hlt
    generalize s.getD k 0=d at *
    by_cases he8:8≤k
    · have he8':(8:Int)≤(k:Int):=by omega
      have:count s=none:=by rw [count,if_pos (by omega)]
      simp only [b78_0,go_sem,hlt',he8']
      simp only [i78,OT,reduceIte,Nat.reduceEqDiff,this,optP]
    · have he8':¬(8:Int)≤(k:Int):=by omega
      have none_of:(d<0∨4096<most*max 1 d)→count s=none:=by
        intro h
        rw [count,h5,cnt,if_pos h]
        split<;>rfl
      by_cases hneg:d<0
      · simp only [b78_0,go_sem,hlt',he8',hk0,Int.toNat_natCast,hsub,hneg]
        simp only [i78,OT,reduceIte,Nat.reduceEqDiff,none_of (.inl hneg),optP]
      · by_cases hbig:4096<d
        · have:count s=none:=none_of (.inr (by
            rw [max1,if_pos (by omega)]
            have:=Int.mul_le_mul_of_nonneg_right (a:=1) (b:=most) (c:=d) h1 (by omega)
            omega))
          simp only [b78_0,go_sem,hlt',he8',hk0,Int.toNat_natCast,hsub,hneg,hbig]
          simp only [i78,OT,reduceIte,Nat.reduceEqDiff,this,optP]
        · have hnd:=mul_bound h3 (Int.le_trans h4 h2) (show 0≤d by omega) (show d≤4096 by omega)
          have hmd:=mul_bound (show 0≤most by omega) h2 (show 0≤d by omega) (show d≤4096 by omega)
          have hw1:IntKind.i64.wrap (n*d)=n*d:=wrap_i64 (by omega) (by omega)
          have hw2:IntKind.i64.wrap (most*d)=most*d:=wrap_i64 (by omega) (by omega)
          by_cases hpos:0<d
          · have hm:most*max 1 d=most*d:=by rw [max1,if_pos (by omega)]
            by_cases hov:4096<most*d
            · simp only [b78_0,go_sem,hlt',he8',hk0,Int.toNat_natCast,hsub,hneg,hbig,hw1,hw2,hpos,hov]
              simp only [i78,OT,reduceIte,Nat.reduceEqDiff,none_of (.inr (by rw [hm];exact hov)),optP]
            · have g1:1≤most*d:=by
                have:=Int.mul_le_mul_of_nonneg_left (a:=1) (b:=d) (c:=most) (by omega) (by omega)
                omega
              have g2:n*d≤most*d:=Int.mul_le_mul_of_nonneg_right h4 (by omega)
              have g3:cnt 1 1 s=cnt (most*d) (n*d) (s.drop (k+1)):=by rw [h5,cnt,if_neg (by rw [hm];omega),hm]
              simp only [b78_0,go_sem,hlt',he8',hk0,Int.toNat_natCast,hsub,hneg,hbig,hw1,hw2,hpos,hov,hk1]
              exact loopQ_go rfl (s.length - (k+1)) (by omega) ⟨k+1,most*d,n*d,by omega,by omega,rfl,g1,by omega,hnd.1,g2,g3,rfl⟩
          · obtain rfl:d=0:=by omega
            have g3:cnt 1 1 s=cnt most 0 (s.drop (k+1)):=by rw [h5,cnt,if_neg (by rw [max1];simp;omega)];simp [max1]
            have hnov:¬4096<most:=by omega
            simp only [b78_0,go_sem,hlt',he8',hk0,Int.toNat_natCast,hsub,hneg,hbig,hw1,hw2,hpos,hnov,hk1]
            exact loopQ_go rfl (s.length - (k+1)) (by omega) ⟨k+1,most,n*0,by omega,by omega,rfl,h1,h2,by simp,by simp;omega,by simpa using g3,rfl⟩
  · have hlt':¬(k:Int)<(s.length:Int):=by omega
    obtain rfl:k=s.length:=by omega
    have:count s=some n:=by rw [count,if_neg (by omega),h5,List.drop_length,cnt]
    simp only [b78_0,k78_0,go_sem,hlt']
    simp only [i78,OT,reduceIte,Nat.reduceEqDiff,this,optP]
end
def prodW (s:List Int):Int:=s.foldl (fun n d=>IntKind.i64.wrap (n*d)) 1
section
variable {E:CallRel}
end
section
variable {E:CallRel}
theorem c65_ok {s t:List Int} (hs:(s.length:Int)≤1000000000000000) (ht:(t.length:Int)≤1000000000000000):Go.V.Call tab E 65 [ints s,ints t] [] (.bool (decide (s=t))) []:=by
  refine Go.V.Call.mach i65 c65 rfl rfl rfl rfl ?_
  by_cases hl:s.length=t.length
  · have hl':(s.length:Int)=(t.length:Int):=by omega
    simp only [c65,go_sem,hl',bne_self_eq_false]
    refine mLoop (fun N st=>∃(k:Nat),k≤s.length∧N=s.length - k∧s.take k=t.take k∧
      st=⟨[(0,ints s),(1,ints t),(5,.int .i64 k)],[]⟩) s.length ⟨_,rfl,0,by omega,by omega,by simp,rfl⟩ ?_
    rintro N s0 ⟨k,hk,rfl,hp,rfl⟩
    by_cases hlt:k<s.length
    · have hlt':(k:Int)<(t.length:Int):=by omega
      have hlt2:k<t.length:=by omega
      have hk0:(0:Int)≤(k:Int):=by omega
      have hk1:IntKind.i64.wrap ((k:Int)+1)=((k+1:Nat):Int):=by rw [wrap_i64 (by omega) (by omega)];omega
      have hsub:=sub_nums (k:=.i64) hlt
      have hsub2:=sub_nums (k:=.i64) hlt2
      by_cases he:s.getD k 0=t.getD k 0
      · simp only [b65_0,go_sem,hl',hlt',hk0,Int.toNat_natCast,hsub,hsub2,he,bne_self_eq_false,hk1]
        refine loopQ_go (rfl) (s.length - (k+1)) (by omega) ⟨k+1,by omega,rfl,?_,rfl⟩
        rw [List.take_add_one,List.take_add_one,hp]
        congr 1
        have h1:s[k]?=some (s.getD k 0):=by simp [List.getD,hlt]
        have h2:t[k]?=some (t.getD k 0):=by simp [List.getD,hlt2]
        rw [h1,h2,he]
      · have he':(s.getD k 0 != t.getD k 0)=true:=by simpa using he
        have hne:s≠t:=fun h=>he (by rw [h])
        simp only [b65_0,go_sem,hl',hlt',hk0,Int.toNat_natCast,hsub,hsub2,he']
        simp only [i65,OT,reduceIte,Nat.reduceEqDiff,hne,decide_false]
    · have hlt':¬(k:Int)<(t.length:Int):=by omega
      have heq:s=t:=by
        rw [List.take_of_length_le (by omega),List.take_of_length_le (by omega)] at hp
        exact hp
      simp only [b65_0,k65_0,go_sem,hl',hlt']
      simp only [i65,OT,reduceIte,Nat.reduceEqDiff,heq,decide_true]
  · have hl':((s.length:Int) != (t.length:Int))=true:=by simp;omega
    have hne:s≠t:=fun h=>hl (by rw [h])
    simp only [c65,go_sem,hl']
    simp only [i65,OT,reduceIte,Nat.reduceEqDiff,hne,decide_false]
end
end Go.Proofs.YtlejgleocnemoaaGreat.I

namespace Go.Proofs.YtlejgleocnemoaaGreat.I
open Go Go.V
attribute [local go_sem_proc ↓] reduceIte
attribute [local go_sem_proc] Nat.reduceEqDiff Nat.reduceAdd Nat.reduceMul Nat.reduceLeDiff Nat.reduceLT Int.reduceToNat Int.reduceLT Int.reduceLE reduceCtorEq Nat.reduceBEq
attribute [local go_sem] mNil nat0 beq_self_eq_true mSkip mRet mExit mReg mSeq mCond mTrue mFalse mBlock mLv mCodeE mCodeR mEndN mEndR mEndE mOps mSome mGuard mGtt mGff mGtf mGft mGu mCallP mCallR mCallF mCallO mCallZ mCallG mCallM mCallV loopQ_exit loopQ_ret mO_mov mO_newnil mO_pick mO_alloc mO_box mO_build mO_bsl mO_bslF mO_newnilB mO_bslB mO_lenB mO_appB mO_allocA mO_bslA mO_appA mO_ldb mO_faddrb mRsv mO_ldf mO_ld mO_st mO_sta mO_nilchk mO_bin mO_binb mO_binp mO_bins mO_neg mO_com mO_not mO_conv mO_mk mO_mk0 mO_mkB mO_s2b mO_b2s mO_cpy mO_cut mO_faddr mO_fld mO_iaddr mO_iaddrf mO_sidx mO_len mO_lenf mO_slen mO_scut mO_app mO_ext mO_mx mO_mn mO_mkfn evalOp cutOp argsE ev getE putE cellsOf adopt rowOf binV boolV nilV ar_add ar_sub ar_mul ar_quo ar_rem ar_eq ar_ne ar_lt ar_le ar_gt ar_ge ar_and ar_or ar_xor geto bound finRet finNrm ints List.length_cons List.length_nil List.length_append List.getElem?_cons_zero List.getElem?_cons_succ List.nil_append List.cons_append List.map_cons List.map_nil List.mapM_cons List.mapM_nil Option.map_some Option.map_none Option.bind_some Option.pure_def Option.bind_eq_bind List.drop_zero or_self or_false false_or or_true true_or true_and and_true and_self decide_true decide_false Bool.false_eq_true Bool.true_eq_false Bool.not_true Bool.not_false Nat.le_refl eq_self gt_iff_lt ge_iff_le ne_eq not_true_eq_false not_false_eq_true storeOp apartOf freeze_nil refsL refs List.flatMap_cons List.flatMap_nil List.append_nil List.contains_nil List.set_cons_zero List.set_cons_succ snap snapL fill_nums flat_nums nums_length Go.V.freeze List.mapIdx_cons List.mapIdx_nil List.contains_cons Bool.or_false Bool.false_or Bool.or_true Bool.true_or
def us32 (l:List Int):AV:=.sl l.length 1 (nums .u32 l)
def trimL:List Int→List Int
  | []=>[]
  | x::xs=>match trimL xs with
    | []=>if x=0 then [] else [x]
    | y::ys=>x::y::ys
theorem trimL_snoc0:∀{l:List Int},trimL (l++[0])=trimL l
  | []=>rfl
  | x::l=>by simp only [List.cons_append,trimL,trimL_snoc0]
theorem trimL_snoc {x:Int} (h:x≠0):∀{l:List Int},trimL (l++[x])=l++[x]
  | []=>by simp [trimL,h]
  | y::l=>by
    simp only [List.cons_append,trimL,trimL_snoc h]
    cases l<;>rfl
theorem take_snoc {l:List Int} {m:Nat} (h:m<l.length):l.take (m+1)=l.take m++[l.getD m 0]:=by
  rw [List.take_add_one]
  congr 1
  simp [List.getD,h]
theorem wrap_u64 {n:Int} (h1:0≤n) (h2:n≤18446744073709551615):IntKind.u64.wrap n=n:=by
  simp only [IntKind.wrap,IntKind.bits,IntKind.signed]
  simp
  omega
theorem wrap_u32 {n:Int}:IntKind.u32.wrap n=n % 4294967296:=by
  simp only [IntKind.wrap,IntKind.bits,IntKind.signed]
  simp
def lim (n:Nat):List Int:=if n=0 then [] else if n<4294967296 then [(n:Int)] else [((n % 4294967296:Nat):Int),((n/4294967296:Nat):Int)]
theorem trim_lim {n:Nat}:trimL [((n % 4294967296:Nat):Int),((n/4294967296:Nat):Int)]=lim n:=by
  simp only [trimL,lim]
  by_cases h0:n=0
  · subst h0;rfl
  · rw [if_neg h0]
    by_cases h1:n<4294967296
    · have e1:n/4294967296=0:=by omega
      have e2:n % 4294967296=n:=by omega
      rw [if_pos h1,e1,e2]
      simp
      omega
    · have:¬((n/4294967296:Nat):Int)=0:=by omega
      rw [if_neg h1,if_neg this]
def ratC (z:Int):List AV:=[us32 (lim z.natAbs),.bool (decide (z<0)),us32 [1]]
theorem cut_to {k:IntKind} {t:List Int} {m:Nat} (h:m≤t.length):AV.sl m 1 ((nums k t).take (m*1))=.sl (t.take m).length 1 (nums k (t.take m)):=by
  simp only [nums,Nat.mul_one,List.map_take,List.length_take]
  congr 1
  omega
section
variable {E:CallRel}
theorem c175_ok {l:List Int} (hl:(l.length:Int)≤1000000000000):Go.V.Call tab E 175 [us32 l] [] (.agg [us32 (trimL l)]) []:=by
  refine Go.V.Call.mach i175 c175 rfl rfl rfl rfl ?_
  simp only [c175,go_sem,us32]
  refine mLoop (fun N st=>∃(k:Nat),k≤l.length∧N=k∧trimL l=trimL (l.take k)∧
    st=⟨[(0,us32 (l.take k)),(2,.loc 1 0 0)],[⟨false,191,1,0,0,[],false⟩,⟨true,94,1,0,1,[.arr 0 0],false⟩]⟩) l.length ⟨_,rfl,l.length,by omega,rfl,by rw [List.take_length],by rw [List.take_length];rfl⟩ ?_
  rintro N s0 ⟨k,hk,rfl,ht,rfl⟩
  have hfin:fillIn [.arr 0 0] 0 [us32 (l.take N)]=[us32 (l.take N)]:=rfl
  cases N with
  | zero=>
    simp only [b175_0,k175_0,go_sem,FL,us32]
    rw [List.take_zero,trimL] at ht
    simp only [i175,OT,reduceIte,Nat.reduceEqDiff,sub,ht,FL,List.length_cons,List.length_nil,Nat.le_refl]
  | succ m=>
    have hm:m<(l.take (m+1)).length:=by simp;omega
    have hlen:(l.take (m+1)).length=m+1:=by simp;omega
    have hlen':(((l.take (m+1)).length:Nat):Int)=((m+1:Nat):Int):=by omega
    have hpos:(0:Int)<((m+1:Nat):Int):=by omega
    have hw:IntKind.i64.wrap (((m+1:Nat):Int) - 1)=(m:Int):=by rw [wrap_i64 (by omega) (by omega)];omega
    have hm0:(0:Int)≤(m:Int):=by omega
    have hm1:(m:Int)<((m+1:Nat):Int):=by omega
    have hm2:(m:Int)≤((m+1:Nat):Int):=by omega
    have hsub:=sub_nums (k:=.u32) hm
    have hlast:(l.take (m+1)).getD m 0=l.getD m 0:=by simp [List.getD]
    have hts:=take_snoc (l:=l) (m:=m) (by omega)
    have htt:(l.take (m+1)).take m=l.take m:=by rw [List.take_take];congr 1;omega
    have hcut:=cut_to (k:=.u32) (t:=l.take (m+1)) (m:=m) (by omega)
    rw [htt] at hcut
    rw [hlast] at hsub
    by_cases h0:l.getD m 0=0
    · rw [h0] at hsub hts
      simp only [b175_0,go_sem,us32,hlen',hpos,hw,hm0,hm1,hm2,Int.toNat_natCast,hsub,Nat.sub_zero,hcut]
      refine loopQ_go rfl m (by omega) ⟨m,by omega,rfl,?_,rfl⟩
      rw [ht,hts,trimL_snoc0]
    · have h0':(l.getD m 0==0)=false:=by simpa using h0
      simp only [b175_0,k175_0,go_sem,us32,hlen',hpos,hw,hm0,hm1,hm2,Int.toNat_natCast,hsub,h0',FL]
      rw [hts,trimL_snoc h0,←hts] at ht
      simp only [i175,OT,reduceIte,Nat.reduceEqDiff,sub,ht,FL,List.length_cons,List.length_nil,Nat.le_refl]
theorem c149_ok {n:Nat} (hn:n<18446744073709551616):Go.V.Call tab E 149 [.int .u64 n] [] (.agg [us32 (lim n)]) []:=by
  refine Go.V.Call.mach i149 c149 rfl rfl rfl rfl ?_
  have h1:IntKind.u32.wrap (n:Int)=((n % 4294967296:Nat):Int):=by rw [wrap_u32];omega
  have h2:IntKind.u32.wrap (((n/4294967296:Nat):Int))=((n/4294967296:Nat):Int):=by rw [wrap_u32];omega
  have h3:shiftOp .shr .u64 (n:Int) 32=some (.int .u64 ((n/4294967296:Nat):Int)):=by
    simp [shiftOp,IntKind.bits,Int.fdiv_eq_ediv_of_nonneg]
  have h:=c175_ok (E:=E) (l:=[((n % 4294967296:Nat):Int),((n/4294967296:Nat):Int)]) (by simp)
  rw [trim_lim] at h
  simp only [c149,go_sem,h1,h2,h3,List.flatten_cons,List.flatten_nil,Option.getD_some]
  refine goF h ?_
  simp only [go_sem,FL,us32]
  simp only [i149,OT,reduceIte,Nat.reduceEqDiff,sub,FL,List.length_cons,List.length_nil,Nat.le_refl]
theorem c154_ok {l:List Int}:Go.V.Call tab E 154 [.agg [us32 l]] [] (.bool ((l.length:Int)==0)) []:=by
  refine Go.V.Call.mach i154 c154 rfl rfl rfl rfl ?_
  simp only [c154,go_sem,us32,sub,FL]
  simp only [i154,OT,reduceIte,Nat.reduceEqDiff]
theorem c148_ok {z:Int} (hz:In64 z):Go.V.Call tab E 148 [.int .i64 z] [] (.agg [us32 (lim z.natAbs),.bool (decide (z<0))]) []:=by
  obtain ⟨hz1,hz2⟩:=hz
  refine Go.V.Call.mach i148 c148 rfl rfl rfl rfl ?_
  by_cases h0:z<0
  · have e1:IntKind.i64.wrap (z+1)=z+1:=wrap_i64 (by omega) (by omega)
    have e2:IntKind.i64.wrap (0 - (z+1)) = -(z+1):=by rw [wrap_i64 (by omega) (by omega)];omega
    have e3:IntKind.u64.wrap (-(z+1)) = -(z+1):=wrap_u64 (by omega) (by omega)
    have e4:IntKind.u64.wrap (-(z+1)+1)=(z.natAbs:Int):=by rw [wrap_u64 (by omega) (by omega)];omega
    simp only [c148,go_sem,h0,e1,e2,e3,e4,snap]
    refine goP (c149_ok (by omega)) ?_
    simp only [go_sem,FL,us32]
    simp only [i148,OT,reduceIte,Nat.reduceEqDiff,sub,FL,List.length_cons,List.length_nil,Nat.le_refl]
  · have e1:IntKind.u64.wrap z=(z.natAbs:Int):=by rw [wrap_u64 (by omega) (by omega)];omega
    simp only [c148,go_sem,h0,e1,snap]
    refine goP (c149_ok (by omega)) ?_
    simp only [go_sem,FL,us32]
    simp only [i148,OT,reduceIte,Nat.reduceEqDiff,sub,FL,List.length_cons,List.length_nil,Nat.le_refl]
theorem c149_one:Go.V.Call tab E 149 [.int .u64 1] [] (.agg [us32 [1]]) []:=c149_ok (n:=1) (by omega)
theorem c107_ok {z:Int} (hz:In64 z):Go.V.Call tab E 107 [.int .i64 z] [] (.agg (ratC z)) []:=by
  refine Go.V.Call.mach i107 c107 rfl rfl rfl rfl ?_
  simp only [c107,go_sem,snap]
  refine goP (c148_ok hz) ?_
  simp only [go_sem]
  refine goP c149_one ?_
  simp only [go_sem,FL,us32]
  simp only [i107,OT,reduceIte,Nat.reduceEqDiff,sub,FL,List.length_cons,List.length_nil,Nat.le_refl,ratC,us32]
theorem or_shl {a b:Nat} (ha:a<4294967296) (hb:b<4294967296):IntKind.u64.wrap (((BitVec.ofInt 64 (a:Int) ||| BitVec.ofInt 64 ((b:Int)*4294967296)).toNat:Nat):Int)=(b:Int)*4294967296+a:=by
  have h1:(BitVec.ofInt 64 (a:Int)).toNat=a:=by simp [BitVec.toNat_ofInt];omega
  have h2:(BitVec.ofInt 64 ((b:Int)*4294967296)).toNat=b*4294967296:=by simp [BitVec.toNat_ofInt];omega
  rw [BitVec.toNat_or,h1,h2]
  have h3:a ||| b*4294967296=b*4294967296+a:=by
    have:=Nat.shiftLeft_add_eq_or_of_lt (i:=32) (b:=a) (by simpa using ha) b
    rw [Nat.shiftLeft_eq] at this
    rw [Nat.or_comm]
    simpa using this.symm
  rw [h3,wrap_u64 (by omega) (by omega)]
  omega
theorem c178_ok {n:Nat} (hn:n<18446744073709551616):Go.V.Call tab E 178 [.agg [us32 (lim n)]] [] (.tup [.int .u64 n,.bool true]) []:=by
  refine Go.V.Call.mach i178 c178 rfl rfl rfl rfl ?_
  by_cases h0:n=0
  · subst h0
    simp only [c178,go_sem,us32,sub,FL,lim,nums]
    simp only [i178,OT,reduceIte,Nat.reduceEqDiff]
  · by_cases h1:n<4294967296
    · have hw:IntKind.u64.wrap (n:Int)=(n:Int):=wrap_u64 (by omega) (by omega)
      simp only [c178,go_sem,us32,sub,FL,lim,nums,h0,h1,show ((1:Nat):Int)=1 from rfl,show ((1:Int)==0)=false from rfl,hw]
      simp only [i178,OT,reduceIte,Nat.reduceEqDiff]
    · have e1:=or_shl (a:=n % 4294967296) (b:=n/4294967296) (by omega) (by omega)
      have e2:((n/4294967296:Nat):Int)*4294967296+((n % 4294967296:Nat):Int)=(n:Int):=by omega
      rw [e2] at e1
      have w1:IntKind.u64.wrap ((n % 4294967296:Nat):Int)=((n % 4294967296:Nat):Int):=wrap_u64 (by omega) (by omega)
      have w2:IntKind.u64.wrap ((n/4294967296:Nat):Int)=((n/4294967296:Nat):Int):=wrap_u64 (by omega) (by omega)
      have w3:shiftOp .shl .u64 ((n/4294967296:Nat):Int) 32=some (.int .u64 (((n/4294967296:Nat):Int)*4294967296)):=by
        have:IntKind.u64.wrap (((n/4294967296:Nat):Int)*4294967296)=((n/4294967296:Nat):Int)*4294967296:=wrap_u64 (by omega) (by omega)
        simp only [shiftOp,IntKind.bits]
        simp
        exact this
      simp only [c178,go_sem,us32,sub,FL,lim,nums,h0,h1,show ((2:Nat):Int)=2 from rfl,show ((2:Int)==0)=false from rfl,show ((2:Int)==1)=false from rfl,w1,w2,w3]
      simp only [i178,OT,reduceIte,Nat.reduceEqDiff]
      exact congrArg (fun x=>some (AV.tup [AV.int .u64 x,.bool true])) e1
end
def nval:List Int→Nat
  | []=>0
  | x::xs=>x.toNat+4294967296*nval xs
def R32 (l:List Int):Prop:=∀x∈l,0≤x∧x<4294967296
def limG (n:Nat):List Int:=if h:n=0 then [] else ((n % 4294967296:Nat):Int)::limG (n/4294967296)
termination_by n
decreasing_by omega
theorem limG_zero:limG 0=[]:=by rw [limG];rfl
theorem limG_pos {n:Nat} (h:n≠0):limG n=((n % 4294967296:Nat):Int)::limG (n/4294967296):=by
  rw [limG,dif_neg h]
theorem lim_limG {n:Nat} (h:n<18446744073709551616):lim n=limG n:=by
  unfold lim
  by_cases h0:n=0
  · subst h0;rw [limG_zero];rfl
  · rw [if_neg h0,limG_pos h0]
    by_cases h1:n<4294967296
    · rw [if_pos h1,Nat.mod_eq_of_lt h1,Nat.div_eq_of_lt h1,limG_zero]
    · have e1:n/4294967296≠0:=by omega
      have e2:n/4294967296/4294967296=0:=by omega
      have e3:n/4294967296 % 4294967296=n/4294967296:=by omega
      rw [if_neg h1,limG_pos e1,e2,e3,limG_zero]
theorem nval_limG:∀{n:Nat},nval (limG n)=n:=by
  intro n
  induction n using Nat.strongRecOn with
  | _ n ih=>
    by_cases h0:n=0
    · subst h0;rw [limG_zero];rfl
    · rw [limG_pos h0,nval,ih _ (by omega)]
      omega
theorem R32_limG:∀{n:Nat},R32 (limG n):=by
  intro n
  induction n using Nat.strongRecOn with
  | _ n ih=>
    by_cases h0:n=0
    · subst h0;rw [limG_zero];intro x hx;simp at hx
    · rw [limG_pos h0]
      intro x hx
      rcases List.mem_cons.1 hx with rfl|hx
      · omega
      · exact ih _ (by omega) x hx
theorem limG_mono:∀{b a:Nat},a≤b→(limG a).length≤(limG b).length:=by
  intro b
  induction b using Nat.strongRecOn with
  | _ b ih=>
    intro a hab
    by_cases h0:a=0
    · subst h0;rw [limG_zero];simp
    · rw [limG_pos h0,limG_pos (n:=b) (by omega),List.length_cons,List.length_cons]
      have:=ih (b/4294967296) (by omega) (a:=a/4294967296) (Nat.div_le_div_right hab)
      omega
theorem trimL_limG:∀{l:List Int},R32 l→trimL l=limG (nval l)
  | [],_=>by rw [nval,limG_zero];rfl
  | x::xs,h=>by
    have h':R32 xs:=fun y hy=>h y (by simp [hy])
    have hx:=h x (by simp)
    have ih:=trimL_limG h'
    rw [trimL,ih,nval]
    by_cases hv:nval xs=0
    · rw [hv,limG_zero,Nat.mul_zero,Nat.add_zero]
      by_cases h0:x=0
      · subst h0;simp [limG_zero]
      · have e1:x.toNat≠0:=by omega
        have e2:x.toNat % 4294967296=x.toNat:=by omega
        have e3:x.toNat/4294967296=0:=by omega
        have e4:(x.toNat:Int)=x:=by omega
        rw [if_neg h0,limG_pos e1,e2,e3,limG_zero,e4]
    · have e1:(x.toNat+4294967296*nval xs)/4294967296=nval xs:=by omega
      have e2:(((x.toNat+4294967296*nval xs) % 4294967296:Nat):Int)=x:=by omega
      rw [limG_pos (n:=x.toNat+4294967296*nval xs) (by omega),e1,e2]
      cases hq:limG (nval xs) with
      | nil=>
        have:=nval_limG (n:=nval xs)
        rw [hq] at this
        exact absurd this.symm hv
      | cons y ys=>rfl
def dgs (n:Nat):List Int:=if h:n=0 then [] else ((n % 10:Nat):Int)::dgs (n/10)
termination_by n
decreasing_by omega
theorem dgs_zero:dgs 0=[]:=by rw [dgs];rfl
theorem dgs_pos {n:Nat} (h:n≠0):dgs n=((n % 10:Nat):Int)::dgs (n/10):=by
  rw [dgs,dif_neg h]
theorem dgs_range:∀{n:Nat},∀d∈dgs n,0≤d∧d≤9:=by
  intro n
  induction n using Nat.strongRecOn with
  | _ n ih=>
    by_cases h0:n=0
    · subst h0;rw [dgs_zero];intro d hd;simp at hd
    · rw [dgs_pos h0]
      intro d hd
      rcases List.mem_cons.1 hd with rfl|hd
      · omega
      · exact ih _ (by omega) d hd
theorem dgs_last:∀{n:Nat},n≠0→∃l d,dgs n=l++[d]∧1≤d∧d≤9:=by
  intro n
  induction n using Nat.strongRecOn with
  | _ n ih=>
    intro h0
    rw [dgs_pos h0]
    by_cases h1:n/10=0
    · rw [h1,dgs_zero]
      exact ⟨[],_,rfl,by omega,by omega⟩
    · obtain ⟨l,d,e,h2⟩:=ih _ (by omega) h1
      rw [e]
      exact ⟨_::l,d,rfl,h2⟩
theorem nums_app {k:IntKind} {a b:List Int}:nums k (a++b)=nums k a++nums k b:=by simp [nums]
def bs (l:List Int):ByteArray:=⟨(l.map fun n=>UInt8.ofNat n.toNat).toArray⟩
def asc (l:List Int):List Int:=l.map fun d=>48+d
def dec (n:Nat):ByteArray:=if n=0 then ⟨#[48]⟩ else bs (asc (dgs n)).reverse
theorem bytesOf_nums:∀{l:List Int},bytesOfAV (nums .u8 l)=some (bs l):=by
  intro l
  have:(nums .u8 l).mapM byteOfAV=some (l.map fun n=>UInt8.ofNat n.toNat):=by
    induction l with
    | nil=>rfl
    | cons x l ih=>
      have e:nums .u8 (x::l)=.int .u8 x::nums .u8 l:=rfl
      rw [e,List.mapM_cons,ih]
      rfl
  simp only [bytesOfAV,this,Option.map_some,bs]
theorem bs_size {l:List Int}:(bs l).size=l.length:=by simp [bs,ByteArray.size]
def ratsC (l:List Int):List AV:=l.flatMap ratC
theorem subT3 {a b c:AV}:sub true 3 [a,b,c] 0=some (.agg [a,b,c]):=rfl
def arrV (s:List Int) (l:List Int):List AV:=[ints s,.bool false,.sl 0 1 [],.sl l.length 3 (ratsC l),.bool true]
section
variable {E:CallRel}
end
section
theorem c110_ok {s:List Int} (hs:(s.length:Int)≤1000000000000):Go.V.Call tab E 110 [ints s] [] (.arr 0 0) [⟨false,3,1,0,s.length,nums .i64 s,false⟩]:=by
  refine ⟨0,?_⟩
  have h1:s.length*8≤140737488355328:=by omega
  have h2:s.length≤140737488355328:=by omega
  simp only [CallN,E,ext,cloneOf,ints,h1,h2,and_self,if_true]
end
section
variable {E:CallRel}
def rowI (l:List Int):AObj:=⟨false,3,1,0,l.length,nums .i64 l,false⟩
end
theorem ratsC_snoc {l:List Int} {z:Int}:ratsC (l++[z])=ratsC l++ratC z:=by simp [ratsC]
theorem subA5 {a b c d e:AV}:sub true 5 [a,b,c,d,e] 0=some (.agg [a,b,c,d,e]):=rfl
theorem subA3 {a b c d e:AV}:sub false 1 [a,b,c,d,e] 3=some d:=rfl
section
variable {E:CallRel}
theorem c45_ok {l:List Int} (hl:(l.length:Int)≤1000000000000) (hz:∀z∈l,In64 z):Go.V.Call tab E 45 [ints l] [] (.agg (arrV [(l.length:Int)] l)) []:=by
  refine Go.V.Call.mach i45 c45 rfl rfl rfl rfl ?_
  simp only [c45,go_sem,FL,List.flatten_cons,List.flatten_nil,Option.getD_some]
  refine mLoop (fun N st=>∃(i:Nat),i≤l.length∧N=l.length - i∧
    st=⟨[(2,.loc 3 0 0),(3,.loc 8 0 0),(10,ints l),(11,.int .i64 l.length),(12,.int .i64 i)],
      [⟨false,3,1,0,0,[],false⟩,⟨false,21,1,0,0,[],false⟩,⟨false,98,3,0,0,[],false⟩,⟨true,35,5,0,1,[.arr 0 0,.bool false,.arr 1 0,.arr 2 0,.bool false],false⟩,
       ⟨false,3,1,0,1,[.int .i64 l.length],false⟩,⟨false,3,1,0,0,[],false⟩,⟨false,21,1,0,0,[],false⟩,⟨false,98,3,0,0,[],false⟩,⟨true,35,5,0,1,[.arr 4 0,.bool false,.arr 9 0,.arr 10 i,.bool true],false⟩,
       ⟨false,21,1,0,0,[],false⟩,⟨false,98,3,i,i,ratsC (l.take i),false⟩]⟩) l.length
    ⟨_,rfl,0,by omega,by omega,by simp [getE,ints,ratsC]⟩ ?_
  rintro N s0 ⟨i,hi,rfl,rfl⟩
  by_cases hlt:i<l.length
  · have hlt':(i:Int)<(l.length:Int):=by omega
    have hi0:(0:Int)≤(i:Int):=by omega
    have hi1:IntKind.i64.wrap ((i:Int)+1)=((i+1:Nat):Int):=by rw [wrap_i64 (by omega) (by omega)];omega
    have hsub:=sub_nums (k:=.i64) hlt
    have hzi:In64 (l.getD i 0):=hz _ (by simp [List.getD,hlt])
    have htk:=take_snoc hlt
    have e1:(i+1)*56≤140737488355328:=by omega
    have e2:i+1≤140737488355328:=by omega
    simp only [b45_0,go_sem,hlt',hi0,Int.toNat_natCast,hsub,subA3,Nat.zero_add]
    refine goP (c107_ok hzi) ?_
    simp only [go_sem,FL,hi1,e1,e2,ratC,us32,List.flatten_cons,List.flatten_nil,Option.getD_some]
    refine loopQ_go rfl (l.length - (i+1)) (by omega) ⟨i+1,by omega,rfl,?_⟩
    rw [htk,ratsC_snoc]
    rfl
  · have hlt':¬(i:Int)<(l.length:Int):=by omega
    obtain rfl:i=l.length:=by omega
    simp only [b45_0,k45_0,go_sem,hlt',List.take_length,subA5,FL]
    simp only [i45,OT,reduceIte,Nat.reduceEqDiff,arrV,subA5,nums,List.map_cons,List.map_nil,List.length_cons,List.length_nil]
end
def us (l:List Int):AV:=.sl l.length 1 (nums .u64 l)
def srcR (l:List Int):AObj:=⟨false,175,1,0,l.length,nums .u64 l,false⟩
def srcB (i:Nat):AObj:=⟨true,9112,2,0,1,[.arr 0 0,.int .i64 i],false⟩
section
variable {E:CallRel}
end
theorem getD_fill {y:List Int} {m j:Nat} {v:Int} (h:m<y.length):(y.take m++v::y.drop (m+1)).getD j 0=if j=m then v else y.getD j 0:=by
  simp only [List.getD,List.getElem?_append,List.length_take,Nat.min_eq_left (Nat.le_of_lt h)]
  by_cases h1:j<m
  · rw [if_pos h1,if_neg (by omega),List.getElem?_take,if_pos h1]
  · rw [if_neg h1]
    by_cases h2:j=m
    · subst h2;simp
    · rw [if_neg h2]
      obtain ⟨d,rfl⟩:∃d,j=m+1+d:=⟨j - m - 1,by omega⟩
      rw [show m+1+d - m=d+1 by omega,List.getElem?_cons_succ,List.getElem?_drop]
theorem fill_len {y:List Int} {m:Nat} {v:Int} (h:m<y.length):(y.take m++v::y.drop (m+1)).length=y.length:=by
  simp;omega
def Good (o n:Int) (c:List Int):Prop:=(∀i j,i<c.length→j<c.length→c.getD i 0=c.getD j 0→i=j)∧∀i,i<c.length→o≤c.getD i 0∧c.getD i 0<o+n
def swp (c:List Int) (i k:Nat):List Int:=
  (c.take i++c.getD k 0::c.drop (i+1)).take k++c.getD i 0::(c.take i++c.getD k 0::c.drop (i+1)).drop (k+1)
theorem swp_len {c:List Int} {i k:Nat} (hi:i<c.length) (hk:k<c.length):(swp c i k).length=c.length:=by
  unfold swp
  rw [fill_len (by rw [fill_len hi];exact hk),fill_len hi]
theorem swp_get {c:List Int} {i k j:Nat} (hi:i<c.length) (hk:k<c.length):(swp c i k).getD j 0=if j=k then c.getD i 0 else if j=i then c.getD k 0 else c.getD j 0:=by
  unfold swp
  rw [getD_fill (by rw [fill_len hi];exact hk),getD_fill hi]
def sig (i k j:Nat):Nat:=if j=k then i else if j=i then k else j
theorem sig_inj {i k a b:Nat} (h:sig i k a=sig i k b):a=b:=by
  unfold sig at h
  split at h<;>split at h<;>(try split at h)<;>(try split at h)<;>omega
theorem Good.swp {o n:Int} {c:List Int} {i k:Nat} (h:Good o n c) (hi:i<c.length) (hk:k<c.length):Good o n (swp c i k):=by
  obtain ⟨h1,h2⟩:=h
  have hg:∀j,(I.swp c i k).getD j 0=c.getD (sig i k j) 0:=fun j=>by
    rw [swp_get hi hk]
    unfold sig
    split
    · rfl
    · split<;>rfl
  have hl:∀j,j<c.length→sig i k j<c.length:=fun j hj=>by
    unfold sig
    split
    · exact hi
    · split
      · exact hk
      · exact hj
  refine ⟨fun a b ha hb hab=>?_,fun a ha=>?_⟩
  · rw [swp_len hi hk] at ha hb
    rw [hg,hg] at hab
    exact sig_inj (h1 _ _ (hl a ha) (hl b hb) hab)
  · rw [swp_len hi hk] at ha
    rw [hg]
    exact h2 _ (hl a ha)
def pl:Int→List Int→List Int→Option Int
  | n,d::ds,x::xs=>if x<0∨d≤x then none else pl (n*d+x) ds xs
  | n,_,_=>some n
def place (s idx:List Int):Option Int:=if count s=none∨s.length≠idx.length then none else pl 0 s idx
section
variable {E:CallRel}
def PlI (s idx:List Int) (k:Nat) (n:Int):Prop:=
  count s≠none→∃most m,count s=cnt most m (s.drop k)∧1≤most∧most≤4096∧0≤n∧n<most∧pl 0 s idx=pl n (s.drop k) (idx.drop k)
theorem PlI.zero {s idx:List Int}:PlI s idx 0 0:=fun h=>by
  refine ⟨1,1,?_,by omega,by omega,by omega,by omega,by simp⟩
  unfold count at h ⊢
  split
  · rename_i h8;rw [if_pos h8] at h;exact absurd rfl h
  · simp
theorem PlI.step {s idx:List Int} {k:Nat} {n:Int} (h:PlI s idx k n) (h1:k<s.length) (h2:k<idx.length) (hx:¬idx.getD k 0<0) (hd:¬s.getD k 0≤idx.getD k 0) :
    PlI s idx (k+1) (IntKind.i64.wrap (IntKind.i64.wrap (n*s.getD k 0)+idx.getD k 0)):=by
  intro hc
  obtain ⟨most,m,g1,g2,g3,g4,g5,g6⟩:=h hc
  rw [getD_drop h1] at g1 g6
  rw [getD_drop h2] at g6
  generalize s.getD k 0=d at *
  generalize idx.getD k 0=x at *
  rw [cnt] at g1
  split at g1
  · exact absurd g1 hc
  · rename_i hno
    have hm:max 1 d=d:=by rw [max1,if_pos (by omega)]
    rw [hm] at g1 hno
    have b1:n*d≤(most - 1)*d:=Int.mul_le_mul_of_nonneg_right (by omega) (by omega)
    have b2:0≤n*d:=Int.mul_nonneg g4 (by omega)
    have b3:(most - 1)*d=most*d - d:=by rw [Int.sub_mul];omega
    have w1:IntKind.i64.wrap (n*d)=n*d:=wrap_i64 (by omega) (by omega)
    have w2:IntKind.i64.wrap (n*d+x)=n*d+x:=wrap_i64 (by omega) (by omega)
    rw [w1,w2]
    refine ⟨most*d,m*d,g1,by omega,by omega,by omega,by omega,?_⟩
    rw [g6,pl,if_neg (by omega)]
theorem PlI.stop {s idx:List Int} {k:Nat} {n:Int} (h:PlI s idx k n) (h1:k<s.length) (h2:k<idx.length) (hx:idx.getD k 0<0∨s.getD k 0≤idx.getD k 0) (hc:count s≠none):pl 0 s idx=none:=by
  obtain ⟨most,m,g1,g2,g3,g4,g5,g6⟩:=h hc
  rw [getD_drop h1,getD_drop h2,pl,if_pos hx] at g6
  exact g6
theorem PlI.done {s idx:List Int} {k:Nat} {n:Int} (h:PlI s idx k n) (h1:s.length≤k∨idx.length≤k) (hc:count s≠none):0≤n∧pl 0 s idx=some n:=by
  obtain ⟨most,m,g1,g2,g3,g4,g5,g6⟩:=h hc
  refine ⟨g4,?_⟩
  rw [g6]
  rcases h1 with h1|h1
  · rw [List.drop_eq_nil_of_le h1,pl]
    intro _ _ _ _ h;cases h
  · rw [List.drop_eq_nil_of_le h1,pl]
    intro _ _ _ _ _ h;cases h
theorem c99_ok {s idx:List Int} (hs:(s.length:Int)≤1000000000000000) (hx:(idx.length:Int)≤1000000000000000) :
    ∃n,Go.V.Call tab E 99 [ints s,ints idx] [] (.int .i64 n) []∧(count s≠none→(pl 0 s idx=none∧n = -1)∨(0≤n∧pl 0 s idx=some n)):=by
  suffices h:Mach (Go.V.Call tab E) (fun x st=>∃n,Fin i99 [] (.int .i64 n) [] x st∧(count s≠none→(pl 0 s idx=none∧n = -1)∨(0≤n∧pl 0 s idx=some n))) [.code c99] .nrm ⟨argsE 0 [ints s,ints idx],[]⟩ by
    obtain ⟨x,st,h1,h4⟩:=wp_exec h
    rw [mNil] at h4
    obtain ⟨n,h2,h3⟩:=h4
    exact ⟨n,Go.V.Call.go i99 c99 rfl rfl rfl rfl (exec_wp h1 h2),h3⟩
  simp only [c99,go_sem]
  refine mLoop (fun N st=>∃(k:Nat) (n:Int),k≤s.length∧k≤idx.length∧N=s.length - k∧PlI s idx k n∧
    st=⟨[(0,ints s),(1,ints idx),(5,.int .i64 n),(6,.int .i64 k)],[]⟩) s.length ⟨_,rfl,0,0,by omega,by omega,by omega,PlI.zero,rfl⟩ ?_
  rintro N s0 ⟨k,n,hk,hk2,rfl,hp,rfl⟩
  by_cases hlt:k<s.length
  · have hlt':(k:Int)<(s.length:Int):=by omega
    by_cases hlt2:k<idx.length
    · have hlt2':(k:Int)<(idx.length:Int):=by omega
      have hk0:(0:Int)≤(k:Int):=by omega
      have hk1:IntKind.i64.wrap ((k:Int)+1)=((k+1:Nat):Int):=by rw [wrap_i64 (by omega) (by omega)];omega
      have hsub:=sub_nums (k:=.i64) hlt
      have hsub2:=sub_nums (k:=.i64) hlt2
      by_cases hneg:idx.getD k 0<0
      · simp only [b99_0,go_sem,hlt',hlt2',hk0,Int.toNat_natCast,hsub,hsub2,hneg]
        refine ⟨-1,by simp only [i99,OT,reduceIte,Nat.reduceEqDiff],fun hc=>.inl ⟨hp.stop hlt hlt2 (.inl hneg) hc,rfl⟩⟩
      · by_cases hbig:s.getD k 0≤idx.getD k 0
        · simp only [b99_0,go_sem,hlt',hlt2',hk0,Int.toNat_natCast,hsub,hsub2,hneg,hbig]
          refine ⟨-1,by simp only [i99,OT,reduceIte,Nat.reduceEqDiff],fun hc=>.inl ⟨hp.stop hlt hlt2 (.inr hbig) hc,rfl⟩⟩
        · simp only [b99_0,go_sem,hlt',hlt2',hk0,Int.toNat_natCast,hsub,hsub2,hneg,hbig,hk1]
          exact loopQ_go rfl (s.length - (k+1)) (by omega) ⟨k+1,_,by omega,by omega,rfl,hp.step hlt hlt2 hneg hbig,rfl⟩
    · have hlt2':¬(k:Int)<(idx.length:Int):=by omega
      simp only [b99_0,k99_0,go_sem,hlt',hlt2']
      exact ⟨n,by simp only [i99,OT,reduceIte,Nat.reduceEqDiff],fun hc=>.inr (hp.done (.inr (by omega)) hc)⟩
  · have hlt':¬(k:Int)<(s.length:Int):=by omega
    simp only [b99_0,k99_0,go_sem,hlt']
    exact ⟨n,by simp only [i99,OT,reduceIte,Nat.reduceEqDiff],fun hc=>.inr (hp.done (.inl (by omega)) hc)⟩
end
def ix:List Int→Int→List Int × Int
  | [],a=>([],a)
  | d::ds,a=>((ix ds a).2 % d::(ix ds a).1,(ix ds a).2/d)
def index (s:List Int) (a:Int):Option (List Int):=
  match count s with
  | none=>none
  | some n=>if a<0∨n≤a then none else some (ix s a).1
def optL:Option (List Int)→AV
  | some l=>.tup [ints l,.bool true]
  | none=>.tup [.sl 0 1 [],.bool false]
section
variable {E:CallRel}
end
def strW:List Int→List Int
  | []=>[]
  | _::ds=>prodW ds::strW ds
section
variable {E:CallRel}
end
end Go.Proofs.YtlejgleocnemoaaGreat.I

namespace Go.Proofs.YtlejgleocnemoaaGreat.I
open Go Go.V
attribute [local go_sem_proc ↓] reduceIte
attribute [local go_sem_proc] Nat.reduceEqDiff Nat.reduceAdd Nat.reduceMul Nat.reduceLeDiff Nat.reduceLT Int.reduceToNat Int.reduceLT Int.reduceLE reduceCtorEq Nat.reduceBEq
attribute [local go_sem] mNil nat0 beq_self_eq_true mSkip mRet mExit mReg mSeq mCond mTrue mFalse mBlock mLv mCodeE mCodeR mEndN mEndR mEndE mOps mSome mGuard mGtt mGff mGtf mGft mGu mCallP mCallR mCallF mCallO mCallZ mCallG mCallM mCallV loopQ_exit loopQ_ret mO_mov mO_newnil mO_pick mO_alloc mO_box mO_build mO_bsl mO_bslF mO_newnilB mO_bslB mO_lenB mO_appB mO_allocA mO_bslA mO_appA mO_ldb mO_faddrb mRsv mO_ldf mO_ld mO_st mO_sta mO_nilchk mO_bin mO_binb mO_binp mO_bins mO_neg mO_com mO_not mO_conv mO_mk mO_mk0 mO_mkB mO_s2b mO_b2s mO_cpy mO_cut mO_faddr mO_fld mO_iaddr mO_iaddrf mO_sidx mO_len mO_lenf mO_slen mO_scut mO_app mO_ext mO_mx mO_mn mO_mkfn evalOp cutOp argsE ev getE putE cellsOf adopt rowOf binV boolV nilV ar_add ar_sub ar_mul ar_quo ar_rem ar_eq ar_ne ar_lt ar_le ar_gt ar_ge ar_and ar_or ar_xor geto bound finRet finNrm ints List.length_cons List.length_nil List.length_append List.getElem?_cons_zero List.getElem?_cons_succ List.nil_append List.cons_append List.map_cons List.map_nil List.mapM_cons List.mapM_nil Option.map_some Option.map_none Option.bind_some Option.pure_def Option.bind_eq_bind List.drop_zero or_self or_false false_or or_true true_or true_and and_true and_self decide_true decide_false Bool.false_eq_true Bool.true_eq_false Bool.not_true Bool.not_false Nat.le_refl eq_self gt_iff_lt ge_iff_le ne_eq not_true_eq_false not_false_eq_true
theorem shl_or {a b:Nat} (ha:a<4294967296) (hb:b<4294967296):IntKind.u64.wrap (((BitVec.ofInt 64 ((b:Int)*4294967296) ||| BitVec.ofInt 64 (a:Int)).toNat:Nat):Int)=(b:Int)*4294967296+a:=by
  rw [BitVec.or_comm]
  exact or_shl ha hb
theorem shl32 {b:Nat} (hb:b<4294967296):shiftOp .shl .u64 (b:Int) 32=some (.int .u64 ((b:Int)*4294967296)):=by
  have:IntKind.u64.wrap ((b:Int)*4294967296)=(b:Int)*4294967296:=wrap_u64 (by omega) (by omega)
  simp only [shiftOp,IntKind.bits]
  simp
  exact this
theorem small_step {d x v:Nat} (hd:0<d):(x+4294967296*v)/d=4294967296*(v/d)+(v % d*4294967296+x)/d∧(x+4294967296*v) % d=(v % d*4294967296+x) % d:=by
  have e:x+4294967296*v=(v % d*4294967296+x)+d*(4294967296*(v/d)):=by
    have h:=Nat.div_add_mod v d
    have h2:4294967296*v=4294967296*(d*(v/d))+4294967296*(v % d):=by rw [←Nat.mul_add,h]
    have h3:d*(4294967296*(v/d))=4294967296*(d*(v/d)):=by rw [←Nat.mul_assoc,←Nat.mul_assoc,Nat.mul_comm d]
    omega
  rw [e,Nat.add_mul_div_left _ _ hd,Nat.add_mul_mod_self_left]
  exact ⟨by omega,rfl⟩
theorem subB1 {a:AV}:sub false 1 [a] 0=some a:=rfl
section
variable {E:CallRel}
theorem c169_ok {l:List Int} {d:Nat} (hl:R32 l) (hll:(l.length:Int)≤1000000000000) (hd:0<d∧d<4294967296):Go.V.Call tab E 169 [.agg [us32 l],.int .u32 d] [] (.tup [.agg [us32 (limG (nval l/d))],.int .u32 ((nval l % d:Nat):Int)]) []:=by
  refine Go.V.Call.mach i169 c169 rfl rfl rfl rfl ?_
  have b1:(0:Int)≤(l.length:Int):=by omega
  have b2:4*l.length≤140737488355328:=by omega
  have b3:(l.length:Int)≤140737488355328:=by omega
  have w0:IntKind.i64.wrap ((l.length:Int) - 1)=(l.length:Int) - 1:=wrap_i64 (by omega) (by omega)
  simp only [c169,us32,go_sem,storeOp,apartOf,freeze_nil,refsL,refs,List.flatMap_cons,List.flatMap_nil,List.append_nil,List.contains_nil,List.set_cons_zero,List.set_cons_succ,snap,snapL,fill_nums,flat_nums,nums_length,sub,FL,Go.V.freeze,List.mapIdx_cons,List.mapIdx_nil,List.contains_cons,Nat.reduceBEq,Bool.or_false,Bool.false_or,Bool.or_true,Bool.true_or,b1,b2,b3,w0,Int.toNat_natCast,flat_nums]
  refine mLoop (fun N st=>∃(j:Nat) (jj:Int) (q:List Int),j≤l.length∧N=j∧jj=(j:Int) - 1∧R32 q∧q.length=l.length - j∧nval q=nval (l.drop j)/d∧
    st=⟨[(1,.int .u32 d),(2,.loc 0 0 0),(4,.loc 2 0 0),(6,.arr 3 0),(7,.int .u64 ((nval (l.drop j) % d:Nat):Int)),(8,.int .i64 jj)],
      [⟨true,94,1,0,1,[us32 l],false⟩,⟨false,191,1,0,0,[],false⟩,⟨true,94,1,0,1,[.arr 1 0],false⟩,⟨false,191,1,0,l.length,nums .u32 (List.replicate j 0++q),false⟩]⟩) l.length
    ⟨_,rfl,l.length,_,[],by omega,rfl,rfl,fun x hx=>by simp at hx,by simp,by rw [List.drop_length];simp [nval],by rw [List.drop_length,List.append_nil];simp [nval,getE,us32]⟩ ?_
  rintro N s0 ⟨j,jj,q,hj,rfl,hjj,hq,hql,hqv,rfl⟩
  cases N with
  | zero=>
    have hjn:¬0≤jj:=by omega
    rw [List.drop_zero] at hqv
    have h114:=c175_ok (E:=E) (l:=q) (by omega)
    rw [trimL_limG hq,hqv] at h114
    have w1:IntKind.u32.wrap ((nval l % d:Nat):Int)=((nval l % d:Nat):Int):=by
      have:=Nat.mod_lt (nval l) hd.1
      rw [wrap_u32];omega
    have hlen:l.length=q.length:=by omega
    simp only [b169_0,k169_0,us32,go_sem,storeOp,apartOf,freeze_nil,refsL,refs,List.flatMap_cons,List.flatMap_nil,List.append_nil,List.contains_nil,List.set_cons_zero,List.set_cons_succ,snap,snapL,fill_nums,flat_nums,nums_length,FL,Go.V.freeze,List.mapIdx_cons,List.mapIdx_nil,List.contains_cons,Nat.reduceBEq,Bool.or_false,Bool.false_or,Bool.or_true,Bool.true_or,hjn,List.replicate_zero,List.drop_zero,hlen]
    refine goF h114 ?_
    simp only [us32,go_sem,storeOp,apartOf,freeze_nil,refsL,refs,List.flatMap_cons,List.flatMap_nil,List.append_nil,List.contains_nil,List.set_cons_zero,List.set_cons_succ,snap,snapL,fill_nums,flat_nums,nums_length,FL,Go.V.freeze,List.mapIdx_cons,List.mapIdx_nil,List.contains_cons,Nat.reduceBEq,Bool.or_false,Bool.false_or,Bool.or_true,Bool.true_or,w1]
    simp only [i169,OT,reduceIte,Nat.reduceEqDiff,sub,FL,List.length_cons,List.length_nil,Nat.le_refl,us32]
  | succ k=>
    obtain rfl:jj=(k:Int):=by omega
    have hlt:k<l.length:=by omega
    have hlt':(k:Int)<(l.length:Int):=by omega
    have hk0:(0:Int)≤(k:Int):=by omega
    have hk1:IntKind.i64.wrap ((k:Int) - 1)=(k:Int) - 1:=wrap_i64 (by omega) (by omega)
    have hsub:=sub_nums (k:=.u32) hlt
    have hx:=hl (l.getD k 0) (by simp [List.getD,hlt])
    have hdr:=getD_drop hlt
    obtain ⟨x,hxx⟩:=Int.eq_ofNat_of_zero_le hx.1
    rw [hxx] at hsub hdr
    have hxl:x<4294967296:=by omega
    have hr:=Nat.mod_lt (nval (l.drop (k+1))) hd.1
    have hnv:nval (l.drop k)=x+4294967296*nval (l.drop (k+1)):=by rw [hdr,nval,Int.toNat_natCast]
    obtain ⟨s1,s2⟩:=small_step (d:=d) (x:=x) (v:=nval (l.drop (k+1))) hd.1
    rw [←hnv] at s1 s2
    generalize nval (l.drop (k+1))=V at *
    have hrl:V % d<4294967296:=by omega
    have wx:IntKind.u64.wrap (x:Int)=(x:Int):=wrap_u64 (by omega) (by omega)
    have wd:IntKind.u64.wrap (d:Int)=(d:Int):=wrap_u64 (by omega) (by omega)
    have hs:=shl32 hrl
    have ho:=shl_or hxl hrl
    have et:((V % d:Nat):Int)*4294967296+(x:Int)=((V % d*4294967296+x:Nat):Int):=by omega
    rw [et] at ho
    generalize hT:V % d*4294967296+x=T at *
    have hTd:T<d*4294967296:=by
      have:V % d*4294967296+4294967296≤d*4294967296:=by
        rw [←Nat.succ_mul]
        exact Nat.mul_le_mul_right _ hr
      omega
    have hTq:T/d<4294967296:=(Nat.div_lt_iff_lt_mul hd.1).2 (by rw [Nat.mul_comm];exact hTd)
    have ho':IntKind.u64.wrap (((BitVec.ofInt IntKind.u64.bits (((V % d:Nat):Int)*4294967296) ||| BitVec.ofInt IntKind.u64.bits (x:Int)).toNat:Nat):Int)=(T:Int):=ho
    have hd0:¬(d:Int)=0:=by omega
    have hquo:Int.tdiv (T:Int) (d:Int)=((T/d:Nat):Int):=by
      rw [Int.tdiv_eq_ediv_of_nonneg (by omega),←Int.natCast_ediv]
    have hrem:Int.tmod (T:Int) (d:Int)=((T % d:Nat):Int):=by
      rw [Int.tmod_eq_emod_of_nonneg (by omega),←Int.natCast_emod]
    have hnew:(List.take k (List.replicate (k+1) (0:Int)++q)++((T/d:Nat):Int)::List.drop (k+1) (List.replicate (k+1) (0:Int)++q))=List.replicate k 0++((T/d:Nat):Int)::q:=by
      rw [List.take_append_of_le_length (by simp),List.take_replicate,List.drop_append_of_le_length (by simp)]
      simp
    have hfin:nval (((T/d:Nat):Int)::q)=nval (l.drop k)/d:=by rw [nval,Int.toNat_natCast,hqv,s1];omega
    rw [←s2] at hrem
    generalize T/d=Q at *
    have hquo':IntKind.u64.wrap (Q:Int)=(Q:Int):=wrap_u64 (by omega) (by omega)
    have hc:IntKind.u32.wrap (Q:Int)=(Q:Int):=by rw [wrap_u32];omega
    have hst:k*1+1≤(List.replicate (k+1) (0:Int)).length+q.length:=by simp
    simp only [b169_0,us32,mNil,nat0,beq_self_eq_true,mSkip,mRet,mExit,mReg,mSeq,mCond,mTrue,mFalse,mBlock,mLv,mCodeE,mCodeR,mEndN,mEndR,mEndE,mOps,mSome,mGuard,mGtt,mGff,mGtf,mGft,mGu,mCallP,mCallR,mCallF,mCallO,mCallZ,mCallG,mCallM,mCallV,loopQ_exit,loopQ_ret,mO_mov,mO_newnil,mO_pick,mO_alloc,mO_box,mO_build,mO_bsl,mO_bslF,mO_newnilB,mO_bslB,mO_lenB,mO_appB,mO_allocA,mO_bslA,mO_appA,mO_ldb,mO_faddrb,mRsv,mO_ldf,mO_ld,mO_st,mO_sta,mO_nilchk,mO_bin,mO_binb,mO_binp,mO_bins,mO_neg,mO_com,mO_not,mO_conv,mO_mk,mO_mk0,mO_mkB,mO_s2b,mO_b2s,mO_cpy,mO_cut,mO_faddr,mO_fld,mO_iaddr,mO_iaddrf,mO_sidx,mO_len,mO_lenf,mO_slen,mO_scut,mO_app,mO_ext,mO_mx,mO_mn,mO_mkfn,evalOp,cutOp,argsE,ev,getE,putE,cellsOf,adopt,rowOf,binV,boolV,nilV,ar_add,ar_sub,ar_mul,ar_quo,ar_rem,ar_eq,ar_ne,ar_lt,ar_le,ar_gt,ar_ge,ar_and,ar_or,ar_xor,geto,bound,finRet,finNrm,ints,List.length_cons,List.length_nil,List.length_append,List.getElem?_cons_zero,List.getElem?_cons_succ,List.nil_append,List.cons_append,List.map_cons,List.map_nil,List.mapM_cons,List.mapM_nil,Option.map_some,Option.map_none,Option.bind_some,Option.pure_def,Option.bind_eq_bind,List.drop_zero,↓reduceIte,Nat.reduceEqDiff,Nat.reduceAdd,Nat.reduceMul,Nat.reduceLeDiff,Nat.reduceLT,Int.reduceToNat,Int.reduceLT,Int.reduceLE,reduceCtorEq,or_self,or_false,false_or,or_true,true_or,true_and,and_true,and_self,decide_true,decide_false,Bool.false_eq_true,Bool.true_eq_false,Bool.not_true,Bool.not_false,Nat.le_refl,eq_self,gt_iff_lt,ge_iff_le,ne_eq,not_true_eq_false,not_false_eq_true,storeOp,apartOf,freeze_nil,refsL,refs,List.flatMap_cons,List.flatMap_nil,List.append_nil,List.contains_nil,List.set_cons_zero,List.set_cons_succ,snap,snapL,fill_nums,flat_nums,nums_length,subB1,Go.V.freeze,List.mapIdx_cons,List.mapIdx_nil,List.contains_cons,Nat.reduceBEq,Bool.or_false,Bool.false_or,Bool.or_true,Bool.true_or,hk0,hlt',Int.toNat_natCast,wx,wd,hs,hsub,ho',hd0,hquo,hquo',hrem,hc,hst,hnew,hk1]
    refine loopQ_go rfl k (by omega) ⟨k,_,((Q:Nat):Int)::q,by omega,rfl,rfl,fun y hy=>?_,by simp;omega,hfin,rfl⟩
    rcases List.mem_cons.1 hy with rfl|hy
    · omega
    · exact hq y hy
end
def prodR:List Int→Int
  | []=>1
  | d::ds=>IntKind.i64.wrap (prodR ds*d)
def str:List Int→List Int
  | []=>[]
  | _::ds=>prodR ds::str ds
theorem str_len:∀{s:List Int},(str s).length=s.length
  | []=>rfl
  | d::ds=>by simp [str,str_len]
section
variable {E:CallRel}
theorem c111_ok {s:List Int} (hl:(s.length:Int)≤1000000000000):Go.V.Call tab E 111 [ints s] [] (ints (str s)) []:=by
  refine Go.V.Call.mach i111 c111 rfl rfl rfl rfl ?_
  have hmk:8*s.length≤140737488355328:=by omega
  have hmk2:(s.length:Int)≤140737488355328:=by omega
  have hn0:(0:Int)≤(s.length:Int):=by omega
  have hw:IntKind.i64.wrap ((s.length:Int) - 1)=(s.length:Int) - 1:=wrap_i64 (by omega) (by omega)
  simp only [c111,go_sem,Int.toNat_natCast,hmk,hmk2,hn0,flat_nums,hw]
  refine mLoop (fun N st=>∃(j:Nat) (i:Int),j≤s.length∧N=j∧i=(j:Int) - 1∧
    st=⟨[(0,ints s),(3,.arr 1 0),(4,.int .i64 (prodR (s.drop j))),(5,.int .i64 i)],[⟨false,3,1,0,0,[],false⟩,⟨false,3,1,0,s.length,nums .i64 (List.replicate j 0++str (s.drop j)),false⟩]⟩) s.length
    ⟨_,rfl,s.length,_,by omega,rfl,rfl,by rw [List.drop_length];simp only [prodR,str,List.append_nil];rfl⟩ ?_
  rintro N s0 ⟨j,i,hj,rfl,hi,rfl⟩
  cases N with
  | zero=>
    have hi':¬0≤i:=by omega
    simp only [b111_0,k111_0,go_sem,hi']
    simp only [i111,OT,reduceIte,Nat.reduceEqDiff,List.drop_zero,List.replicate_zero,List.nil_append,str_len]
  | succ k=>
    obtain rfl:i=(k:Int):=by omega
    have hlt:k<s.length:=by omega
    have hlt':(k:Int)<(s.length:Int):=by omega
    have hk0:(0:Int)≤(k:Int):=by omega
    have hk1:IntKind.i64.wrap ((k:Int) - 1)=(k:Int) - 1:=wrap_i64 (by omega) (by omega)
    have hsub:=sub_nums (k:=.i64) hlt
    have hst:k*1+1≤(List.replicate (k+1) (0:Int)).length+(str (s.drop (k+1))).length:=by simp
    simp only [b111_0,go_sem,storeOp,apartOf,freeze_nil,refsL,refs,List.flatMap_cons,List.flatMap_nil,List.append_nil,List.contains_nil,List.set_cons_zero,List.set_cons_succ,snap,snapL,fill_nums,flat_nums,nums_length,hlt',hk0,Int.toNat_natCast,hsub,hst,hk1]
    refine loopQ_go rfl k (by omega) ⟨k,(k:Int) - 1,by omega,rfl,rfl,?_⟩
    have:List.take k (List.replicate (k+1) (0:Int)++str (s.drop (k+1)))++prodR (s.drop (k+1))::List.drop (k+1) (List.replicate (k+1) (0:Int)++str (s.drop (k+1)))=List.replicate k 0++str (s.drop k):=by
      rw [List.take_append_of_le_length (by simp),List.take_replicate,List.drop_append_of_le_length (by simp),getD_drop hlt,str]
      simp
    rw [this,getD_drop hlt,prodR]
    rfl
end
def prd:List Int→Int
  | []=>1
  | d::ds=>d*prd ds
theorem wrap_def (n:Int):IntKind.i64.wrap n=(n+9223372036854775808) % 18446744073709551616 - 9223372036854775808:=by
  simp only [IntKind.wrap,IntKind.bits,IntKind.signed]
  simp
  omega
theorem wrap_eq (n:Int):∃k,IntKind.i64.wrap n=n+18446744073709551616*k:=by
  refine ⟨-((n+9223372036854775808)/18446744073709551616),?_⟩
  rw [wrap_def]
  omega
theorem wrap_add_mul (n k:Int):IntKind.i64.wrap (n+18446744073709551616*k)=IntKind.i64.wrap n:=by
  rw [wrap_def,wrap_def]
  omega
theorem wrap_mul_l (a b:Int):IntKind.i64.wrap (IntKind.i64.wrap a*b)=IntKind.i64.wrap (a*b):=by
  obtain ⟨k,hk⟩:=wrap_eq a
  rw [hk,Int.add_mul,Int.mul_assoc,wrap_add_mul]
theorem prodR_wrap:∀{s:List Int},prodR s=IntKind.i64.wrap (prd s)
  | []=>by rw [prodR,prd,wrap_i64 (by omega) (by omega)]
  | d::ds=>by rw [prodR,prodR_wrap,wrap_mul_l,prd,Int.mul_comm]
theorem cnt_prd:∀{s:List Int} {most m n:Int},cnt most m s=some n→n=m*prd s
  | [],most,m,n,h=>by rw [cnt] at h;rw [prd,Int.mul_one];exact (Option.some.inj h).symm
  | d::ds,most,m,n,h=>by
    rw [cnt] at h
    split at h
    · cases h
    · rw [cnt_prd h,prd,Int.mul_assoc]
theorem count_prd {s:List Int} {n:Int} (h:count s=some n):n=prd s:=by
  unfold count at h
  split at h
  · cases h
  · rw [cnt_prd h,Int.one_mul]
def inc:List Int→List Int→List Int × Bool
  | d::ds,x::xs=>if (inc ds xs).2 then (if x+1<d then ((x+1)::(inc ds xs).1,false) else (0::(inc ds xs).1,true)) else (x::(inc ds xs).1,false)
  | _,_=>([],true)
def allS (L:List (List Int)) (d:Nat):List (List Int):=L.flatMap fun p=>(List.range d).map fun n:Nat=>p++[(n:Int)]
def allL (s:List Int):List (List Int):=s.foldl (fun L d=>allS L d.toNat) [[]]
def rows (L:List (List Int)):AV:=.sl L.length 1 (L.map ints)
theorem cnt_bound:∀{s:List Int} {most m n:Int},cnt most m s=some n→1≤most→most≤4096→(∀d∈s,0≤d∧d≤4096)∧∀k,0≤prd (s.take k)∧most*prd (s.take k)≤4096
  | [],most,m,n,h,h1,h2=>⟨fun d hd=>by simp at hd,fun k=>by simp [prd];omega⟩
  | d::ds,most,m,n,h,h1,h2=>by
    rw [cnt] at h
    split at h
    · cases h
    · rename_i hno
      have hmx:1≤max 1 d∧d≤max 1 d:=by rw [max1];split<;>omega
      have hmm:1≤most*max 1 d:=by
        have:=Int.mul_le_mul_of_nonneg_left (a:=1) (b:=max 1 d) (c:=most) hmx.1 (by omega)
        omega
      have hd:d≤most*max 1 d:=by
        have:=Int.mul_le_mul_of_nonneg_right (a:=1) (b:=most) (c:=max 1 d) h1 (by omega)
        omega
      obtain ⟨g1,g2⟩:=cnt_bound h hmm (by omega)
      refine ⟨fun x hx=>?_,fun k=>?_⟩
      · rcases List.mem_cons.1 hx with rfl|hx
        · omega
        · exact g1 x hx
      · cases k with
        | zero=>simp [prd];omega
        | succ k=>
          rw [List.take_succ_cons,prd]
          obtain ⟨e1,e2⟩:=g2 k
          have e3:d*prd (ds.take k)≤max 1 d*prd (ds.take k):=Int.mul_le_mul_of_nonneg_right hmx.2 e1
          have e4:=Int.mul_le_mul_of_nonneg_left (c:=most) e3 (by omega)
          rw [←Int.mul_assoc] at e4
          rw [←Int.mul_assoc] at e4
          refine ⟨Int.mul_nonneg (by omega) e1,?_⟩
          rw [←Int.mul_assoc]
          omega
theorem count_bound {s:List Int} {n:Int} (h:count s=some n):s.length≤8∧(∀d∈s,0≤d∧d≤4096)∧∀k,0≤prd (s.take k)∧prd (s.take k)≤4096:=by
  unfold count at h
  split at h
  · cases h
  · obtain ⟨h1,h2⟩:=cnt_bound h (by omega) (by omega)
    exact ⟨by omega,h1,fun k=>by have:=h2 k;rwa [Int.one_mul] at this⟩
theorem sub_rows {L:List (List Int)} {j:Nat} (h:j<L.length):sub false 1 (L.map ints) (j*1)=some (ints (L.getD j [])):=by
  simp only [sub,List.length_map,Nat.mul_one,Bool.false_eq_true,if_false,if_true]
  rw [if_pos (by omega),List.getElem?_map,List.getElem?_eq_getElem h]
  simp [List.getD,h]
section
variable {E:CallRel}
end
theorem set_set {y:List Int} {m:Nat} {v u:Int} (h:m<y.length):(y.take m++v::y.drop (m+1)).take m++u::(y.take m++v::y.drop (m+1)).drop (m+1)=y.take m++u::y.drop (m+1):=by
  have e1:(y.take m).length=m:=by simp;omega
  rw [List.take_append_of_le_length (by omega),List.take_take,Nat.min_self,List.drop_append,e1,List.drop_eq_nil_of_le (by omega)]
  simp [show m+1 - m=1 by omega]
section
variable {E:CallRel}
end
end Go.Proofs.YtlejgleocnemoaaGreat.I

namespace Go.Proofs.YtlejgleocnemoaaGreat.I
open Go Go.V
attribute [local go_sem_proc ↓] reduceIte
attribute [local go_sem_proc] Nat.reduceEqDiff Nat.reduceAdd Nat.reduceMul Nat.reduceLeDiff Nat.reduceLT Int.reduceToNat Int.reduceLT Int.reduceLE reduceCtorEq Nat.reduceBEq
attribute [local go_sem] mNil nat0 beq_self_eq_true mSkip mRet mExit mReg mSeq mCond mTrue mFalse mBlock mLv mCodeE mCodeR mEndN mEndR mEndE mOps mSome mGuard mGtt mGff mGtf mGft mGu mCallP mCallR mCallF mCallO mCallZ mCallG mCallM mCallV loopQ_exit loopQ_ret mO_mov mO_newnil mO_pick mO_alloc mO_box mO_build mO_bsl mO_bslF mO_newnilB mO_bslB mO_lenB mO_appB mO_allocA mO_bslA mO_appA mO_ldb mO_faddrb mRsv mO_ldf mO_ld mO_st mO_sta mO_nilchk mO_bin mO_binb mO_binp mO_bins mO_neg mO_com mO_not mO_conv mO_mk mO_mk0 mO_mkB mO_s2b mO_b2s mO_cpy mO_cut mO_faddr mO_fld mO_iaddr mO_iaddrf mO_sidx mO_len mO_lenf mO_slen mO_scut mO_app mO_ext mO_mx mO_mn mO_mkfn evalOp cutOp argsE ev getE putE cellsOf adopt rowOf binV boolV nilV ar_add ar_sub ar_mul ar_quo ar_rem ar_eq ar_ne ar_lt ar_le ar_gt ar_ge ar_and ar_or ar_xor geto bound finRet finNrm ints List.length_cons List.length_nil List.length_append List.getElem?_cons_zero List.getElem?_cons_succ List.nil_append List.cons_append List.map_cons List.map_nil List.mapM_cons List.mapM_nil Option.map_some Option.map_none Option.bind_some Option.pure_def Option.bind_eq_bind List.drop_zero or_self or_false false_or or_true true_or true_and and_true and_self decide_true decide_false Bool.false_eq_true Bool.true_eq_false Bool.not_true Bool.not_false Nat.le_refl eq_self gt_iff_lt ge_iff_le ne_eq not_true_eq_false not_false_eq_true storeOp apartOf freeze_nil refsL refs List.flatMap_cons List.flatMap_nil List.append_nil List.contains_nil List.set_cons_zero List.set_cons_succ snap snapL fill_nums flat_nums nums_length Go.V.freeze List.mapIdx_cons List.mapIdx_nil List.contains_cons Bool.or_false Bool.false_or Bool.or_true Bool.true_or
theorem asc_len {a:List Int}:(asc a).length=a.length:=by simp [asc]
def Half (y x:List Int) (i:Nat):Prop:=x.length=y.length∧∀p,p<y.length→x.getD p 0=if p<i∨y.length<p+1+i then y.getD (y.length - 1 - p) 0 else y.getD p 0
theorem half_zero {y:List Int}:Half y y 0:=⟨rfl,fun p hp=>by rw [if_neg (by omega)]⟩
theorem half_step {y x:List Int} {i:Nat} (h:Half y x i) (hi:i+i+1<y.length):Half y (swp x i (y.length - 1 - i)) (i+1):=by
  obtain ⟨h1,h2⟩:=h
  refine ⟨by rw [swp_len (by omega) (by omega),h1],fun p hp=>?_⟩
  rw [swp_get (by omega) (by omega)]
  have ei:=h2 i (by omega)
  have ej:=h2 (y.length - 1 - i) (by omega)
  rw [if_neg (by omega)] at ei ej
  split
  · rename_i hpj
    rw [ei,if_pos (by omega)]
    congr 1
    omega
  · split
    · rename_i hpi
      rw [ej,if_pos (by omega)]
      congr 1
      omega
    · rw [h2 p hp]
      split
      · rw [if_pos (by omega)]
      · rw [if_neg (by omega)]
theorem half_done {y x:List Int} {i:Nat} (h:Half y x i) (hi:y.length≤i+i+1):x=y.reverse:=by
  obtain ⟨h1,h2⟩:=h
  refine List.ext_getElem (by simp [h1]) (fun p hp hq=>?_)
  have hp':p<y.length:=by omega
  have e:=h2 p hp'
  have e1:x.getD p 0=x[p]:=by simp [List.getD,hp]
  have e2:y.getD (y.length - 1 - p) 0=y[y.length - 1 - p]'(by omega):=by simp [List.getD,show y.length - 1 - p<y.length by omega]
  rw [e1] at e
  rw [List.getElem_reverse,←e2,e]
  split
  · rfl
  · rename_i hn
    congr 1
    omega
theorem subT1 {a:AV}:sub true 1 [a] 0=some (.agg [a]):=rfl
section
variable {E:CallRel}
theorem c138_ok {n:Nat} (h1:(limG n).length≤1000000) (h2:(dgs n).length≤1000000):Go.V.Call tab E 138 [.agg [us32 (limG n)]] [] (.str (dec n)) []:=by
  refine Go.V.Call.mach i138 c138 rfl rfl rfl rfl ?_
  by_cases h0:n=0
  · subst h0
    simp only [c138,us32,limG_zero,go_sem,subB1,subT1,FL,show ((0:Int)==0)=true from rfl]
    simp only [i138,OT,reduceIte,Nat.reduceEqDiff,dec]
  · have hlen:(limG n).length≠0:=by rw [limG_pos h0];simp
    have hlen':(((limG n).length:Int)==0)=false:=by rw [beq_eq_false_iff_ne];omega
    simp only [c138,us32,go_sem,subB1,subT1,FL,hlen']
    refine mLoop (fun N st=>∃(m:Nat) (out:List Int),m≤n∧N=m∧dgs n=out++dgs m∧
      st=⟨[(1,.loc 0 0 0),(3,.arr 1 out.length)],[⟨true,94,1,0,1,[us32 (limG m)],false⟩,⟨false,5,1,out.length,out.length,nums .u8 (asc out),false⟩]⟩) n ⟨_,rfl,n,[],by omega,rfl,by simp,by simp [getE,us32,asc,nums]⟩ ?_
    rintro N s0 ⟨m,out,hm,rfl,hd,rfl⟩
    by_cases hN:N=0
    · subst hN
      rw [dgs_zero,List.append_nil] at hd
      have hlast:=dgs_last h0
      have hol:1≤out.length:=by
        obtain ⟨l,d,e,_⟩:=hlast
        rw [←hd,e];simp
      have hw:IntKind.i64.wrap ((out.length:Int) - 1)=(out.length:Int) - 1:=by
        rw [hd] at h2
        exact wrap_i64 (by omega) (by omega)
      rw [hd] at h2
      simp only [b138_0,k138_2,us32,limG_zero,go_sem,subB1,subT1,FL]
      refine goR (c154_ok (l:=[])) rfl ?_
      simp only [go_sem,List.length_nil,show (((0:Nat):Int))=0 from rfl,show ((0:Int)==0)=true from rfl,hw]
      refine mLoop (fun N st=>∃(i:Nat) (x:List Int) (jj:Int),i≤out.length∧N=out.length - i∧jj=(out.length:Int) - 1 - (i:Int)∧Half (asc out) x i∧
        st=⟨[(3,.arr 1 out.length),(7,.int .i64 i),(8,.int .i64 jj)],[⟨true,94,1,0,1,[.sl 0 1 (nums .u32 [])],false⟩,⟨false,5,1,out.length,out.length,nums .u8 x,false⟩]⟩) out.length ⟨_,rfl,0,asc out,_,by omega,by omega,rfl,half_zero,by simp [getE]⟩ ?_
      rintro N s0 ⟨i,x,jj,hi,rfl,hjj,hx,rfl⟩
      have hxl:x.length=out.length:=by rw [hx.1,asc_len]
      by_cases hlt:i+i+1<out.length
      · have hlt':(i:Int)<jj:=by omega
        obtain ⟨j,hj⟩:∃j:Nat,jj=j:=⟨jj.toNat,by omega⟩
        subst hj
        have hi0:(0:Int)≤(i:Int):=by omega
        have hj0:(0:Int)≤(j:Int):=by omega
        have hil:(i:Int)<(out.length:Int):=by omega
        have hjl:(j:Int)<(out.length:Int):=by omega
        have hsi:=sub_nums (k:=.u8) (l:=x) (i:=i) (by omega)
        have hsj:=sub_nums (k:=.u8) (l:=x) (i:=j) (by omega)
        have ht1:i*1+1≤x.length:=by omega
        have ht2:j*1+1≤(x.take i).length+((x.drop (i+1)).length+1):=by simp;omega
        have hi1:IntKind.i64.wrap ((i:Int)+1)=((i+1:Nat):Int):=by rw [wrap_i64 (by omega) (by omega)];omega
        have hj1:IntKind.i64.wrap ((j:Int) - 1)=(j:Int) - 1:=wrap_i64 (by omega) (by omega)
        have hst:=half_step hx (by rw [asc_len];exact hlt)
        have hjeq:(asc out).length - 1 - i=j:=by rw [asc_len];omega
        rw [hjeq] at hst
        simp only [b138_2,go_sem,hlt',hi0,hj0,hil,hjl,hsi,hsj,ht1,ht2,hi1,hj1,Int.toNat_natCast]
        exact loopQ_go rfl (out.length - (i+1)) (by omega) ⟨i+1,swp x i j,_,by omega,rfl,by omega,hst,rfl⟩
      · have hlt':¬(i:Int)<jj:=by omega
        have hxx:=half_done hx (by rw [asc_len];omega)
        simp only [b138_2,k138_1,go_sem,hlt',bytesOf_nums]
        simp only [i138,OT,reduceIte,Nat.reduceEqDiff,dec,if_neg h0,hxx,hd]
    · have hlenN:(limG N).length≠0:=by rw [limG_pos hN];simp
      have hlenN':(((limG N).length:Int)==0)=false:=by rw [beq_eq_false_iff_ne];omega
      have hmono:=limG_mono hm
      have hsm:=c169_ok (E:=E) (l:=limG N) (d:=1000000000) R32_limG (by omega) (by omega)
      rw [nval_limG] at hsm
      have hqr:=Nat.div_add_mod N 1000000000
      have hrl:=Nat.mod_lt N (show 0<1000000000 by omega)
      have hqN:N/1000000000<N:=by omega
      simp only [b138_0,us32,go_sem,subB1,subT1,FL]
      refine goR (c154_ok (l:=limG N)) rfl ?_
      simp only [us32,go_sem,subB1,subT1,FL,hlenN']
      refine goF hsm ?_
      generalize N/1000000000=q at *
      generalize N % 1000000000=r at *
      simp only [us32,go_sem,subB1,subT1,FL]
      refine mLoop (fun N' st=>∃(i:Nat) (o:List Int) (r':Nat),i≤9∧N'=9 - i∧r'<10^(9 - i)∧dgs n=o++dgs (q*10^(9 - i)+r')∧
        st=⟨[(1,.loc 0 0 0),(3,.arr 1 o.length),(4,.loc 3 0 0),(5,.int .u32 r'),(6,.int .i64 i)],
          [⟨true,94,1,0,1,[us32 (limG N)],false⟩,⟨false,5,1,o.length,o.length,nums .u8 (asc o),false⟩,⟨false,191,1,0,0,[],false⟩,⟨true,94,1,0,1,[us32 (limG q)],false⟩]⟩) 9
        ⟨_,rfl,0,out,r,by omega,by omega,by simpa using hrl,by rw [hd];congr 2;simp;omega,by simp [getE,us32]⟩ ?_
      rintro N' s0 ⟨i,o,r',hi,rfl,hr',hdo,rfl⟩
      have exitC:∀V,V=q→dgs n=o++dgs V→dgs n=o++dgs q:=fun V h1 h2=>by rw [←h1];exact h2
      by_cases hi9:i<9
      · have hi9':(i:Int)<9:=by omega
        have hp:10^(9 - i)=10*10^(9 - (i+1)):=by rw [show 9 - i=(9 - (i+1))+1 by omega,Nat.pow_succ,Nat.mul_comm]
        have hpp:0<10^(9 - (i+1)):=Nat.pow_pos (by omega)
        rw [hp] at hr' hdo
        have hV:q*(10*10^(9 - (i+1)))=10*(q*10^(9 - (i+1))):=by rw [←Nat.mul_assoc,←Nat.mul_assoc,Nat.mul_comm q]
        rw [hV] at hdo
        have step:q*10^(9 - (i+1))+r'≠0→(o.length+1≤1000000∧dgs n=(o++[((r' % 10:Nat):Int)])++dgs (q*10^(9 - (i+1))+r'/10)):=by
          intro hne
          have e:dgs (10*(q*10^(9 - (i+1)))+r')=((r' % 10:Nat):Int)::dgs (q*10^(9 - (i+1))+r'/10):=by
            generalize q*10^(9 - (i+1))=G at *
            rw [dgs_pos (by omega)]
            congr 2<;>omega
          rw [e] at hdo
          refine ⟨?_,by rw [hdo];simp⟩
          rw [hdo] at h2
          simp at h2
          omega
        have hr10:r'/10<10^(9 - (i+1)):=by omega
        have hrl2:r'<10000000000:=by
          have:10^(9 - (i+1))≤10^8:=Nat.pow_le_pow_right (by omega) (by omega)
          omega
        have hrl3:r'<1000000000:=by
          have:10^(9 - (i+1))≤10^8:=Nat.pow_le_pow_right (by omega) (by omega)
          omega
        have t1:Int.tmod (r':Int) 10=((r' % 10:Nat):Int):=by rw [Int.tmod_eq_emod_of_nonneg (by omega)];omega
        have t2:IntKind.u32.wrap (Int.tdiv (r':Int) 10)=((r'/10:Nat):Int):=by rw [Int.tdiv_eq_ediv_of_nonneg (by omega),wrap_u32];omega
        have t3:IntKind.u32.wrap (48+((r' % 10:Nat):Int))=48+((r' % 10:Nat):Int):=by rw [wrap_u32];omega
        have t4:IntKind.u8.wrap (48+((r' % 10:Nat):Int))=48+((r' % 10:Nat):Int):=by
          simp only [IntKind.wrap,IntKind.bits,IntKind.signed]
          simp
          omega
        have t5:¬(10:Int)=0:=by omega
        have hi1:IntKind.i64.wrap ((i:Int)+1)=((i+1:Nat):Int):=by rw [wrap_i64 (by omega) (by omega)];omega
        have hasc:nums .u8 (asc (o++[((r' % 10:Nat):Int)]))=nums .u8 (asc o)++[.int .u8 (48+((r' % 10:Nat):Int))]:=by simp [nums,asc]
        by_cases hr0:r'=0
        · subst hr0
          have z1:¬(0:Int)<((0:Nat):Int):=by omega
          by_cases hq0:q=0
          · subst hq0
            simp only [b138_1,k138_0,us32,limG_zero,go_sem,subB1,subT1,FL,hi9',z1]
            refine goR (c154_ok (l:=[])) rfl ?_
            simp only [us32,limG_zero,go_sem,subB1,subT1,FL,List.length_nil,show (((0:Nat):Int))=0 from rfl,show ((0:Int)==0)=true from rfl]
            refine loopQ_go rfl 0 (by omega) ⟨0,o,by omega,rfl,?_,?_⟩
            · rw [hdo];simp
            · rw [limG_zero];rfl
          · have hlq:(((limG q).length:Int)==0)=false:=by
              have:(limG q).length≠0:=by rw [limG_pos hq0];simp
              rw [beq_eq_false_iff_ne];omega
            have hne:q*10^(9 - (i+1))+0≠0:=by
              have:=Nat.mul_pos (Nat.pos_of_ne_zero hq0) hpp
              omega
            obtain ⟨e1,e2⟩:=step hne
            have e3:(o.length+1)*1≤140737488355328:=by omega
            have e4:o.length+1≤140737488355328:=by omega
            simp only [b138_1,us32,go_sem,subB1,subT1,FL,hi9',z1]
            refine goR (c154_ok (l:=limG q)) rfl ?_
            simp only [us32,go_sem,subB1,subT1,FL,hlq,t1,t2,t3,t4,t5,e3,e4,hi1,Nat.mul_one,List.flatten_cons,List.flatten_nil,Option.getD_some]
            refine loopQ_go rfl (9 - (i+1)) (by omega) ⟨i+1,_,_,by omega,rfl,hr10,e2,?_⟩
            rw [hasc,List.length_append]
            rfl
        · have z1:(0:Int)<(r':Int):=by omega
          obtain ⟨e1,e2⟩:=step (by omega)
          have e3:(o.length+1)*1≤140737488355328:=by omega
          have e4:o.length+1≤140737488355328:=by omega
          simp only [b138_1,us32,go_sem,subB1,subT1,FL,hi9',z1,t1,t2,t3,t4,t5,e3,e4,hi1,Nat.mul_one,List.flatten_cons,List.flatten_nil,Option.getD_some]
          refine loopQ_go rfl (9 - (i+1)) (by omega) ⟨i+1,_,_,by omega,rfl,hr10,e2,?_⟩
          rw [hasc,List.length_append]
          rfl
      · have hi9':¬(i:Int)<9:=by omega
        obtain rfl:i=9:=by omega
        simp only [Nat.sub_self,Nat.pow_zero,Nat.mul_one] at hr' hdo
        obtain rfl:r'=0:=by omega
        simp only [b138_1,k138_0,us32,go_sem,subB1,subT1,FL,hi9']
        refine loopQ_go rfl q (by omega) ⟨q,o,by omega,rfl,?_,rfl⟩
        rw [hdo]
        rfl
end
section
variable {E:CallRel}
theorem c146_one {x:Int}:Go.V.Call tab E 146 [.str (bs [x])] [] (.str (bs [x])) []:=by
  refine Go.V.Call.mach i146 c146 rfl rfl rfl rfl ?_
  have h1:¬(1:Int)<(((bs [x]).size:Nat):Int):=by rw [bs_size];simp
  simp only [c146,go_sem]
  refine mLoop (fun N st=>N=0∧st=⟨[(0,.str (bs [x]))],[]⟩) 0 ⟨_,rfl,rfl,rfl⟩ ?_
  rintro N s0 ⟨rfl,rfl⟩
  simp only [b146_0,k146_0,go_sem,h1]
  simp only [i146,OT,reduceIte,Nat.reduceEqDiff]
theorem c146_ok {x:Int} {l:List Int} (hx:49≤x∧x≤57):Go.V.Call tab E 146 [.str (bs (x::l))] [] (.str (bs (x::l))) []:=by
  cases l with
  | nil=>exact c146_one
  | cons y l=>
    refine Go.V.Call.mach i146 c146 rfl rfl rfl rfl ?_
    have h1:(1:Int)<(((bs (x::y::l)).size:Nat):Int):=by rw [bs_size];simp;omega
    have h2:(((UInt8.ofNat x.toNat).toNat:Nat):Int)=x:=by simp;omega
    have h3:(x==48)=false:=by rw [beq_eq_false_iff_ne];omega
    have h4:(bs (x::y::l))[0]?=some (UInt8.ofNat x.toNat):=rfl
    simp only [c146,go_sem]
    refine mLoop (fun N st=>N=0∧st=⟨[(0,.str (bs (x::y::l)))],[]⟩) 0 ⟨_,rfl,rfl,rfl⟩ ?_
    rintro N s0 ⟨rfl,rfl⟩
    simp only [b146_0,k146_0,go_sem,h1,h4,h2,h3]
    simp only [i146,OT,reduceIte,Nat.reduceEqDiff]
theorem c188_ok {l:List Int} {d:Int} (hl:(l.length:Int)≤1000000000) (hr:∀x∈l,0≤x∧x≤9) (hd:1≤d∧d≤9):Go.V.Call tab E 188 [ints (l++[d])] [] (.str (bs (asc (l++[d])).reverse)) []:=by
  refine Go.V.Call.mach i188 c188 rfl rfl rfl rfl ?_
  have hrr:∀x∈l++[d],0≤x∧x≤9:=fun x hx=>by
    rcases List.mem_append.1 hx with hx|hx
    · exact hr x hx
    · simp at hx;omega
  have hL:(l++[d]).length=l.length+1:=by simp
  have htrim:Go.V.Call tab E 146 [.str (bs (asc (l++[d])).reverse)] [] (.str (bs (asc (l++[d])).reverse)) []:=by
    have:(asc (l++[d])).reverse=(48+d)::(asc l).reverse:=by simp [asc]
    rw [this]
    exact c146_ok (by omega)
  generalize hLL:l++[d]=L at *
  have w1:IntKind.i64.wrap ((L.length:Int)+1)=((L.length+1:Nat):Int):=by rw [wrap_i64 (by omega) (by omega)];omega
  have w2:IntKind.i64.wrap ((L.length:Int) - 1)=(L.length:Int) - 1:=wrap_i64 (by omega) (by omega)
  have b1:(0:Int)≤((L.length+1:Nat):Int):=by omega
  have b2:1*(L.length+1)≤140737488355328:=by omega
  have b3:((L.length+1:Nat):Int)≤140737488355328:=by omega
  simp only [c188,go_sem,w1,w2,b1,b2,b3,Int.toNat_natCast]
  refine mLoop (fun N st=>∃(j:Nat) (jj:Int),j≤L.length∧N=j∧jj=(j:Int) - 1∧
    st=⟨[(0,ints L),(3,.arr 0 (L.length - j)),(4,.int .i64 jj)],[⟨false,5,1,L.length - j,L.length - j,nums .u8 (asc (L.drop j)).reverse,false⟩]⟩) L.length
    ⟨_,rfl,L.length,_,by omega,rfl,rfl,by rw [List.drop_length,Nat.sub_self];rfl⟩ ?_
  rintro N s0 ⟨j,jj,hj,rfl,hjj,rfl⟩
  cases N with
  | zero=>
    have hn:¬0≤jj:=by omega
    have hz:((L.length:Int)==0)=false:=by rw [beq_eq_false_iff_ne];omega
    simp only [b188_0,k188_0,go_sem,hn,Nat.sub_zero,List.drop_zero,hz,bytesOf_nums]
    refine goP htrim ?_
    simp only [go_sem]
    simp only [i188,OT,reduceIte,Nat.reduceEqDiff]
  | succ k=>
    obtain rfl:jj=(k:Int):=by omega
    have hlt:k<L.length:=by omega
    have hlt':(k:Int)<(L.length:Int):=by omega
    have hk0:(0:Int)≤(k:Int):=by omega
    have hk1:IntKind.i64.wrap ((k:Int) - 1)=(k:Int) - 1:=wrap_i64 (by omega) (by omega)
    have hsub:=sub_nums (k:=.i64) hlt
    have hx:=hrr (L.getD k 0) (by simp [List.getD,hlt])
    have hdr:=getD_drop hlt
    generalize L.getD k 0=x at *
    have t3:IntKind.i64.wrap (48+x)=48+x:=wrap_i64 (by omega) (by omega)
    have t4:IntKind.u8.wrap (48+x)=48+x:=by
      simp only [IntKind.wrap,IntKind.bits,IntKind.signed]
      simp
      omega
    have e0:L.length - k=L.length - (k+1)+1:=by omega
    have e3:(L.length - (k+1)+1)*1≤140737488355328:=by omega
    have e4:L.length - (k+1)+1≤140737488355328:=by omega
    have hasc:nums .u8 (asc (L.drop k)).reverse=nums .u8 (asc (L.drop (k+1))).reverse++[.int .u8 (48+x)]:=by rw [hdr];simp [nums,asc]
    simp only [b188_0,go_sem,hk0,hlt',Int.toNat_natCast,hsub,t3,t4,e3,e4,hk1,List.flatten_cons,List.flatten_nil,Option.getD_some]
    refine loopQ_go rfl k (by omega) ⟨k,_,by omega,rfl,rfl,?_⟩
    rw [hasc,e0]
    rfl
theorem c170_ok {n:Nat} (hn:n<18446744073709551616):Go.V.Call tab E 170 [.int .u64 n] [] (.str (dec n)) []:=by
  refine Go.V.Call.mach i170 c170 rfl rfl rfl rfl ?_
  by_cases h0:n=0
  · subst h0
    simp only [c170,go_sem,show ((((0:Nat):Int))==0)=true from rfl]
    simp only [i170,OT,reduceIte,Nat.reduceEqDiff,dec]
  · have h0':((n:Int)==0)=false:=by rw [beq_eq_false_iff_ne];omega
    simp only [c170,go_sem,h0']
    refine mLoop (fun N st=>∃(i m:Nat) (o:List Int),i≤20∧N=20 - i∧o.length=i∧m<10^(20 - i)∧m<18446744073709551616∧dgs n=o++dgs m∧
      st=⟨[(0,.int .u64 m),(3,.arr 0 i),(4,.int .i64 i)],[⟨false,3,1,i,i,nums .i64 o,false⟩]⟩) 20 ⟨_,rfl,0,n,[],by omega,by omega,rfl,by omega,by omega,by simp,by simp [getE,nums]⟩ ?_
    rintro N s0 ⟨i,m,o,hi,rfl,hol,hm,hm64,hd,rfl⟩
    by_cases hm0:m=0
    · subst hm0
      rw [dgs_zero,List.append_nil] at hd
      obtain ⟨l,d,e1,e2,e3⟩:=dgs_last h0
      have hr:=dgs_range (n:=n)
      rw [hd] at e1 hr
      have hw:=c188_ok (E:=E) (l:=l) (d:=d) (by
        have:o.length=l.length+1:=by rw [e1];simp
        omega) (fun x hx=>hr x (by rw [e1];simp [hx])) ⟨e2,e3⟩
      rw [←e1,ints,hol] at hw
      have hdec:dec n=bs (asc o).reverse:=by rw [dec,if_neg h0,hd]
      rw [←hdec] at hw
      have z:¬(0:Int)<((0:Nat):Int):=by omega
      by_cases hi20:i<20
      · have hi':(i:Int)<20:=by omega
        simp only [b170_0,k170_0,go_sem,hi',z]
        refine goR hw rfl ?_
        simp only [go_sem]
        simp only [i170,OT,reduceIte,Nat.reduceEqDiff]
      · have hi':¬(i:Int)<20:=by omega
        simp only [b170_0,k170_0,go_sem,hi',z]
        refine goR hw rfl ?_
        simp only [go_sem]
        simp only [i170,OT,reduceIte,Nat.reduceEqDiff]
    · have hi20:i<20:=by
        rcases Nat.lt_or_ge i 20 with h|h
        · exact h
        · have:i=20:=by omega
          subst this
          simp at hm
          omega
      have hi':(i:Int)<20:=by omega
      have hp:10^(20 - i)=10*10^(20 - (i+1)):=by rw [show 20 - i=(20 - (i+1))+1 by omega,Nat.pow_succ,Nat.mul_comm]
      rw [hp] at hm
      have z:(0:Int)<(m:Int):=by omega
      have t0:¬(10:Int)=0:=by omega
      have t1:Int.tmod (m:Int) 10=((m % 10:Nat):Int):=by rw [Int.tmod_eq_emod_of_nonneg (by omega)];omega
      have t2:IntKind.u64.wrap (Int.tdiv (m:Int) 10)=((m/10:Nat):Int):=by rw [Int.tdiv_eq_ediv_of_nonneg (by omega),wrap_u64 (by omega) (by omega)];omega
      have t3:IntKind.i64.wrap ((m % 10:Nat):Int)=((m % 10:Nat):Int):=wrap_i64 (by omega) (by omega)
      have hi1:IntKind.i64.wrap ((i:Int)+1)=((i+1:Nat):Int):=by rw [wrap_i64 (by omega) (by omega)];omega
      have e3:(i+1)*8≤140737488355328:=by omega
      have e4:i+1≤140737488355328:=by omega
      simp only [b170_0,go_sem,hi',z,t0,t1,t2,t3,hi1,e3,e4,List.flatten_cons,List.flatten_nil,Option.getD_some]
      refine loopQ_go rfl (20 - (i+1)) (by omega) ⟨i+1,m/10,o++[((m % 10:Nat):Int)],by omega,rfl,by simp [hol],by omega,by omega,?_,?_⟩
      · rw [hd,dgs_pos hm0];simp
      · rw [nums_app];rfl
theorem c139_ok {z:Int} (hz:In64 z):Go.V.Call tab E 139 [.int .i64 z] [] (.agg [.bool (decide (z<0)),.str (dec z.natAbs)]) []:=by
  obtain ⟨hz1,hz2⟩:=hz
  refine Go.V.Call.mach i139 c139 rfl rfl rfl rfl ?_
  by_cases h0:z<0
  · have e1:IntKind.i64.wrap (z+1)=z+1:=wrap_i64 (by omega) (by omega)
    have e2:IntKind.i64.wrap (0 - (z+1)) = -(z+1):=by rw [wrap_i64 (by omega) (by omega)];omega
    have e3:IntKind.u64.wrap (-(z+1)) = -(z+1):=wrap_u64 (by omega) (by omega)
    have e4:IntKind.u64.wrap (-(z+1)+1)=(z.natAbs:Int):=by rw [wrap_u64 (by omega) (by omega)];omega
    simp only [c139,go_sem,h0,e1,e2,e3,e4]
    refine goP (c170_ok (by omega)) ?_
    simp only [go_sem,FL]
    simp only [i139,OT,reduceIte,Nat.reduceEqDiff,sub,FL,List.length_cons,List.length_nil,Nat.le_refl]
  · have e1:IntKind.u64.wrap z=(z.natAbs:Int):=by rw [wrap_u64 (by omega) (by omega)];omega
    simp only [c139,go_sem,h0,e1]
    refine goP (c170_ok (by omega)) ?_
    simp only [go_sem,FL]
    simp only [i139,OT,reduceIte,Nat.reduceEqDiff,sub,FL,List.length_cons,List.length_nil,Nat.le_refl]
def numC (z:Int):List AV:=[.bool (decide (z<0)),.str (dec z.natAbs),.str ⟨#[49]⟩]
theorem c88_ok {z:Int} (hz:In64 z):Go.V.Call tab E 88 [.int .i64 z] [] (.agg (numC z)) []:=by
  refine Go.V.Call.mach i88 c88 rfl rfl rfl rfl ?_
  simp only [c88,go_sem]
  refine goP (c139_ok hz) ?_
  simp only [go_sem,sub,FL]
  simp only [i88,OT,reduceIte,Nat.reduceEqDiff,sub,FL,List.length_cons,List.length_nil,Nat.le_refl,numC]
end
def runes (t:List Int):AV:=.sl t.length 1 (nums .i32 t)
def arrG (s:List Int) (ch:Bool) (t l:List Int):List AV:=[ints s,.bool ch,runes t,.sl l.length 3 (ratsC l),.bool true]
def numsC (l:List Int):List AV:=l.flatMap numC
def plG (s:List Int) (ch:Bool) (t l:List Int):List AV:=[ints s,.bool ch,runes t,.sl l.length 3 (numsC l)]
def noA:List AV:=[.sl 0 1 [],.bool false,.sl 0 1 [],.sl 0 3 [],.bool false]
theorem numsC_snoc {l:List Int} {z:Int}:numsC (l++[z])=numsC l++numC z:=by simp [numsC]
theorem beqBA {a:ByteArray}:(a==a)=true:=by
  obtain ⟨⟨l⟩⟩:=a
  show ((⟨l⟩:Array UInt8)==⟨l⟩)=true
  simp
section
variable {E:CallRel}
end
theorem c112_ok {t:List Int} (ht:(t.length:Int)≤1000000000000):Go.V.Call tab E 112 [runes t] [] (.arr 0 0) [⟨false,21,1,0,t.length,nums .i32 t,false⟩]:=by
  refine ⟨0,?_⟩
  have h1:t.length*4≤140737488355328:=by omega
  have h2:t.length≤140737488355328:=by omega
  simp only [CallN,E,ext,cloneOf,runes,h1,h2,and_self,if_true]
section
variable {E:CallRel}
theorem c55_no:Go.V.Call tab E 55 [.agg noA] [] (.int .i64 0) []:=by
  refine Go.V.Call.mach i55 c55 rfl rfl rfl rfl ?_
  have hw:IntKind.i64.wrap (0+0)=0:=by decide
  simp only [c55,noA,go_sem,sub,FL,hw]
  simp only [i55,OT,reduceIte,Nat.reduceEqDiff]
end
theorem subP4 {a b c d:AV}:sub true 4 [a,b,c,d] 0=some (.agg [a,b,c,d]):=rfl
theorem subP3 {a b c d:AV}:sub false 1 [a,b,c,d] (0+3)=some d:=rfl
theorem subP3' {a b c d:AV}:sub false 1 [a,b,c,d] 3=some d:=rfl
def fits (s:List Int) (n:Nat):Bool:=decide (count s=some (n:Int))
theorem c63_ok {s t:List Int} (hs:∀d∈s,In64 d) (hsl:(s.length:Int)≤1000000000000) (ht:(t.length:Int)≤1000000000000):Go.V.Call tab E 63 [ints s,runes t] [] (.tup [if fits s t.length then .agg (arrG s true t []) else .agg noA,.bool (fits s t.length)]) []:=by
  refine Go.V.Call.mach i63 c63 rfl rfl rfl rfl ?_
  simp only [c63,runes,go_sem,FL]
  refine goP (c90_ok hs (by omega)) ?_
  cases hc:count s with
  | none=>
    have hf:fits s t.length=false:=by simp [fits,hc]
    simp only [optP,go_sem,FL]
    simp only [i63,OT,reduceIte,Nat.reduceEqDiff,subA5,hf,noA,Bool.false_eq_true]
  | some m=>
    by_cases hm:m=(t.length:Int)
    · subst hm
      have hf:fits s t.length=true:=by simp [fits,hc]
      simp only [optP,go_sem,FL,bne_self_eq_false]
      refine goO (c110_ok hsl) rfl rfl ?_
      simp only [go_sem,FL]
      refine goO (c112_ok ht) rfl rfl ?_
      simp only [go_sem,FL]
      simp only [i63,OT,reduceIte,Nat.reduceEqDiff,subA5,hf,arrG,runes]
      rfl
    · have hf:fits s t.length=false:=by simp [fits,hc,hm]
      have hm':(m != (t.length:Int))=true:=by simpa using hm
      simp only [optP,go_sem,FL,hm']
      simp only [i63,OT,reduceIte,Nat.reduceEqDiff,subA5,hf,noA,Bool.false_eq_true]
section
variable {E:CallRel}
theorem c32_ok {l:List Int} (hl:(l.length:Int)≤1000000000000) (hz:∀z∈l,In64 z):Go.V.Call tab E 32 [ints l] [] (.agg (plG [(l.length:Int)] false [] l)) []:=by
  refine Go.V.Call.mach i32 c32 rfl rfl rfl rfl ?_
  simp only [c32,go_sem,FL,List.flatten_cons,List.flatten_nil,Option.getD_some]
  refine mLoop (fun N st=>∃(i:Nat),i≤l.length∧N=l.length - i∧
    st=⟨[(0,ints l),(2,.loc 3 0 0),(3,.loc 8 0 0),(4,.int .i64 i)],
      [⟨false,3,1,0,0,[],false⟩,⟨false,21,1,0,0,[],false⟩,⟨false,72,3,0,0,[],false⟩,⟨true,26,4,0,1,[.arr 0 0,.bool false,.arr 1 0,.arr 2 0],false⟩,
       ⟨false,3,1,0,1,[.int .i64 l.length],false⟩,⟨false,3,1,0,0,[],false⟩,⟨false,21,1,0,0,[],false⟩,⟨false,72,3,0,0,[],false⟩,⟨true,26,4,0,1,[.arr 4 0,.bool false,.arr 9 0,.arr 10 i],false⟩,
       ⟨false,21,1,0,0,[],false⟩,⟨false,72,3,i,i,numsC (l.take i),false⟩]⟩) l.length
    ⟨_,rfl,0,by omega,by omega,by simp [getE,ints,numsC]⟩ ?_
  rintro N s0 ⟨i,hi,rfl,rfl⟩
  by_cases hlt:i<l.length
  · have hlt':(i:Int)<(l.length:Int):=by omega
    have hi0:(0:Int)≤(i:Int):=by omega
    have hi1:IntKind.i64.wrap ((i:Int)+1)=((i+1:Nat):Int):=by rw [wrap_i64 (by omega) (by omega)];omega
    have hsub:=sub_nums (k:=.i64) hlt
    have hzi:In64 (l.getD i 0):=hz _ (by simp [List.getD,hlt])
    have htk:=take_snoc hlt
    have e1:(i+1)*40≤140737488355328:=by omega
    have e2:i+1≤140737488355328:=by omega
    simp only [b32_0,go_sem,hlt',hi0,Int.toNat_natCast,hsub,subP3,subP3']
    refine goP (c88_ok hzi) ?_
    simp only [go_sem,FL,hi1,e1,e2,numC,List.flatten_cons,List.flatten_nil,Option.getD_some]
    refine loopQ_go rfl (l.length - (i+1)) (by omega) ⟨i+1,by omega,rfl,?_⟩
    rw [htk,numsC_snoc]
    rfl
  · have hlt':¬(i:Int)<(l.length:Int):=by omega
    obtain rfl:i=l.length:=by omega
    simp only [b32_0,k32_0,go_sem,hlt',List.take_length,subP4,FL]
    simp only [i32,OT,reduceIte,Nat.reduceEqDiff,plG,runes,subP4,nums,List.map_cons,List.map_nil,List.length_cons,List.length_nil]
end
section
variable {E:CallRel}
theorem c116_ok {s t:List Int} (hs:(s.length:Int)≤1000000000000000) (ht:(t.length:Int)≤1000000000000000):Go.V.Call tab E 116 [ints s,ints t] [] (.bool (decide (s=t))) []:=by
  refine Go.V.Call.mach i116 c116 rfl rfl rfl rfl ?_
  by_cases hl:s.length=t.length
  · have hl':(s.length:Int)=(t.length:Int):=by omega
    simp only [c116,go_sem,hl',bne_self_eq_false]
    refine mLoop (fun N st=>∃(k:Nat),k≤s.length∧N=s.length - k∧s.take k=t.take k∧
      st=⟨[(0,ints s),(1,ints t),(12,.int .i64 t.length),(13,.int .i64 k)],[]⟩) s.length ⟨_,rfl,0,by omega,by omega,by simp,rfl⟩ ?_
    rintro N s0 ⟨k,hk,rfl,hp,rfl⟩
    by_cases hlt:k<s.length
    · have hlt':(k:Int)<(t.length:Int):=by omega
      have hlt2:k<t.length:=by omega
      have hk0:(0:Int)≤(k:Int):=by omega
      have hk1:IntKind.i64.wrap ((k:Int)+1)=((k+1:Nat):Int):=by rw [wrap_i64 (by omega) (by omega)];omega
      have hsub:=sub_nums (k:=.i64) hlt
      have hsub2:=sub_nums (k:=.i64) hlt2
      by_cases he:s.getD k 0=t.getD k 0
      · simp only [b116_0,go_sem,hl',hlt',hk0,Int.toNat_natCast,hsub,hsub2,he,bne_self_eq_false,hk1]
        refine loopQ_go (rfl) (s.length - (k+1)) (by omega) ⟨k+1,by omega,rfl,?_,rfl⟩
        rw [List.take_add_one,List.take_add_one,hp]
        congr 1
        have h1:s[k]?=some (s.getD k 0):=by simp [List.getD,hlt]
        have h2:t[k]?=some (t.getD k 0):=by simp [List.getD,hlt2]
        rw [h1,h2,he]
      · have he':(s.getD k 0 != t.getD k 0)=true:=by simpa using he
        have hne:s≠t:=fun h=>he (by rw [h])
        simp only [b116_0,go_sem,hl',hlt',hk0,Int.toNat_natCast,hsub,hsub2,he']
        simp only [i116,OT,reduceIte,Nat.reduceEqDiff,hne,decide_false]
    · have hlt':¬(k:Int)<(t.length:Int):=by omega
      have heq:s=t:=by
        rw [List.take_of_length_le (by omega),List.take_of_length_le (by omega)] at hp
        exact hp
      simp only [b116_0,k116_0,go_sem,hl',hlt']
      simp only [i116,OT,reduceIte,Nat.reduceEqDiff,heq,decide_true]
  · have hl':((s.length:Int) != (t.length:Int))=true:=by simp;omega
    have hne:s≠t:=fun h=>hl (by rw [h])
    simp only [c116,go_sem,hl']
    simp only [i116,OT,reduceIte,Nat.reduceEqDiff,hne,decide_false]
theorem c57_ok {s t:List Int} (hs:(s.length:Int)≤1000000000000000) (ht:(t.length:Int)≤1000000000000000):Go.V.Call tab E 57 [ints s,ints t] [] (.bool (decide (s=t))) []:=by
  refine Go.V.Call.mach i57 c57 rfl rfl rfl rfl ?_
  simp only [c57,go_sem,snap]
  refine goP (c116_ok hs ht) ?_
  simp only [go_sem]
  simp only [i57,OT,reduceIte,Nat.reduceEqDiff]
end
theorem nums_append {k:IntKind} {a b:List Int}:nums k (a++b)=nums k a++nums k b:=by simp [nums]
def lensum (L:List (List Int)):Nat:=L.flatten.length
theorem lensum_snoc {L:List (List Int)} {p:List Int}:lensum (L++[p])=lensum L+p.length:=by simp [lensum]
theorem lensum_take {L:List (List Int)} {k:Nat}:lensum (L.take k)≤lensum L:=by
  have:L=L.take k++L.drop k:=(List.take_append_drop k L).symm
  conv=>rhs;rw [this]
  simp only [lensum,List.flatten_append,List.length_append]
  omega
theorem take_snocL {L:List (List Int)} {m:Nat} (h:m<L.length):L.take (m+1)=L.take m++[L.getD m []]:=by
  rw [List.take_add_one]
  congr 1
  simp [List.getD,h]
theorem c152_ok {n:Nat} (hn:(n:Int)≤10000000000000):Go.V.Call tab E 152 [.nilsl 3 1,.int .i64 n] [] (.arr 0 0) [⟨false,3,1,0,0,[],false⟩]:=by
  refine ⟨0,?_⟩
  have h1:(0:Int)≤(n:Int)∧(n:Int)*8≤140737488355328:=by omega
  simp only [CallN,E,ext,growOf,h1,and_self,if_true]
theorem c121_ok {L:List (List Int)} (hL:(L.length:Int)≤1000000000000) (hs:lensum L≤1000000000000):Go.V.Call tab E 121 [rows L] [] (ints L.flatten) []:=by
  refine Go.V.Call.mach i121 c121 rfl rfl rfl rfl ?_
  simp only [c121,rows,go_sem]
  refine mLoop (fun N st=>∃(i:Nat),i≤L.length∧N=L.length - i∧
    st=⟨[(0,rows L),(3,.int .i64 (lensum (L.take i):Nat)),(9,rows L),(10,.int .i64 L.length),(11,.int .i64 i)],[⟨false,3,1,0,0,[],false⟩]⟩) L.length ⟨_,rfl,0,by omega,by omega,by simp [getE,rows,lensum]⟩ ?_
  rintro N s0 ⟨i,hi,rfl,rfl⟩
  by_cases hlt:i<L.length
  · have hlt':(i:Int)<(L.length:Int):=by omega
    have hi0:(0:Int)≤(i:Int):=by omega
    have hi1:IntKind.i64.wrap ((i:Int)+1)=((i+1:Nat):Int):=by rw [wrap_i64 (by omega) (by omega)];omega
    have hsub:=sub_rows hlt
    have htk:=take_snocL hlt
    have hle:=lensum_take (L:=L) (k:=i+1)
    have hsn:lensum (L.take (i+1))=lensum (L.take i)+(L.getD i []).length:=by rw [htk,lensum_snoc]
    have hw:IntKind.i64.wrap ((lensum (L.take i):Int)+((L.getD i []).length:Int))=(lensum (L.take (i+1)):Int):=by rw [wrap_i64 (by omega) (by omega)];omega
    have hneg:¬(lensum (L.take (i+1)):Int)<0:=by omega
    simp only [b121_0,rows,go_sem,hlt',hi0,Int.toNat_natCast,hsub,hw,hneg,hi1]
    exact loopQ_go rfl (L.length - (i+1)) (by omega) ⟨i+1,by omega,rfl,rfl⟩
  · have hlt':¬(i:Int)<(L.length:Int):=by omega
    obtain rfl:i=L.length:=by omega
    simp only [b121_0,k121_1,rows,go_sem,hlt',List.take_length]
    refine goG rfl (c152_ok (n:=lensum L) (by omega)) rfl rfl ?_
    simp only [go_sem,FL,shiftO]
    refine mLoop (fun N st=>∃(j:Nat),j≤L.length∧N=L.length - j∧
      st=⟨[(6,.arr 1 j),(25,rows L),(26,.int .i64 L.length),(27,.int .i64 j)],[⟨false,3,1,0,0,[],false⟩,⟨false,3,1,j,lensum (L.take j),nums .i64 (L.take j).flatten,false⟩]⟩) L.length ⟨_,rfl,0,by omega,by omega,by simp [getE,rows,lensum,nums]⟩ ?_
    rintro N s0 ⟨j,hj,rfl,rfl⟩
    by_cases hjl:j<L.length
    · have hjl':(j:Int)<(L.length:Int):=by omega
      have hj0:(0:Int)≤(j:Int):=by omega
      have hj1:IntKind.i64.wrap ((j:Int)+1)=((j+1:Nat):Int):=by rw [wrap_i64 (by omega) (by omega)];omega
      have hsub:=sub_rows hjl
      have htk:=take_snocL hjl
      have hle:=lensum_take (L:=L) (k:=j+1)
      have hsn:lensum (L.take (j+1))=lensum (L.take j)+(L.getD j []).length:=by rw [htk,lensum_snoc]
      have e1:(lensum (L.take j)+(L.getD j []).length)*8≤140737488355328:=by omega
      have e2:lensum (L.take j)+(L.getD j []).length≤140737488355328:=by omega
      simp only [b121_1,rows,go_sem,hjl',hj0,Int.toNat_natCast,hsub,e1,e2,hj1]
      refine loopQ_go rfl (L.length - (j+1)) (by omega) ⟨j+1,by omega,rfl,?_⟩
      rw [hsn,htk,List.flatten_append,List.flatten_cons,List.flatten_nil,List.append_nil,nums_append]
      rfl
    · have hjl':¬(j:Int)<(L.length:Int):=by omega
      obtain rfl:j=L.length:=by omega
      simp only [b121_1,k121_0,rows,go_sem,hjl',List.take_length]
      simp only [i121,OT,reduceIte,Nat.reduceEqDiff]
      rfl
theorem c69_ok {L:List (List Int)} (hL:(L.length:Int)≤1000000000000) (hs:lensum L≤1000000000000):Go.V.Call tab E 69 [rows L] [] (ints L.flatten) []:=by
  refine Go.V.Call.mach i69 c69 rfl rfl rfl rfl ?_
  simp only [c69,rows,go_sem]
  refine goP (c121_ok hL hs) ?_
  simp only [go_sem]
  simp only [i69,OT,reduceIte,Nat.reduceEqDiff]
section
variable {E:CallRel}
end
def wi (s:List Int) (a n:Int):List Int:=if 0≤a∧a<s.length then s.take a.toNat++n::s.drop (a.toNat+1) else s
def wo (s:List Int) (a:Int):List Int:=if 0≤a∧a<s.length then s.take a.toNat++s.drop (a.toNat+1) else s
section
variable {E:CallRel}
end
def mprd:List Int→Int
  | []=>1
  | d::ds=>max 1 d*mprd ds
theorem mprd_pos:∀{s:List Int},1≤mprd s
  | []=>Int.le_refl _
  | d::ds=>by
    have h1:=mprd_pos (s:=ds)
    have h2:1≤max 1 d:=by rw [max1];split<;>omega
    have:=Int.mul_le_mul_of_nonneg_left (a:=1) (b:=mprd ds) (c:=max 1 d) h1 (by omega)
    rw [mprd]
    omega
theorem mprd_append:∀{s t:List Int},mprd (s++t)=mprd s*mprd t
  | [],t=>by rw [List.nil_append,mprd,Int.one_mul]
  | d::ds,t=>by rw [List.cons_append,mprd,mprd,mprd_append,Int.mul_assoc]
theorem cnt_iff:∀{s:List Int} {most n:Int},1≤most→most≤4096→((∀d∈s,0≤d)∧most*mprd s≤4096→cnt most n s=some (n*prd s))∧(cnt most n s≠none→(∀d∈s,0≤d)∧most*mprd s≤4096)
  | [],most,n,h1,h2=>⟨fun _=>by rw [cnt,prd,Int.mul_one],fun _=>⟨fun d hd=>by simp at hd,by rw [mprd,Int.mul_one];exact h2⟩⟩
  | d::ds,most,n,h1,h2=>by
    have hmx:1≤max 1 d:=by rw [max1];split<;>omega
    have hmm:1≤most*max 1 d:=by
      have:=Int.mul_le_mul_of_nonneg_left (a:=1) (b:=max 1 d) (c:=most) hmx (by omega)
      omega
    have hp:=mprd_pos (s:=ds)
    rw [cnt,mprd,prd]
    refine ⟨fun ⟨h3,h4⟩=>?_,fun h=>?_⟩
    · have hd:=h3 d (by simp)
      have h5:most*max 1 d≤4096:=by
        have:=Int.mul_le_mul_of_nonneg_left (a:=1) (b:=mprd ds) (c:=most*max 1 d) hp (by omega)
        rw [←Int.mul_assoc] at h4
        omega
      rw [if_neg (by omega),(cnt_iff hmm h5).1 ⟨fun x hx=>h3 x (by simp [hx]),by rw [Int.mul_assoc];exact h4⟩,Int.mul_assoc]
    · split at h
      · exact absurd rfl h
      · rename_i hno
        obtain ⟨h3,h4⟩:=(cnt_iff hmm (by omega)).2 h
        refine ⟨fun x hx=>?_,by rw [←Int.mul_assoc];exact h4⟩
        rcases List.mem_cons.1 hx with rfl|hx
        · omega
        · exact h3 x hx
theorem count_iff {s:List Int}:(s.length≤8∧(∀d∈s,0≤d)∧mprd s≤4096→count s=some (prd s))∧(count s≠none→s.length≤8∧(∀d∈s,0≤d)∧mprd s≤4096):=by
  unfold count
  obtain ⟨h1,h2⟩:=cnt_iff (s:=s) (most:=1) (n:=1) (by omega) (by omega)
  refine ⟨fun ⟨h3,h4,h5⟩=>?_,fun h=>?_⟩
  · rw [if_neg (by omega),h1 ⟨h4,by rw [Int.one_mul];exact h5⟩,Int.one_mul]
  · split at h
    · exact absurd rfl h
    · obtain ⟨h3,h4⟩:=h2 h
      exact ⟨by omega,h3,by rwa [Int.one_mul] at h4⟩
theorem count_parts {s:List Int} (h:count s≠none) (k:Nat):count (s.take k)=some (prd (s.take k))∧count (s.drop k)=some (prd (s.drop k))∧0≤prd (s.take k)∧prd (s.take k)≤4096∧0≤prd (s.drop k)∧prd (s.drop k)≤4096:=by
  obtain ⟨h1,h2,h3⟩:=count_iff.2 h
  have hs:s=s.take k++s.drop k:=(List.take_append_drop k s).symm
  have hm:=mprd_append (s:=s.take k) (t:=s.drop k)
  rw [←hs] at hm
  have p1:=mprd_pos (s:=s.take k)
  have p2:=mprd_pos (s:=s.drop k)
  have q1:mprd (s.take k)≤mprd s:=by
    have:=Int.mul_le_mul_of_nonneg_left (a:=1) (b:=mprd (s.drop k)) (c:=mprd (s.take k)) p2 (by omega)
    omega
  have q2:mprd (s.drop k)≤mprd s:=by
    have:=Int.mul_le_mul_of_nonneg_right (a:=1) (b:=mprd (s.take k)) (c:=mprd (s.drop k)) p1 (by omega)
    omega
  have c1:=count_iff.1 ⟨by simp;omega,fun d hd=>h2 d (List.mem_of_mem_take hd),(by omega:mprd (s.take k)≤4096)⟩
  have c2:=count_iff.1 ⟨by simp;omega,fun d hd=>h2 d (List.mem_of_mem_drop hd),(by omega:mprd (s.drop k)≤4096)⟩
  obtain ⟨_,_,b1⟩:=count_bound c1
  obtain ⟨_,_,b2⟩:=count_bound c2
  have b1:=b1 (s.take k).length
  have b2:=b2 (s.drop k).length
  rw [List.take_length] at b1 b2
  exact ⟨c1,c2,b1.1,b1.2,b2.1,b2.2⟩
def spl (s:List Int) (a:Int):AV:=
  if count s=none∨a<0∨(s.length:Int)≤a then .tup [.int .i64 0,.int .i64 0,.int .i64 0,.bool false]
  else .tup [.int .i64 (prd (s.take a.toNat)),.int .i64 (s.getD a.toNat 0),.int .i64 (prd (s.drop (a.toNat+1))),.bool true]
section
variable {E:CallRel}
end
def dmin (k:Int):List Int→List Int→Int→Int
  | a::l,b::s,d=>dmin k l s (if a=k then min d b else d)
  | _,_,d=>d
def shpT (l s:List Int) (m:Nat):List Int:=(List.range m).map fun k:Nat=>dmin k l s 4096
def pN (g:Nat→Int):Nat→Int
  | 0=>1
  | m+1=>pN g m*g m
def gT (l s:List Int) (k:Nat):Int:=if (k:Int)∈l then max 1 (dmin k l s 4096) else 1
def strP:List Int→List Int
  | []=>[]
  | _::ds=>prd ds::strP ds
theorem strP_len:∀{s:List Int},(strP s).length=s.length
  | []=>rfl
  | d::ds=>by simp [strP,strP_len]
theorem str_P:∀{s:List Int},(∀k:Nat,0≤prd (s.drop k)∧prd (s.drop k)≤4096)→str s=strP s
  | [],_=>rfl
  | d::ds,h=>by
    have h1:=h 1
    rw [List.drop_succ_cons,List.drop_zero] at h1
    rw [str,strP,prodR_wrap,wrap_i64 (by omega) (by omega),str_P fun k=>h (k+1)]
theorem strP_get:∀{s:List Int} {i:Nat},i<s.length→(strP s).getD i 0=prd (s.drop (i+1))
  | d::ds,0,_=>rfl
  | d::ds,i+1,h=>by
    rw [strP,List.getD_cons_succ,List.drop_succ_cons]
    exact strP_get (by simpa using h)
  | [],i,h=>by simp at h
def inR:List Int→List Int→Prop
  | [],[]=>True
  | d::ds,x::xs=>(0≤x∧x<d)∧inR ds xs
  | _,_=>False
def dI:List Int→List Int→Int
  | d::ds,x::xs=>x*prd ds+dI ds xs
  | _,_=>0
theorem pl_dI:∀{s x:List Int} {n:Int},inR s x→pl n s x=some (n*prd s+dI s x)
  | [],[],n,_=>by simp [pl,prd,dI]
  | d::ds,x::xs,n,h=>by
    obtain ⟨h1,h3⟩:=h
    rw [pl,if_neg (by omega),pl_dI h3,dI,prd,Int.add_mul,Int.mul_assoc,Int.add_assoc]
def dotT:List Int→List Int→List Int→Int
  | a::l,w::st,x=>w*x.getD a.toNat 0+dotT l st x
  | _,_,_=>0
def turnK (l s:List Int) (m n:Nat):List Int:=(List.range n).map fun j:Nat=>dotT l (strP s) (ix (shpT l s m) j).1
def revl (m:Nat):List Int:=(List.range m).map fun i:Nat=>(m:Int) - 1 - i
theorem dI_snoc:∀{s u:List Int} {n:Int},u.length<s.length→dI s (u++[n])=dI s u+n*(strP s).getD u.length 0
  | d::ds,[],n,_=>by
    show n*prd ds+dI ds []=0+n*prd ds
    have:dI ds []=0:=by cases ds<;>rfl
    omega
  | d::ds,x::u,n,h=>by
    have ih:=dI_snoc (s:=ds) (u:=u) (n:=n) (by simpa using h)
    rw [List.cons_append,dI,ih,dI,strP,List.length_cons,List.getD_cons_succ]
    omega
  | [],u,n,h=>by simp at h
theorem inR_at:∀{s u:List Int},u.length=s.length→(∀j,j<s.length→0≤u.getD j 0∧u.getD j 0<s.getD j 0)→inR s u
  | [],[],_,_=>trivial
  | d::ds,x::xs,hl,h=>by
    refine ⟨?_,inR_at (by simpa using hl) fun j hj=>?_⟩
    · have:=h 0 (by simp)
      simpa using this
    · have:=h (j+1) (by simp;omega)
      simpa using this
  | [],_::_,hl,_=>by simp at hl
  | _::_,[],hl,_=>by simp at hl
def crsN (st:List Int) (V:List (List Int)):Nat→List Int
  | 0=>[0]
  | i+1=>(crsN st V i).flatMap fun f=>(V.getD i []).map fun n=>f+n*st.getD i 0
def tupN (W:List (List Int)) (o:Int):Nat→List (List Int)
  | 0=>[[]]
  | i+1=>(tupN W o i).flatMap fun u=>(W.getD i []).map fun n=>u++[n - o]
def lesO (o:Int) (W:List (List Int)):List (List Int):=W.map fun w=>w.map (· - o)
theorem lesO_get {o:Int} {W:List (List Int)} {i:Nat}:(lesO o W).getD i []=(W.getD i []).map (· - o):=by
  unfold lesO
  simp only [List.getD,List.getElem?_map]
  cases W[i]?<;>rfl
theorem lesO_len {o:Int} {W:List (List Int)}:(lesO o W).length=W.length:=by simp [lesO]
theorem tupN_len {W:List (List Int)} {o:Int}:∀{i:Nat},∀u∈tupN W o i,u.length=i
  | 0,u,h=>by
    obtain rfl:=List.mem_singleton.1 h
    rfl
  | i+1,u,h=>by
    obtain ⟨v,hv,h⟩:=List.mem_flatMap.1 h
    obtain ⟨n,_,rfl⟩:=List.mem_map.1 h
    rw [List.length_append,tupN_len v hv];rfl
theorem tupN_get {W:List (List Int)} {o:Int}:∀{i:Nat},∀u∈tupN W o i,∀j,j<i→u.getD j 0∈(lesO o W).getD j []
  | 0,u,h,j,hj=>by omega
  | i+1,u,h,j,hj=>by
    obtain ⟨v,hv,h⟩:=List.mem_flatMap.1 h
    obtain ⟨n,hn,rfl⟩:=List.mem_map.1 h
    have hl:=tupN_len v hv
    by_cases hji:j<i
    · have:=tupN_get v hv j hji
      simp only [List.getD] at this ⊢
      rw [List.getElem?_append_left (by omega)]
      exact this
    · obtain rfl:j=i:=by omega
      rw [lesO_get]
      simp only [List.getD]
      rw [List.getElem?_append_right (by omega),hl,Nat.sub_self]
      exact List.mem_map.2 ⟨n,hn,rfl⟩
theorem tup_crs {s:List Int} {W:List (List Int)} {o:Int}:∀{i:Nat},i≤s.length→(tupN W o i).map (dI s)=crsN (strP s) (lesO o W) i
  | 0,_=>by
    show [dI s []]=[0]
    cases s<;>rfl
  | i+1,h=>by
    have ih:=tup_crs (s:=s) (W:=W) (o:=o) (i:=i) (by omega)
    have hl:=tupN_len (W:=W) (o:=o) (i:=i)
    rw [tupN,crsN,←ih,lesO_get]
    generalize tupN W o i=T at *
    clear ih
    induction T with
    | nil=>rfl
    | cons u T ihT=>
      rw [List.map_cons,List.flatMap_cons,List.flatMap_cons,List.map_append,ihT fun v hv=>hl v (by simp [hv])]
      congr 1
      rw [List.map_map,List.map_map]
      refine List.map_congr_left fun n _=>?_
      have:=hl u (by simp)
      show dI s (u++[n - o])=dI s u+(n - o)*(strP s).getD i 0
      rw [dI_snoc (by omega),this]
theorem crsN_len {st:List Int} {V:List (List Int)}:∀{i:Nat},(crsN st V (i+1)).length=(crsN st V i).length*(V.getD i []).length
  | i=>by
    rw [crsN]
    generalize crsN st V i=l
    induction l with
    | nil=>simp
    | cons f l ih=>rw [List.flatMap_cons,List.length_append,ih,List.length_map,List.length_cons,Nat.add_mul];omega
def pmL (V:List (List Int)):Nat→Nat
  | 0=>1
  | i+1=>pmL V i*max 1 (V.getD i []).length
theorem crsN_le {st:List Int} {V:List (List Int)}:∀{i:Nat},(crsN st V i).length≤pmL V i
  | 0=>Nat.le_refl _
  | i+1=>by
    rw [crsN_len,pmL]
    exact Nat.mul_le_mul crsN_le (Nat.le_max_right _ _)
theorem pmL_mono {V:List (List Int)}:∀{i j:Nat},i≤j→pmL V i≤pmL V j:=by
  intro i j h
  induction h with
  | refl=>exact Nat.le_refl _
  | step _ ih=>exact Nat.le_trans ih (by rw [pmL];exact Nat.le_mul_of_pos_right _ (by omega))
theorem crsN_bnd {st:List Int} {V:List (List Int)} {B:Nat} (hst:∀i,0≤st.getD i 0∧st.getD i 0≤4096) (hV:∀i,∀n∈V.getD i [],0≤n∧n≤4096):∀{i:Nat},∀f∈crsN st V i,0≤f∧f≤i*16777216
  | 0,f,h=>by
    obtain rfl:=List.mem_singleton.1 h
    exact ⟨by omega,by omega⟩
  | i+1,f,h=>by
    obtain ⟨g,hg,h⟩:=List.mem_flatMap.1 h
    obtain ⟨n,hn,rfl⟩:=List.mem_map.1 h
    have h1:=crsN_bnd (B:=B) hst hV g hg
    have h2:=hV i n hn
    have h3:=hst i
    have h4:=Int.mul_nonneg h2.1 h3.1
    have h5:=Int.mul_le_mul h2.2 h3.2 h3.1 (by omega)
    omega
end Go.Proofs.YtlejgleocnemoaaGreat.I
