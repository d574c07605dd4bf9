/- The texts VCall VOpE VOk VWp VReg VSwap VRegion, one behind the other. Conditions: each text's own. -/
import Derived.Test.YtlejgleocnemoaaG00
import Derived.Orders
import Derived.LoopN
set_option linter.unusedSimpArgs false
set_option linter.unusedVariables false
namespace Go.V
open Go
def CallS (P:Program) (f:Nat) (as:List AV) (mem:List AObj) (r:AV) (mem':List AObj):Prop:=
  ∀ (w:World) (fz:Nat→Prop) (ρ:List Value) (vals:Array Value),Mem w fz mem ρ→vals.size=as.length→(∀(j:Nat) (c:AV) (u:Value),as[j]?=some c→vals[j]?=some u→Rep w fz mem ρ c u)→
    Calls P f vals w fun e w'=>∃v fz' ρ',e=.returned v∧Ext w fz mem ρ w' fz' mem' ρ'∧Mem w' fz' mem' ρ'∧Rep w' fz' mem' ρ' r v
def OpS (P:Program) (o:Oper) (a:Act) (w:World) (fz:Nat→Prop) (mem:List AObj) (ρ:List Value) (v:AV) (m:List AObj):Prop:=
  ∀(next:Act→World→Prop) (Q:Exit→Act→World→Prop),(∀u w' fz' ρ',Ext w fz mem ρ w' fz' m ρ'→Mem w' fz' m ρ'→Rep w' fz' m ρ' v u→next (a.put o.dst u) w')→o.wp P a w next Q
section
variable {P:Program} {w:World} {fz:Nat→Prop} {mem:List AObj} {ρ:List Value} {env:Env} {a:Act} {o:Oper}
theorem opS_of {v:AV} {m:List AObj} (h:MemOut P o a w fz mem ρ v m):OpS P o a w fz mem ρ v m:=by
  intro next Q hn
  obtain ⟨u,w',fz',ρ',h1,h2,h3,h4⟩:=h
  unfold Oper.wp
  rcases h1 with h1|⟨h1,rfl⟩
  · rw [h1];exact hn u w' fz' ρ' h2 h3 h4
  · rw [h1];exact hn _ w' fz' ρ' h2 h3 h4
theorem snap_nil {w:World} {fz:Nat→Prop} {mem:List AObj} {ρ:List Value}:∀(k:Nat),
    (∀(a a':AV) (v:Value),snap [] k a=some a'→Rep w fz mem ρ a v→RG w fz a' v)∧
    (∀(box:Bool) (cs cs':List AV),snapL [] k box cs=some cs'→
      cs'.length=cs.length∧∀(j:Nat) (c':AV) (u:Value),cs'[j]?=some c'→(∀c,cs[j]?=some c→if box then Rep w fz mem ρ c u else RG w fz c u)→RG w fz c' u):=by
  intro k
  induction k with
  | zero=>exact ⟨fun a a' v h=>by simp [snap] at h,fun box cs cs' h=>by simp [snapL] at h⟩
  | succ k ih=>
    obtain ⟨ih1,ih2⟩:=ih
    refine ⟨fun a a' v h hr=>?_,fun box cs cs' h=>?_⟩
    · cases a with
      | any=>simp only [snap,Option.some.injEq] at h;subst h;exact .any
      | int=>simp only [snap,Option.some.injEq] at h;subst h;cases hr with|gr h=>exact h
      | bool=>simp only [snap,Option.some.injEq] at h;subst h;cases hr with|gr h=>exact h
      | str=>simp only [snap,Option.some.injEq] at h;subst h;cases hr with|gr h=>exact h
      | sl=>simp only [snap,Option.some.injEq] at h;subst h;cases hr with|gr h=>exact h
      | ptr=>simp only [snap,Option.some.injEq] at h;subst h;cases hr with|gr h=>exact h
      | nilptr=>simp only [snap,Option.some.injEq] at h;subst h;cases hr with|gr h=>exact h
      | nilsl ty sz=>simp only [snap,Option.some.injEq] at h;subst h;cases hr with|gr h=>cases h;exact .sl0
      | loc n g i=>simp [snap,geto] at h
      | arr n g=>simp [snap,geto] at h
      | msl n g off len=>simp [snap,geto] at h
      | agg cs=>
        simp only [snap] at h
        obtain ⟨cs',hs,rfl⟩:=Option.map_eq_some_iff.1 h
        obtain ⟨vs,rfl,h1,h2,h3⟩:=rg_agg_rep hr
        obtain ⟨h9,h10⟩:=ih2 true cs cs' hs
        exact .agg (by rw [h9,h1]) h2 (fun j c' u hc hu=>h10 j c' u hc (fun c hc2=>by simpa using h3 j c u hc2 hu))
      | tup cs=>
        simp only [snap] at h
        obtain ⟨cs',hs,rfl⟩:=Option.map_eq_some_iff.1 h
        obtain ⟨vs,rfl,h1,h3⟩:=rg_tup_rep hr
        obtain ⟨h9,h10⟩:=ih2 true cs cs' hs
        exact .tup (by rw [h9,h1]) (fun j c' u hc hu=>h10 j c' u hc (fun c hc2=>by simpa using h3 j c u hc2 hu))
      | fn f cs=>
        simp only [snap] at h
        obtain ⟨cs',hs,rfl⟩:=Option.map_eq_some_iff.1 h
        obtain ⟨vs,rfl,h1,h3⟩:=rg_fn_rep hr
        obtain ⟨h9,h10⟩:=ih2 true cs cs' hs
        exact .fn (by rw [h9,h1]) (fun j c' u hc hu=>h10 j c' u hc (fun c hc2=>by simpa using h3 j c u hc2 hu))
    · cases box with
      | false=>
        simp only [snapL,Option.some.injEq] at h
        subst h
        exact ⟨rfl,fun j c' u hc hh=>by simpa using hh c' hc⟩
      | true=>
        simp only [snapL] at h
        obtain ⟨h1,h2⟩:=mapM_spec h
        refine ⟨h1,fun j c' u hc hh=>?_⟩
        obtain ⟨c,h3,h4⟩:=h2 j c' hc
        exact ih1 c c' u h4 (by simpa using hh c h3)
theorem scalar_rg {c:AV} (hs:scalar c=true) {w w':World} {fz fz':Nat→Prop} {v:Value} (h:RG w fz c v):RG w' fz' c v:=by
  cases c<;>simp [scalar] at hs<;>cases h
  · exact .int
  · exact .bool
  · exact .str
theorem scalars_rg {c:AV} (hs:scalars c=true) {w w':World} {fz fz':Nat→Prop} {v:Value} (h:RG w fz c v):RG w' fz' c v:=by
  cases c with
  | agg cs=>
    simp only [scalars,List.all_eq_true] at hs
    cases h with|agg h1 h2 h3=>exact .agg h1 h2 (fun j c u hc hu=>scalar_rg (hs c (List.mem_of_getElem? hc)) (h3 j c u hc hu))
  | tup cs=>
    simp only [scalars,List.all_eq_true] at hs
    cases h with
    | tup h1 h3=>
      refine .tup h1 (fun j c u hc hu=>?_)
      have h4:=hs c (List.mem_of_getElem? hc)
      have h5:=h3 j c u hc hu
      cases c with
      | agg ds=>
        simp only [List.all_eq_true] at h4
        cases h5 with|agg g1 g2 g3=>exact .agg g1 g2 (fun j c u hc hu=>scalar_rg (h4 c (List.mem_of_getElem? hc)) (g3 j c u hc hu))
      | _=>exact scalar_rg h4 h5
  | _=>exact scalar_rg (by simpa [scalars] using hs) h
theorem Mem.nil (hm:Mem w fz mem ρ) {fz2:Nat→Prop} (hl:∀b,fz2 b→b<w.heap.size):Mem w fz2 [] []:=
  ⟨rfl,fun n o v h=>by simp at h,fun n m u v b _ h=>by simp at h,hl⟩
theorem Mem.called {w':World} {fz':Nat→Prop} {mem':List AObj} {ρ':List Value} (hm:Mem w fz mem ρ) (he:Ext w fz [] [] w' fz' mem' ρ') (hm':Mem w' fz' mem' ρ'):Ext w fz mem ρ w' fz' mem ρ∧Mem w' fz' mem ρ:=by
  have hnew:∀b,fz' b→fz b∨w.heap.size≤b:=fun b hb=>by
    rcases he.new b hb with h|h|⟨n,v,h,_⟩
    · exact .inl h
    · exact .inr h
    · simp at h
  have hblk:∀b,b<w.heap.size→w'.heap[b]?=w.heap[b]?:=fun b hb=>he.blk b hb (fun n v h=>by simp at h)
  have hext:Ext w fz mem ρ w' fz' mem ρ:=⟨he.os,he.tape,he.output,he.size,fun b hb _=>hblk b hb,he.fzblk,he.sub,fun b hb=>by
      rcases hnew b hb with h|h
      · exact .inl h
      · exact .inr (.inl h),fun n o h=>⟨o,h,Nat.le_refl _,fun _=>⟨rfl,rfl⟩,rfl,rfl⟩,fun n v b h h'=>.inl ⟨n,v,h,h'⟩⟩
  refine ⟨hext,hm.len,fun n ob u hob hu=>?_,hm.apart,hm'.lt⟩
  obtain ⟨h1,⟨vs,h2,h3,h4,h5⟩,h6,h7⟩:=hm.obj n ob u hob hu
  refine ⟨h1,⟨vs,ownsRow_old hblk h2,h3,h4,fun j c x hc hx=>?_⟩,fun h b hb=>he.sub b (h6 h b hb),fun h b hb hf=>?_⟩
  · have:=h5 j c x hc hx
    split at this
    · rename_i hb;rw [if_pos hb];exact this.ext hext
    · rename_i hb;rw [if_neg hb];exact this.mono hext.fzblk hext.sub
  · rcases hnew b hf with h8|h8
    · exact h7 h b hb h8
    · have:=ownBlock_lt h2 hb;omega
def okFn (P:Program) (f:Nat):Bool:=
  match P.funcs[f]? with
  | some fn => fn.body.isSome && !(fn.name == "runtime.NumGoroutine")
  | none=>false
theorem callFunc_run {f:Nat} (hf:okFn P f=true) (args:Array Value):(callFunc f args).run P w=.ok (.enter f args) w:=by
  unfold okFn at hf
  split at hf
  · rename_i fn hfn
    simp only [Bool.and_eq_true,Bool.not_eq_true'] at hf
    obtain ⟨h1,h2⟩:=hf
    have h3:fn.body.isNone=false:=by cases hb:fn.body<;>simp_all
    simp only [callFunc,Sem.run_bind,run_program,Result.andThen_ok,hfn,h2,h3,Bool.false_eq_true,if_false,Sem.run_pure]
  · cases hf
theorem opS_call {f:Nat} {args:Array Value} (hrun:(execOp a.eval o).run P w=.ok (.enter f args) w) {v:AV} {m:List AObj}
    (hc:Calls P f args w fun e w'=>∃u fz' ρ',e=.returned u∧Ext w fz mem ρ w' fz' m ρ'∧Mem w' fz' m ρ'∧Rep w' fz' m ρ' v u):OpS P o a w fz mem ρ v m:=by
  intro next Q hn
  unfold Oper.wp
  rw [hrun]
  refine Calls.mono hc (fun e w' h=>?_)
  obtain ⟨u,fz',ρ',rfl,h1,h2,h3⟩:=h
  exact hn u w' fz' ρ' h1 h2 h3
theorem static_run {f:Nat} {xs:Array Operand} {ts:Array TypeId} (ho:o.op=.call ⟨.value (.func f),xs,ts⟩) (hf:okFn P f=true):(execOp a.eval o).run P w=.ok (.enter f (xs.map a.eval)) w:=by
  simp only [execOp,ho,resolve,Act.eval,Deferred.ofValue,Sem.run_bind,Sem.run_pure,Result.andThen_ok,invoke]
  rw [callFunc_run hf]
  simp
theorem args_size {xs:Array Operand} {ys:List Opd} (he:EnvR w fz mem ρ env a) (hx:okOpds a.tmps.size xs.toList ys=true):(xs.map a.eval).size=ys.length:=by
  have:=(opds_rep he hx).1
  simpa using this
theorem args_get {xs:Array Operand} {ys:List Opd} (he:EnvR w fz mem ρ env a) (hx:okOpds a.tmps.size xs.toList ys=true) {j:Nat} {y:Opd} {u:Value} (hy:ys[j]?=some y) (hu:(xs.map a.eval)[j]?=some u):Rep w fz mem ρ (ev env y) u:=by
  obtain ⟨x,h1,h2⟩:=(opds_rep he hx).2 j y hy
  have:(xs.map a.eval)[j]?=some (a.eval x):=by
    rw [Array.getElem?_map]
    have:xs[j]?=some x:=by simpa using h1
    rw [this];rfl
  rw [this] at hu
  obtain rfl:=Option.some.inj hu
  exact h2
def frzAll (fz:Nat→Prop) (ρ:List Value):Nat→Prop:=fun b=>fz b∨∃(n:Nat) (v:Value),ρ[n]?=some v∧v.ownBlock=some b
theorem rep_nil {w:World} {fz:Nat→Prop} {ρ:List Value} {c:AV} {v:Value} (h:Rep w fz [] ρ c v):RG w fz c v:=by
  induction h with
  | gr h=>exact h
  | arr h=>simp at h
  | loc h=>simp at h
  | msl h=>simp at h
  | agg h1 h2 _ ih=>exact .agg h1 h2 ih
  | tup h1 _ ih=>exact .tup h1 ih
  | fn h1 _ ih=>exact .fn h1 ih
theorem bslF_parts (hm:Mem w fz mem ρ) (he:EnvR w fz mem ρ env a) {sz:Nat}:∀(ps:List (Nat × Operand)) (ys:List Opd) (k:Nat) (css:List (List AV)),okSeq a.tmps.size k ps ys=true→
    ys.mapM (fun x=>(cellsOf (ev env x)).bind fun cs=>if cs.length=sz then snapL [] 9 true cs else none)=some css→
    ∃ vs:List Value,vs.length=ys.length*sz∧vs.length=css.flatten.length∧(∀u∈vs,u.oneCell'=true)∧(∀(j:Nat) (c:AV) (u:Value),css.flatten[j]?=some c→vs[j]?=some u→RG w fz c u)∧
      ∀ (cells:Array Value),(k+ys.length)*sz≤cells.size→∃cells':Array Value,Instr.fill (fun i=>some (i*sz,sz)) cells (ps.map fun p=>(p.1,a.eval p.2))=some cells'∧cells'.size=cells.size∧
        cells'.toList=cells.toList.take (k*sz)++vs++cells.toList.drop ((k+ys.length)*sz)
  | [],[],k,css,_,h=>by
    simp only [List.mapM_nil,Option.pure_def,Option.some.injEq] at h
    subst h
    exact ⟨[],by simp,rfl,fun u hu=>(by simp at hu),fun j c u hc=>(by simp at hc),fun cells hc=>⟨cells,rfl,rfl,by simp⟩⟩
  | (i,x)::ps,y::ys,k,css,hp,h=>by
    simp only [okSeq,Bool.and_eq_true,beq_iff_eq] at hp
    obtain ⟨⟨rfl,hx⟩,hps⟩:=hp
    rw [List.mapM_cons] at h
    cases hcy:cellsOf (ev env y) with
    | none=>simp [hcy] at h
    | some cs=>
      simp only [hcy,Option.bind_some] at h
      by_cases hsz:cs.length=sz
      · rw [if_pos hsz] at h
        cases hs:snapL [] 9 true cs with
        | none=>simp [hs] at h
        | some ds=>
          simp only [hs] at h
          cases hr:ys.mapM (fun x=>(cellsOf (ev env x)).bind fun cs=>if cs.length=sz then snapL [] 9 true cs else none) with
          | none=>simp [hr] at h
          | some css'=>
            simp [hr] at h
            subst h
            obtain ⟨vs,h1,h2,h3,h4,h5⟩:=bslF_parts hm he ps ys (i+1) css' hps hr
            obtain ⟨g1,g2,g3⟩:=rep_cells (opd_rep he hx) hcy
            obtain ⟨p1,p2⟩:=(snap_nil (w:=w) (fz:=fz) (mem:=mem) (ρ:=ρ) 9).2 true cs ds hs
            have hul:(a.eval x).cells.toList.length=sz:=by simpa [hsz] using g1
            refine ⟨(a.eval x).cells.toList++vs,by rw [List.length_append,hul,h1,List.length_cons,Nat.add_mul];omega,by rw [List.flatten_cons,List.length_append,List.length_append,hul,p1,hsz,h2],fun u hu=>?_,fun j c u hc hu=>?_,fun cells hcells=>?_⟩
            · rcases List.mem_append.1 hu with hu|hu
              · exact g2 u hu
              · exact h3 u hu
            · rw [List.flatten_cons,List.getElem?_append] at hc
              rw [List.getElem?_append] at hu
              split at hu
              · rename_i hj
                rw [if_pos (by omega)] at hc
                exact p2 j c u hc (fun c' hc'=>by simpa using g3 j c' u hc' (by simpa using hu))
              · rename_i hj
                rw [if_neg (by omega)] at hc
                rw [hul] at hu
                rw [p1,hsz] at hc
                exact h4 _ c u hc hu
            · have hle:i*sz+sz≤cells.size:=by
                have:(i+1)*sz≤(i+(y::ys).length)*sz:=Nat.mul_le_mul_right _ (by simp)
                rw [Nat.add_mul,Nat.one_mul] at this
                omega
              have hstep:=fill_step (a.eval x) (i*sz) cells (by rw [g1,hsz];exact hle)
              generalize hnew:(a.eval x).cells.zipIdx.foldl (fun cs (p:Value × Nat)=>cs.setIfInBounds (i*sz+p.2) p.1) cells=cells2 at hstep
              have hlen2:cells2.size=cells.size:=by
                have:=congrArg List.length hstep
                simp only [Array.length_toList,List.length_append,List.length_take,List.length_drop] at this
                omega
              obtain ⟨cells',k1,k2,k3⟩:=h5 cells2 (by rw [hlen2];simpa [Nat.add_assoc,Nat.add_comm 1] using hcells)
              refine ⟨cells',?_,by rw [k2,hlen2],?_⟩
              · simp only [List.map_cons,Instr.fill]
                rw [if_neg (by simp [g1,hsz];omega),hnew]
                exact k1
              · rw [k3,hstep,g1,hsz]
                have e1:(i+1)*sz=i*sz+sz:=by rw [Nat.add_mul,Nat.one_mul]
                have e2:(i+1+ys.length)*sz=(i+(y::ys).length)*sz:=by rw [List.length_cons];congr 1;omega
                have e3:i*sz+sz≤(i+(y::ys).length)*sz:=by
                  rw [←e1];exact Nat.mul_le_mul_right _ (by simp)
                rw [e2,e1]
                have hl1:(cells.toList.take (i*sz)).length=i*sz:=by simp;omega
                have htk:(cells.toList.take (i*sz)++(a.eval x).cells.toList++cells.toList.drop (i*sz+sz)).take (i*sz+sz)=cells.toList.take (i*sz)++(a.eval x).cells.toList:=by
                  rw [List.take_left' (by rw [List.length_append,hl1,hul])]
                have hdr:(cells.toList.take (i*sz)++(a.eval x).cells.toList++cells.toList.drop (i*sz+sz)).drop ((i+(y::ys).length)*sz)=cells.toList.drop ((i+(y::ys).length)*sz):=by
                  rw [List.drop_append,List.drop_eq_nil_of_le (by rw [List.length_append,hl1,hul];exact e3),List.nil_append,List.length_append,hl1,hul,List.drop_drop]
                  congr 1
                  omega
                rw [htk,hdr]
                simp only [List.append_assoc]
      · rw [if_neg hsz] at h
        simp at h
  | [],_::_,_,_,hp,_=>by simp [okSeq] at hp
  | _::_,[],_,_,hp,_=>by simp [okSeq] at hp
theorem op_bslF (hm:Mem w fz mem ρ) (he:EnvR w fz mem ρ env a) {t ty:TypeId} {i:TypeInfo} {z:Value} {len sz:Nat} {ps:Array (Nat × Operand)} {ys:List Opd} (ho:o.op=.buildSlice t len ps) (hp:okSeq a.tmps.size 0 ps.toList ys=true) (hlen:ys.length=len)
    (ht:P.underlying t=some (.slice ty)) (hi:P.info? ty=some i) (hz:i.zero=some z) (hs:i.size=sz) (hpos:0<sz) (hmax:len*sz≤16777216)
    {v:AV} {m:List AObj} (h:evalOp mem (ev env) (.bslF ty sz ys)=some (v,m)):MemOut P o a w fz mem ρ v m:=by
  subst hs;subst hlen
  simp only [evalOp] at h
  split at h
  · rename_i css hcss
    simp only [Option.some.injEq,Prod.mk.injEq] at h
    obtain ⟨rfl,rfl⟩:=h
    obtain ⟨vs,h1,h2,h3,h4,h5⟩:=bslF_parts hm he ps.toList ys 0 css hp hcss
    have hbuild:∃cells':Array Value,cells'.toList=vs∧(Instr.buildSlice t ys.length (ps.map fun p=>(p.1,a.eval p.2))).run P w=.ok (.slice (some ⟨w.heap.size,0,none⟩) ys.length ys.length) (w.alloc (.cells cells' ty)):=by
      have hmap:(ps.map fun p=>(p.1,a.eval p.2)).toList=ps.toList.map fun p=>(p.1,a.eval p.2):=by simp
      by_cases h0:ys.length*i.size=0
      · obtain ⟨cells',k1,k2,k3⟩:=h5 ((Array.range (ys.length*i.size)).map ((#[]:Array Value)[· % (#[]:Array Value).size]!)) (by simp)
        refine ⟨cells',?_,?_⟩
        · rw [k3];simp
        · simp only [Instr.buildSlice,Sem.run_bind,run_underlying ht,Result.andThen_ok,sizeOf,typeInfo,run_program,hi,Sem.run_pure]
          rw [if_neg (by omega)]
          rw [if_pos h0]
          simp only [Sem.run_pure,Result.andThen_ok,hmap,k1,newRow,Sem.run_bind]
          simp
      · obtain ⟨cells',k1,k2,k3⟩:=h5 ((Array.range (ys.length*i.size)).map (z.cells[· % z.cells.size]!)) (by simp)
        refine ⟨cells',?_,?_⟩
        · rw [k3];simp
        · simp only [Instr.buildSlice,Sem.run_bind,run_underlying ht,Result.andThen_ok,sizeOf,typeInfo,run_program,hi,Sem.run_pure]
          rw [if_neg (by omega)]
          rw [if_neg h0]
          simp only [zeroValue,typeInfo,Sem.run_bind,run_program,Result.andThen_ok,hi,hz,Sem.run_pure,hmap,k1,newRow]
          simp
    obtain ⟨cells',k1,k2⟩:=hbuild
    have hhs:(w.alloc (.cells cells' ty)).heap.size=w.heap.size+1:=by simp
    have hold:∀b,b<w.heap.size→(w.alloc (.cells cells' ty)).heap[b]?=w.heap[b]?:=fun b hb=>heap_alloc_old w _ b hb
    have hext:Ext w fz mem ρ (w.alloc (.cells cells' ty)) (fun b=>fz b∨b=w.heap.size) mem ρ:=
      ⟨rfl,rfl,rfl,by omega,fun b hb _=>hold b hb,fun b hb=>hold b (hm.lt b hb),fun b hb=>.inl hb,
        fun b hb=>by rcases hb with hb|hb;exact .inl hb;exact .inr (.inl (by omega)),fun n o h=>⟨o,h,Nat.le_refl _,fun _=>⟨rfl,rfl⟩,rfl,rfl⟩,fun n v b h h'=>.inl ⟨n,v,h,h'⟩⟩
    refine ⟨.slice (some ⟨w.heap.size,0,none⟩) ys.length ys.length,_,fun b=>fz b∨b=w.heap.size,ρ,.inl (by simp only [execOp,ho,Sem.run_bind,k2,Result.andThen_ok,Sem.run_pure]),hext,⟨hm.len,fun n ob u hob hu=>?_,hm.apart,fun b hb=>?_⟩,.gr ?_⟩
    · obtain ⟨e1,⟨us,e2,e3,e4,e5⟩,e6,e7⟩:=hm.obj n ob u hob hu
      refine ⟨e1,⟨us,ownsRow_old hold e2,e3,e4,fun j c x hc hx=>?_⟩,fun h b hb=>.inl (e6 h b hb),fun h b hb hf=>?_⟩
      · have:=e5 j c x hc hx
        split at this
        · rename_i hb;rw [if_pos hb];exact this.ext hext
        · rename_i hb;rw [if_neg hb];exact this.mono hext.fzblk hext.sub
      · rcases hf with hf|hf
        · exact e7 h b hb hf
        · have:=ownBlock_lt e2 hb;omega
    · rcases hb with hb|hb
      · have:=hm.lt b hb;omega
      · omega
    · rcases Nat.eq_zero_or_pos ys.length with h0|h0
      · have:css.flatten=[]:=List.eq_nil_of_length_eq_zero (by rw [←h2,h1,h0,Nat.zero_mul])
        rw [h0,this]
        exact .sl0
      · refine .sl (vs:=vs) h0 (Nat.le_refl _) (by rw [←h2,h1]) h2 (.inr rfl) h3 (fun j u hu=>?_) (fun j c u hc hu=>(h4 j c u hc hu).mono hext.fzblk hext.sub)
        rw [Nat.zero_add]
        have hj:cells'[j]?=some u:=by rw [←Array.getElem?_toList,k1];exact hu
        simp only [World.cell?,heap_alloc_new w (.cells cells' ty)]
        exact hj
  · cases h
theorem op_callP (hm:Mem w fz mem ρ) (he:EnvR w fz mem ρ env a) {f:Nat} {xs:Array Operand} {ts:Array TypeId} {ys:List Opd} {as:List AV} {r:AV} (ho:o.op=.call ⟨.value (.func f),xs,ts⟩) (hf:okFn P f=true) (hx:okOpds a.tmps.size xs.toList ys=true)
    (hs:ys.mapM (fun y=>snap [] 10 (ev env y))=some as) (hc:CallS P f as [] r []):OpS P o a w fz mem ρ r mem:=by
  obtain ⟨h1,h2⟩:=mapM_spec hs
  refine opS_call (static_run ho hf) ((hc w fz [] (xs.map a.eval) (hm.nil hm.lt) (by rw [args_size he hx,h1]) (fun j c u hcj hu=>?_)).mono fun e w' h=>?_)
  · obtain ⟨y,hy,hsy⟩:=h2 j c hcj
    exact .gr ((snap_nil 10).1 _ c u hsy (args_get he hx hy hu))
  · obtain ⟨u,fz',ρ',rfl,e1,e2,e3⟩:=h
    obtain ⟨g1,g2⟩:=hm.called e1 e2
    exact ⟨u,fz',ρ,rfl,g1,g2,.gr (rep_nil e3)⟩
theorem frzAll_lt (hm:Mem w fz mem ρ):∀b,frzAll fz ρ b→b<w.heap.size:=by
  rintro b (h|⟨n,v,h1,h2⟩)
  · exact hm.lt b h
  · exact hm.blk_lt h1 h2
theorem back_scalar (hm:Mem w fz mem ρ) {w':World} {fz2 fz':Nat→Prop} {ρ':List Value} (e1:Ext w fz2 [] [] w' fz' [] ρ'):Ext w fz mem ρ w' fz mem ρ∧Mem w' fz mem ρ:=
  hm.old ⟨e1.os,e1.tape,e1.output,e1.size,fun b hb=>e1.blk b hb (fun n v h=>by simp at h)⟩
theorem op_callR (hm:Mem w fz mem ρ) (he:EnvR w fz mem ρ env a) {f:Nat} {xs:Array Operand} {ts:Array TypeId} {ys:List Opd} {as:List AV} {r:AV} (ho:o.op=.call ⟨.value (.func f),xs,ts⟩) (hf:okFn P f=true) (hx:okOpds a.tmps.size xs.toList ys=true)
    (hs:ys.mapM (fun y=>snap mem 10 (ev env y))=some as) (hc:CallS P f as [] r []) (hr:scalars r=true):OpS P o a w fz mem ρ r mem:=by
  obtain ⟨h1,h2⟩:=mapM_spec hs
  refine opS_call (static_run ho hf) ((hc w (frzAll fz ρ) [] (xs.map a.eval) (hm.nil (frzAll_lt hm)) (by rw [args_size he hx,h1]) (fun j c u hcj hu=>?_)).mono fun e w' h=>?_)
  · obtain ⟨y,hy,hsy⟩:=h2 j c hcj
    exact .gr ((snap_rg hm (fun b hb=>.inl hb) 10).1 _ c u hsy (args_get he hx hy hu) (fun n _ u b hu hb=>.inr ⟨n,u,hu,hb⟩))
  · obtain ⟨u,fz',ρ',rfl,e1,e2,e3⟩:=h
    obtain ⟨g1,g2⟩:=back_scalar hm e1
    exact ⟨u,fz,ρ,rfl,g1,g2,.gr (scalars_rg hr (rep_nil e3))⟩
theorem op_callF (hm:Mem w fz mem ρ) (he:EnvR w fz mem ρ env a) {f:Nat} {xs:Array Operand} {ts:Array TypeId} {ys:List Opd} {as:List AV} {r:AV} (ho:o.op=.call ⟨.value (.func f),xs,ts⟩) (hf:okFn P f=true) (hx:okOpds a.tmps.size xs.toList ys=true)
    (hs:ys.mapM (fun y=>snap mem 10 (ev env y))=some as) (hc:CallS P f as [] r []):OpS P o a w fz mem ρ r (freeze (ys.flatMap fun y=>refs mem 10 (ev env y)) mem):=by
  obtain ⟨h1,h2⟩:=mapM_spec hs
  obtain ⟨f1,f2⟩:=hm.freeze (ys.flatMap fun y=>refs mem 10 (ev env y))
  refine opS_call (static_run ho hf) ((hc w (frzOf fz ρ (ys.flatMap fun y=>refs mem 10 (ev env y))) [] (xs.map a.eval) (f2.nil f2.lt) (by rw [args_size he hx,h1]) (fun j c u hcj hu=>?_)).mono fun e w' h=>?_)
  · obtain ⟨y,hy,hsy⟩:=h2 j c hcj
    exact .gr ((snap_rg hm (fun b hb=>.inl hb) 10).1 _ c u hsy (args_get he hx hy hu) (fun n hn u b hu hb=>.inr ⟨n,List.mem_flatMap.2 ⟨y,List.mem_of_getElem? hy,hn⟩,u,hu,hb⟩))
  · obtain ⟨u,fz',ρ',rfl,e1,e2,e3⟩:=h
    obtain ⟨g1,g2⟩:=f2.called e1 e2
    exact ⟨u,fz',ρ,rfl,f1.trans g1,g2,.gr (rep_nil e3)⟩
theorem op_callM (hm:Mem w fz mem ρ) (he:EnvR w fz mem ρ env a) {f:Nat} {xs:Array Operand} {ts:Array TypeId} {ys:List Opd} {r:AV} {m:List AObj} (ho:o.op=.call ⟨.value (.func f),xs,ts⟩) (hf:okFn P f=true) (hx:okOpds a.tmps.size xs.toList ys=true)
    (hc:CallS P f (ys.map (ev env)) mem r m):OpS P o a w fz mem ρ r m:=by
  refine opS_call (static_run ho hf) (hc w fz ρ (xs.map a.eval) hm (by rw [args_size he hx,List.length_map]) (fun j c u hcj hu=>?_))
  rw [List.getElem?_map] at hcj
  obtain ⟨y,hy,rfl⟩:=Option.map_eq_some_iff.1 hcj
  exact args_get he hx hy hu
theorem op_callV (hm:Mem w fz mem ρ) (he:EnvR w fz mem ρ env a) {x:Operand} {x':Opd} {f:Nat} {xs:Array Operand} {ts:Array TypeId} {ys:List Opd} {caps as bs:List AV} {r:AV} (ho:o.op=.call ⟨.value x,xs,ts⟩) (hxx:okOpd a.tmps.size x x'=true) (hx:okOpds a.tmps.size xs.toList ys=true)
    (hfn:ev env x'=.fn f caps) (hf:okFn P f=true) (hs:ys.mapM (fun y=>snap mem 10 (ev env y))=some as) (hb:caps.mapM (fun c=>snap mem 10 c)=some bs) (hc:CallS P f (as++bs) [] r []) (hr:scalars r=true):OpS P o a w fz mem ρ r mem:=by
  obtain ⟨h1,h2⟩:=mapM_spec hs
  obtain ⟨h3,h4⟩:=mapM_spec hb
  have e1:=opd_rep he hxx
  rw [hfn] at e1
  obtain ⟨vs,hv,k1,k2⟩:=rg_fn_rep e1
  have hrun:(execOp a.eval o).run P w=.ok (.enter f (xs.map a.eval++vs)) w:=by
    simp only [execOp,ho,resolve,hv,Deferred.ofValue,Sem.run_bind,Sem.run_pure,Result.andThen_ok,invoke]
    rw [callFunc_run hf]
    simp
  have hsz:=args_size he hx
  refine opS_call hrun ((hc w (frzAll fz ρ) [] (xs.map a.eval++vs) (hm.nil (frzAll_lt hm)) (by rw [Array.size_append,hsz,List.length_append,h1,h3,k1]) (fun j c u hcj hu=>?_)).mono fun e w' h=>?_)
  · rw [List.getElem?_append] at hcj
    rw [Array.getElem?_append] at hu
    split at hu
    · rename_i hj
      rw [if_pos (by omega)] at hcj
      obtain ⟨y,hy,hsy⟩:=h2 j c hcj
      exact .gr ((snap_rg hm (fun b hb=>.inl hb) 10).1 _ c u hsy (args_get he hx hy hu) (fun n _ u b hu hb=>.inr ⟨n,u,hu,hb⟩))
    · rename_i hj
      rw [if_neg (by omega),h1,←hsz] at hcj
      obtain ⟨d,hd,hsd⟩:=h4 _ c hcj
      exact .gr ((snap_rg hm (fun b hb=>.inl hb) 10).1 _ c u hsd (k2 _ d u hd hu) (fun n _ u b hu hb=>.inr ⟨n,u,hu,hb⟩))
  · obtain ⟨u,fz',ρ',rfl,e1,e2,e3⟩:=h
    obtain ⟨g1,g2⟩:=back_scalar hm e1
    exact ⟨u,fz,ρ,rfl,g1,g2,.gr (scalars_rg hr (rep_nil e3))⟩
theorem shiftV_rep {w:World} {fz:Nat→Prop} {mem mem':List AObj} {ρ ρ':List Value} (hl:ρ.length=mem.length) {c:AV} {v:Value} (h:Rep w fz mem' ρ' c v) (hc:scalar c=true∨(∃n g,c=.arr n g)∨∃n g i,c=.loc n g i):Rep w fz (mem++mem'.map (shiftO mem.length)) (ρ++ρ') (shiftV mem.length c) v:=by
  have key:∀{n:Nat} {o:AObj},mem'[n]?=some o→(mem++mem'.map (shiftO mem.length))[n+mem.length]?=some (shiftO mem.length o)∧(shiftO mem.length o).g=o.g∧(ρ++ρ')[n+mem.length]?=ρ'[n]?:=fun {n o} h=>by
    refine ⟨by rw [List.getElem?_append_right (by omega),Nat.add_sub_cancel,List.getElem?_map,h];rfl,by unfold shiftO;split<;>rfl,?_⟩
    rw [List.getElem?_append_right (by omega),hl,Nat.add_sub_cancel]
  rcases hc with hc|⟨n,g,rfl⟩|⟨n,g,i,rfl⟩
  · cases c<;>simp [scalar] at hc<;>cases h with|gr h=>exact .gr (scalar_rg (by rfl) h)
  · cases h with
    | gr h=>cases h
    | arr h1 h2 h3 h4=>
      obtain ⟨k1,k2,k3⟩:=key h1
      exact .arr k1 (by rw [k2];exact h2) h3 (fun hg=>by rw [k3];exact h4 (by rw [←k2];exact hg))
  · cases h with
    | gr h=>cases h
    | loc h1 h2 h3 h4=>
      obtain ⟨k1,k2,k3⟩:=key h1
      exact .loc k1 (by rw [k2];exact h2) h3 (fun hg=>by rw [k3];exact h4 (by rw [←k2];exact hg))
theorem ownish_cases {c:AV} (h:ownish c=true):scalar c=true∨∃n g,c=.arr n g:=by
  cases c<;>simp [ownish,scalar] at h ⊢
theorem ownish_cases3 {c:AV} (h:ownish c=true):scalar c=true∨(∃n g,c=.arr n g)∨∃n g i,c=.loc n g i:=by
  rcases ownish_cases h with h|h
  · exact .inl h
  · exact .inr (.inl h)
theorem shiftR_rep {w:World} {fz:Nat→Prop} {mem mem':List AObj} {ρ ρ':List Value} (hl:ρ.length=mem.length) {c:AV} {v:Value} (h:Rep w fz mem' ρ' c v) (hc:ownishR c=true):Rep w fz (mem++mem'.map (shiftO mem.length)) (ρ++ρ') (shiftR mem.length c) v:=by
  cases c with
  | tup vs=>
    simp only [ownishR,List.all_eq_true] at hc
    obtain ⟨us,rfl,h1,h2⟩:=rg_tup_rep h
    refine .tup (by simpa using h1) (fun j d u hd hu=>?_)
    rw [List.getElem?_map] at hd
    obtain ⟨d',hd',rfl⟩:=Option.map_eq_some_iff.1 hd
    have h3:=h2 j d' u hd' hu
    have h4:=ownish_cases (hc d' (List.mem_of_getElem? hd'))
    have:=shiftV_rep hl h3 (ownish_cases3 (hc d' (List.mem_of_getElem? hd')))
    cases d'<;>first|exact this|(rcases h4 with h4|⟨n,g,h4⟩<;>simp [scalar] at h4)
  | agg cs=>simp [ownishR,ownish,scalar] at hc
  | loc n g i=>exact shiftV_rep hl h (.inr (.inr ⟨n,g,i,rfl⟩))
  | _=>exact shiftV_rep hl h (ownish_cases3 hc)
theorem Rep.append {w:World} {fz:Nat→Prop} {mem mem':List AObj} {ρ ρ':List Value} {c:AV} {v:Value} (h:Rep w fz mem ρ c v) (hl:ρ.length=mem.length):Rep w fz (mem++mem') (ρ++ρ') c v:=by
  have key:∀{n:Nat} {ob:AObj},mem[n]?=some ob→(mem++mem')[n]?=some ob∧(ρ++ρ')[n]?=ρ[n]?:=fun {n ob} h=>by
    have hn:=(List.getElem?_eq_some_iff.1 h).1
    exact ⟨by rw [List.getElem?_append_left hn];exact h,by rw [List.getElem?_append_left (by omega)]⟩
  induction h with
  | gr h=>exact .gr h
  | arr h1 h2 h3 h4=>exact .arr (key h1).1 h2 h3 (by rw [(key h1).2];exact h4)
  | loc h1 h2 h3 h4=>exact .loc (key h1).1 h2 h3 (by rw [(key h1).2];exact h4)
  | msl h1 h2 h3 h4=>exact .msl (key h1).1 h2 h3 (by rw [(key h1).2];exact h4)
  | agg h1 h2 _ ih=>exact .agg h1 h2 ih
  | tup h1 _ ih=>exact .tup h1 ih
  | fn h1 _ ih=>exact .fn h1 ih
theorem mem_append {w:World} {fz:Nat→Prop} {mem mem':List AObj} {ρ ρ':List Value} {B:Nat} (hm:Mem w fz mem ρ) (hm':Mem w fz mem' ρ') (hbox:(mem'.all made)=true) (h1:∀(n:Nat) (v:Value) (b:Nat),ρ[n]?=some v→v.ownBlock=some b→b<B) (h2:∀(n:Nat) (v:Value) (b:Nat),ρ'[n]?=some v→v.ownBlock=some b→B≤b) :
    Mem w fz (mem++mem'.map (shiftO mem.length)) (ρ++ρ'):=by
  refine ⟨by simp [hm.len,hm'.len],fun n o v ho hv=>?_,fun n m u v b hnm hu hv hub=>?_,hm.lt⟩
  · rw [List.getElem?_append] at ho hv
    by_cases hn:n<mem.length
    · rw [if_pos hn] at ho
      rw [if_pos (by rw [hm.len];exact hn)] at hv
      obtain ⟨g1,⟨vs,g2,g3,g4,g5⟩,g6,g7⟩:=hm.obj n o v ho hv
      refine ⟨g1,⟨vs,g2,g3,g4,fun j c u hc hu=>?_⟩,g6,g7⟩
      have:=g5 j c u hc hu
      split at this
      · rename_i hb;rw [if_pos hb];exact this.append hm.len
      · rename_i hb;rw [if_neg hb];exact this
    · rw [if_neg hn] at ho
      rw [if_neg (by rw [hm.len];exact hn),hm.len] at hv
      rw [List.getElem?_map] at ho
      obtain ⟨o',ho',rfl⟩:=Option.map_eq_some_iff.1 ho
      obtain ⟨g1,⟨vs,g2,g3,g4,g5⟩,g6,g7⟩:=hm'.obj _ o' v ho' hv
      have hob:made o'=true:=by
        rw [List.all_eq_true] at hbox
        exact hbox o' (List.mem_of_getElem? ho')
      cases hbx:o'.box with
      | false=>
        have hsh:shiftO mem.length o'=o':=by simp [shiftO,hbx]
        rw [hsh]
        refine ⟨g1,⟨vs,g2,g3,g4,fun j c u hc hu=>?_⟩,g6,g7⟩
        have:=g5 j c u hc hu
        rw [hbx] at this ⊢
        exact this
      | true=>
        have hsh:shiftO mem.length o'={ o' with cs:=o'.cs.map (shiftV mem.length) }:=by simp [shiftO,hbx]
        rw [hsh]
        refine ⟨g1,⟨vs,g2,by simpa using g3,g4,fun j c u hc hu=>?_⟩,g6,g7⟩
        simp only at hc ⊢
        rw [List.getElem?_map] at hc
        obtain ⟨c',hc',rfl⟩:=Option.map_eq_some_iff.1 hc
        have:=g5 j c' u hc' hu
        rw [hbx] at this ⊢
        simp only [if_true] at this ⊢
        simp only [made,hbx,Bool.not_true,Bool.false_or,List.all_eq_true] at hob
        exact shiftV_rep hm.len this (ownish_cases3 (hob c' (List.mem_of_getElem? hc')))
  · rw [List.getElem?_append] at hu hv
    by_cases hn:n<ρ.length
    · rw [if_pos hn] at hu
      by_cases hk:m<ρ.length
      · rw [if_pos hk] at hv;exact hm.apart n m u v b hnm hu hv hub
      · rw [if_neg hk] at hv
        intro h
        have:=h1 n u b hu hub
        have:=h2 _ v b hv h
        omega
    · rw [if_neg hn] at hu
      by_cases hk:m<ρ.length
      · rw [if_pos hk] at hv
        intro h
        have:=h1 m v b hv h
        have:=h2 _ u b hu hub
        omega
      · rw [if_neg hk] at hv
        exact hm'.apart _ _ u v b (by omega) hu hv hub
theorem op_callO (hm:Mem w fz mem ρ) (he:EnvR w fz mem ρ env a) {f:Nat} {xs:Array Operand} {ts:Array TypeId} {ys:List Opd} {as:List AV} {r:AV} {m:List AObj} (ho:o.op=.call ⟨.value (.func f),xs,ts⟩) (hf:okFn P f=true) (hx:okOpds a.tmps.size xs.toList ys=true)
    (hs:ys.mapM (fun y=>snap mem 10 (ev env y))=some as) (hc:CallS P f as [] r m) (hbox:(m.all made)=true) (hr:ownishR r=true) :
    OpS P o a w fz mem ρ (shiftR mem.length r) (freeze (ys.flatMap fun y=>refs mem 10 (ev env y)) mem++m.map (shiftO mem.length)):=by
  obtain ⟨h1,h2⟩:=mapM_spec hs
  obtain ⟨f1,f2⟩:=hm.freeze (ys.flatMap fun y=>refs mem 10 (ev env y))
  refine opS_call (static_run ho hf) ((hc w (frzOf fz ρ (ys.flatMap fun y=>refs mem 10 (ev env y))) [] (xs.map a.eval) (f2.nil f2.lt) (by rw [args_size he hx,h1]) (fun j c u hcj hu=>?_)).mono fun e w' h=>?_)
  · obtain ⟨y,hy,hsy⟩:=h2 j c hcj
    exact .gr ((snap_rg hm (fun b hb=>.inl hb) 10).1 _ c u hsy (args_get he hx hy hu) (fun n hn u b hu hb=>.inr ⟨n,List.mem_flatMap.2 ⟨y,List.mem_of_getElem? hy,hn⟩,u,hu,hb⟩))
  · obtain ⟨u,fz',ρ',rfl,e1,e2,e3⟩:=h
    obtain ⟨g1,g2⟩:=f2.called e1 e2
    have hin:∀(n:Nat) (v:Value) (b:Nat),ρ'[n]?=some v→v.ownBlock=some b→w.heap.size≤b:=fun n v b hv hb=>by
      rcases e1.own n v b hv hb with ⟨k,u,h,_⟩|h
      · simp at h
      · exact h
    have hown:Ext w (frzOf fz ρ (ys.flatMap fun y=>refs mem 10 (ev env y))) (freeze (ys.flatMap fun y=>refs mem 10 (ev env y)) mem) ρ w' fz' (freeze (ys.flatMap fun y=>refs mem 10 (ev env y)) mem++m.map (shiftO mem.length)) (ρ++ρ'):=by
      refine ⟨g1.os,g1.tape,g1.output,g1.size,g1.blk,g1.fzblk,g1.sub,g1.new,fun n ob hob=>?_,fun n v b hv hb=>?_⟩
      · have hn:=(List.getElem?_eq_some_iff.1 hob).1
        refine ⟨ob,by rw [List.getElem?_append_left hn];exact hob,Nat.le_refl _,fun _=>⟨?_,rfl⟩,rfl,rfl⟩
        rw [List.getElem?_append_left (by rw [f2.len];exact hn)]
      · rw [List.getElem?_append] at hv
        split at hv
        · exact .inl ⟨n,v,hv,hb⟩
        · exact .inr (hin _ v b hv hb)
    have hlen:(freeze (ys.flatMap fun y=>refs mem 10 (ev env y)) mem).length=mem.length:=by simp [freeze]
    have hM:=mem_append (B:=w.heap.size) g2 e2 hbox (fun n v b hv hb=>f2.blk_lt hv hb) hin
    rw [hlen] at hM
    refine ⟨u,fz',_,rfl,f1.trans hown,hM,?_⟩
    have:=shiftR_rep g2.len e3 hr
    rw [hlen] at this
    exact this
theorem op_callG (hm:Mem w fz mem ρ) (he:EnvR w fz mem ρ env a) {f:Nat} {xs:Array Operand} {ts:Array TypeId} {ys:List Opd} {r:AV} {m:List AObj} (ho:o.op=.call ⟨.value (.func f),xs,ts⟩) (hf:okFn P f=true) (hx:okOpds a.tmps.size xs.toList ys=true)
    (hs:(ys.all fun y=>plainArg (ev env y))=true) (hc:CallS P f (ys.map (ev env)) [] r m) (hbox:(m.all made)=true) (hr:ownishR r=true) :
    OpS P o a w fz mem ρ (shiftR mem.length r) (mem++m.map (shiftO mem.length)):=by
  refine opS_call (static_run ho hf) ((hc w fz [] (xs.map a.eval) (hm.nil hm.lt) (by rw [args_size he hx,List.length_map]) (fun j c u hcj hu=>?_)).mono fun e w' h=>?_)
  · rw [List.getElem?_map] at hcj
    obtain ⟨y,hy,rfl⟩:=Option.map_eq_some_iff.1 hcj
    have h1:=args_get he hx hy hu
    rw [List.all_eq_true] at hs
    have h2:=hs y (List.mem_of_getElem? hy)
    cases hv:ev env y<;>rw [hv] at h1 h2<;>simp [plainArg,scalar] at h2<;>cases h1 with|gr h1=>exact .gr h1
  · obtain ⟨u,fz',ρ',rfl,e1,e2,e3⟩:=h
    obtain ⟨g1,g2⟩:=hm.called e1 e2
    have hin:∀(n:Nat) (v:Value) (b:Nat),ρ'[n]?=some v→v.ownBlock=some b→w.heap.size≤b:=fun n v b hv hb=>by
      rcases e1.own n v b hv hb with ⟨k,u,h,_⟩|h
      · simp at h
      · exact h
    have hown:Ext w fz mem ρ w' fz' (mem++m.map (shiftO mem.length)) (ρ++ρ'):=by
      refine ⟨g1.os,g1.tape,g1.output,g1.size,g1.blk,g1.fzblk,g1.sub,g1.new,fun n ob hob=>?_,fun n v b hv hb=>?_⟩
      · have hn:=(List.getElem?_eq_some_iff.1 hob).1
        refine ⟨ob,by rw [List.getElem?_append_left hn];exact hob,Nat.le_refl _,fun _=>⟨?_,rfl⟩,rfl,rfl⟩
        rw [List.getElem?_append_left (by rw [hm.len];exact hn)]
      · rw [List.getElem?_append] at hv
        split at hv
        · exact .inl ⟨n,v,hv,hb⟩
        · exact .inr (hin _ v b hv hb)
    have hM:=mem_append (B:=w.heap.size) g2 e2 hbox (fun n v b hv hb=>hm.blk_lt hv hb) hin
    exact ⟨u,fz',_,rfl,hown,hM,shiftR_rep g2.len e3 hr⟩
theorem op_callZ (hm:Mem w fz mem ρ) (he:EnvR w fz mem ρ env a) {f:Nat} {xs:Array Operand} {ts:Array TypeId} {ys:List Opd} {as:List AV} {r r':AV} {m:List AObj} (ho:o.op=.call ⟨.value (.func f),xs,ts⟩) (hf:okFn P f=true) (hx:okOpds a.tmps.size xs.toList ys=true)
    (hs:ys.mapM (fun y=>snap mem 10 (ev env y))=some as) (hc:CallS P f as [] r m) (hr:snap m 10 r=some r') :
    OpS P o a w fz mem ρ r' (freeze (ys.flatMap fun y=>refs mem 10 (ev env y)) mem):=by
  obtain ⟨h1,h2⟩:=mapM_spec hs
  obtain ⟨f1,f2⟩:=hm.freeze (ys.flatMap fun y=>refs mem 10 (ev env y))
  refine opS_call (static_run ho hf) ((hc w (frzOf fz ρ (ys.flatMap fun y=>refs mem 10 (ev env y))) [] (xs.map a.eval) (f2.nil f2.lt) (by rw [args_size he hx,h1]) (fun j c u hcj hu=>?_)).mono fun e w' h=>?_)
  · obtain ⟨y,hy,hsy⟩:=h2 j c hcj
    exact .gr ((snap_rg hm (fun b hb=>.inl hb) 10).1 _ c u hsy (args_get he hx hy hu) (fun n hn u b hu hb=>.inr ⟨n,List.mem_flatMap.2 ⟨y,List.mem_of_getElem? hy,hn⟩,u,hu,hb⟩))
  · obtain ⟨u,fz',ρ',rfl,e1,e2,e3⟩:=h
    have hin:∀(n:Nat) (v:Value) (b:Nat),ρ'[n]?=some v→v.ownBlock=some b→w.heap.size≤b:=fun n v b hv hb=>by
      rcases e1.own n v b hv hb with ⟨k,u,h,_⟩|h
      · simp at h
      · exact h
    have e1':Ext w (frzOf fz ρ (ys.flatMap fun y=>refs mem 10 (ev env y))) [] [] w' (frzAll fz' ρ') [] []:=by
      refine ⟨e1.os,e1.tape,e1.output,e1.size,e1.blk,e1.fzblk,fun b hb=>.inl (e1.sub b hb),fun b hb=>?_,fun n o h=>by simp at h,fun n v b h=>by simp at h⟩
      rcases hb with hb|⟨n,v,hv,hb⟩
      · exact e1.new b hb
      · exact .inr (.inl (hin n v b hv hb))
    obtain ⟨g1,g2⟩:=f2.called e1' (e2.nil (frzAll_lt e2))
    refine ⟨u,_,ρ,rfl,f1.trans g1,g2,.gr ((snap_rg e2 (fun b hb=>.inl hb) 10).1 _ r' u hr e3 (fun n _ u b hu hb=>.inr ⟨n,u,hu,hb⟩))⟩
end
end Go.V

namespace Go.V
open Go
section
variable {P:Program} {w:World} {fz:Nat→Prop} {mem:List AObj} {ρ:List Value} {env:Env} {a:Act} {o:Oper}
theorem bslB_parts (hm:Mem w fz mem ρ) (he:EnvR w fz mem ρ env a) {sz:Nat}:∀(ps:List (Nat × Operand)) (ys:List Opd) (k:Nat) (css:List (List AV)),okSeq a.tmps.size k ps ys=true→
    ys.mapM (fun x=>(cellsOf (ev env x)).bind fun cs=>if cs.length=sz then some cs else none)=some css→
    ∃ vs:List Value,vs.length=ys.length*sz∧vs.length=css.flatten.length∧(∀u∈vs,u.oneCell'=true)∧(∀(j:Nat) (c:AV) (u:Value),css.flatten[j]?=some c→vs[j]?=some u→Rep w fz mem ρ c u)∧
      ∀ (cells:Array Value),(k+ys.length)*sz≤cells.size→∃cells':Array Value,Instr.fill (fun i=>some (i*sz,sz)) cells (ps.map fun p=>(p.1,a.eval p.2))=some cells'∧cells'.size=cells.size∧
        cells'.toList=cells.toList.take (k*sz)++vs++cells.toList.drop ((k+ys.length)*sz)
  | [],[],k,css,_,h=>by
    simp only [List.mapM_nil,Option.pure_def,Option.some.injEq] at h
    subst h
    exact ⟨[],by simp,rfl,fun u hu=>(by simp at hu),fun j c u hc=>(by simp at hc),fun cells hc=>⟨cells,rfl,rfl,by simp⟩⟩
  | (i,x)::ps,y::ys,k,css,hp,h=>by
    simp only [okSeq,Bool.and_eq_true,beq_iff_eq] at hp
    obtain ⟨⟨rfl,hx⟩,hps⟩:=hp
    rw [List.mapM_cons] at h
    cases hcy:cellsOf (ev env y) with
    | none=>simp [hcy] at h
    | some cs=>
      simp only [hcy,Option.bind_some] at h
      by_cases hsz:cs.length=sz
      · rw [if_pos hsz] at h
        cases hr:ys.mapM (fun x=>(cellsOf (ev env x)).bind fun cs=>if cs.length=sz then some cs else none) with
        | none=>simp [hr] at h
        | some css'=>
          simp [hr] at h
          subst h
          obtain ⟨vs,h1,h2,h3,h4,h5⟩:=bslB_parts hm he ps ys (i+1) css' hps hr
          obtain ⟨g1,g2,g3⟩:=rep_cells (opd_rep he hx) hcy
          have hul:(a.eval x).cells.toList.length=sz:=by simpa [hsz] using g1
          refine ⟨(a.eval x).cells.toList++vs,by rw [List.length_append,hul,h1,List.length_cons,Nat.add_mul];omega,by rw [List.flatten_cons,List.length_append,List.length_append,hul,hsz,h2],fun u hu=>?_,fun j c u hc hu=>?_,fun cells hcells=>?_⟩
          · rcases List.mem_append.1 hu with hu|hu
            · exact g2 u hu
            · exact h3 u hu
          · rw [List.flatten_cons,List.getElem?_append] at hc
            rw [List.getElem?_append] at hu
            split at hu
            · rename_i hj
              rw [if_pos (by omega)] at hc
              exact g3 j c u hc (by simpa using hu)
            · rename_i hj
              rw [if_neg (by omega)] at hc
              rw [hul] at hu
              rw [hsz] at hc
              exact h4 _ c u hc hu
          · have hle:i*sz+sz≤cells.size:=by
              have:(i+1)*sz≤(i+(y::ys).length)*sz:=Nat.mul_le_mul_right _ (by simp)
              rw [Nat.add_mul,Nat.one_mul] at this
              omega
            have hstep:=fill_step (a.eval x) (i*sz) cells (by rw [g1,hsz];exact hle)
            generalize hnew:(a.eval x).cells.zipIdx.foldl (fun cs (p:Value × Nat)=>cs.setIfInBounds (i*sz+p.2) p.1) cells=cells2 at hstep
            have hlen2:cells2.size=cells.size:=by
              have:=congrArg List.length hstep
              simp only [Array.length_toList,List.length_append,List.length_take,List.length_drop] at this
              omega
            obtain ⟨cells',k1,k2,k3⟩:=h5 cells2 (by rw [hlen2];simpa [Nat.add_assoc,Nat.add_comm 1] using hcells)
            refine ⟨cells',?_,by rw [k2,hlen2],?_⟩
            · simp only [List.map_cons,Instr.fill]
              rw [if_neg (by simp [g1,hsz];omega),hnew]
              exact k1
            · rw [k3,hstep,g1,hsz]
              have e1:(i+1)*sz=i*sz+sz:=by rw [Nat.add_mul,Nat.one_mul]
              have e2:(i+1+ys.length)*sz=(i+(y::ys).length)*sz:=by rw [List.length_cons];congr 1;omega
              have e3:i*sz+sz≤(i+(y::ys).length)*sz:=by
                rw [←e1];exact Nat.mul_le_mul_right _ (by simp)
              rw [e2,e1]
              have hl1:(cells.toList.take (i*sz)).length=i*sz:=by simp;omega
              have htk:(cells.toList.take (i*sz)++(a.eval x).cells.toList++cells.toList.drop (i*sz+sz)).take (i*sz+sz)=cells.toList.take (i*sz)++(a.eval x).cells.toList:=by
                rw [List.take_left' (by rw [List.length_append,hl1,hul])]
              have hdr:(cells.toList.take (i*sz)++(a.eval x).cells.toList++cells.toList.drop (i*sz+sz)).drop ((i+(y::ys).length)*sz)=cells.toList.drop ((i+(y::ys).length)*sz):=by
                rw [List.drop_append,List.drop_eq_nil_of_le (by rw [List.length_append,hl1,hul];exact e3),List.nil_append,List.length_append,hl1,hul,List.drop_drop]
                congr 1
                omega
              rw [htk,hdr]
              simp only [List.append_assoc]
      · rw [if_neg hsz] at h
        simp at h
  | [],_::_,_,_,hp,_=>by simp [okSeq] at hp
  | _::_,[],_,_,hp,_=>by simp [okSeq] at hp
theorem build_run {t ty:TypeId} {i:TypeInfo} {z:Value} {n:Nat} {ps:Array (Nat × Operand)} {vs:List Value} (ht:P.underlying t=some (.slice ty)) (hi:P.info? ty=some i) (hz:i.zero=some z) (hmax:n*i.size≤16777216) (h1:vs.length=n*i.size)
    (h5 : ∀(cells:Array Value),(0+n)*i.size≤cells.size→∃cells':Array Value,Instr.fill (fun k=>some (k*i.size,i.size)) cells (ps.toList.map fun p=>(p.1,a.eval p.2))=some cells'∧cells'.size=cells.size∧
        cells'.toList=cells.toList.take (0*i.size)++vs++cells.toList.drop ((0+n)*i.size)) :
    ∃cells':Array Value,cells'.toList=vs∧(Instr.buildSlice t n (ps.map fun p=>(p.1,a.eval p.2))).run P w=.ok (.slice (some ⟨w.heap.size,0,none⟩) n n) (w.alloc (.cells cells' ty)):=by
  have hmap:(ps.map fun p=>(p.1,a.eval p.2)).toList=ps.toList.map fun p=>(p.1,a.eval p.2):=by simp
  by_cases h0:n*i.size=0
  · obtain ⟨cells',k1,k2,k3⟩:=h5 ((Array.range (n*i.size)).map ((#[]:Array Value)[· % (#[]:Array Value).size]!)) (by simp)
    refine ⟨cells',?_,?_⟩
    · rw [k3];simp
    · simp only [Instr.buildSlice,Sem.run_bind,run_underlying ht,Result.andThen_ok,sizeOf,typeInfo,run_program,hi,Sem.run_pure]
      rw [if_neg (by omega)]
      rw [if_pos h0]
      simp only [Sem.run_pure,Result.andThen_ok,hmap,k1,newRow,Sem.run_bind]
      simp
  · obtain ⟨cells',k1,k2,k3⟩:=h5 ((Array.range (n*i.size)).map (z.cells[· % z.cells.size]!)) (by simp)
    refine ⟨cells',?_,?_⟩
    · rw [k3];simp
    · simp only [Instr.buildSlice,Sem.run_bind,run_underlying ht,Result.andThen_ok,sizeOf,typeInfo,run_program,hi,Sem.run_pure]
      rw [if_neg (by omega)]
      rw [if_neg h0]
      simp only [zeroValue,typeInfo,Sem.run_bind,run_program,Result.andThen_ok,hi,hz,Sem.run_pure,hmap,k1,newRow]
      simp
theorem op_bslB (hm:Mem w fz mem ρ) (he:EnvR w fz mem ρ env a) {t ty:TypeId} {i:TypeInfo} {z:Value} {len sz:Nat} {ps:Array (Nat × Operand)} {ys:List Opd} (ho:o.op=.buildSlice t len ps) (hp:okSeq a.tmps.size 0 ps.toList ys=true) (hlen:ys.length=len)
    (ht:P.underlying t=some (.slice ty)) (hi:P.info? ty=some i) (hz:i.zero=some z) (hs:i.size=sz) (hpos:0<sz) (hmax:len*sz≤16777216)
    {v:AV} {m:List AObj} (h:evalOp mem (ev env) (.bslB ty sz ys)=some (v,m)):MemOut P o a w fz mem ρ v m:=by
  subst hs;subst hlen
  simp only [evalOp] at h
  split at h
  · rename_i css hcss
    simp only [Option.some.injEq,Prod.mk.injEq] at h
    obtain ⟨rfl,rfl⟩:=h
    obtain ⟨vs,h1,h2,h3,h4,h5⟩:=bslB_parts hm he ps.toList ys 0 css hp hcss
    obtain ⟨cells',k1,k2⟩:=build_run (w:=w) ht hi hz hmax h1 h5
    have hrow:=World.ownsRow_lit (base:=0) (e:=ty) (size:=i.size) w cells' ys.length (Nat.zero_le _) (by
      have:ys.length≤ys.length*i.size:=Nat.le_mul_of_pos_right _ hpos
      simp only [maxLen];omega) (by rw [←Array.length_toList,k1,h1])
    rw [k1] at hrow
    obtain ⟨g1,g2⟩:=hm.push (Old.alloc w (.cells cells' ty)) ⟨true,ty,i.size,0,ys.length,css.flatten,false⟩ (.slice (some ⟨w.heap.size,0,none⟩) ys.length ys.length) rfl hpos (fun b hb=>by simp [Value.ownBlock] at hb;omega)
      ⟨vs,hrow,h2,h3,fun j c u hc hu=>by simpa using h4 j c u hc hu⟩
    refine ⟨.slice (some ⟨w.heap.size,0,none⟩) ys.length ys.length,w.alloc (.cells cells' ty),fz,_,.inl (by simp only [execOp,ho,Sem.run_bind,k2,Result.andThen_ok,Sem.run_pure]),g1,g2,.arr (o:=⟨true,ty,i.size,0,ys.length,css.flatten,false⟩) (by simp) (Nat.le_refl _) rfl (fun _=>?_)⟩
    rw [←hm.len]
    simp
  · cases h
theorem op_mkB (hm:Mem w fz mem ρ) (he:EnvR w fz mem ρ env a) {t ty:TypeId} {i:TypeInfo} {z:Value} {x y:Operand} {x':Opd} {bytes ty' sz':Nat} (ho:o.op=.makeSlice t x y) (hx:okOpd a.tmps.size x x'=true) (hy:okOpd a.tmps.size y x'=true)
    (ht:P.underlying t=some (.slice ty)) (hi:P.info? ty=some i) (hz:i.zero=some z) (hb:i.bytes=bytes) (hs:i.size=1) (hc:okCells z.cells.toList [.nilsl ty' sz']=true)
    {v:AV} {m:List AObj} (h:evalOp mem (ev env) (.mkB ty bytes ty' sz' x')=some (v,m)):MemOut P o a w fz mem ρ v m:=by
  subst hb
  have e1:=opd_rep he hx
  have e2:=opd_rep he hy
  simp only [evalOp] at h
  split at h
  · rename_i k n hn
    rw [hn] at e1 e2
    split at h
    · rename_i hcond
      obtain ⟨h0,hbn,h63⟩:=hcond
      simp only [Option.some.injEq,Prod.mk.injEq] at h
      obtain ⟨rfl,rfl⟩:=h
      obtain ⟨c1,c2,c3⟩:=okCells_spec (w:=w) (fz:=fz) hc
      obtain ⟨q,rfl⟩:=Int.eq_ofNat_of_zero_le h0
      simp only [Int.toNat_natCast] at hbn ⊢
      have hb':(i.bytes:Int)*(q:Int)≤281474976710656:=by
        have h:((i.bytes*q:Nat):Int)≤281474976710656:=by omega
        rwa [Int.natCast_mul] at h
      have hrun:=run_make (P:=P) w t ty i z ht hi hz k k q q h0 (Int.le_refl _) hb' (by omega)
      simp only [Int.toNat_natCast] at hrun
      have hzl:z.cells.size=1:=by simpa using c1
      have hrow:=World.ownsRow_lit (base:=0) (e:=ty) (size:=1) w (madeCells z.cells (q*i.size)) q (Nat.zero_le _) (by simp only [maxLen];omega) (by rw [size_madeCells,hs])
      have hsz:(madeCells z.cells (q*i.size)).toList.length=q:=by rw [Array.length_toList,size_madeCells,hs,Nat.mul_one]
      have hget:∀(j:Nat) (u:Value),(madeCells z.cells (q*i.size)).toList[j]?=some u→z.cells.toList[0]?=some u:=fun j u hu=>by
        have hlt:j<q*i.size:=by have:=(List.getElem?_eq_some_iff.1 hu).1;rw [hs,Nat.mul_one];omega
        rw [made_get (by omega) hlt,hzl,Nat.mod_one] at hu
        exact hu
      obtain ⟨ρ1,g1,g2,g3,g4⟩:=adopt_spec (List.replicate q (.nilsl ty' sz')) hm (madeCells z.cells (q*i.size)).toList (by rw [hsz,List.length_replicate]) (fun j c u hc' hu=>by
        have hcc:c=.nilsl ty' sz':=by
          have:=List.mem_of_getElem? hc'
          exact (List.mem_replicate.1 this).2
        subst hcc
        exact .gr (c3 0 _ u (by simp) (hget j u hu)))
      obtain ⟨k1,k2⟩:=g2.push (Old.alloc w (.cells (madeCells z.cells (q*i.size)) ty)) ⟨true,ty,1,0,q,(adopt (List.replicate q (.nilsl ty' sz')) mem).1,false⟩ (.slice (some ⟨w.heap.size,0,none⟩) q q) rfl Nat.zero_lt_one (fun b hb=>by simp [Value.ownBlock] at hb;omega)
        ⟨_,hrow,by rw [hsz,g3,List.length_replicate],fun u hu=>by
          obtain ⟨j,hj⟩:=List.mem_iff_getElem?.1 hu
          exact c2 u (List.mem_of_getElem? (hget j u hj)),fun j c u hc' hu=>by simpa using g4 j c u hc' hu⟩
      refine ⟨.slice (some ⟨w.heap.size,0,none⟩) q q,_,fz,_,.inl (by simp only [execOp,ho,rep_int e1,rep_int e2,Sem.run_bind,hrun,Result.andThen_ok,Sem.run_pure]),g1.trans k1,k2,.arr (o:=⟨true,ty,1,0,q,(adopt (List.replicate q (.nilsl ty' sz')) mem).1,false⟩) (by simp) (Nat.le_refl _) rfl (fun _=>?_)⟩
      rw [←g2.len]
      simp
    · cases h
  · cases h
theorem op_lenB (hm:Mem w fz mem ρ) (he:EnvR w fz mem ρ env a) {t e:TypeId} {x:Operand} {x':Opd} (ho:o.op=.call ⟨.builtin .len,#[x],#[t]⟩) (hx:okOpd a.tmps.size x x'=true)
    (ht:P.underlying t=some (.slice e)) {v:AV} {m:List AObj} (h:evalOp mem (ev env) (.lenB x')=some (v,m)):m=mem∧PureOut P o a w fz mem ρ v:=by
  have e1:=opd_rep he hx
  simp only [evalOp] at h
  split at h
  · rename_i n g hj
    rw [hj] at e1
    obtain ⟨ob,hob,h⟩:=Option.map_eq_some_iff.1 h
    simp only [Prod.mk.injEq] at h
    obtain ⟨rfl,rfl⟩:=h
    obtain ⟨g1,g2⟩:=rep_arr e1 hob
    obtain ⟨vs,h2,h3,h4,h5,h6,h7,h8⟩:=hm.rowAt (geto_some hob).1 g1
    have hv:∃A cap,a.eval x=.slice A ob.n cap:=by
      rcases Nat.eq_zero_or_pos ob.n with h0|h0
      · obtain ⟨A,cap,h9⟩:=h7 h0;exact ⟨A,cap,by rw [h9,h0]⟩
      · obtain ⟨b,cap,h9,_⟩:=h8 h0;exact ⟨_,cap,h9⟩
    obtain ⟨A,cap,hv⟩:=hv
    refine ⟨rfl,.int .i64 ob.n,?_,.gr .int⟩
    simp [execOp,ho,resolve,invoke,builtin,hv,Builtin.len_,run_underlying ht,goInt]
  · cases h
theorem op_appB (hm:Mem w fz mem ρ) (he:EnvR w fz mem ρ env a) {t e:TypeId} {i:TypeInfo} {z:Value} {x y:Operand} {x' y':Opd} {sz bytes:Nat} (ho:o.op=.call ⟨.builtin .append,#[x,y],#[t,t]⟩) (hx:okOpd a.tmps.size x x'=true) (hy:okOpd a.tmps.size y y'=true)
    (ht:P.underlying t=some (.slice e)) (hi:P.info? e=some i) (hz:i.zero=some z) (hzs:z.cells.size=i.size) (hs:i.size=sz) (hb:i.bytes=bytes) {v:AV} {m:List AObj} (h:evalOp mem (ev env) (.appB e sz bytes x' y')=some (v,m)):MemOut P o a w fz mem ρ v m:=by
  subst hs;subst hb
  have e1:=opd_rep he hx
  have e2:=opd_rep he hy
  simp only [evalOp] at h
  split at h
  · rename_i m' h' hy'
    rw [hy'] at e2
    split at h
    · rename_i p hp
      split at h
      · rename_i k g hk
        rw [hk] at e1
        split at h
        · rename_i ob hob
          split at h
          · rename_i hc
            obtain ⟨hbox,hfr,hosz,hpsz,hoty,hb1,hb2⟩:=hc
            simp only [Option.some.injEq,Prod.mk.injEq] at h
            obtain ⟨rfl,rfl⟩:=h
            obtain ⟨k1,k2⟩:=geto_some hob
            obtain ⟨r1,r2⟩:=rep_arr e1 hob
            obtain ⟨vs,h2,h3,h4,h5,h6,_,_⟩:=hm.rowAt k1 r1
            obtain ⟨s1,s2⟩:=rep_arr e2 hp
            obtain ⟨us,u0,u1,u5,u2,u3,u7,u8⟩:=hm.rowAt (geto_some hp).1 s1
            have hpos:=(hm.obj k ob _ k1 r1).pos
            have hex:∃(A:Option Addr) (cap:Nat),a.eval y=.slice A p.n cap∧(p.n=0∨∃b q,A=some ⟨b,q,none⟩∧∀(j:Nat) (u:Value),us[j]?=some u→w.cell? ⟨b,q+j,none⟩=some u):=by
              rcases Nat.eq_zero_or_pos p.n with h0|h0
              · obtain ⟨A,cap,h9⟩:=u7 h0;exact ⟨A,cap,by rw [h9,h0],.inl h0⟩
              · obtain ⟨b,cap,h9,_,h10⟩:=u8 h0;exact ⟨_,cap,h9,.inr ⟨b,0,rfl,fun j u hu=>by rw [Nat.zero_add];exact h10 j u hu⟩⟩
            obtain ⟨A,cap,q1,u4⟩:=hex
            rw [hoty,hosz] at h2
            obtain ⟨v',w',g1,g2,g3,g4,g5⟩:=append_run (P:=P) (ty:=o.type) (c:=cap) ht hi hz hzs (by rw [←hosz];exact hpos) h2 (news:=us) (by rw [u1,u5,hpsz]) u4 u2 hb1 hb2
            obtain ⟨c1,c2⟩:=hm.write (o2:={ ob with g:=g+1,n:=ob.n+p.n,cs:=ob.cs++p.cs }) k1 r1 g3 hfr hfr rfl rfl (by simp only [];omega) (fun hh=>absurd hh (by simp only [];omega))
              (fun b hb=>by
                rcases g4 with g4|g4
                · exact .inl (by rw [←g4];exact hb)
                · rw [g4] at hb;exact .inr (by have:=Option.some.inj hb;omega))
              ⟨vs++us,by simpa only [hoty,hosz] using g2,by simp [h3,u1],fun u hu=>by
                rcases List.mem_append.1 hu with hu|hu
                · exact h5 u hu
                · exact u2 u hu,fun j c u hc hu=>by
                simp only [hbox,if_true]
                rw [List.getElem?_append] at hc hu
                split at hu
                · rename_i hj
                  rw [if_pos (by omega)] at hc
                  have:=h6 j c u hc hu
                  simpa only [hbox,if_true] using this
                · rename_i hj
                  rw [if_neg (by omega)] at hc
                  rw [h3] at hu
                  have:=u3 _ c u hc hu
                  split at this
                  · exact this
                  · exact .gr this⟩
            have hlt:=(List.getElem?_eq_some_iff.1 k1).1
            refine ⟨v',w',fz,_,.inl ?_,c1,c2,.arr (o:={ ob with g:=g+1,n:=ob.n+p.n,cs:=ob.cs++p.cs }) (by simp [hlt]) (Nat.le_refl _) g5 (fun _=>by simp [show k<ρ.length by rw [hm.len];exact hlt])⟩
            simp [execOp,ho,resolve,invoke,builtin,q1,g1]
          · cases h
        · cases h
      · cases h
    · cases h
  · cases h
theorem appA_app {e:Opd→AV} {js:List Nat} {ty sz bytes:Nat} {x y:Opd} {v:AV} {m:List AObj} (h:evalOp mem e (.appA js ty sz bytes x y)=some (v,m)):evalOp mem e (.app ty sz bytes x y)=some (v,m):=by
  simp only [evalOp] at h ⊢
  split at h
  · rename_i mm sz' ds hy
    rw [hy]
    simp only [rowOf]
    split at h
    · rename_i hsz
      rw [if_pos hsz]
      split at h
      · rename_i k g hk
        split at h
        · exact h
        · cases h
      · cases h
    · cases h
  · cases h
theorem ldb_ld {e:Opd→AV} {agg:Bool} {n:Nat} {x:Opd} {v:AV} {m:List AObj} (h:evalOp mem e (.ldb agg n x)=some (v,m)):evalOp mem e (.ld agg n x)=some (v,m):=by
  simp only [evalOp] at h ⊢
  split at h
  · exact h
  · split at h
    · split at h
      · exact h
      · cases h
    · cases h
  · cases h
theorem faddrb_faddr {e:Opd→AV} {off:Nat} {x:Opd} {v:AV} {m:List AObj} (h:evalOp mem e (.faddrb off x)=some (v,m)):evalOp mem e (.faddr off x)=some (v,m):=by
  simp only [evalOp] at h ⊢
  split at h
  · exact h
  · split at h
    · rename_i o ho
      rw [ho]
      split at h
      · simpa using h
      · cases h
    · cases h
  · cases h
theorem setAside (hm:Mem w fz mem ρ) {j g:Nat} {ob:AObj} (hob:geto mem j g=some ob) (hfr:ob.fr=false) {cells:Array Value} {ty n:Nat} (ob2:AObj) (hty:ob2.ty=ob.ty) (hsz:ob2.sz=ob.sz) (hbox:ob2.box=ob.box) (hg:ob2.g=ob.g+1) (hfr2:ob2.fr=false) (hn:ob2.n=n) (hte:ob.ty=ty)
    (hnl:n≤maxLen) (hcl:cells.size=n*ob.sz) (hlc:cells.size=ob2.cs.length) (h1:∀u∈cells.toList,u.oneCell'=true) (h2:∀(j:Nat) (c:AV) (u:Value),ob2.cs[j]?=some c→cells[j]?=some u→RG w fz c u) :
    j<mem.length∧Ext w fz mem ρ (w.alloc (.cells cells ty)) fz (mem.set j ob2) (ρ.set j (.slice (some ⟨w.heap.size,0,none⟩) n n))∧Mem (w.alloc (.cells cells ty)) fz (mem.set j ob2) (ρ.set j (.slice (some ⟨w.heap.size,0,none⟩) n n)):=by
  obtain ⟨k1,k2⟩:=geto_some hob
  have hlt:=(List.getElem?_eq_some_iff.1 k1).1
  have hlr:j<ρ.length:=by rw [hm.len];exact hlt
  have hr:ρ[j]?=some ρ[j]:=by simp [hlr]
  refine ⟨hlt,hm.write (o2:=ob2) k1 hr ⟨rfl,rfl,rfl,by simp,fun b hb _=>heap_alloc_old w _ b hb⟩ hfr hfr2 hsz hbox (by omega) (fun hh=>absurd hh (by omega)) (fun b hb=>by simp [Value.ownBlock] at hb;exact .inr (by omega)) ?_⟩
  rw [hty,hsz,hn,hte]
  refine ⟨cells.toList,World.ownsRow_lit w cells n (Nat.zero_le _) hnl hcl,by simpa using hlc,h1,fun j c u hc hu=>?_⟩
  have:=h2 j c u hc (by simpa using hu)
  split
  · exact .gr this
  · exact this
theorem op_allocA (hm:Mem w fz mem ρ) {ty:TypeId} {cs:List AV} {i:TypeInfo} {z:Value} {js:List Nat} {j:Nat} (ho:o.op=.alloc ty) (hi:P.info? ty=some i) (hz:i.zero=some z) (hc:okCells z.cells.toList cs=true) (hpos:0<cs.length)
    {v:AV} {m:List AObj} (h:evalOp mem (ev env) (.allocA js j ty cs)=some (v,m)):MemOut P o a w fz mem ρ v m:=by
  simp only [evalOp] at h
  split at h
  · split at h
    · rename_i ob hob
      split at h
      · rename_i hcc
        obtain ⟨hb,hfr,hn,hsz,hty⟩:=hcc
        simp only [Option.some.injEq,Prod.mk.injEq] at h
        obtain ⟨rfl,rfl⟩:=h
        obtain ⟨h1,h2,h3⟩:=okCells_spec (w:=w) (fz:=fz) hc
        have hg:=(geto_some hob).2
        obtain ⟨g0,g1,g2⟩:=setAside hm hob hfr (cells:=z.cells) (ty:=ty) (n:=1) { ob with g:=1,n:=1,cs:=cs } rfl rfl rfl (by simp only [hg]) hfr rfl hty (by simp [maxLen]) (by simpa [hsz] using h1) (by simpa using h1) h2 (fun j c u hc hu=>h3 j c u hc (by simpa using hu))
        refine ⟨.pointer (some ⟨w.heap.size,0,none⟩),w.alloc (.cells z.cells ty),fz,_,.inl ?_,g1,g2,.loc (o:={ ob with g:=1,n:=1,cs:=cs }) (by simp [g0]) (Nat.le_refl _) rfl (fun _=>⟨w.heap.size,1,1,?_,rfl⟩)⟩
        · simp [execOp,ho,Instr.alloc,zeroValue,typeInfo,hi,hz,newVar,newRow]
        · simp [show j<ρ.length by rw [hm.len];exact g0]
      · cases h
    · cases h
  · cases h
theorem op_bslA (hm:Mem w fz mem ρ) {t ty:TypeId} {i:TypeInfo} {z:Value} {len sz:Nat} {ps:Array (Nat × Operand)} {js:List Nat} {j N:Nat} (ho:o.op=.buildSlice t len ps) (hp:okSeq N 0 ps.toList []=true) (hlen:len=0)
    (ht:P.underlying t=some (.slice ty)) (hi:P.info? ty=some i) (hz:i.zero=some z) (hs:i.size=sz) (hpos:0<sz)
    {v:AV} {m:List AObj} (h:evalOp mem (ev env) (.bslA js j ty sz)=some (v,m)):MemOut P o a w fz mem ρ v m:=by
  subst hs;subst hlen
  simp only [evalOp] at h
  split at h
  · split at h
    · rename_i ob hob
      split at h
      · rename_i hcc
        obtain ⟨hb,hfr,hn,hsz,hty⟩:=hcc
        simp only [Option.some.injEq,Prod.mk.injEq] at h
        obtain ⟨rfl,rfl⟩:=h
        have hps:ps.toList=[]:=by
          cases hq:ps.toList with
          | nil=>rfl
          | cons p qs=>rw [hq] at hp;simp [okSeq] at hp
        obtain ⟨cells',k1,k2⟩:=build_run (w:=w) (a:=a) (n:=0) (ps:=ps) (vs:=[]) ht hi hz (by simp) (by simp) (fun cells hc=>⟨cells,by rw [hps];rfl,rfl,by simp⟩)
        have hg:=(geto_some hob).2
        have hsz0:cells'.size=0:=by rw [←Array.length_toList,k1];rfl
        obtain ⟨g0,g1,g2⟩:=setAside hm hob hfr (cells:=cells') (ty:=ty) (n:=0) { ob with g:=1,n:=0,cs:=[] } rfl rfl rfl (by simp only [hg]) hfr rfl hty (by simp) (by simp [hsz0]) (by simpa using hsz0) (fun u hu=>by rw [k1] at hu;cases hu) (fun j c u hc hu=>by simp at hc)
        refine ⟨.slice (some ⟨w.heap.size,0,none⟩) 0 0,w.alloc (.cells cells' ty),fz,_,.inl (by simp only [execOp,ho,Sem.run_bind,k2,Result.andThen_ok,Sem.run_pure]),g1,g2,.arr (o:={ ob with g:=1,n:=0,cs:=[] }) (by simp [g0]) (Nat.le_refl _) rfl (fun _=>?_)⟩
        simp [show j<ρ.length by rw [hm.len];exact g0]
      · cases h
    · cases h
  · cases h
end
end Go.V

namespace Go.V
open Go
def okOptB (N:Nat):Option Operand→Option Opd→Bool
  | none,none=>true
  | some y,some y'=>okOpd N y y'
  | _,_=>false
theorem okOptB_spec {N:Nat} {x:Option Operand} {y:Option Opd} (h:okOptB N x y=true):okOpt N x y:=by
  cases x<;>cases y<;>simp [okOptB,okOpt] at h ⊢
  exact h
def okSl (P:Program) (t:TypeId) (e sz:Nat):Bool:=
  match P.underlying t with
  | some (.slice e')=>e'==e&&(match P.info? e with|some i=>i.size==sz|none=>false)
  | _=>false
theorem okSl_spec {P:Program} {t:TypeId} {e sz:Nat} (h:okSl P t e sz=true):P.underlying t=some (.slice e)∧∃i,P.info? e=some i∧i.size=sz:=by
  unfold okSl at h
  split at h
  · rename_i e' he
    simp only [Bool.and_eq_true,beq_iff_eq] at h
    obtain ⟨rfl,h⟩:=h
    split at h
    · rename_i i hi;exact ⟨he,i,hi,by simpa using h⟩
    · cases h
  · cases h
def slElem (P:Program) (t:TypeId):Nat:=match P.underlying t with|some (.slice e)=>e|_=>0
def okBytes (P:Program) (e bytes:Nat):Bool:=match P.info? e with|some i=>i.bytes==bytes|none=>false
def okZero (P:Program) (e:Nat) (cs:List AV):Bool:=
  match P.info? e with
  | some i=>(match i.zero with|some z=>okCells z.cells.toList cs|none=>false)
  | none=>false
def hasZero (P:Program) (e:Nat):Bool:=
  match P.info? e with
  | some i=>(match i.zero with|some z=>z.cells.size==i.size|none=>false)
  | none=>false
theorem okBytes_spec {P:Program} {e bytes:Nat} (h:okBytes P e bytes=true) {i:TypeInfo} (hi:P.info? e=some i):i.bytes=bytes:=by
  simp only [okBytes,hi] at h;simpa using h
theorem okZero_spec {P:Program} {e:Nat} {cs:List AV} (h:okZero P e cs=true):∃i z,P.info? e=some i∧i.zero=some z∧okCells z.cells.toList cs=true:=by
  unfold okZero at h
  split at h
  · rename_i i hi
    split at h
    · rename_i z hz;exact ⟨i,z,hi,hz,h⟩
    · cases h
  · cases h
theorem hasZero_spec {P:Program} {e:Nat} (h:hasZero P e=true):∃i z,P.info? e=some i∧i.zero=some z∧z.cells.size=i.size:=by
  unfold hasZero at h
  split at h
  · rename_i i hi
    split at h
    · rename_i z hz;exact ⟨i,z,hi,hz,by simpa using h⟩
    · cases h
  · cases h
def okIO (P:Program) (N:Nat) (op:Op):MOp→Bool
  | .bad=>true
  | .mov x=>match op with|.move y=>okOpd N y x|.assign y=>okOpd N y x|_=>false
  | .newnil ty sz=>match op with|.move y=>okOpd N y (.k (.nilsl ty sz))|.assign y=>okOpd N y (.k (.nilsl ty sz))|_=>false
  | .pick c a b=>match op with|.pick c' a' b'=>okOpd N c' c&&okOpd N a' a&&okOpd N b' b|_=>false
  | .alloc ty cs=>match op with|.alloc t=>t==ty&&okZero P ty cs&&decide (0<cs.length)|_=>false
  | .box ty n x=>match op with|.box t y=>t==ty&&okOpd N y x&&decide (0<n)|_=>false
  | .build zero parts=>match op with
    | .build t ps=>okZero P t zero&&(match P.underlying t with
      | some (.struct fs)=>fs.all (fun f=>(P.info? f.type).isSome)&&okParts P N fs ps.toList parts
      | _=>false)
    | _=>false
  | .bsl ty sz xs=>match op with
    | .buildSlice t len ps=>okSl P t ty sz&&hasZero P ty&&okSeq N 0 ps.toList xs&&xs.length==len&&decide (0<sz)&&decide (len*sz≤16777216)
    | _=>false
  | .bslF ty sz xs=>match op with
    | .buildSlice t len ps=>okSl P t ty sz&&hasZero P ty&&okSeq N 0 ps.toList xs&&xs.length==len&&decide (0<sz)&&decide (len*sz≤16777216)
    | _=>false
  | .newnilB ty sz=>match op with|.move y=>okOpd N y (.k (.nilsl ty sz))|.assign y=>okOpd N y (.k (.nilsl ty sz))|_=>false
  | .bslB ty sz xs=>match op with
    | .buildSlice t len ps=>okSl P t ty sz&&hasZero P ty&&okSeq N 0 ps.toList xs&&xs.length==len&&decide (0<sz)&&decide (len*sz≤16777216)
    | _=>false
  | .lenB x=>match op with|.call ⟨.builtin .len,⟨[y]⟩,⟨[t]⟩⟩=>okOpd N y x&&(match P.underlying t with|some (.slice _)=>true|_=>false)|_=>false
  | .appB ty sz bytes s x=>match op with
    | .call ⟨.builtin .append,⟨[s',x']⟩,⟨[t,t']⟩⟩=>t==t'&&okOpd N s' s&&okOpd N x' x&&okSl P t ty sz&&okBytes P ty bytes&&hasZero P ty
    | _=>false
  | .ldb agg n x=>match op with|.load t y=>okOpd N y x&&okTy P t agg n|_=>false
  | .faddrb off x=>match op with
    | .fieldAddr s y k=>okOpd N y x&&(match P.underlying s with
      | some (.struct fs)=>(match fs[k]? with|some f=>f.offset==off&&(match P.info? f.type with|some i=>i.size != 0|none=>false)|none=>false)
      | _=>false)
    | _=>false
  | .allocA _ _ ty cs=>match op with|.alloc t=>t==ty&&okZero P ty cs&&decide (0<cs.length)|_=>false
  | .bslA _ _ ty sz=>match op with
    | .buildSlice t len ps=>okSl P t ty sz&&hasZero P ty&&okSeq N 0 ps.toList []&&len==0&&decide (0<sz)
    | _=>false
  | .appA _ ty sz bytes s x=>match op with
    | .call ⟨.builtin .append,⟨[s',x']⟩,⟨[t,t']⟩⟩=>t==t'&&okOpd N s' s&&okOpd N x' x&&okSl P t ty sz&&okBytes P ty bytes&&hasZero P ty
    | _=>false
  | .ldf agg n x=>match op with|.load t y=>okOpd N y x&&okTy P t agg n|_=>false
  | .ld agg n x=>match op with|.load t y=>okOpd N y x&&okTy P t agg n|_=>false
  | .st n a x=>match op with|.store t a' x'=>okOpd N a' a&&okOpd N x' x&&(match P.info? t with|some i=>i.size==n|none=>false)|_=>false
  | .sta _ n a x=>match op with|.store t a' x'=>okOpd N a' a&&okOpd N x' x&&(match P.info? t with|some i=>i.size==n|none=>false)|_=>false
  | .nilchk x=>match op with|.nilCheck y=>okOpd N y x|_=>false
  | .bin b x y=>match op with|.binOp b' _ x' y' _=>okBin b' b&&okOpd N x' x&&okOpd N y' y|_=>false
  | .binb b x y=>match op with|.binOp b' t x' y' _=>okBin b' b&&okOpd N x' x&&okOpd N y' y&&(match P.underlying t with|some .bool=>true|_=>false)|_=>false
  | .bins b sig x y=>match op with|.binOp b' t x' y' _=>okBin b' b&&okOpd N x' x&&okOpd N y' y&&okStruct P t sig|_=>false
  | .binp b x y=>match op with|.binOp b' t x' y' _=>okBin b' b&&okOpd N x' x&&okOpd N y' y&&(match P.underlying t with|some (.pointer _)=>true|_=>false)|_=>false
  | .neg x=>match op with|.unOp .neg _ y=>okOpd N y x|_=>false
  | .com x=>match op with|.unOp .xor _ y=>okOpd N y x|_=>false
  | .not x=>match op with|.unOp .not _ y=>okOpd N y x|_=>false
  | .conv k x=>match op with|.convert s t y=>okOpd N y x&&(P.underlying s).isSome&&(match P.underlying t with|some (.int k')=>k'==k|_=>false)|_=>false
  | .mk ty bytes zero x=>match op with
    | .makeSlice t y z=>okOpd N y x&&okOpd N z x&&okSl P t ty zero.length&&okBytes P ty bytes&&okZero P ty zero&&decide (0<zero.length)
    | _=>false
  | .mk0 ty sz bytes x=>match op with
    | .makeSlice t y z=>okOpd N y (.k (.int .i64 0))&&okOpd N z x&&okSl P t ty sz&&okBytes P ty bytes&&hasZero P ty&&decide (0<sz)
    | _=>false
  | .mkB ty bytes ty' sz' x=>match op with
    | .makeSlice t y z=>okOpd N y x&&okOpd N z x&&okSl P t ty 1&&okBytes P ty bytes&&okZero P ty [.nilsl ty' sz']
    | _=>false
  | .s2b x=>match op with
    | .convert s t y=>okOpd N y x&&(P.underlying s).isSome&&(match P.underlying t with|some (.slice e)=>(match P.underlying e with|some (.int .u8)=>true|_=>false)|_=>false)
    | _=>false
  | .b2s x=>match op with
    | .convert s t y=>okOpd N y x&&(match P.underlying t with|some .string=>true|_=>false)&&(match P.underlying s with|some (.slice e)=>(match P.underlying e with|some (.int .u8)=>true|_=>false)|_=>false)
    | _=>false
  | .cpy sz d x=>match op with
    | .call ⟨.builtin .copy,⟨[d',x']⟩,ts⟩=>okOpd N d' d&&okOpd N x' x&&(match ts[0]? with|some t=>okSl P t (slElem P t) sz|none=>false)
    | _=>false
  | .cut sz x lo hi=>match op with
    | .slice t y lo' hi' none=>okOpd N y x&&okOptB N lo' lo&&okOptB N hi' hi&&okSl P t (slElem P t) sz
    | _=>false
  | .faddr off x=>match op with
    | .fieldAddr s y k=>okOpd N y x&&(match P.underlying s with
      | some (.struct fs)=>(match fs[k]? with|some f=>f.offset==off&&(match P.info? f.type with|some i=>i.size != 0|none=>false)|none=>false)
      | _=>false)
    | _=>false
  | .fld agg off n x=>match op with
    | .field s y k=>okOpd N y x&&(match P.underlying s with
      | some (.struct fs)=>(match fs[k]? with|some f=>f.offset==off&&okTy P f.type agg n|none=>false)
      | _=>false)
    | _=>false
  | .iaddr sz x i=>match op with|.indexAddr t y j=>okOpd N y x&&okOpd N j i&&okSl P t (slElem P t) sz|_=>false
  | .iaddrf sz x i=>match op with|.indexAddr t y j=>okOpd N y x&&okOpd N j i&&okSl P t (slElem P t) sz|_=>false
  | .sidx x i=>match op with|.index t y j=>okOpd N y x&&okOpd N j i&&(match P.underlying t with|some .string=>true|_=>false)|_=>false
  | .len x=>match op with|.call ⟨.builtin .len,⟨[y]⟩,⟨[t]⟩⟩=>okOpd N y x&&(match P.underlying t with|some (.slice _)=>true|_=>false)|_=>false
  | .lenf x=>match op with|.call ⟨.builtin .len,⟨[y]⟩,⟨[t]⟩⟩=>okOpd N y x&&(match P.underlying t with|some (.slice _)=>true|_=>false)|_=>false
  | .slen x=>match op with|.call ⟨.builtin .len,⟨[y]⟩,⟨[t]⟩⟩=>okOpd N y x&&(match P.underlying t with|some .string=>true|_=>false)|_=>false
  | .scut x lo hi=>match op with
    | .slice t y lo' hi' none=>okOpd N y x&&okOptB N lo' lo&&okOptB N hi' hi&&(match P.underlying t with|some .string=>true|_=>false)
    | _=>false
  | .app ty sz bytes s x=>match op with
    | .call ⟨.builtin .append,⟨[s',x']⟩,⟨[t,t']⟩⟩=>t==t'&&okOpd N s' s&&okOpd N x' x&&okSl P t ty sz&&okBytes P ty bytes&&hasZero P ty
    | _=>false
  | .ext x i=>match op with|.extract y j=>i==j&&okOpd N y x|_=>false
  | .mx x y=>match op with|.call ⟨.builtin .max,⟨[x',y']⟩,_⟩=>okOpd N x' x&&okOpd N y' y|_=>false
  | .mn x y=>match op with|.call ⟨.builtin .min,⟨[x',y']⟩,_⟩=>okOpd N x' x&&okOpd N y' y|_=>false
  | .mkfn f xs=>match op with|.makeFunc (.func g) ⟨[]⟩ ys=>g==f&&okOpds N ys.toList xs|_=>false
  | .callP f xs=>match op with|.call ⟨.value (.func g),ys,_⟩=>g==f&&okOpds N ys.toList xs|_=>false
  | .callR f xs=>match op with|.call ⟨.value (.func g),ys,_⟩=>g==f&&okOpds N ys.toList xs|_=>false
  | .callF f xs=>match op with|.call ⟨.value (.func g),ys,_⟩=>g==f&&okOpds N ys.toList xs|_=>false
  | .callO f xs=>match op with|.call ⟨.value (.func g),ys,_⟩=>g==f&&okOpds N ys.toList xs|_=>false
  | .callZ f xs=>match op with|.call ⟨.value (.func g),ys,_⟩=>g==f&&okOpds N ys.toList xs|_=>false
  | .callG f xs=>match op with|.call ⟨.value (.func g),ys,_⟩=>g==f&&okOpds N ys.toList xs|_=>false
  | .callM f xs=>match op with|.call ⟨.value (.func g),ys,_⟩=>g==f&&okOpds N ys.toList xs|_=>false
  | .callV x xs=>match op with|.call ⟨.value y,ys,_⟩=>okOpd N y x&&okOpds N ys.toList xs|_=>false
section
variable {P:Program} {w:World} {fz:Nat→Prop} {mem:List AObj} {ρ:List Value} {env:Env} {a:Act} {o:Oper}
theorem nilV_nil {op:Bin} {p q v:AV} (h:nilV op p q=some v):q=.nilptr:=by
  cases p<;>cases q<;>simp [nilV] at h ⊢
theorem memOut_pure (hm:Mem w fz mem ρ) {v:AV} {m:List AObj} (h:m=mem∧PureOut P o a w fz mem ρ v):MemOut P o a w fz mem ρ v m:=by
  obtain ⟨rfl,u,h1,h2⟩:=h
  exact ⟨u,w,fz,ρ,.inl h1,Ext.refl,hm,h2⟩
theorem evalOp_ok (hm:Mem w fz mem ρ) (he:EnvR w fz mem ρ env a) {io:MOp} (hk:okIO P a.tmps.size o.op io=true) {v:AV} {m:List AObj} (h:evalOp mem (ev env) io=some (v,m)):MemOut P o a w fz mem ρ v m:=by
  generalize hop:o.op=op at hk
  cases io<;>simp only [okIO] at hk
  case bad=>simp [evalOp] at h
  case mov x=>
    simp only [evalOp,Option.some.injEq,Prod.mk.injEq] at h
    obtain ⟨rfl,rfl⟩:=h
    split at hk
    · exact memOut_pure hm ⟨rfl,op_mov he (.inl hop) hk⟩
    · exact memOut_pure hm ⟨rfl,op_mov he (.inr hop) hk⟩
    · cases hk
  case newnil ty sz=>
    simp only [evalOp,Option.some.injEq,Prod.mk.injEq] at h
    obtain ⟨rfl,rfl⟩:=h
    split at hk
    · exact op_newnil hm he (.inl hop) hk
    · exact op_newnil hm he (.inr hop) hk
    · cases hk
  case pick c x y=>
    split at hk
    · simp only [Bool.and_eq_true] at hk
      exact memOut_pure hm (op_pick he hop hk.1.1 hk.1.2 hk.2 h)
    · cases hk
  case alloc ty cs=>
    split at hk
    · simp only [Bool.and_eq_true,beq_iff_eq,decide_eq_true_eq] at hk
      obtain ⟨⟨rfl,h1⟩,h2⟩:=hk
      obtain ⟨i,z,g1,g2,g3⟩:=okZero_spec h1
      exact op_alloc hm hop g1 g2 g3 h2 h
    · cases hk
  case box ty n x=>
    split at hk
    · simp only [Bool.and_eq_true,beq_iff_eq,decide_eq_true_eq] at hk
      obtain ⟨⟨rfl,h1⟩,h2⟩:=hk
      exact op_box hm he hop h1 h2 h
    · cases hk
  case build zero parts=>
    split at hk
    · simp only [Bool.and_eq_true] at hk
      obtain ⟨h1,h2⟩:=hk
      obtain ⟨i,z,g1,g2,g3⟩:=okZero_spec h1
      split at h2
      · rename_i fs hfs
        simp only [Bool.and_eq_true] at h2
        exact memOut_pure hm (op_build he hop hfs g1 g2 g3 h2.1 h2.2 h)
      · cases h2
    · cases hk
  case bsl ty sz xs=>
    split at hk
    · simp only [Bool.and_eq_true,beq_iff_eq,decide_eq_true_eq] at hk
      obtain ⟨⟨⟨⟨⟨h1,h2⟩,h3⟩,h4⟩,h5⟩,h6⟩:=hk
      obtain ⟨g1,i,g2,g3⟩:=okSl_spec h1
      obtain ⟨i',z,g4,g5,g6⟩:=hasZero_spec h2
      rw [g2] at g4;obtain rfl:=Option.some.inj g4
      exact op_bsl hm he hop h3 h4 g1 g2 g5 g3 h5 h6 h
    · cases hk
  case bslF ty sz xs=>
    split at hk
    · simp only [Bool.and_eq_true,beq_iff_eq,decide_eq_true_eq] at hk
      obtain ⟨⟨⟨⟨⟨h1,h2⟩,h3⟩,h4⟩,h5⟩,h6⟩:=hk
      obtain ⟨g1,i,g2,g3⟩:=okSl_spec h1
      obtain ⟨i',z,g4,g5,g6⟩:=hasZero_spec h2
      rw [g2] at g4;obtain rfl:=Option.some.inj g4
      exact op_bslF hm he hop h3 h4 g1 g2 g5 g3 h5 h6 h
    · cases hk
  case newnilB ty sz=>
    simp only [evalOp,Option.some.injEq,Prod.mk.injEq] at h
    obtain ⟨rfl,rfl⟩:=h
    split at hk
    · exact op_newnilB hm he (.inl hop) hk
    · exact op_newnilB hm he (.inr hop) hk
    · cases hk
  case bslB ty sz xs=>
    split at hk
    · simp only [Bool.and_eq_true,beq_iff_eq,decide_eq_true_eq] at hk
      obtain ⟨⟨⟨⟨⟨h1,h2⟩,h3⟩,h4⟩,h5⟩,h6⟩:=hk
      obtain ⟨g1,i,g2,g3⟩:=okSl_spec h1
      obtain ⟨i',z,g4,g5,g6⟩:=hasZero_spec h2
      rw [g2] at g4;obtain rfl:=Option.some.inj g4
      exact op_bslB hm he hop h3 h4 g1 g2 g5 g3 h5 h6 h
    · cases hk
  case lenB x=>
    split at hk
    · simp only [Bool.and_eq_true] at hk
      obtain ⟨h1,h2⟩:=hk
      split at h2
      · rename_i e he'
        exact memOut_pure hm (op_lenB hm he hop h1 he' h)
      · cases h2
    · cases hk
  case appB ty sz bytes x y=>
    split at hk
    · simp only [Bool.and_eq_true,beq_iff_eq] at hk
      obtain ⟨⟨⟨⟨⟨rfl,h2⟩,h3⟩,h4⟩,h5⟩,h6⟩:=hk
      obtain ⟨g1,i,g2,g3⟩:=okSl_spec h4
      obtain ⟨i',z,g4,g5,g6⟩:=hasZero_spec h6
      rw [g2] at g4;obtain rfl:=Option.some.inj g4
      exact op_appB hm he hop h2 h3 g1 g2 g5 g6 g3 (okBytes_spec h5 g2) h
    · cases hk
  case allocA js j ty cs=>
    split at hk
    · simp only [Bool.and_eq_true,beq_iff_eq,decide_eq_true_eq] at hk
      obtain ⟨⟨rfl,h1⟩,h2⟩:=hk
      obtain ⟨i,z,g1,g2,g3⟩:=okZero_spec h1
      exact op_allocA hm hop g1 g2 g3 h2 h
    · cases hk
  case bslA js j ty sz=>
    split at hk
    · simp only [Bool.and_eq_true,beq_iff_eq,decide_eq_true_eq] at hk
      obtain ⟨⟨⟨⟨h1,h2⟩,h3⟩,h4⟩,h5⟩:=hk
      obtain ⟨g1,i,g2,g3⟩:=okSl_spec h1
      obtain ⟨i',z,g4,g5,g6⟩:=hasZero_spec h2
      rw [g2] at g4;obtain rfl:=Option.some.inj g4
      exact op_bslA hm hop h3 h4 g1 g2 g5 g3 h5 h
    · cases hk
  case appA js ty sz bytes x y=>
    split at hk
    · simp only [Bool.and_eq_true,beq_iff_eq] at hk
      obtain ⟨⟨⟨⟨⟨rfl,h2⟩,h3⟩,h4⟩,h5⟩,h6⟩:=hk
      obtain ⟨g1,i,g2,g3⟩:=okSl_spec h4
      obtain ⟨i',z,g4,g5,g6⟩:=hasZero_spec h6
      rw [g2] at g4;obtain rfl:=Option.some.inj g4
      exact op_app hm he hop h2 h3 g1 g2 g5 g6 g3 (okBytes_spec h5 g2) (appA_app h)
    · cases hk
  case ldb agg n x=>
    split at hk
    · simp only [Bool.and_eq_true] at hk
      exact memOut_pure hm (op_ld hm he hop hk.1 hk.2 (ldb_ld h))
    · cases hk
  case faddrb off x=>
    split at hk
    · simp only [Bool.and_eq_true] at hk
      obtain ⟨h1,h2⟩:=hk
      split at h2
      · rename_i fs hfs
        split at h2
        · rename_i f hf
          simp only [Bool.and_eq_true,beq_iff_eq] at h2
          obtain ⟨h3,h4⟩:=h2
          split at h4
          · rename_i i hi;exact memOut_pure hm (op_faddr he hop h1 hfs hf h3 hi (by simpa using h4) (faddrb_faddr h))
          · cases h4
        · cases h2
      · cases h2
    · cases hk
  case ldf agg n x=>
    split at hk
    · simp only [Bool.and_eq_true] at hk
      exact memOut_pure hm (op_ldf hm he hop hk.1 hk.2 h)
    · cases hk
  case ld agg n x=>
    split at hk
    · simp only [Bool.and_eq_true] at hk
      exact memOut_pure hm (op_ld hm he hop hk.1 hk.2 h)
    · cases hk
  case st n x y=>
    split at hk
    · simp only [Bool.and_eq_true] at hk
      obtain ⟨⟨h1,h2⟩,h3⟩:=hk
      split at h3
      · rename_i i hi;exact op_st hm he hop h1 h2 hi (by simpa using h3) h
      · cases h3
    · cases hk
  case sta av n x y=>
    split at hk
    · simp only [Bool.and_eq_true] at hk
      obtain ⟨⟨h1,h2⟩,h3⟩:=hk
      split at h3
      · rename_i i hi;exact op_sta hm he hop h1 h2 hi (by simpa using h3) h
      · cases h3
    · cases hk
  case nilchk x=>
    split at hk
    · exact memOut_pure hm (op_nilchk he hop hk h)
    · cases hk
  case bin b x y=>
    split at hk
    · simp only [Bool.and_eq_true] at hk
      obtain ⟨⟨h1,h2⟩,h3⟩:=hk
      simp only [evalOp] at h
      obtain ⟨u,hu,hq⟩:=Option.map_eq_some_iff.1 h
      simp only [Prod.mk.injEq] at hq
      obtain ⟨rfl,rfl⟩:=hq
      generalize hp:ev env x=p at hu
      generalize hq:ev env y=q at hu
      cases p<;>cases q<;>simp only [binV] at hu<;>first
        | exact memOut_pure hm ⟨rfl,op_bin_int he hop h1 h2 h3 hp hq (by simpa only [binV] using hu)⟩
        | exact memOut_pure hm ⟨rfl,op_bin_str he hop h1 h2 h3 hp hq hu⟩
        | cases hu
    · cases hk
  case binb b x y=>
    split at hk
    · simp only [Bool.and_eq_true] at hk
      obtain ⟨⟨⟨h1,h2⟩,h3⟩,h4⟩:=hk
      split at h4
      · rename_i ht
        simp only [evalOp] at h
        obtain ⟨u,hu,hq⟩:=Option.map_eq_some_iff.1 h
        simp only [Prod.mk.injEq] at hq
        obtain ⟨rfl,rfl⟩:=hq
        generalize hp:ev env x=p at hu
        generalize hq:ev env y=q at hu
        cases p<;>cases q<;>simp only [boolV] at hu<;>first
          | exact memOut_pure hm ⟨rfl,op_bin_bool he hop h1 h2 h3 ht hp hq (by simpa only [boolV] using hu)⟩
          | cases hu
      · cases h4
    · cases hk
  case bins b sig x y=>
    split at hk
    · simp only [Bool.and_eq_true] at hk
      obtain ⟨⟨⟨h1,h2⟩,h3⟩,h4⟩:=hk
      simp only [evalOp] at h
      obtain ⟨u,hu,hq⟩:=Option.map_eq_some_iff.1 h
      simp only [Prod.mk.injEq] at hq
      obtain ⟨rfl,rfl⟩:=hq
      exact memOut_pure hm ⟨rfl,op_bins he hop h1 h2 h3 h4 hu⟩
    · cases hk
  case binp b x y=>
    split at hk
    · simp only [Bool.and_eq_true] at hk
      obtain ⟨⟨⟨h1,h2⟩,h3⟩,h4⟩:=hk
      split at h4
      · rename_i ht
        simp only [evalOp] at h
        obtain ⟨u,hu,hq⟩:=Option.map_eq_some_iff.1 h
        simp only [Prod.mk.injEq] at hq
        obtain ⟨rfl,rfl⟩:=hq
        generalize hp:ev env x=p at hu
        generalize hq:ev env y=q at hu
        have e1:=opd_rep he h2
        rw [hp] at e1
        have hq':q=.nilptr:=nilV_nil hu
        subst hq'
        cases p with
        | ptr cs i=>
          simp only [nilArg,nilV] at hu
          cases e1 with
          | gr e1=>
            obtain ⟨bb,oo,vs,e2,_⟩:=rg_ptr_inv e1
            exact memOut_pure hm ⟨rfl,op_bin_nil he hop h1 h2 h3 ht hq false ⟨_,e2,rfl⟩ hu⟩
        | nilptr=>
          simp only [nilArg,nilV] at hu
          exact memOut_pure hm ⟨rfl,op_bin_nil he hop h1 h2 h3 ht hq true ⟨none,rep_nilptr e1,rfl⟩ hu⟩
        | loc n g i=>
          simp only [nilArg] at hu
          split at hu
          · rename_i ob hob
            simp only [nilV] at hu
            obtain ⟨bb,k,cap,_,e2⟩:=rep_loc e1 hob
            exact memOut_pure hm ⟨rfl,op_bin_nil he hop h1 h2 h3 ht hq false ⟨_,e2,rfl⟩ hu⟩
          · simp [nilV] at hu
        | _=>simp [nilArg,nilV] at hu
      · cases h4
    · cases hk
  case neg x=>
    split at hk
    · simp only [evalOp] at h
      split at h
      · rename_i k n hn
        simp only [Option.some.injEq,Prod.mk.injEq] at h
        obtain ⟨rfl,rfl⟩:=h
        exact memOut_pure hm ⟨rfl,op_neg he hop hk hn⟩
      · cases h
    · cases hk
  case com x=>
    split at hk
    · simp only [evalOp] at h
      split at h
      · rename_i k n hn
        simp only [Option.some.injEq,Prod.mk.injEq] at h
        obtain ⟨rfl,rfl⟩:=h
        exact memOut_pure hm ⟨rfl,op_com he hop hk hn⟩
      · cases h
    · cases hk
  case not x=>
    split at hk
    · simp only [evalOp] at h
      split at h
      · rename_i b hb
        simp only [Option.some.injEq,Prod.mk.injEq] at h
        obtain ⟨rfl,rfl⟩:=h
        exact memOut_pure hm ⟨rfl,op_not he hop hk hb⟩
      · cases h
    · cases hk
  case conv k x=>
    split at hk
    · simp only [Bool.and_eq_true] at hk
      obtain ⟨⟨h1,h2⟩,h3⟩:=hk
      split at h3
      · rename_i k' hk'
        obtain rfl:k'=k:=by simpa using h3
        obtain ⟨d,hd⟩:=Option.isSome_iff_exists.1 h2
        simp only [evalOp] at h
        split at h
        · rename_i k2 n hn
          simp only [Option.some.injEq,Prod.mk.injEq] at h
          obtain ⟨rfl,rfl⟩:=h
          exact memOut_pure hm ⟨rfl,op_conv he hop h1 hd hk' hn⟩
        · cases h
      · cases h3
    · cases hk
  case mk ty bytes zero x=>
    split at hk
    · simp only [Bool.and_eq_true,decide_eq_true_eq] at hk
      obtain ⟨⟨⟨⟨⟨h1,h2⟩,h3⟩,h4⟩,h5⟩,h6⟩:=hk
      obtain ⟨g1,i,g2,g3⟩:=okSl_spec h3
      obtain ⟨i',z,g4,g5,g6⟩:=okZero_spec h5
      rw [g2] at g4;obtain rfl:=Option.some.inj g4
      exact op_mk hm he hop h1 h2 g1 g2 g5 (okBytes_spec h4 g2) g3 g6 h6 h
    · cases hk
  case mk0 ty sz bytes x=>
    split at hk
    · simp only [Bool.and_eq_true,decide_eq_true_eq] at hk
      obtain ⟨⟨⟨⟨⟨h1,h2⟩,h3⟩,h4⟩,h5⟩,h6⟩:=hk
      obtain ⟨g1,i,g2,g3⟩:=okSl_spec h3
      obtain ⟨i',z,g4,g5,g6⟩:=hasZero_spec h5
      rw [g2] at g4;obtain rfl:=Option.some.inj g4
      exact op_mk0 hm he hop h1 h2 g1 g2 g5 (okBytes_spec h4 g2) g3 h6 h
    · cases hk
  case mkB ty bytes ty' sz' x=>
    split at hk
    · simp only [Bool.and_eq_true] at hk
      obtain ⟨⟨⟨⟨h1,h2⟩,h3⟩,h4⟩,h5⟩:=hk
      obtain ⟨g1,i,g2,g3⟩:=okSl_spec h3
      obtain ⟨i',z,g4,g5,g6⟩:=okZero_spec h5
      rw [g2] at g4;obtain rfl:=Option.some.inj g4
      exact op_mkB hm he hop h1 h2 g1 g2 g5 (okBytes_spec h4 g2) g3 g6 h
    · cases hk
  case s2b x=>
    split at hk
    · simp only [Bool.and_eq_true] at hk
      obtain ⟨⟨h1,h2⟩,h3⟩:=hk
      obtain ⟨d,hd⟩:=Option.isSome_iff_exists.1 h2
      split at h3
      · rename_i e he1
        split at h3
        · rename_i he2;exact op_s2b hm he hop h1 hd he1 he2 h
        · cases h3
      · cases h3
    · cases hk
  case b2s x=>
    split at hk
    · simp only [Bool.and_eq_true] at hk
      obtain ⟨⟨h1,h2⟩,h3⟩:=hk
      split at h2
      · rename_i ht
        split at h3
        · rename_i e he1
          split at h3
          · rename_i he2;exact memOut_pure hm (op_b2s hm he hop h1 he1 ht he2 h)
          · cases h3
        · cases h3
      · cases h2
    · cases hk
  case cpy sz d x=>
    split at hk
    · simp only [Bool.and_eq_true] at hk
      obtain ⟨⟨h1,h2⟩,h3⟩:=hk
      split at h3
      · rename_i t ht
        obtain ⟨g1,i,g2,g3⟩:=okSl_spec h3
        exact op_cpy hm he hop ht h1 h2 g1 g2 g3 h
      · cases h3
    · cases hk
  case cut sz x lo hi=>
    split at hk
    · simp only [Bool.and_eq_true] at hk
      obtain ⟨⟨⟨h1,h2⟩,h3⟩,h4⟩:=hk
      obtain ⟨g1,i,g2,g3⟩:=okSl_spec h4
      exact memOut_pure hm (op_cut hm he hop h1 (okOptB_spec h2) (okOptB_spec h3) g1 g2 g3 h)
    · cases hk
  case faddr off x=>
    split at hk
    · simp only [Bool.and_eq_true] at hk
      obtain ⟨h1,h2⟩:=hk
      split at h2
      · rename_i fs hfs
        split at h2
        · rename_i f hf
          simp only [Bool.and_eq_true,beq_iff_eq] at h2
          obtain ⟨h3,h4⟩:=h2
          split at h4
          · rename_i i hi;exact memOut_pure hm (op_faddr he hop h1 hfs hf h3 hi (by simpa using h4) h)
          · cases h4
        · cases h2
      · cases h2
    · cases hk
  case fld agg off n x=>
    split at hk
    · simp only [Bool.and_eq_true] at hk
      obtain ⟨h1,h2⟩:=hk
      split at h2
      · rename_i fs hfs
        split at h2
        · rename_i f hf
          simp only [Bool.and_eq_true,beq_iff_eq] at h2
          exact memOut_pure hm (op_fld he hop h1 hfs hf h2.1 h2.2 h)
        · cases h2
      · cases h2
    · cases hk
  case iaddr sz x i=>
    split at hk
    · simp only [Bool.and_eq_true] at hk
      obtain ⟨⟨h1,h2⟩,h3⟩:=hk
      obtain ⟨g1,i,g2,g3⟩:=okSl_spec h3
      exact memOut_pure hm (op_iaddr hm he hop h1 h2 g1 g2 g3 h)
    · cases hk
  case iaddrf sz x i=>
    split at hk
    · simp only [Bool.and_eq_true] at hk
      obtain ⟨⟨h1,h2⟩,h3⟩:=hk
      obtain ⟨g1,i,g2,g3⟩:=okSl_spec h3
      exact memOut_pure hm (op_iaddrf hm he hop h1 h2 g1 g2 g3 h)
    · cases hk
  case sidx x i=>
    split at hk
    · simp only [Bool.and_eq_true] at hk
      obtain ⟨⟨h1,h2⟩,h3⟩:=hk
      split at h3
      · rename_i ht;exact memOut_pure hm (op_sidx he hop h1 h2 ht h)
      · cases h3
    · cases hk
  case len x=>
    split at hk
    · simp only [Bool.and_eq_true] at hk
      obtain ⟨h1,h2⟩:=hk
      split at h2
      · rename_i ht;exact memOut_pure hm (op_len hm he hop h1 ht h)
      · cases h2
    · cases hk
  case lenf x=>
    split at hk
    · simp only [Bool.and_eq_true] at hk
      obtain ⟨h1,h2⟩:=hk
      split at h2
      · rename_i ht;exact memOut_pure hm (op_lenf hm he hop h1 ht h)
      · cases h2
    · cases hk
  case slen x=>
    split at hk
    · simp only [Bool.and_eq_true] at hk
      obtain ⟨h1,h2⟩:=hk
      split at h2
      · rename_i ht;exact memOut_pure hm (op_slen he hop h1 ht h)
      · cases h2
    · cases hk
  case scut x lo hi=>
    split at hk
    · simp only [Bool.and_eq_true] at hk
      obtain ⟨⟨⟨h1,h2⟩,h3⟩,h4⟩:=hk
      split at h4
      · rename_i ht;exact memOut_pure hm (op_scut he hop h1 (okOptB_spec h2) (okOptB_spec h3) ht h)
      · cases h4
    · cases hk
  case app ty sz bytes s x=>
    split at hk
    · simp only [Bool.and_eq_true,beq_iff_eq] at hk
      obtain ⟨⟨⟨⟨⟨rfl,h1⟩,h2⟩,h3⟩,h4⟩,h5⟩:=hk
      obtain ⟨g1,i,g2,g3⟩:=okSl_spec h3
      obtain ⟨i',z,g4,g5,g6⟩:=hasZero_spec h5
      rw [g2] at g4;obtain rfl:=Option.some.inj g4
      exact op_app hm he hop h1 h2 g1 g2 g5 g6 g3 (okBytes_spec h4 g2) h
    · cases hk
  case ext x i=>
    split at hk
    · simp only [Bool.and_eq_true,beq_iff_eq] at hk
      obtain ⟨rfl,h1⟩:=hk
      exact memOut_pure hm (op_ext he hop h1 h)
    · cases hk
  case mx x y=>
    split at hk
    · simp only [Bool.and_eq_true] at hk
      exact memOut_pure hm (op_mx he hop hk.1 hk.2 h)
    · cases hk
  case mn x y=>
    split at hk
    · simp only [Bool.and_eq_true] at hk
      exact memOut_pure hm (op_mn he hop hk.1 hk.2 h)
    · cases hk
  case mkfn f xs=>
    split at hk
    · simp only [Bool.and_eq_true,beq_iff_eq] at hk
      obtain ⟨rfl,h1⟩:=hk
      simp only [evalOp,Option.some.injEq,Prod.mk.injEq] at h
      obtain ⟨rfl,rfl⟩:=h
      exact memOut_pure hm ⟨rfl,op_mkfn he hop h1⟩
    · cases hk
  all_goals simp [evalOp] at h
def CallsOk (P:Program) (C:CallRel):Prop:=∀{f as mem r mem'},C f as mem r mem'→okFn P f=true∧CallS P f as mem r mem'
theorem opR_ok {C:CallRel} (hC:CallsOk P C) (hm:Mem w fz mem ρ) (he:EnvR w fz mem ρ env a) {io:MOp} (hk:okIO P a.tmps.size o.op io=true) {v:AV} {m:List AObj} (h:OpR C mem (ev env) io v m):OpS P o a w fz mem ρ v m:=by
  have key:∀{f:Nat} {xs:List Opd},(match o.op with|.call ⟨.value (.func g),ys,_⟩=>g==f&&okOpds a.tmps.size ys.toList xs|_=>false)=true→
      ∃ys ts,o.op=.call ⟨.value (.func f),ys,ts⟩∧okOpds a.tmps.size ys.toList xs=true:=by
    intro f xs hk
    generalize hop:o.op=op at hk
    split at hk
    · simp only [Bool.and_eq_true,beq_iff_eq] at hk
      obtain ⟨rfl,h1⟩:=hk
      exact ⟨_,_,rfl,h1⟩
    · cases hk
  cases h with
  | op h=>exact opS_of (evalOp_ok hm he hk h)
  | callP h1 h2=>
    obtain ⟨ys,ts,g1,g2⟩:=key (by simpa only [okIO] using hk)
    exact op_callP hm he g1 (hC h2).1 g2 h1 (hC h2).2
  | callR h1 h2 h3=>
    obtain ⟨ys,ts,g1,g2⟩:=key (by simpa only [okIO] using hk)
    exact op_callR hm he g1 (hC h2).1 g2 h1 (hC h2).2 h3
  | callF h1 h2=>
    obtain ⟨ys,ts,g1,g2⟩:=key (by simpa only [okIO] using hk)
    exact op_callF hm he g1 (hC h2).1 g2 h1 (hC h2).2
  | callO h1 h2 h3 h4=>
    obtain ⟨ys,ts,g1,g2⟩:=key (by simpa only [okIO] using hk)
    exact op_callO hm he g1 (hC h2).1 g2 h1 (hC h2).2 h3 h4
  | callZ h1 h2 h3=>
    obtain ⟨ys,ts,g1,g2⟩:=key (by simpa only [okIO] using hk)
    exact op_callZ hm he g1 (hC h2).1 g2 h1 (hC h2).2 h3
  | callG h0 h1 h2 h3=>
    obtain ⟨ys,ts,g1,g2⟩:=key (by simpa only [okIO] using hk)
    exact op_callG hm he g1 (hC h1).1 g2 h0 (hC h1).2 h2 h3
  | callM h1=>
    obtain ⟨ys,ts,g1,g2⟩:=key (by simpa only [okIO] using hk)
    exact op_callM hm he g1 (hC h1).1 g2 (hC h1).2
  | callV h1 h2 h3 h4 h5=>
    simp only [okIO] at hk
    generalize hop:o.op=op at hk
    split at hk
    · simp only [Bool.and_eq_true] at hk
      exact op_callV hm he hop hk.1 hk.2 h1 (hC h4).1 h2 h3 (hC h4).2 h5
    · cases hk
end
end Go.V

namespace Go.V
open Go
def wpO (C:CallRel) (mem:List AObj) (e:Opd→AV) (K:AV→List AObj→Prop):MOp→Prop
  | .callP f xs=>∃as r,xs.mapM (fun x=>snap [] 10 (e x))=some as∧C f as [] r []∧K r mem
  | .callR f xs=>∃as r,xs.mapM (fun x=>snap mem 10 (e x))=some as∧C f as [] r []∧scalars r=true∧K r mem
  | .callF f xs=>∃as r,xs.mapM (fun x=>snap mem 10 (e x))=some as∧C f as [] r []∧K r (freeze (xs.flatMap fun x=>refs mem 10 (e x)) mem)
  | .callO f xs=>∃as r m,xs.mapM (fun x=>snap mem 10 (e x))=some as∧C f as [] r m∧(m.all made)=true∧ownishR r=true∧K (shiftR mem.length r) (freeze (xs.flatMap fun x=>refs mem 10 (e x)) mem++m.map (shiftO mem.length))
  | .callZ f xs=>∃as r m r',xs.mapM (fun x=>snap mem 10 (e x))=some as∧C f as [] r m∧snap m 10 r=some r'∧K r' (freeze (xs.flatMap fun x=>refs mem 10 (e x)) mem)
  | .callG f xs=>(xs.all fun x=>plainArg (e x))=true∧∃r m,C f (xs.map e) [] r m∧(m.all made)=true∧ownishR r=true∧K (shiftR mem.length r) (mem++m.map (shiftO mem.length))
  | .callM f xs=>∃r m,C f (xs.map e) mem r m∧K r m
  | .callV x xs=>∃f caps as bs r,e x=.fn f caps∧xs.mapM (fun x=>snap mem 10 (e x))=some as∧caps.mapM (fun c=>snap mem 10 c)=some bs∧C f (as++bs) [] r []∧scalars r=true∧K r mem
  | io=>match evalOp mem e io with
    | some (v,m)=>K v m
    | none=>False
def wpR (C:CallRel) (Q:St→Prop):List IOp→St→Prop
  | [],s=>Q s
  | o::os,s=>match o.g with
    | none=>wpO C s.mem (ev s.env) (fun v m=>wpR C Q os ⟨putE s.env o.dst v,m⟩) o.op
    | some (t,b)=>match getE s.env t with
      | .bool c=>if c=b then wpO C s.mem (ev s.env) (fun v m=>wpR C Q os ⟨putE s.env o.dst v,m⟩) o.op else wpR C Q os ⟨putE s.env o.dst (.tup []),s.mem⟩
      | .tup []=>wpR C Q os ⟨putE s.env o.dst (.tup []),s.mem⟩
      | _=>False
def rounds (R:(X→St→Prop)→St→Prop) (live:List Nat) (keep:Option (Nat × List Nat)) (Q:X→St→Prop):Nat→St→Prop
  | 0,_=>False
  | n+1,s=>match headOf live keep s with
    | some s0=>R (fun x s1=>match x with|.nrm=>rounds R live keep Q n s1|x=>Q x s1) s0
    | none=>False
def wp (C:CallRel):IR→(X→St→Prop)→St→Prop
  | .skip,Q,s=>Q .nrm s
  | .ret,Q,s=>Q .ret s
  | .exit id,Q,s=>Q (.exit id) s
  | .reg _ ops,Q,s=>wpR C (Q .nrm) ops s
  | .seq a b,Q,s=>wp C a (fun x s1=>match x with|.nrm=>wp C b Q s1|x=>Q x s1) s
  | .cond c a b,Q,s=>match ev s.env c with
    | .bool t=>if t=true then wp C a Q s else wp C b Q s
    | _=>False
  | .block id a,Q,s=>wp C a (fun x s1=>match x with|.exit j=>if j=id then Q .nrm s1 else Q (.exit j) s1|x=>Q x s1) s
  | .loop live keep a,Q,s=>∃n,rounds (wp C a) live keep Q n s
  | .rsv b ty sz a,Q,s=>wp C a Q ⟨s.env,s.mem++[⟨b,ty,sz,0,0,[],false⟩]⟩
  | .lv live a,Q,s=>wp C a Q ⟨live.map fun n=>(n,getE s.env n),s.mem⟩
theorem wpO_opR {C:CallRel} {mem:List AObj} {e:Opd→AV} {K:AV→List AObj→Prop} {io:MOp} (h:wpO C mem e K io):∃v m,OpR C mem e io v m∧K v m:=by
  cases io
  case callP f xs=>obtain ⟨as,r,h1,h2,h3⟩:=h;exact ⟨_,_,.callP h1 h2,h3⟩
  case callR f xs=>obtain ⟨as,r,h1,h2,h3,h4⟩:=h;exact ⟨_,_,.callR h1 h2 h3,h4⟩
  case callF f xs=>obtain ⟨as,r,h1,h2,h3⟩:=h;exact ⟨_,_,.callF h1 h2,h3⟩
  case callO f xs=>obtain ⟨as,r,m,h1,h2,h3,h5,h4⟩:=h;exact ⟨_,_,.callO h1 h2 h3 h5,h4⟩
  case callZ f xs=>obtain ⟨as,r,m,r',h1,h2,h3,h4⟩:=h;exact ⟨_,_,.callZ h1 h2 h3,h4⟩
  case callG f xs=>obtain ⟨h0,r,m,h1,h2,h3,h4⟩:=h;exact ⟨_,_,.callG h0 h1 h2 h3,h4⟩
  case callM f xs=>obtain ⟨r,m,h1,h2⟩:=h;exact ⟨_,_,.callM h1,h2⟩
  case callV x xs=>obtain ⟨f,caps,as,bs,r,h0,h1,h2,h3,h4,h5⟩:=h;exact ⟨_,_,.callV h0 h1 h2 h3 h4,h5⟩
  all_goals
    simp only [wpO] at h
    split at h
    · rename_i hv;exact ⟨_,_,.op hv,h⟩
    · exact h.elim
theorem wpR_regR {C:CallRel} {Q:St→Prop}:∀{ops:List IOp} {s:St},wpR C Q ops s→∃s',RegR C ops s s'∧Q s'
  | [],s,h=>⟨s,.nil,h⟩
  | o::os,s,h=>by
    simp only [wpR] at h
    split at h
    · rename_i hg
      obtain ⟨v,m,h1,h2⟩:=wpO_opR h
      obtain ⟨s',h3,h4⟩:=wpR_regR h2
      exact ⟨s',.cons (.go (.inl hg) h1) h3,h4⟩
    · rename_i t b hg
      split at h
      · rename_i c hc
        split at h
        · rename_i hcb
          subst hcb
          obtain ⟨v,m,h1,h2⟩:=wpO_opR h
          obtain ⟨s',h3,h4⟩:=wpR_regR h2
          exact ⟨s',.cons (.go (.inr ⟨t,c,hg,hc⟩) h1) h3,h4⟩
        · rename_i hcb
          obtain ⟨s',h3,h4⟩:=wpR_regR h
          refine ⟨s',.cons (.no hg ?_) h3,h4⟩
          refine .inl ?_
          simp only [ev,hc]
          cases c<;>cases b<;>simp_all
      · rename_i hc
        obtain ⟨s',h3,h4⟩:=wpR_regR h
        exact ⟨s',.cons (.no hg (.inr hc)) h3,h4⟩
      · exact h.elim
theorem wp_exec {C:CallRel}:∀{c:IR} {Q:X→St→Prop} {s:St},wp C c Q s→∃x s',Exec C c s x s'∧Q x s'
  | .skip,Q,s,h=>⟨_,_,.skip,h⟩
  | .ret,Q,s,h=>⟨_,_,.ret,h⟩
  | .exit id,Q,s,h=>⟨_,_,.exit,h⟩
  | .reg d ops,Q,s,h=>by
    obtain ⟨s',h1,h2⟩:=wpR_regR h
    exact ⟨_,_,.reg h1,h2⟩
  | .seq a b,Q,s,h=>by
    obtain ⟨x,s1,h1,h2⟩:=wp_exec (c:=a) h
    cases x with
    | nrm=>
      obtain ⟨x,s2,h3,h4⟩:=wp_exec (c:=b) h2
      exact ⟨_,_,.seqN h1 h3,h4⟩
    | exit id=>exact ⟨_,_,.seqX h1 (by simp),h2⟩
    | ret=>exact ⟨_,_,.seqX h1 (by simp),h2⟩
  | .cond c a b,Q,s,h=>by
    simp only [wp] at h
    split at h
    · rename_i t ht
      split at h
      · rename_i h';subst h'
        obtain ⟨x,s1,h1,h2⟩:=wp_exec (c:=a) h
        exact ⟨_,_,.condT ht h1,h2⟩
      · rename_i h'
        obtain rfl:t=false:=by simpa using h'
        obtain ⟨x,s1,h1,h2⟩:=wp_exec (c:=b) h
        exact ⟨_,_,.condF ht h1,h2⟩
    · exact h.elim
  | .block id a,Q,s,h=>by
    obtain ⟨x,s1,h1,h2⟩:=wp_exec (c:=a) h
    cases x with
    | nrm=>exact ⟨_,_,.blockX h1 (by simp),h2⟩
    | exit j=>
      simp only at h2
      split at h2
      · rename_i hj;subst hj;exact ⟨_,_,.blockE h1,h2⟩
      · rename_i hj;exact ⟨_,_,.blockX h1 (by simpa using hj),h2⟩
    | ret=>exact ⟨_,_,.blockX h1 (by simp),h2⟩
  | .rsv b ty sz a,Q,s,h=>by
    obtain ⟨x,s1,h1,h2⟩:=wp_exec (c:=a) h
    exact ⟨_,_,.rsv h1,h2⟩
  | .lv live a,Q,s,h=>by
    obtain ⟨x,s1,h1,h2⟩:=wp_exec (c:=a) h
    exact ⟨_,_,.lv h1,h2⟩
  | .loop live keep a,Q,s,h=>by
    obtain ⟨n,h⟩:=h
    induction n generalizing s with
    | zero=>exact h.elim
    | succ n ih=>
      simp only [rounds] at h
      split at h
      · rename_i s0 hs0
        obtain ⟨x,s1,h1,h2⟩:=wp_exec (c:=a) h
        cases x with
        | nrm=>
          obtain ⟨x,s2,h3,h4⟩:=ih _ h2
          exact ⟨_,_,.loopN hs0 h1 h3,h4⟩
        | exit id=>exact ⟨_,_,.loopX hs0 h1 (by simp),h2⟩
        | ret=>exact ⟨_,_,.loopX hs0 h1 (by simp),h2⟩
      · exact h.elim
def outOf (md:Md) (mem:List AObj) (r:AV) (mem':List AObj) (s:St) (rv:AV):Prop:=
  match md with
  | .pure=>mem=[]∧mem'=[]∧snap s.mem 10 rv=some r
  | .own=>mem=[]∧ownOut s.mem rv=some (r,mem')
  | .ref=>r=rv∧mem'=s.mem
  | .ownB=>mem=[]∧ownOutB s.mem rv=some (r,mem')
theorem CallN_mono {tab:Nat→Option IFn} {E:CallRel}:∀{n m:Nat},n≤m→∀{f as mem r mem'},CallN tab E n f as mem r mem'→CallN tab E m f as mem r mem':=by
  intro n m h
  induction h with
  | refl=>exact fun h=>h
  | step _ ih=>exact fun h=>.inl (ih h)
theorem OpR_mono {C C':CallRel} (hC:∀{f as mem r mem'},C f as mem r mem'→C' f as mem r mem') {mem e io v m} (h:OpR C mem e io v m):OpR C' mem e io v m:=by
  cases h with
  | op h=>exact .op h
  | callP h1 h2=>exact .callP h1 (hC h2)
  | callR h1 h2 h3=>exact .callR h1 (hC h2) h3
  | callF h1 h2=>exact .callF h1 (hC h2)
  | callO h1 h2 h3 h4=>exact .callO h1 (hC h2) h3 h4
  | callZ h1 h2 h3=>exact .callZ h1 (hC h2) h3
  | callG h0 h1 h2 h3=>exact .callG h0 (hC h1) h2 h3
  | callM h1=>exact .callM (hC h1)
  | callV h1 h2 h3 h4 h5=>exact .callV h1 h2 h3 (hC h4) h5
theorem OpR_fin {tab:Nat→Option IFn} {E:CallRel} {mem e io v m} (h:OpR (Call tab E) mem e io v m):∃n,OpR (CallN tab E n) mem e io v m:=by
  cases h with
  | op h=>exact ⟨0,.op h⟩
  | callP h1 h2=>obtain ⟨n,h2⟩:=h2;exact ⟨n,.callP h1 h2⟩
  | callR h1 h2 h3=>obtain ⟨n,h2⟩:=h2;exact ⟨n,.callR h1 h2 h3⟩
  | callF h1 h2=>obtain ⟨n,h2⟩:=h2;exact ⟨n,.callF h1 h2⟩
  | callO h1 h2 h3 h4=>obtain ⟨n,h2⟩:=h2;exact ⟨n,.callO h1 h2 h3 h4⟩
  | callZ h1 h2 h3=>obtain ⟨n,h2⟩:=h2;exact ⟨n,.callZ h1 h2 h3⟩
  | callG h0 h1 h2 h3=>obtain ⟨n,h1⟩:=h1;exact ⟨n,.callG h0 h1 h2 h3⟩
  | callM h1=>obtain ⟨n,h1⟩:=h1;exact ⟨n,.callM h1⟩
  | callV h1 h2 h3 h4 h5=>obtain ⟨n,h4⟩:=h4;exact ⟨n,.callV h1 h2 h3 h4 h5⟩
theorem StepR_mono {C C':CallRel} (hC:∀{f as mem r mem'},C f as mem r mem'→C' f as mem r mem') {s o s'} (h:StepR C s o s'):StepR C' s o s':=by
  cases h with
  | go h1 h2=>exact .go h1 (OpR_mono hC h2)
  | no h1 h2=>exact .no h1 h2
theorem RegR_mono {C C':CallRel} (hC:∀{f as mem r mem'},C f as mem r mem'→C' f as mem r mem') {ops s s'} (h:RegR C ops s s'):RegR C' ops s s':=by
  induction h with
  | nil=>exact .nil
  | cons h1 _ ih=>exact .cons (StepR_mono hC h1) ih
theorem Exec_mono {C C':CallRel} (hC:∀{f as mem r mem'},C f as mem r mem'→C' f as mem r mem') {c s x s'} (h:Exec C c s x s'):Exec C' c s x s':=by
  induction h with
  | skip=>exact .skip
  | ret=>exact .ret
  | exit=>exact .exit
  | reg h=>exact .reg (RegR_mono hC h)
  | seqN _ _ i1 i2=>exact .seqN i1 i2
  | seqX _ h i1=>exact .seqX i1 h
  | condT h _ i=>exact .condT h i
  | condF h _ i=>exact .condF h i
  | blockE _ i=>exact .blockE i
  | blockX _ h i=>exact .blockX i h
  | rsv _ i=>exact .rsv i
  | lv _ i=>exact .lv i
  | loopN h _ _ i1 i2=>exact .loopN h i1 i2
  | loopX h _ h2 i=>exact .loopX h i h2
theorem StepR_fin {tab:Nat→Option IFn} {E:CallRel} {s o s'} (h:StepR (Call tab E) s o s'):∃n,StepR (CallN tab E n) s o s':=by
  cases h with
  | go h1 h2=>obtain ⟨n,h2⟩:=OpR_fin h2;exact ⟨n,.go h1 h2⟩
  | no h1 h2=>exact ⟨0,.no h1 h2⟩
theorem RegR_fin {tab:Nat→Option IFn} {E:CallRel} {ops s s'} (h:RegR (Call tab E) ops s s'):∃n,RegR (CallN tab E n) ops s s':=by
  induction h with
  | nil=>exact ⟨0,.nil⟩
  | cons h1 _ ih=>
    obtain ⟨n,h1⟩:=StepR_fin h1
    obtain ⟨m,h2⟩:=ih
    exact ⟨max n m,.cons (StepR_mono (CallN_mono (Nat.le_max_left _ _)) h1) (RegR_mono (CallN_mono (Nat.le_max_right _ _)) h2)⟩
theorem Exec_fin {tab:Nat→Option IFn} {E:CallRel} {c s x s'} (h:Exec (Call tab E) c s x s'):∃n,Exec (CallN tab E n) c s x s':=by
  induction h with
  | skip=>exact ⟨0,.skip⟩
  | ret=>exact ⟨0,.ret⟩
  | exit=>exact ⟨0,.exit⟩
  | reg h=>obtain ⟨n,h⟩:=RegR_fin h;exact ⟨n,.reg h⟩
  | seqN _ _ i1 i2=>
    obtain ⟨n,h1⟩:=i1;obtain ⟨m,h2⟩:=i2
    exact ⟨max n m,.seqN (Exec_mono (CallN_mono (Nat.le_max_left _ _)) h1) (Exec_mono (CallN_mono (Nat.le_max_right _ _)) h2)⟩
  | seqX _ h i1=>obtain ⟨n,h1⟩:=i1;exact ⟨n,.seqX h1 h⟩
  | condT h _ i=>obtain ⟨n,h1⟩:=i;exact ⟨n,.condT h h1⟩
  | condF h _ i=>obtain ⟨n,h1⟩:=i;exact ⟨n,.condF h h1⟩
  | blockE _ i=>obtain ⟨n,h1⟩:=i;exact ⟨n,.blockE h1⟩
  | blockX _ h i=>obtain ⟨n,h1⟩:=i;exact ⟨n,.blockX h1 h⟩
  | rsv _ i=>obtain ⟨n,h1⟩:=i;exact ⟨n,.rsv h1⟩
  | lv _ i=>obtain ⟨n,h1⟩:=i;exact ⟨n,.lv h1⟩
  | loopN h _ _ i1 i2=>
    obtain ⟨n,h1⟩:=i1;obtain ⟨m,h2⟩:=i2
    exact ⟨max n m,.loopN h (Exec_mono (CallN_mono (Nat.le_max_left _ _)) h1) (Exec_mono (CallN_mono (Nat.le_max_right _ _)) h2)⟩
  | loopX h _ h2 i=>obtain ⟨n,h1⟩:=i;exact ⟨n,.loopX h h1 h2⟩
theorem Call.of {tab:Nat→Option IFn} {E:CallRel} {f:Nat} {as:List AV} {mem:List AObj} {r:AV} {mem':List AObj} (fn:IFn) (hf:tab f=some fn) (h1:as.length=fn.nparams) (h2:as.length≤fn.ntmps)
    (h:wp (Call tab E) fn.body (fun x s=>(x=.nrm∨x=.ret)∧∃rv,resAll s fn.res=some rv∧outOf fn.md mem r mem' s rv) ⟨argsE 0 as,mem⟩):Call tab E f as mem r mem':=by
  obtain ⟨x,s,h3,h4,rv,h5,h6⟩:=wp_exec h
  obtain ⟨n,h3⟩:=Exec_fin h3
  refine ⟨n+1,.inr ⟨fn,s,x,rv,hf,h1,h2,h3,h4,h5,?_⟩⟩
  unfold outOf at h6
  exact h6
end Go.V

namespace Go.V
open Go
def MOp.opds:MOp→List Opd
  | .bad|.alloc _ _=>[]
  | .newnil _ _|.newnilB _ _=>[]
  | .allocA _ _ _ _|.bslA _ _ _ _=>[]
  | .appA _ _ _ _ s x=>[s,x]
  | .ldb _ _ x|.faddrb _ x=>[x]
  | .appB _ _ _ s x=>[s,x]
  | .lenB x=>[x]
  | .bslB _ _ xs=>xs
  | .mov x|.box _ _ x|.ldf _ _ x|.ld _ _ x|.nilchk x|.neg x|.com x|.not x|.conv _ x|.mk _ _ _ x|.mk0 _ _ _ x|.mkB _ _ _ _ x|.s2b x|.b2s x|.faddr _ x|.fld _ _ _ x|.len x|.lenf x|.slen x|.ext x _=>[x]
  | .pick c a b=>[c,a,b]
  | .build _ ps=>ps.map (·.2.2)
  | .bsl _ _ xs|.bslF _ _ xs|.mkfn _ xs|.callP _ xs|.callR _ xs|.callF _ xs|.callO _ xs|.callZ _ xs|.callG _ xs|.callM _ xs=>xs
  | .callV x xs=>x::xs
  | .st _ a x=>[a,x]
  | .sta av _ a x=>a::x::av.map .t
  | .bin _ x y|.binb _ x y|.binp _ x y|.bins _ _ x y|.cpy _ x y|.iaddr _ x y|.iaddrf _ x y|.sidx x y|.app _ _ _ x y|.mx x y|.mn x y=>[x,y]
  | .cut _ x lo hi|.scut x lo hi=>x::(lo.toList++hi.toList)
def Opd.isT (d:Nat):Opd→Bool
  | .t n=>n==d
  | _=>false
def IOp.looks (o:IOp) (d:Nat):Bool:=o.op.opds.any (Opd.isT d) || (match o.g with|some (t,_)=>t==d|none=>false)
theorem fillAll_congr {e e':Opd→AV}:∀{ps:List (Nat × Nat × Opd)} {cs:List AV},(∀x∈ps.map (·.2.2),e x=e' x)→fillAll ps e cs=fillAll ps e' cs
  | [],cs,h=>rfl
  | (off,n,x)::ps,cs,h=>by
    simp only [fillAll]
    rw [h x (by simp)]
    split
    · split
      · exact fillAll_congr (fun y hy=>h y (by simp at hy ⊢;exact .inr hy))
      · rfl
    · rfl
theorem mapM_congr {α β:Type} {f g:α→Option β}:∀{l:List α},(∀x∈l,f x=g x)→l.mapM f=l.mapM g
  | [],h=>rfl
  | x::l,h=>by
    rw [List.mapM_cons,List.mapM_cons,h x (by simp),mapM_congr (fun y hy=>h y (by simp [hy]))]
theorem flatMap_congr' {α β:Type} {f g:α→List β}:∀{l:List α},(∀x∈l,f x=g x)→l.flatMap f=l.flatMap g
  | [],h=>rfl
  | x::l,h=>by
    rw [List.flatMap_cons,List.flatMap_cons,h x (by simp),flatMap_congr' (fun y hy=>h y (by simp [hy]))]
theorem bound_congr {e e':Opd→AV} {lo:Option Opd} (h:∀x∈lo.toList,e x=e' x) (d m:Nat):bound lo e d m=bound lo e' d m:=by
  cases lo with
  | none=>rfl
  | some x=>simp only [bound];rw [h x (by simp)]
theorem cutOp_congr {mem:List AObj} {sz:Nat} {x:AV} {e e':Opd→AV} {lo hi:Option Opd} (h1:∀x∈lo.toList,e x=e' x) (h2:∀x∈hi.toList,e x=e' x):cutOp mem sz x lo hi e=cutOp mem sz x lo hi e':=by
  have k1:∀d m,bound lo e d m=bound lo e' d m:=bound_congr h1
  have k2:∀d m,bound hi e d m=bound hi e' d m:=bound_congr h2
  unfold cutOp
  simp only [k1,k2]
theorem evalOp_congr {mem:List AObj} {e e':Opd→AV} {io:MOp} (h:∀x∈io.opds,e x=e' x):evalOp mem e io=evalOp mem e' io:=by
  cases io
  case build zero ps=>simp only [evalOp];rw [fillAll_congr (by simpa only [MOp.opds] using h)]
  case bsl ty sz xs=>
    simp only [evalOp]
    simp only [MOp.opds] at h
    rw [mapM_congr (f:=fun x=>(cellsOf (e x)).bind fun cs=>if cs.length=sz then snapL mem 9 true cs else none) (g:=fun x=>(cellsOf (e' x)).bind fun cs=>if cs.length=sz then snapL mem 9 true cs else none) (fun x hx=>by rw [h x hx]),
      flatMap_congr' (f:=fun x=>refsL mem 9 true ((cellsOf (e x)).getD [])) (g:=fun x=>refsL mem 9 true ((cellsOf (e' x)).getD [])) (fun x hx=>by rw [h x hx])]
  case bslF ty sz xs=>
    simp only [evalOp]
    simp only [MOp.opds] at h
    rw [mapM_congr (f:=fun x=>(cellsOf (e x)).bind fun cs=>if cs.length=sz then snapL [] 9 true cs else none) (g:=fun x=>(cellsOf (e' x)).bind fun cs=>if cs.length=sz then snapL [] 9 true cs else none) (fun x hx=>by rw [h x hx])]
  case mkfn f xs=>
    simp only [evalOp]
    simp only [MOp.opds] at h
    rw [List.map_congr_left h]
  case bslB ty sz xs=>
    simp only [evalOp]
    simp only [MOp.opds] at h
    rw [mapM_congr (f:=fun x=>(cellsOf (e x)).bind fun cs=>if cs.length=sz then some cs else none) (g:=fun x=>(cellsOf (e' x)).bind fun cs=>if cs.length=sz then some cs else none) (fun x hx=>by rw [h x hx])]
  case sta av n a x=>
    simp only [MOp.opds,List.mem_cons,List.mem_map] at h
    simp only [evalOp]
    rw [h a (.inl rfl),h x (.inr (.inl rfl))]
    have:(av.all fun t=>apartOf (e (.t t)) (e' a))=(av.all fun t=>apartOf (e' (.t t)) (e' a)):=by
      have hh:∀t∈av,e (.t t)=e' (.t t):=fun t ht=>h _ (.inr (.inr ⟨t,ht,rfl⟩))
      clear h
      induction av with
      | nil=>rfl
      | cons t av ih=>simp only [List.all_cons];rw [hh t (by simp),ih (fun s hs=>hh s (by simp [hs]))]
    rw [this]
  case cut sz x lo hi=>
    simp only [MOp.opds,List.mem_cons,List.mem_append] at h
    simp only [evalOp]
    rw [h x (.inl rfl),cutOp_congr (fun y hy=>h y (.inr (.inl hy))) (fun y hy=>h y (.inr (.inr hy)))]
  case scut x lo hi=>
    simp only [MOp.opds,List.mem_cons,List.mem_append] at h
    simp only [evalOp]
    rw [h x (.inl rfl)]
    have k1:∀d m,bound lo e d m=bound lo e' d m:=bound_congr (fun y hy=>h y (.inr (.inl hy)))
    have k2:∀d m,bound hi e d m=bound hi e' d m:=bound_congr (fun y hy=>h y (.inr (.inr hy)))
    simp only [k1,k2]
  all_goals
    simp only [MOp.opds,List.mem_cons,List.mem_singleton,List.not_mem_nil,or_false,false_or,forall_eq_or_imp,forall_eq,false_implies,implies_true] at h
    simp only [evalOp,h]
theorem OpR_congr {C:CallRel} {mem:List AObj} {e e':Opd→AV} {io:MOp} {v:AV} {m:List AObj} (h:∀x∈io.opds,e x=e' x) (hr:OpR C mem e io v m):OpR C mem e' io v m:=by
  have k1:∀{xs:List Opd} {k:Nat} {mem:List AObj},(∀x∈xs,e x=e' x)→xs.mapM (fun x=>snap mem k (e x))=xs.mapM (fun x=>snap mem k (e' x)):=fun hx=>mapM_congr (fun x hm=>by rw [hx x hm])
  have k2:∀{xs:List Opd} {k:Nat},(∀x∈xs,e x=e' x)→xs.flatMap (fun x=>refs mem k (e x))=xs.flatMap (fun x=>refs mem k (e' x)):=fun hx=>flatMap_congr' (fun x hm=>by rw [hx x hm])
  cases hr with
  | op hv=>exact .op (by rw [←evalOp_congr h];exact hv)
  | @callP f xs as r h1 h2=>have h:∀x∈xs,e x=e' x:=h;exact .callP (by rw [←k1 h];exact h1) h2
  | @callR f xs as r h1 h2 h3=>have h:∀x∈xs,e x=e' x:=h;exact .callR (by rw [←k1 h];exact h1) h2 h3
  | @callF f xs as r h1 h2=>have h:∀x∈xs,e x=e' x:=h;rw [k2 h];exact .callF (by rw [←k1 h];exact h1) h2
  | @callO f xs as r m h1 h2 h3 h4=>have h:∀x∈xs,e x=e' x:=h;rw [k2 h];exact .callO (by rw [←k1 h];exact h1) h2 h3 h4
  | @callZ f xs as r m r' h1 h2 h3=>have h:∀x∈xs,e x=e' x:=h;rw [k2 h];exact .callZ (by rw [←k1 h];exact h1) h2 h3
  | @callG f xs r m h0 h1 h2 h3=>
    have h:∀x∈xs,e x=e' x:=h
    exact .callG (by rw [List.all_eq_true] at h0 ⊢;exact fun x hx=>by rw [←h x hx];exact h0 x hx) (by rw [←List.map_congr_left h];exact h1) h2 h3
  | @callM f xs r m h1=>have h:∀x∈xs,e x=e' x:=h;exact .callM (by rw [←List.map_congr_left h];exact h1)
  | callV h1 h2 h3 h4 h5=>
    simp only [MOp.opds,List.mem_cons,forall_eq_or_imp] at h
    exact .callV (by rw [←h.1];exact h1) (by rw [←k1 h.2];exact h2) h3 h4 h5
def Grow (mem mem':List AObj):Prop:=∀(n:Nat) (o:AObj),mem[n]?=some o→∃b,mem'[n]?=some { o with fr:=b }
theorem Grow.refl (mem:List AObj):Grow mem mem:=fun n o h=>⟨o.fr,h⟩
theorem Grow.trans {a b c:List AObj} (h1:Grow a b) (h2:Grow b c):Grow a c:=fun n o h=>by
  obtain ⟨x,hx⟩:=h1 n o h
  obtain ⟨y,hy⟩:=h2 n _ hx
  exact ⟨y,hy⟩
theorem Grow.append (a b:List AObj):Grow a (a++b):=fun n o h=>⟨o.fr,by rw [List.getElem?_append_left (List.getElem?_eq_some_iff.1 h).1];exact h⟩
theorem Grow.freeze (ns:List Nat) (a:List AObj):Grow a (freeze ns a):=fun n o h=>by
  unfold Go.V.freeze
  rw [List.getElem?_mapIdx,h]
  simp only [Option.map_some]
  split
  · exact ⟨true,rfl⟩
  · exact ⟨o.fr,rfl⟩
theorem Grow.adopt:∀(cs:List AV) (mem:List AObj),Grow mem (adopt cs mem).2
  | [],mem=>Grow.refl _
  | c::cs,mem=>by
    cases c<;>simp only [Go.V.adopt]<;>first|exact Grow.adopt cs _|exact (Grow.append _ _).trans (Grow.adopt cs _)
theorem Grow.geto {mem mem':List AObj} (h:Grow mem mem') {n g:Nat} {o:AObj} (hg:geto mem n g=some o):∃b,geto mem' n g=some { o with fr:=b }:=by
  unfold Go.V.geto at *
  split at hg
  · rename_i p hp
    split at hg
    · rename_i hgg
      obtain rfl:=Option.some.inj hg
      obtain ⟨b,hb⟩:=h n p hp
      exact ⟨b,by rw [hb];simp [hgg]⟩
    · cases hg
  · cases hg
theorem geto_lt {mem:List AObj} {n g:Nat} {o:AObj} (hg:geto mem n g=some o):n<mem.length:=by
  unfold geto at hg
  split at hg
  · rename_i p hp;exact (List.getElem?_eq_some_iff.1 hp).1
  · cases hg
theorem Grow.rowOf {mem mem':List AObj} (h:Grow mem mem') {v:AV} {r:Nat × Nat × List AV} (hr:rowOf mem v=some r):rowOf mem' v=some r:=by
  cases v<;>simp only [Go.V.rowOf] at hr ⊢<;>first|exact hr|skip
  all_goals
    split at hr
    · rename_i o ho
      obtain ⟨b,hb⟩:=h.geto ho
      rw [hb]
      exact hr
    · cases hr
theorem mapM_mono {α β:Type} {f g:α→Option β}:∀{l:List α} {r:List β},(∀x∈l,∀y,f x=some y→g x=some y)→l.mapM f=some r→l.mapM g=some r
  | [],r,h,hr=>hr
  | x::l,r,h,hr=>by
    rw [List.mapM_cons] at hr ⊢
    simp only [Option.bind_eq_bind,Option.pure_def,Option.bind_eq_some_iff] at hr ⊢
    obtain ⟨y,h1,ys,h2,h3⟩:=hr
    exact ⟨y,h x (by simp) y h1,ys,mapM_mono (fun z hz=>h z (by simp [hz])) h2,h3⟩
theorem mapM_all {α β:Type} {f:α→Option β}:∀{l:List α} {r:List β},l.mapM f=some r→∀x∈l,∃y,f x=some y
  | [],r,h,x,hx=>by cases hx
  | z::l,r,h,x,hx=>by
    rw [List.mapM_cons] at h
    simp only [Option.bind_eq_bind,Option.pure_def,Option.bind_eq_some_iff] at h
    obtain ⟨y,h1,ys,h2,h3⟩:=h
    rcases List.mem_cons.1 hx with rfl|hx
    · exact ⟨y,h1⟩
    · exact mapM_all h2 x hx
theorem snap_mono {mem mem':List AObj} (h:Grow mem mem'):∀(k:Nat),
    (∀a a',snap mem k a=some a'→snap mem' k a=some a'∧refs mem' k a=refs mem k a∧∀n∈refs mem k a,n<mem.length)∧
    (∀b cs cs',snapL mem k b cs=some cs'→snapL mem' k b cs=some cs'∧refsL mem' k b cs=refsL mem k b cs∧∀n∈refsL mem k b cs,n<mem.length):=by
  intro k
  induction k with
  | zero=>exact ⟨fun a a' h=>by simp [snap] at h,fun b cs cs' h=>by simp [snapL] at h⟩
  | succ k ih=>
    obtain ⟨ih1,ih2⟩:=ih
    refine ⟨fun a a' hs=>?_,fun b cs cs' hs=>?_⟩
    · cases a with
      | arr n g=>
        simp only [snap] at hs ⊢
        split at hs
        · rename_i o ho
          obtain ⟨cs,h1,rfl⟩:=Option.map_eq_some_iff.1 hs
          obtain ⟨b,hb⟩:=h.geto ho
          obtain ⟨h2,h3,h4⟩:=ih2 _ _ _ h1
          simp only [refs,hb,ho,h2,h3,Option.map_some,List.mem_cons,true_and]
          rintro x (rfl|hx)
          · exact geto_lt ho
          · exact h4 x hx
        · cases hs
      | loc n g i=>
        simp only [snap] at hs ⊢
        split at hs
        · rename_i o ho
          obtain ⟨cs,h1,rfl⟩:=Option.map_eq_some_iff.1 hs
          obtain ⟨b,hb⟩:=h.geto ho
          obtain ⟨h2,h3,h4⟩:=ih2 _ _ _ h1
          simp only [refs,hb,ho,h2,h3,Option.map_some,List.mem_cons,true_and]
          rintro x (rfl|hx)
          · exact geto_lt ho
          · exact h4 x hx
        · cases hs
      | msl n g off len=>
        simp only [snap] at hs ⊢
        split at hs
        · rename_i o ho
          obtain ⟨b,hb⟩:=h.geto ho
          simp only [refs,hb,List.mem_singleton,true_and]
          exact ⟨hs,fun x hx=>by rw [hx];exact geto_lt ho⟩
        · cases hs
      | agg cs=>
        simp only [snap] at hs ⊢
        obtain ⟨cs',h1,rfl⟩:=Option.map_eq_some_iff.1 hs
        obtain ⟨h2,h3,h4⟩:=ih2 _ _ _ h1
        simp only [refs,h2,h3,Option.map_some,true_and]
        exact h4
      | tup cs=>
        simp only [snap] at hs ⊢
        obtain ⟨cs',h1,rfl⟩:=Option.map_eq_some_iff.1 hs
        obtain ⟨h2,h3,h4⟩:=ih2 _ _ _ h1
        simp only [refs,h2,h3,Option.map_some,true_and]
        exact h4
      | fn f cs=>
        simp only [snap] at hs ⊢
        obtain ⟨cs',h1,rfl⟩:=Option.map_eq_some_iff.1 hs
        obtain ⟨h2,h3,h4⟩:=ih2 _ _ _ h1
        simp only [refs,h2,h3,Option.map_some,true_and]
        exact h4
      | _=>simp only [snap,refs] at hs ⊢;exact ⟨hs,trivial,fun n hn=>by cases hn⟩
    · cases b with
      | false=>simp only [snapL,refsL] at hs ⊢;exact ⟨hs,trivial,fun n hn=>by cases hn⟩
      | true=>
        simp only [snapL,refsL] at hs ⊢
        have hall:=mapM_all hs
        refine ⟨mapM_mono (fun x hx y hy=>(ih1 x y hy).1) hs,flatMap_congr' (fun x hx=>?_),fun n hn=>?_⟩
        · obtain ⟨y,hy⟩:=hall x hx;exact (ih1 x y hy).2.1
        · obtain ⟨x,hx,hn⟩:=List.mem_flatMap.1 hn
          obtain ⟨y,hy⟩:=hall x hx
          exact (ih1 x y hy).2.2 n hn
def MOp.isPure:MOp→Bool
  | .mov _|.pick _ _ _|.build _ _|.ldf _ _ _|.bin _ _ _|.binb _ _ _|.bins _ _ _ _|.neg _|.com _|.not _|.conv _ _|.fld _ _ _ _|.iaddrf _ _ _|.sidx _ _|.lenf _|.slen _|.scut _ _ _|.ext _ _|.mx _ _|.mn _ _|.callP _ _|.mkfn _ _|.s2b _|.bslF _ _ _=>true
  | _=>false
def MOp.isRead:MOp→Bool
  | .ldb _ _ _|.faddrb _ _|.binp _ _ _|.ld _ _ _|.nilchk _|.faddr _ _|.iaddr _ _ _|.len _|.b2s _|.callR _ _|.callV _ _|.cut _ _ _ _=>true
  | io=>io.isPure
def MOp.isPush:MOp→Bool
  | .alloc _ _|.box _ _ _|.bsl _ _ _|.mk _ _ _ _|.mk0 _ _ _ _|.newnil _ _|.callF _ _|.callO _ _|.callZ _ _|.callG _ _=>true
  | _=>false
theorem evalOp_pure {mem mem' m:List AObj} {e:Opd→AV} {io:MOp} (hp:io.isPure=true) {v:AV} (h:evalOp mem e io=some (v,m)):m=mem∧evalOp mem' e io=some (v,mem'):=by
  cases io<;>simp only [MOp.isPure,Bool.false_eq_true] at hp<;>simp only [evalOp] at h ⊢
  case mov=>simp only [Option.some.injEq,Prod.mk.injEq] at h ⊢;exact ⟨h.2.symm,h.1,trivial⟩
  case mkfn=>simp only [Option.some.injEq,Prod.mk.injEq] at h ⊢;exact ⟨h.2.symm,h.1,trivial⟩
  case bslF=>
    split at h
    · rename_i css hcss
      simp only [Option.some.injEq,Prod.mk.injEq] at h
      obtain ⟨rfl,rfl⟩:=h
      exact ⟨rfl,rfl⟩
    · cases h
  all_goals
    repeat' split at h
    all_goals first
      | (exfalso;exact Option.noConfusion h)
      | (simp only [Option.some.injEq,Prod.mk.injEq,Option.map_eq_some_iff,Option.bind_eq_some_iff] at h ⊢;grind)
      | grind
theorem OpR_pure {C:CallRel} {mem m:List AObj} (mem':List AObj) {e:Opd→AV} {io:MOp} (hp:io.isPure=true) {v:AV} (h:OpR C mem e io v m):m=mem∧OpR C mem' e io v mem':=by
  cases h with
  | op h=>exact ⟨(evalOp_pure (mem':=mem') hp h).1,.op (evalOp_pure hp h).2⟩
  | callP h1 h2=>exact ⟨rfl,.callP h1 h2⟩
  | _=>simp [MOp.isPure] at hp
theorem evalOp_read {mem mem' m:List AObj} (hg:Grow mem mem') {e:Opd→AV} {io:MOp} (hp:io.isRead=true) {v:AV} (h:evalOp mem e io=some (v,m)):m=mem∧evalOp mem' e io=some (v,mem'):=by
  by_cases hq:io.isPure=true
  · exact evalOp_pure hq h
  cases io<;>simp only [MOp.isRead,MOp.isPure,Bool.false_eq_true,not_true_eq_false,not_false_eq_true] at hp hq
  case ld agg n x=>
    simp only [evalOp] at h ⊢
    split at h
    · obtain ⟨v',h1,h2⟩:=Option.map_eq_some_iff.1 h
      simp only [Prod.mk.injEq] at h2
      obtain ⟨rfl,rfl⟩:=h2
      exact ⟨rfl,by rw [h1];rfl⟩
    · split at h
      · rename_i o ho
        obtain ⟨b,hb⟩:=hg.geto ho
        obtain ⟨v',h1,h2⟩:=Option.map_eq_some_iff.1 h
        simp only [Prod.mk.injEq] at h2
        obtain ⟨rfl,rfl⟩:=h2
        exact ⟨rfl,by rw [hb];simp only [h1,Option.map_some]⟩
      · cases h
    · cases h
  case ldb agg n x=>
    simp only [evalOp] at h ⊢
    split at h
    · obtain ⟨v',h1,h2⟩:=Option.map_eq_some_iff.1 h
      simp only [Prod.mk.injEq] at h2
      obtain ⟨rfl,rfl⟩:=h2
      exact ⟨rfl,by rw [h1];rfl⟩
    · split at h
      · rename_i o ho
        obtain ⟨b,hb⟩:=hg.geto ho
        split at h
        · rename_i hc
          obtain ⟨v',h1,h2⟩:=Option.map_eq_some_iff.1 h
          simp only [Prod.mk.injEq] at h2
          obtain ⟨rfl,rfl⟩:=h2
          exact ⟨rfl,by rw [hb];simp only [];rw [if_pos hc];simp only [h1,Option.map_some]⟩
        · cases h
      · cases h
    · cases h
  case faddrb off x=>
    simp only [evalOp] at h ⊢
    split at h
    · simp only [Option.some.injEq,Prod.mk.injEq] at h
      obtain ⟨rfl,rfl⟩:=h
      exact ⟨rfl,rfl⟩
    · split at h
      · rename_i o ho
        obtain ⟨b,hb⟩:=hg.geto ho
        split at h
        · rename_i hc
          simp only [Option.some.injEq,Prod.mk.injEq] at h
          obtain ⟨rfl,rfl⟩:=h
          exact ⟨rfl,by rw [hb];simp only [];rw [if_pos hc]⟩
        · cases h
      · cases h
    · cases h
  case binp op x y=>
    simp only [evalOp] at h ⊢
    obtain ⟨v',h1,h2⟩:=Option.map_eq_some_iff.1 h
    simp only [Prod.mk.injEq] at h2
    obtain ⟨rfl,rfl⟩:=h2
    refine ⟨rfl,?_⟩
    have:nilV op (nilArg mem' (e x)) (e y)=some v':=by
      generalize e x=a at h1 ⊢
      cases a with
      | loc n g i=>
        simp only [nilArg] at h1 ⊢
        split at h1
        · rename_i o ho
          obtain ⟨b,hb⟩:=hg.geto ho
          rw [hb]
          exact h1
        · cases he:e y<;>rw [he] at h1<;>simp [nilV] at h1
      | _=>exact h1
    rw [this];rfl
  case nilchk x=>
    simp only [evalOp] at h ⊢
    split at h
    · simp only [Option.some.injEq,Prod.mk.injEq] at h
      obtain ⟨rfl,rfl⟩:=h
      exact ⟨rfl,rfl⟩
    · obtain ⟨o,h1,h2⟩:=Option.map_eq_some_iff.1 h
      obtain ⟨b,hb⟩:=hg.geto h1
      simp only [Prod.mk.injEq] at h2
      obtain ⟨rfl,rfl⟩:=h2
      exact ⟨rfl,by rw [hb];rfl⟩
    · cases h
  case faddr off x=>
    simp only [evalOp] at h ⊢
    split at h
    · simp only [Option.some.injEq,Prod.mk.injEq] at h
      obtain ⟨rfl,rfl⟩:=h
      exact ⟨rfl,rfl⟩
    · obtain ⟨o,h1,h2⟩:=Option.map_eq_some_iff.1 h
      obtain ⟨b,hb⟩:=hg.geto h1
      simp only [Prod.mk.injEq] at h2
      obtain ⟨rfl,rfl⟩:=h2
      exact ⟨rfl,by rw [hb];rfl⟩
    · cases h
  case iaddr sz x i=>
    simp only [evalOp] at h ⊢
    split at h
    · split at h
      · split at h
        · simp only [Option.some.injEq,Prod.mk.injEq] at h
          obtain ⟨rfl,rfl⟩:=h
          rename_i hc
          exact ⟨rfl,by rw [if_pos hc]⟩
        · cases h
      · split at h
        · rename_i o ho
          obtain ⟨b,hb⟩:=hg.geto ho
          split at h
          · rename_i hc
            simp only [Option.some.injEq,Prod.mk.injEq] at h
            obtain ⟨rfl,rfl⟩:=h
            exact ⟨rfl,by rw [hb];exact if_pos hc⟩
          · cases h
        · cases h
      · split at h
        · rename_i o ho
          obtain ⟨b,hb⟩:=hg.geto ho
          split at h
          · rename_i hc
            simp only [Option.some.injEq,Prod.mk.injEq] at h
            obtain ⟨rfl,rfl⟩:=h
            exact ⟨rfl,by rw [hb];exact if_pos hc⟩
          · cases h
        · cases h
      · cases h
    · cases h
  case len x=>
    simp only [evalOp] at h ⊢
    obtain ⟨r,h1,h2⟩:=Option.map_eq_some_iff.1 h
    simp only [Prod.mk.injEq] at h2
    obtain ⟨rfl,rfl⟩:=h2
    exact ⟨rfl,by rw [hg.rowOf h1];rfl⟩
  case b2s x=>
    simp only [evalOp] at h ⊢
    obtain ⟨r,h1,h2⟩:=Option.bind_eq_some_iff.1 h
    split at h2
    · rename_i hc
      obtain ⟨s,h3,h4⟩:=Option.map_eq_some_iff.1 h2
      simp only [Prod.mk.injEq] at h4
      obtain ⟨rfl,rfl⟩:=h4
      exact ⟨rfl,by rw [hg.rowOf h1];simp only [Option.bind_some,if_pos hc,h3,Option.map_some]⟩
    · cases h2
  case callR=>simp [evalOp] at h
  case callV=>simp [evalOp] at h
  case cut sz x lo hi=>
    simp only [evalOp] at h ⊢
    obtain ⟨u,h1,h2⟩:=Option.map_eq_some_iff.1 h
    simp only [Prod.mk.injEq] at h2
    obtain ⟨rfl,rfl⟩:=h2
    refine ⟨rfl,?_⟩
    have:cutOp mem' sz (e x) lo hi e=some u:=by
      unfold cutOp at h1 ⊢
      split at h1
      · exact h1
      · split at h1
        · rename_i o ho
          obtain ⟨b,hb⟩:=hg.geto ho
          rw [hb];exact h1
        · cases h1
      · split at h1
        · rename_i o ho
          obtain ⟨b,hb⟩:=hg.geto ho
          rw [hb];exact h1
        · cases h1
      · cases h1
    rw [this];rfl
theorem OpR_read {C:CallRel} {mem mem' m:List AObj} (hg:Grow mem mem') {e:Opd→AV} {io:MOp} (hp:io.isRead=true) {v:AV} (h:OpR C mem e io v m):m=mem∧OpR C mem' e io v mem':=by
  cases h with
  | op h=>exact ⟨(evalOp_read hg hp h).1,.op (evalOp_read hg hp h).2⟩
  | callP h1 h2=>exact ⟨rfl,.callP h1 h2⟩
  | callR h1 h2 h3=>exact ⟨rfl,.callR (mapM_mono (fun x hx y hy=>((snap_mono hg 10).1 _ _ hy).1) h1) h2 h3⟩
  | callV h1 h2 h3 h4 h5=>exact ⟨rfl,.callV h1 (mapM_mono (fun x hx y hy=>((snap_mono hg 10).1 _ _ hy).1) h2) (mapM_mono (fun x hx y hy=>((snap_mono hg 10).1 _ _ hy).1) h3) h4 h5⟩
  | _=>simp [MOp.isRead,MOp.isPure] at hp
theorem OpR_push {C:CallRel} {mem m:List AObj} {e:Opd→AV} {io:MOp} (hp:io.isPush=true) {v:AV} (h:OpR C mem e io v m):Grow mem m:=by
  cases h with
  | callF h1 h2=>exact Grow.freeze _ _
  | callO h1 h2 h3 h4=>exact (Grow.freeze _ _).trans (Grow.append _ _)
  | callZ h1 h2 h3=>exact Grow.freeze _ _
  | callG h0 h1 h2 h3=>exact Grow.append _ _
  | op h=>
    cases io<;>simp only [MOp.isPush,Bool.false_eq_true] at hp<;>simp only [evalOp] at h
    case newnil=>simp only [Option.some.injEq,Prod.mk.injEq] at h;rw [←h.2];exact Grow.append _ _
    case alloc=>simp only [Option.some.injEq,Prod.mk.injEq] at h;rw [←h.2];exact (Grow.adopt _ _).trans (Grow.append _ _)
    case box=>
      split at h
      · split at h
        · simp only [Option.some.injEq,Prod.mk.injEq] at h;rw [←h.2];exact (Grow.adopt _ _).trans (Grow.append _ _)
        · cases h
      · cases h
    case bsl=>
      split at h
      · simp only [Option.some.injEq,Prod.mk.injEq] at h;rw [←h.2];exact (Grow.freeze _ _).trans (Grow.append _ _)
      · cases h
    case mk=>
      split at h
      · split at h
        · simp only [Option.some.injEq,Prod.mk.injEq] at h;rw [←h.2];exact Grow.append _ _
        · cases h
      · cases h
    case mk0=>
      split at h
      · split at h
        · simp only [Option.some.injEq,Prod.mk.injEq] at h;rw [←h.2];exact Grow.append _ _
        · cases h
      · cases h
    all_goals cases h
  | _=>simp [MOp.isPush] at hp
end Go.V

namespace Go.V
open Go
def ldSta:MOp→MOp→Bool
  | .ld _ _ (.t p),.sta av _ _ _=>av.contains p
  | _,_=>false
def callAlloc:MOp→MOp→Bool
  | .callF _ _,.alloc _ _=>true
  | .callZ _ _,.alloc _ _=>true
  | _,_=>false
def MOp.isSet:MOp→Bool
  | .allocA _ _ _ _|.bslA _ _ _ _|.appA _ _ _ _ _ _=>true
  | _=>false
def MOp.avJ:MOp→List Nat
  | .allocA js _ _ _|.bslA js _ _ _|.appA js _ _ _ _ _=>js
  | _=>[]
def MOp.tgt:MOp→Option Nat
  | .allocA _ j _ _|.bslA _ j _ _=>some j
  | _=>none
def setSet (x y:MOp):Bool:=x.isSet&&y.isSet&&((match x.tgt with|some j=>y.avJ.contains j|none=>false) || (match y.tgt with|some j=>x.avJ.contains j|none=>false))
def setAlloc (x y:MOp):Bool:=x.isSet&&(match y with|.alloc _ _=>true|_=>false)
def rdSet (x y:MOp):Bool:=y.isSet&&(match x with|.ldb _ _ _|.faddrb _ _=>true|_=>false)
def classPair (x y:MOp):Bool:=x.isPure || y.isPure || (x.isRead&&(y.isRead || y.isPush)) || ldSta x y || callAlloc x y || setSet x y || setAlloc x y || rdSet x y
def apartPair (x y:IOp):Bool:=
  (match x.dst with|some d=>!y.looks d&&y.dst != some d|none=>true)&&(match y.dst with|some d=>!x.looks d|none=>true)
def okPair (x y:IOp):Bool:=apartPair x y&&classPair x.op y.op
inductive Core (C:CallRel) (mem:List AObj) (e:Opd→AV) (o:IOp):AV→List AObj→Prop
  | go {v m}:(o.g=none∨∃t b,o.g=some (t,b)∧e (.t t)=.bool b)→OpR C mem e o.op v m→Core C mem e o v m
  | no {t b}:o.g=some (t,b)→(e (.t t)=.bool (!b)∨e (.t t)=.tup [])→Core C mem e o (.tup []) mem
theorem stepR_core {C:CallRel} {s s':St} {o:IOp}:StepR C s o s'↔∃v m,Core C s.mem (ev s.env) o v m∧s'=⟨putE s.env o.dst v,m⟩:=by
  constructor
  · intro h
    cases h with
    | go h1 h2=>exact ⟨_,_,.go h1 h2,rfl⟩
    | no h1 h2=>exact ⟨_,_,.no h1 h2,rfl⟩
  · rintro ⟨v,m,h,rfl⟩
    cases h with
    | go h1 h2=>exact .go h1 h2
    | no h1 h2=>exact .no h1 h2
theorem Core.congr {C:CallRel} {mem m:List AObj} {e e':Opd→AV} {o:IOp} {v:AV} (h1:∀x∈o.op.opds,e x=e' x) (h2:∀t b,o.g=some (t,b)→e (.t t)=e' (.t t)) (h:Core C mem e o v m):Core C mem e' o v m:=by
  cases h with
  | go g1 g2=>
    refine .go ?_ (OpR_congr h1 g2)
    rcases g1 with g1|⟨t,b,g1,g3⟩
    · exact .inl g1
    · exact .inr ⟨t,b,g1,by rw [←h2 t b g1];exact g3⟩
  | no g1 g2=>exact .no g1 (by rw [←h2 _ _ g1];exact g2)
theorem Core.pure {C:CallRel} {mem m:List AObj} (mem':List AObj) {e:Opd→AV} {o:IOp} {v:AV} (hp:o.op.isPure=true) (h:Core C mem e o v m):m=mem∧Core C mem' e o v mem':=by
  cases h with
  | go g1 g2=>exact ⟨(OpR_pure mem' hp g2).1,.go g1 (OpR_pure mem' hp g2).2⟩
  | no g1 g2=>exact ⟨rfl,.no g1 g2⟩
theorem Core.read {C:CallRel} {mem mem' m:List AObj} (hg:Grow mem mem') {e:Opd→AV} {o:IOp} {v:AV} (hp:o.op.isRead=true) (h:Core C mem e o v m):m=mem∧Core C mem' e o v mem':=by
  cases h with
  | go g1 g2=>exact ⟨(OpR_read hg hp g2).1,.go g1 (OpR_read hg hp g2).2⟩
  | no g1 g2=>exact ⟨rfl,.no g1 g2⟩
theorem Core.push {C:CallRel} {mem m:List AObj} {e:Opd→AV} {o:IOp} {v:AV} (hp:o.op.isPush=true) (h:Core C mem e o v m):Grow mem m:=by
  cases h with
  | go g1 g2=>exact OpR_push hp g2
  | no g1 g2=>exact Grow.refl _
theorem getE_put {env:Env} {d:Option Nat} {v:AV} {n:Nat} (h:d≠some n):getE (putE env d v) n=getE env n:=by
  cases d with
  | none=>rfl
  | some d=>
    simp only [putE,getE]
    rw [if_neg (fun h'=>h (by rw [h']))]
theorem looks_ev {o:IOp} {env:Env} {d:Option Nat} {v:AV} (h:∀k,d=some k→o.looks k=false) :
    (∀x∈o.op.opds,ev env x=ev (putE env d v) x)∧(∀t b,o.g=some (t,b)→ev env (.t t)=ev (putE env d v) (.t t)):=by
  constructor
  · intro x hx
    cases x with
    | k=>rfl
    | t n=>
      simp only [ev]
      rw [getE_put]
      intro hd
      have:=h n hd
      simp only [IOp.looks,Bool.or_eq_false_iff,List.any_eq_false] at this
      exact this.1 _ hx (by simp [Opd.isT])
  · intro t b hg
    simp only [ev]
    rw [getE_put]
    intro hd
    have:=h t hd
    simp [IOp.looks,hg] at this
theorem adopt_len:∀(cs:List AV) (L:Nat),∃ds ext,∀mem:List AObj,mem.length=L→adopt cs mem=(ds,mem++ext)
  | [],L=>⟨[],[],fun mem _=>by simp [adopt]⟩
  | c::cs,L=>by
    have key:(∃ty sz,c=.nilsl ty sz)∨∀mem,adopt (c::cs) mem=(c::(adopt cs mem).1,(adopt cs mem).2):=by cases c<;>simp [adopt]
    rcases key with ⟨ty,sz,rfl⟩|key
    · obtain ⟨ds,ext,h⟩:=adopt_len cs (L+1)
      refine ⟨.arr L 0::ds,⟨false,ty,sz,0,0,[],false⟩::ext,fun mem hm=>?_⟩
      simp only [adopt]
      rw [h _ (by simp [hm]),hm]
      simp
    · obtain ⟨ds,ext,h⟩:=adopt_len cs L
      exact ⟨c::ds,ext,fun mem hm=>by rw [key,h _ hm]⟩
theorem freeze_append {ns:List Nat} {a b:List AObj} (h:∀n∈ns,n<a.length):freeze ns (a++b)=freeze ns a++b:=by
  apply List.ext_getElem?
  intro i
  unfold freeze
  rw [List.getElem?_mapIdx]
  by_cases hi:i<a.length
  · rw [List.getElem?_append_left hi,List.getElem?_append_left (by simpa using hi),List.getElem?_mapIdx]
  · rw [List.getElem?_append_right (by omega),List.getElem?_append_right (by simp;omega),List.length_mapIdx]
    have:ns.contains i=false:=by
      simp only [List.contains_eq_mem,decide_eq_false_iff_not]
      exact fun hm=>hi (h i hm)
    rw [this]
    simp
theorem freeze_lengthS {ns:List Nat} {a:List AObj}:(freeze ns a).length=a.length:=by simp [freeze]
theorem call_alloc {C:CallRel} {mem m1 m2:List AObj} {e e1:Opd→AV} {x y:MOp} {v1 v2:AV} (hk:callAlloc x y=true) (h1:OpR C mem e x v1 m1) (h2:OpR C m1 e1 y v2 m2) :
    ∃m,OpR C mem e1 y v2 m∧OpR C m e x v1 m2:=by
  have key:∀{xs:List Opd} {as:List AV} {ty:Nat} {cs:List AV},xs.mapM (fun x=>snap mem 10 (e x))=some as→OpR C (freeze (xs.flatMap fun x=>refs mem 10 (e x)) mem) e1 (.alloc ty cs) v2 m2→
      ∃ext,OpR C mem e1 (.alloc ty cs) v2 (mem++ext)∧m2=freeze (xs.flatMap fun x=>refs mem 10 (e x)) mem++ext:=by
    intro xs as ty cs hs h2
    cases h2 with
    | op h2=>
      simp only [evalOp,Option.some.injEq,Prod.mk.injEq] at h2
      obtain ⟨e2,e3⟩:=h2
      obtain ⟨ds,ext,ha⟩:=adopt_len cs mem.length
      have ha1:=ha mem rfl
      have ha2:=ha (freeze (xs.flatMap fun x=>refs mem 10 (e x)) mem) freeze_lengthS
      rw [ha2] at e2 e3
      refine ⟨ext++[⟨true,ty,cs.length,0,1,ds,false⟩],.op ?_,?_⟩
      · simp only [evalOp,Option.some.injEq,Prod.mk.injEq]
        rw [ha1]
        refine ⟨?_,by simp⟩
        rw [←e2]
        simp [freeze_lengthS]
      · rw [←e3]
        simp
  have lt:∀{xs:List Opd} {as:List AV},xs.mapM (fun x=>snap mem 10 (e x))=some as→∀n∈xs.flatMap (fun x=>refs mem 10 (e x)),n<mem.length:=by
    intro xs as hs n hn
    obtain ⟨x,hx,hn⟩:=List.mem_flatMap.1 hn
    obtain ⟨y,hy⟩:=mapM_all hs x hx
    exact ((snap_mono (Grow.refl mem) 10).1 _ _ hy).2.2 n hn
  have rf:∀{xs:List Opd} {as:List AV} {ext:List AObj},xs.mapM (fun x=>snap mem 10 (e x))=some as→xs.mapM (fun x=>snap (mem++ext) 10 (e x))=some as∧xs.flatMap (fun x=>refs (mem++ext) 10 (e x))=xs.flatMap (fun x=>refs mem 10 (e x)):=by
    intro xs as ext hs
    refine ⟨mapM_mono (fun x hx y hy=>((snap_mono (Grow.append mem ext) 10).1 _ _ hy).1) hs,flatMap_congr' (fun x hx=>?_)⟩
    obtain ⟨y,hy⟩:=mapM_all hs x hx
    exact ((snap_mono (Grow.append mem ext) 10).1 _ _ hy).2.1
  cases h1 with
  | @callF f xs as r g1 g2=>
    cases y<;>simp only [callAlloc,Bool.false_eq_true] at hk
    obtain ⟨ext,k1,k2⟩:=key g1 h2
    refine ⟨_,k1,?_⟩
    obtain ⟨r1,r2⟩:=rf (ext:=ext) g1
    rw [k2,←freeze_append (lt g1),←r2]
    exact .callF r1 g2
  | @callZ f xs as r m r' g1 g2 g3=>
    cases y<;>simp only [callAlloc,Bool.false_eq_true] at hk
    obtain ⟨ext,k1,k2⟩:=key g1 h2
    refine ⟨_,k1,?_⟩
    obtain ⟨r1,r2⟩:=rf (ext:=ext) g1
    rw [k2,←freeze_append (lt g1),←r2]
    exact .callZ r1 g2 g3
  | op g1=>cases y<;>cases x<;>simp only [callAlloc,Bool.false_eq_true] at hk<;>simp [evalOp] at g1
  | _=>cases y<;>simp [callAlloc] at hk
def GrowX (k:Nat) (mem mem':List AObj):Prop:=∀(n:Nat) (o:AObj),n≠k→mem[n]?=some o→∃b,mem'[n]?=some { o with fr:=b }
theorem storeOp_grow {mem m:List AObj} {n:Nat} {a x v:AV} (h:storeOp mem n a x=some (v,m)):∃k g i,a=.loc k g i∧GrowX k mem m:=by
  unfold storeOp at h
  split at h
  · rename_i k g i
    refine ⟨k,g,i,rfl,?_⟩
    split at h
    · rename_i o ho
      split at h
      · rename_i cs hcs
        split at h
        · rename_i hc
          split at h
          · simp only [Option.some.injEq,Prod.mk.injEq] at h
            rw [←h.2]
            intro n' o' hn ho'
            obtain ⟨b,hb⟩:=Grow.adopt cs mem n' o' ho'
            exact ⟨b,by rw [List.getElem?_set_ne (Ne.symm hn)];exact hb⟩
          · split at h
            · split at h
              · cases h
              · simp only [Option.some.injEq,Prod.mk.injEq] at h
                rw [←h.2]
                intro n' o' hn ho'
                obtain ⟨b,hb⟩:=Grow.freeze (refsL mem 9 true cs) mem n' o' ho'
                exact ⟨b,by rw [List.getElem?_set_ne (Ne.symm hn)];exact hb⟩
            · cases h
        · cases h
      · cases h
    · cases h
  · cases h
theorem ld_sta {C:CallRel} {mem m2:List AObj} {e e1:Opd→AV} {x y:MOp} {v1 v2:AV} {m1:List AObj} (hk:ldSta x y=true) (he:∀z∈x.opds,e z=e1 z) (h1:OpR C mem e x v1 m1) (h2:OpR C m1 e1 y v2 m2) :
    m1=mem∧OpR C m2 e x v1 m2:=by
  unfold ldSta at hk
  split at hk
  · rename_i agg n p av n' a z
    cases h1 with
    | op h1=>
      have hm:m1=mem:=(evalOp_read (Grow.refl mem) rfl h1).1
      subst hm
      refine ⟨rfl,.op ?_⟩
      cases h2 with
      | op h2=>
        simp only [evalOp] at h2
        split at h2
        · rename_i hav
          rw [List.all_eq_true] at hav
          have hp:=hav p (by simpa using hk)
          obtain ⟨k,g,i,ha,hgx⟩:=storeOp_grow h2
          rw [←he (.t p) (by simp [MOp.opds]),ha] at hp
          simp only [evalOp] at h1 ⊢
          split at h1
          · rename_i hpp;rw [hpp] at hp;simp [apartOf] at hp
          · rename_i q g' i' hpp
            rw [hpp] at hp
            simp only [apartOf,bne_iff_ne,ne_eq] at hp
            split at h1
            · rename_i o ho
              have:∃b,geto m2 q g'=some { o with fr:=b }:=by
                unfold geto at ho ⊢
                split at ho
                · rename_i o' ho'
                  split at ho
                  · rename_i hgg
                    obtain rfl:=Option.some.inj ho
                    obtain ⟨b,hb⟩:=hgx q o' hp ho'
                    exact ⟨b,by rw [hb];simp [hgg]⟩
                  · cases ho
                · cases ho
              obtain ⟨b,hb⟩:=this
              obtain ⟨v',h3,h4⟩:=Option.map_eq_some_iff.1 h1
              simp only [Prod.mk.injEq] at h4
              obtain ⟨rfl,_⟩:=h4
              rw [hb]
              simp only [h3,Option.map_some]
            · cases h1
          · cases h1
        · cases h2
  · cases hk
theorem OpR_set {C:CallRel} {mem m:List AObj} {e:Opd→AV} {x:MOp} {v:AV} (hs:x.isSet=true) (h:OpR C mem e x v m):evalOp mem e x=some (v,m):=by
  cases h with
  | op h=>exact h
  | _=>simp [MOp.isSet] at hs
theorem geto_of {mem mem':List AObj} {k g:Nat} {o o1:AObj} (h:geto mem k g=some o) (h1:mem[k]?=some o1) (h2:mem'[k]?=some o1):geto mem' k g=some o:=by
  unfold geto at *
  rw [h1] at h
  rw [h2]
  exact h
theorem not_in {js:List Nat} {k:Nat} (h:js.contains k=false):∀j∈js,j≠k:=fun j hj hk=>by
  subst hk
  simp only [List.contains_eq_mem,decide_eq_false_iff_not] at h
  exact h hj
theorem geto_at {mem:List AObj} {k g:Nat} {o:AObj} (h:geto mem k g=some o):mem[k]?=some o:=by
  unfold geto at h
  split at h
  · split at h
    · rename_i o' ho' _;rw [ho'];exact h
    · cases h
  · cases h
theorem set_spec {mem m:List AObj} {e:Opd→AV} {y:MOp} {v:AV} (hs:y.isSet=true) (h:evalOp mem e y=some (v,m)) :
    ∃k o o',mem[k]?=some o∧m=mem.set k o'∧(o.box=false∨o.n=0)∧(∀j∈y.avJ,j≠k)∧(∀j,y.tgt=some j→k=j)∧∀mem':List AObj,mem'[k]?=some o→evalOp mem' e y=some (v,mem'.set k o'):=by
  cases y<;>simp only [MOp.isSet,Bool.false_eq_true] at hs<;>simp only [evalOp] at h
  case allocA js j ty cs=>
    split at h
    · rename_i hof
      have o2:=not_in hof
      split at h
      · rename_i o ho
        split at h
        · rename_i hc
          simp only [Option.some.injEq,Prod.mk.injEq] at h
          obtain ⟨rfl,rfl⟩:=h
          refine ⟨j,o,_,geto_at ho,rfl,.inr hc.2.2.1,o2,fun j' hj=>by simpa [MOp.tgt] using hj,fun mem' hm'=>?_⟩
          simp only [evalOp]
          rw [if_pos hof,geto_of ho (geto_at ho) hm']
          simp only []
          rw [if_pos hc]
        · cases h
      · cases h
    · cases h
  case bslA js j ty sz=>
    split at h
    · rename_i hof
      have o2:=not_in hof
      split at h
      · rename_i o ho
        split at h
        · rename_i hc
          simp only [Option.some.injEq,Prod.mk.injEq] at h
          obtain ⟨rfl,rfl⟩:=h
          refine ⟨j,o,_,geto_at ho,rfl,.inr hc.2.2.1,o2,fun j' hj=>by simpa [MOp.tgt] using hj,fun mem' hm'=>?_⟩
          simp only [evalOp]
          rw [if_pos hof,geto_of ho (geto_at ho) hm']
          simp only []
          rw [if_pos hc]
        · cases h
      · cases h
    · cases h
  case appA js ty sz bytes s x=>
    split at h
    · rename_i mm sz' ds hx
      split at h
      · rename_i hsz
        split at h
        · rename_i n g hn
          split at h
          · rename_i hof
            have o2:=not_in hof
            split at h
            · rename_i o ho
              split at h
              · rename_i hc
                simp only [Option.some.injEq,Prod.mk.injEq] at h
                obtain ⟨rfl,rfl⟩:=h
                refine ⟨n,o,_,geto_at ho,rfl,.inl hc.1,o2,fun j' hj=>by simp [MOp.tgt] at hj,fun mem' hm'=>?_⟩
                simp only [evalOp,hx,hn]
                rw [if_pos hsz,if_pos hof,geto_of ho (geto_at ho) hm']
                simp only []
                rw [if_pos hc]
              · cases h
            · cases h
          · cases h
        · cases h
      · cases h
    · cases h
theorem set_set {C:CallRel} {mem m1 m2:List AObj} {e:Opd→AV} {x y:MOp} {v1 v2:AV} (hk:setSet x y=true) (h1:OpR C mem e x v1 m1) (h2:OpR C m1 e y v2 m2):∃m,OpR C mem e y v2 m∧OpR C m e x v1 m2:=by
  simp only [setSet,Bool.and_eq_true,Bool.or_eq_true] at hk
  obtain ⟨⟨hx,hy⟩,hk⟩:=hk
  obtain ⟨k,o,o',a1,rfl,a3,a4,a5,a6⟩:=set_spec hx (OpR_set hx h1)
  obtain ⟨l,p,p',b1,rfl,b3,b4,b5,b6⟩:=set_spec hy (OpR_set hy h2)
  have hne:k≠l:=by
    rcases hk with hk|hk
    · split at hk
      · rename_i j hj
        rw [a5 j hj]
        exact b4 j (by simpa using hk)
      · cases hk
    · split at hk
      · rename_i j hj
        rw [b5 j hj]
        exact (a4 j (by simpa using hk)).symm
      · cases hk
  rw [List.getElem?_set_ne hne] at b1
  refine ⟨_,.op (b6 mem b1),?_⟩
  have:=a6 (mem.set l p') (by rw [List.getElem?_set_ne hne.symm];exact a1)
  rw [List.set_comm _ _ hne.symm] at this
  exact .op this
theorem set_alloc {C:CallRel} {mem m1 m2:List AObj} {e:Opd→AV} {x y:MOp} {v1 v2:AV} (hk:setAlloc x y=true) (h1:OpR C mem e x v1 m1) (h2:OpR C m1 e y v2 m2):∃m,OpR C mem e y v2 m∧OpR C m e x v1 m2:=by
  simp only [setAlloc,Bool.and_eq_true] at hk
  obtain ⟨hx,hy⟩:=hk
  obtain ⟨k,o,o',a1,rfl,a3,a4,a5,a6⟩:=set_spec hx (OpR_set hx h1)
  split at hy
  · rename_i ty cs
    cases h2 with
    | op h2=>
      simp only [evalOp,Option.some.injEq,Prod.mk.injEq] at h2
      obtain ⟨e2,e3⟩:=h2
      obtain ⟨ds,ext,ha⟩:=adopt_len cs mem.length
      have ha1:=ha mem rfl
      have ha2:=ha (mem.set k o') (by simp)
      rw [ha2] at e2 e3
      have hlt:=(List.getElem?_eq_some_iff.1 a1).1
      refine ⟨mem++(ext++[⟨true,ty,cs.length,0,1,ds,false⟩]),.op ?_,.op ?_⟩
      · simp only [evalOp,Option.some.injEq,Prod.mk.injEq]
        rw [ha1]
        refine ⟨?_,by simp⟩
        rw [←e2]
        simp
      · have:=a6 (mem++(ext++[⟨true,ty,cs.length,0,1,ds,false⟩])) (by rw [List.getElem?_append_left hlt];exact a1)
        rw [this,←e3,List.set_append_left _ _ hlt]
        simp
  · cases hy
theorem rd_set {C:CallRel} {mem m1 m2:List AObj} {e:Opd→AV} {x y:MOp} {v1 v2:AV} (hk:rdSet x y=true) (h1:OpR C mem e x v1 m1) (h2:OpR C m1 e y v2 m2):m1=mem∧OpR C m2 e x v1 m2:=by
  simp only [rdSet,Bool.and_eq_true] at hk
  obtain ⟨hy,hk⟩:=hk
  have hr:x.isRead=true:=by split at hk<;>first|rfl|cases hk
  have h1':evalOp mem e x=some (v1,m1):=by
    cases h1 with
    | op h=>exact h
    | _=>simp at hk
  have hm:m1=mem:=(evalOp_read (Grow.refl mem) hr h1').1
  subst hm
  refine ⟨rfl,?_⟩
  obtain ⟨k,o,o',a1,rfl,a3,a4,a5,a6⟩:=set_spec hy (OpR_set hy h2)
  have key:∀{n g:Nat} {q:AObj},q.box=true∧q.n≠0→geto m1 n g=some q→geto (m1.set k o') n g=some q:=fun {n g q} hc hq=>by
    have hn:n≠k:=fun h=>by
      subst h
      rw [geto_at hq] at a1
      obtain rfl:=Option.some.inj a1
      rcases a3 with a3|a3
      · rw [hc.1] at a3;cases a3
      · exact hc.2 a3
    exact geto_of hq (geto_at hq) (by rw [List.getElem?_set_ne (Ne.symm hn)];exact geto_at hq)
  split at hk
  · rename_i agg n p
    simp only [evalOp] at h1'
    refine .op ?_
    simp only [evalOp]
    split at h1'
    · rename_i cs i hv
      simp only [Option.map_eq_some_iff] at h1'
      obtain ⟨u,hu,hq⟩:=h1'
      simp only [Prod.mk.injEq] at hq
      obtain ⟨rfl,_⟩:=hq
      simp [hu]
    · rename_i q g i hv
      split at h1'
      · rename_i q' hq'
        split at h1'
        · rename_i hc
          rw [key hc hq']
          obtain ⟨u,hu,hq⟩:=Option.map_eq_some_iff.1 h1'
          simp only [Prod.mk.injEq] at hq
          obtain ⟨rfl,_⟩:=hq
          simp only []
          rw [if_pos hc,hu]
          rfl
        · cases h1'
      · cases h1'
    · cases h1'
  · rename_i off p
    simp only [evalOp] at h1'
    refine .op ?_
    simp only [evalOp]
    split at h1'
    · rename_i cs i hv
      simp only [Option.some.injEq,Prod.mk.injEq] at h1'
      simp [h1'.1]
    · rename_i q g i hv
      split at h1'
      · rename_i u hu
        split at h1'
        · rename_i hc
          simp only [Option.some.injEq,Prod.mk.injEq] at h1'
          rw [key hc hu]
          simp only []
          rw [if_pos hc,h1'.1]
        · cases h1'
      · cases h1'
    · cases h1'
  · cases hk
def Like (s t:St):Prop:=s.mem=t.mem∧∀n,getE s.env n=getE t.env n
theorem Like.refl (s:St):Like s s:=⟨rfl,fun _=>rfl⟩
theorem Like.symm {s t:St} (h:Like s t):Like t s:=⟨h.1.symm,fun n=>(h.2 n).symm⟩
theorem Like.trans {s t u:St} (h:Like s t) (k:Like t u):Like s u:=⟨h.1.trans k.1,fun n=>(h.2 n).trans (k.2 n)⟩
theorem Like.ev {s t:St} (h:Like s t):ev s.env=ev t.env:=by
  funext x
  cases x with
  | t n=>exact h.2 n
  | k=>rfl
theorem Like.put {env env':Env} (h:∀n,getE env n=getE env' n) (d:Option Nat) (v:AV):∀n,getE (putE env d v) n=getE (putE env' d v) n:=by
  intro n
  cases d with
  | none=>exact h n
  | some d=>simp only [putE,getE,h n]
theorem StepR.like {C:CallRel} {s s' t:St} {o:IOp} (h:StepR C s o s') (hl:Like s t):∃t',StepR C t o t'∧Like s' t':=by
  obtain ⟨v,m,h1,rfl⟩:=stepR_core.1 h
  rw [hl.1,hl.ev] at h1
  exact ⟨_,stepR_core.2 ⟨v,m,h1,rfl⟩,rfl,Like.put hl.2 _ _⟩
theorem RegR.like {C:CallRel} {ops:List IOp} {s s' t:St} (h:RegR C ops s s') (hl:Like s t):∃t',RegR C ops t t'∧Like s' t':=by
  induction h generalizing t with
  | nil=>exact ⟨t,.nil,hl⟩
  | cons h1 _ ih=>
    obtain ⟨t1,h2,h3⟩:=h1.like hl
    obtain ⟨t2,h4,h5⟩:=ih h3
    exact ⟨t2,.cons h2 h4,h5⟩
theorem put_comm {env:Env} {x y:Option Nat} {v u:AV} (h:∀d,x=some d→y≠some d):∀n,getE (putE (putE env x v) y u) n=getE (putE (putE env y u) x v) n:=by
  intro n
  cases x with
  | none=>rfl
  | some d=>
    cases y with
    | none=>rfl
    | some k=>
      have:=h d rfl
      simp only [putE,getE]
      by_cases h1:k=n
      · by_cases h2:d=n
        · subst h1;subst h2;exact absurd rfl this
        · simp [h1,h2]
      · simp [h1]
theorem swap {C:CallRel} {s s1 s2:St} {x y:IOp} (hp:okPair x y=true) (h1:StepR C s x s1) (h2:StepR C s1 y s2):∃t1 t2,StepR C s y t1∧StepR C t1 x t2∧Like t2 s2:=by
  simp only [okPair,Bool.and_eq_true,apartPair] at hp
  obtain ⟨⟨ha,hb⟩,hc⟩:=hp
  have a1:∀d,x.dst=some d→y.looks d=false∧y.dst≠some d:=fun d hd=>by
    rw [hd] at ha
    simpa using ha
  have a2:∀d,y.dst=some d→x.looks d=false:=fun d hd=>by
    rw [hd] at hb
    simpa using hb
  obtain ⟨v1,m1,c1,rfl⟩:=stepR_core.1 h1
  obtain ⟨v2,m2,c2,rfl⟩:=stepR_core.1 h2
  simp only at c2
  obtain ⟨l1,l2⟩:=looks_ev (env:=s.env) (v:=v1) (fun d hd=>(a1 d hd).1)
  obtain ⟨l3,l4⟩:=looks_ev (env:=s.env) (v:=v2) a2
  have c2':Core C m1 (ev s.env) y v2 m2:=c2.congr (fun z hz=>(l1 z hz).symm) (fun t b hg=>(l2 t b hg).symm)
  have fin:∀m,Core C s.mem (ev s.env) y v2 m→Core C m (ev s.env) x v1 m2→∃t1 t2,StepR C s y t1∧StepR C t1 x t2∧Like t2 ⟨putE (putE s.env x.dst v1) y.dst v2,m2⟩:=fun m k1 k2=>
    ⟨_,_,stepR_core.2 ⟨v2,m,k1,rfl⟩,stepR_core.2 ⟨v1,m2,k2.congr l3 l4,rfl⟩,rfl,fun n=>(put_comm (fun d hd=>(a1 d hd).2) n).symm⟩
  simp only [classPair,Bool.or_eq_true,Bool.and_eq_true] at hc
  rcases hc with ((((((hc|hc)|⟨hr,hc⟩)|hc)|hc)|hc)|hc)|hc
  · obtain ⟨rfl,k⟩:=c1.pure m2 hc
    exact fin m2 c2' k
  · obtain ⟨rfl,k⟩:=c2'.pure s.mem hc
    exact fin s.mem k c1
  · have hm:m1=s.mem:=(c1.read (Grow.refl _) hr).1
    rw [hm] at c2'
    have hg:Grow s.mem m2:=by
      rcases hc with hc|hc
      · rw [(c2'.read (Grow.refl _) hc).1];exact Grow.refl _
      · exact c2'.push hc
    exact fin m2 c2' (c1.read hg hr).2
  · cases c1 with
    | no g1 g2=>exact fin m2 c2' (.no g1 g2)
    | go g1 g2=>
      cases c2' with
      | no k1 k2=>
        exact fin s.mem (.no k1 k2) (.go g1 g2)
      | go k1 k2=>
        obtain ⟨r1,r2⟩:=ld_sta hc (fun _ _=>rfl) g2 k2
        rw [r1] at k2
        exact fin m2 (.go k1 k2) (.go g1 r2)
  · cases c1 with
    | no g1 g2=>exact fin m2 c2' (.no g1 g2)
    | go g1 g2=>
      cases c2' with
      | no k1 k2=>exact fin s.mem (.no k1 k2) (.go g1 g2)
      | go k1 k2=>
        obtain ⟨m,r1,r2⟩:=call_alloc hc g2 k2
        exact fin m (.go k1 r1) (.go g1 r2)
  · cases c1 with
    | no g1 g2=>exact fin m2 c2' (.no g1 g2)
    | go g1 g2=>
      cases c2' with
      | no k1 k2=>exact fin s.mem (.no k1 k2) (.go g1 g2)
      | go k1 k2=>
        obtain ⟨m,r1,r2⟩:=set_set hc g2 k2
        exact fin m (.go k1 r1) (.go g1 r2)
  · cases c1 with
    | no g1 g2=>exact fin m2 c2' (.no g1 g2)
    | go g1 g2=>
      cases c2' with
      | no k1 k2=>exact fin s.mem (.no k1 k2) (.go g1 g2)
      | go k1 k2=>
        obtain ⟨m,r1,r2⟩:=set_alloc hc g2 k2
        exact fin m (.go k1 r1) (.go g1 r2)
  · cases c1 with
    | no g1 g2=>exact fin m2 c2' (.no g1 g2)
    | go g1 g2=>
      cases c2' with
      | no k1 k2=>exact fin s.mem (.no k1 k2) (.go g1 g2)
      | go k1 k2=>
        obtain ⟨r1,r2⟩:=rd_set hc g2 k2
        rw [r1] at k2
        exact fin m2 (.go k1 k2) (.go g1 r2)
theorem front {C:CallRel} {y:IOp}:∀{pre post:List IOp} {s s':St},(∀x∈pre,okPair x y=true)→RegR C (pre++y::post) s s'→∃s1 s2,StepR C s y s1∧RegR C (pre++post) s1 s2∧Like s2 s'
  | [],post,s,s',_,h=>by
    cases h with|cons h1 h2=>exact ⟨_,_,h1,h2,Like.refl _⟩
  | x::pre,post,s,s',hp,h=>by
    cases h with
    | cons h1 h2=>
      obtain ⟨s1,s2,h3,h4,h5⟩:=front (fun z hz=>hp z (by simp [hz])) h2
      obtain ⟨t1,t2,k1,k2,k3⟩:=swap (hp x (by simp)) h1 h3
      obtain ⟨u,k4,k5⟩:=h4.like k3.symm
      exact ⟨t1,u,k1,.cons k2 k4,k5.symm.trans h5⟩
end Go.V

namespace Go.V
open Go
def SR (w0:World) (fz0:Nat→Prop) (mem0:List AObj) (ρ0:List Value) (N:Nat) (s:St) (a:Act) (w:World):Prop:=
  ∃(fz:Nat→Prop) (ρ:List Value),Ext w0 fz0 mem0 ρ0 w fz s.mem ρ∧Mem w fz s.mem ρ∧EnvR w fz s.mem ρ s.env a∧a.tmps.size=N∧a.defers=[]
theorem EnvR.like {w:World} {fz:Nat→Prop} {mem:List AObj} {ρ:List Value} {env env':Env} {a:Act} (h:EnvR w fz mem ρ env a) (hl:∀n,getE env n=getE env' n):EnvR w fz mem ρ env' a:=
  fun n hn=>by rw [←hl n];exact h n hn
theorem SR.like {w0:World} {fz0:Nat→Prop} {mem0:List AObj} {ρ0:List Value} {N:Nat} {s t:St} {a:Act} {w:World} (h:SR w0 fz0 mem0 ρ0 N s a w) (hl:Like s t):SR w0 fz0 mem0 ρ0 N t a w:=by
  obtain ⟨fz,ρ,h1,h2,h3,h4,h5⟩:=h
  rw [hl.1] at h1 h2 h3
  exact ⟨fz,ρ,h1,h2,h3.like hl.2,h4,h5⟩
theorem put_size {a:Act} {d:Option Nat} {v:Value}:(a.put d v).tmps.size=a.tmps.size:=by
  cases d<;>simp [Act.put]
theorem put_defers {a:Act} {d:Option Nat} {v:Value}:(a.put d v).defers=a.defers:=by
  cases d<;>simp [Act.put]
theorem EnvR.put {w w':World} {fz fz':Nat→Prop} {mem mem':List AObj} {ρ ρ':List Value} {env:Env} {a:Act} (he:EnvR w fz mem ρ env a) (hx:Ext w fz mem ρ w' fz' mem' ρ') {d:Option Nat} {v:AV} {u:Value} (hr:Rep w' fz' mem' ρ' v u) :
    EnvR w' fz' mem' ρ' (putE env d v) (a.put d u):=by
  intro n hn
  rw [put_size] at hn
  cases d with
  | none=>exact (he n hn).ext hx
  | some d=>
    simp only [putE,getE,Act.put]
    by_cases h:d=n
    · subst h
      rw [if_pos rfl]
      have:(a.tmps.setIfInBounds d u).getD d undef=u:=by simp [hn]
      rw [this]
      exact hr
    · rw [if_neg h]
      have:(a.tmps.setIfInBounds d u).getD n undef=a.tmps.getD n undef:=by simp [Array.getElem?_setIfInBounds_ne h]
      rw [this]
      exact (he n hn).ext hx
def okGuard (ops:Array Oper):Option (Nat × Bool)→Option (Nat × Bool)→Bool
  | none,none=>true
  | some (j,b),some (t,b')=>b==b'&&(match ops[j]? with|some o=>o.dst==some t|none=>false)
  | _,_=>false
def okOper (P:Program) (N:Nat) (ops:Array Oper) (o:Oper) (i:IOp):Bool:=
  o.dst==i.dst&&okGuard ops o.guard i.g&&(match i.g with|some (t,_)=>decide (t<N)|none=>true)&&okIO P N o.op i.op
def okAt (P:Program) (N:Nat) (ops:Array Oper) (j:Nat) (i:IOp):Bool:=
  match ops[j]? with
  | some o=>okOper P N ops o i
  | none=>false
section
variable {P:Program} {C:CallRel} {w0:World} {fz0:Nat→Prop} {mem0:List AObj} {ρ0:List Value} {N:Nat}
theorem step_ok (hC:CallsOk P C) {ops:Array Oper} {j:Nat} {i:IOp} {s s':St} {a:Act} {w:World} {Q:Exit→Act→World→Prop} {K:Act→World→Prop} (hk:okAt P N ops j i=true) (hs:SR w0 fz0 mem0 ρ0 N s a w) (h:StepR C s i s')
    (hK:∀a' w',SR w0 fz0 mem0 ρ0 N s' a' w'→K a' w'):wpOp P ops Q j K a w:=by
  unfold okAt at hk
  unfold wpOp
  split at hk
  · rename_i o ho
    simp only [ho]
    simp only [okOper,Bool.and_eq_true,beq_iff_eq] at hk
    obtain ⟨⟨⟨h1,h2⟩,h3⟩,h4⟩:=hk
    obtain ⟨fz,ρ,e1,e2,e3,e4,e5⟩:=hs
    have wanted:∀{t b:_} {c:Bool},i.g=some (t,b)→ev s.env (.t t)=.bool c→(Region.wanted o (yielded ops a.tmps)=(c==b)):=by
      intro t b c hg hc
      rw [hg] at h2 h3
      unfold okGuard at h2
      split at h2
      · rename_i q;cases q
      · rename_i j' b1 t' b' hgo q
        simp only [Option.some.injEq,Prod.mk.injEq] at q
        obtain ⟨rfl,rfl⟩:=q
        simp only [Bool.and_eq_true,beq_iff_eq] at h2
        obtain ⟨rfl,h2⟩:=h2
        split at h2
        · rename_i o' ho'
          simp only [beq_iff_eq] at h2
          simp only [decide_eq_true_eq] at h3
          have h6:=e3 t (by omega)
          simp only [ev] at hc
          rw [hc] at h6
          have h7:=rep_bool h6
          have h8:a.tmps[t]?=some (.bool c):=by
            have ht:t<a.tmps.size:=by omega
            rw [Array.getElem?_eq_getElem ht]
            simpa [Array.getD,ht] using h7
          simp only [Region.wanted,hgo,yielded,ho',Option.bind_some,h2,h8]
          cases c<;>cases b1<;>rfl
        · cases h2
      · cases h2
    have unwanted:∀{t b:_},i.g=some (t,b)→ev s.env (.t t)=.tup []→Region.wanted o (yielded ops a.tmps)=false:=by
      intro t b hg hc
      rw [hg] at h2 h3
      unfold okGuard at h2
      split at h2
      · rename_i q;cases q
      · rename_i j' b1 t' b' hgo q
        simp only [Option.some.injEq,Prod.mk.injEq] at q
        obtain ⟨rfl,rfl⟩:=q
        simp only [Bool.and_eq_true,beq_iff_eq] at h2
        obtain ⟨rfl,h2⟩:=h2
        split at h2
        · rename_i o' ho'
          simp only [beq_iff_eq] at h2
          simp only [decide_eq_true_eq] at h3
          have h6:=e3 t (by omega)
          simp only [ev] at hc
          rw [hc] at h6
          obtain ⟨vs,h7,_⟩:=rg_tup_rep h6
          have h8:a.tmps[t]?=some (.tuple vs):=by
            have ht:t<a.tmps.size:=by omega
            rw [Array.getElem?_eq_getElem ht]
            simpa [Array.getD,ht] using h7
          simp only [Region.wanted,hgo,yielded,ho',Option.bind_some,h2,h8]
          cases b1<;>rfl
        · cases h2
      · cases h2
    have wnone:i.g=none→Region.wanted o (yielded ops a.tmps)=true:=by
      intro hg
      rw [hg] at h2
      unfold okGuard at h2
      split at h2
      · rename_i q _;simp only [Region.wanted,q]
      · rename_i q;cases q
      · cases h2
    cases h with
    | go g1 g2=>
      have hw:Region.wanted o (yielded ops a.tmps)=true:=by
        rcases g1 with g1|⟨t,b,g1,g3⟩
        · exact wnone g1
        · rw [wanted g1 g3];simp
      rw [if_pos hw]
      rw [←e4] at h4
      refine .inl (opR_ok hC e2 e3 h4 g2 _ _ (fun u w' fz' ρ' k1 k2 k3=>hK _ _ ⟨fz',ρ',e1.trans k1,k2,?_,by rw [put_size];exact e4,by rw [put_defers];exact e5⟩))
      rw [←h1]
      exact e3.put k1 k3
    | no g1 g2=>
      rename_i t b
      have hw:Region.wanted o (yielded ops a.tmps)=false:=by
        rcases g2 with g2|g2
        · rw [wanted g1 g2];cases b<;>rfl
        · exact unwanted g1 g2
      rw [if_neg (by rw [hw];decide)]
      refine hK _ _ ⟨fz,ρ,e1,e2,?_,by rw [put_size];exact e4,by rw [put_defers];exact e5⟩
      rw [←h1]
      exact e3.put Ext.refl (.gr (.tup rfl (fun j c u h=>by simp at h)))
  · cases hk
def okList (P:Program) (N:Nat) (ops:Array Oper):List Nat→List IOp→Bool
  | [],[]=>true
  | j::js,i::is=>okAt P N ops j i&&okList P N ops js is
  | _,_=>false
theorem regT_ok (hC:CallsOk P C) {ops:Array Oper} {Q:Exit→Act→World→Prop}:∀{js:List Nat} {is:List IOp} {s s':St} {a:Act} {w:World},okList P N ops js is=true→SR w0 fz0 mem0 ρ0 N s a w→RegR C is s s'→
    (∀a' w',SR w0 fz0 mem0 ρ0 N s' a' w'→Q .normal a' w')→wpOps P ops Q js a w
  | [],[],s,s',a,w,_,hs,h,hQ=>by
    cases h
    exact hQ a w hs
  | j::js,i::is,s,s',a,w,hk,hs,h,hQ=>by
    simp only [okList,Bool.and_eq_true] at hk
    cases h with
    | cons h1 h2=>
      rw [wpOps_cons]
      exact step_ok hC hk.1 hs h1 (fun a' w' hs'=>regT_ok hC hk.2 hs' h2 hQ)
  | [],_::_,_,_,_,_,hk,_,_,_=>by cases hk
  | _::_,[],_,_,_,_,hk,_,_,_=>by cases hk
def reach (ops:Array Oper):Nat→Nat→Nat→Bool
  | 0,_,_=>false
  | n+1,i,k=>match ops[i]? with
    | some o=>(o.after.any fun e=>Region.binds .any e&&e.on==k) || (o.after.any fun e=>Region.binds .any e&&(decide (k<e.on)&&reach ops n e.on k))
    | none=>false
def okDrawn (ops:Array Oper):List Nat→List (Nat × IOp)→Bool
  | _,[]=>true
  | done,(i,o)::rest=>
    (match ops[i]? with|some p=>p.after.all (fun e=>!Region.binds .any e || done.contains e.on)|none=>false) && !(done.contains i)&&decide (∀q∈rest,q.1≠i) &&
      rest.all (fun q=>okPair o q.2 || reach ops 64 q.1 i)&&okDrawn ops (i::done) rest
def listedB (listed:Array Bool) (j:Nat):Prop:=listed.getD j false=true
def Down (ops:Array Oper) (listed:Array Bool):Prop:=∀(j:Nat) (o:Oper),listedB listed j→ops[j]?=some o→∀e∈o.after,Region.binds .any e=true→listedB listed e.on
theorem reach_listed {ops:Array Oper} {listed:Array Bool} (hd:Down ops listed):∀{n i k:Nat},(∀o,ops[i]?=some o→∀e∈o.after,Region.binds .any e=true→listedB listed e.on)→reach ops n i k=true→listedB listed k
  | 0,_,_,_,h=>by cases h
  | n+1,i,k,hi,h=>by
    simp only [reach] at h
    split at h
    · rename_i o ho
      simp only [Bool.or_eq_true,Array.any_eq_true',Bool.and_eq_true,beq_iff_eq] at h
      rcases h with ⟨e,he,hb,hk⟩|⟨e,he,hb,hk⟩
      · rw [←hk];exact hi o ho e he hb
      · exact reach_listed hd (fun o' ho'=>hd e.on o' (hi o ho e he hb) ho') hk.2
    · cases h
def PairR (ops:Array Oper) (p q:Nat × IOp):Prop:=
  p.1≠q.1∧(okPair p.2 q.2=true∨reach ops 64 q.1 p.1=true)∧∀o,ops[p.1]?=some o→∀e∈o.after,Region.binds .any e=true→e.on≠q.1
theorem okDrawn_spec {ops:Array Oper}:∀{l:List (Nat × IOp)} {done:List Nat},okDrawn ops done l=true→l.Pairwise (PairR ops)∧
    (∀p∈l,p.1∉done∧∃o,ops[p.1]?=some o∧∀e∈o.after,Region.binds .any e=true→e.on≠p.1∧(e.on∈done∨∃q∈l,q.1=e.on))
  | [],done,h=>⟨.nil,fun p hp=>by cases hp⟩
  | (i,o)::rest,done,h=>by
    simp only [okDrawn,Bool.and_eq_true,Bool.not_eq_true',decide_eq_true_eq,List.all_eq_true,Bool.or_eq_true] at h
    obtain ⟨⟨⟨⟨h1,h2⟩,h3⟩,h4⟩,h5⟩:=h
    obtain ⟨k1,k2⟩:=okDrawn_spec h5
    have h2':i∉done:=by simpa using h2
    split at h1
    · rename_i p hp
      rw [Array.all_eq_true'] at h1
      have h6:∀e∈p.after,Region.binds .any e=true→e.on∈done:=fun e he hb=>by
        have:=h1 e he
        simpa [hb] using this
      refine ⟨.cons (fun q hq=>⟨Ne.symm (h3 q hq),h4 q hq,fun o' ho' e he hb heq=>?_⟩) k1,fun q hq=>?_⟩
      · simp only [hp,Option.some.injEq] at ho'
        subst ho'
        have h7:=h6 e he hb
        have h8:=(k2 q hq).1
        rw [heq] at h7
        exact h8 (by simp [h7])
      · rcases List.mem_cons.1 hq with rfl|hq
        · exact ⟨h2',p,hp,fun e he hb=>⟨fun heq=>h2' (by have h9:=h6 e he hb;rw [heq] at h9;exact h9),.inl (h6 e he hb)⟩⟩
        · obtain ⟨g1,o',g2,g3⟩:=k2 q hq
          refine ⟨fun hm=>g1 (by simp [hm]),o',g2,fun e he hb=>?_⟩
          obtain ⟨g4,g5⟩:=g3 e he hb
          refine ⟨g4,?_⟩
          rcases g5 with g5|⟨r,hr,hre⟩
          · rcases List.mem_cons.1 g5 with h|h
            · exact .inr ⟨(i,o),by simp,h.symm⟩
            · exact .inl h
          · exact .inr ⟨r,by simp [hr],hre⟩
    · cases h1
theorem getD_true_of {listed:Array Bool} {j:Nat} (h:listed.getD j true=false):¬listedB listed j:=by
  intro h'
  unfold listedB at h'
  rcases Nat.lt_or_ge j listed.size with hl|hl
  · simp [hl] at h h';rw [h] at h';cases h'
  · simp [Array.getElem?_eq_none hl] at h
theorem any_ok (hC:CallsOk P C) {ops:Array Oper} {Q:Exit→Act→World→Prop} {s':St} (hQ:∀a' w',SR w0 fz0 mem0 ρ0 N s' a' w'→Q .normal a' w') :
    ∀ (fuel:Nat) (todo:List (Nat × IOp)) (listed:Array Bool) (s s2:St) (a:Act) (w:World),todo.length=fuel→listed.size=ops.size→RegR C (todo.map (·.2)) s s2→Like s2 s'→SR w0 fz0 mem0 ρ0 N s a w→
      (∀p∈todo,okAt P N ops p.1 p.2=true)→todo.Pairwise (PairR ops)→(∀p∈todo,∀o,ops[p.1]?=some o→∀e∈o.after,Region.binds .any e=true→e.on≠p.1∧e.on<ops.size)→
      (∀p∈todo,listed.getD p.1 true=false)→(∀j,j<ops.size→listedB listed j∨∃p∈todo,p.1=j)→Down ops listed→wpAny P .any ops Q fuel listed a w:=by
  intro fuel
  induction fuel with
  | zero=>
    intro todo listed s s2 a w hlen hsz hreg hlike hs hat hpw hself hun hcov hdown
    obtain rfl:=List.length_eq_zero_iff.1 hlen
    cases hreg
    refine ⟨List.eq_nil_iff_forall_not_mem.2 fun j hj=>?_,hQ a w (hs.like hlike)⟩
    obtain ⟨h1,o,h2,h3⟩:=mem_ready.1 hj
    rcases hcov j (Array.getElem?_eq_some_iff.1 h2).1 with h|⟨p,hp,_⟩
    · exact getD_true_of h1 h
    · cases hp
  | succ fuel ih=>
    intro todo listed s s2 a w hlen hsz hreg hlike hs hat hpw hself hun hcov hdown
    refine ⟨fun h0=>?_,fun i hi=>?_⟩
    · -- the first of the list is ready
      exfalso
      cases todo with
      | nil=>simp at hlen
      | cons p rest=>
        have hp:=hat p (by simp)
        unfold okAt at hp
        split at hp
        · rename_i o ho
          have:p.1∈Region.ready .any ops listed:=by
            refine mem_ready.2 ⟨hun p (by simp),o,ho,fun e he hb=>?_⟩
            obtain ⟨k1,k2⟩:=hself p (by simp) o ho e he hb
            rcases hcov e.on k2 with h|⟨q,hq,hqe⟩
            · exact h
            · rcases List.mem_cons.1 hq with rfl|hq
              · exact absurd hqe.symm k1
              · have:=(List.pairwise_cons.1 hpw).1 q hq
                exact absurd hqe.symm (this.2.2 o ho e he hb)
          rw [h0] at this
          cases this
        · cases hp
    · obtain ⟨h1,o,h2,h3⟩:=mem_ready.1 hi
      have hilt:=(Array.getElem?_eq_some_iff.1 h2).1
      have hmem:∃p∈todo,p.1=i:=by
        rcases hcov i hilt with h|h
        · exact absurd h (getD_true_of h1)
        · exact h
      obtain ⟨⟨i',io⟩,hp,rfl⟩:=hmem
      obtain ⟨pre,post,rfl⟩:=List.append_of_mem hp
      have hpre:∀x∈pre.map (·.2),okPair x io=true:=by
        intro x hx
        obtain ⟨p,hp',rfl⟩:=List.mem_map.1 hx
        have hR:=(List.pairwise_append.1 hpw).2.2 p hp' (i',io) (by simp)
        rcases hR.2.1 with h|h
        · exact h
        · exfalso
          have hl:=reach_listed hdown (fun o' ho' e he hb=>by
            simp only at ho'
            rw [h2] at ho'
            obtain rfl:=Option.some.inj ho'
            exact h3 e he hb) h
          exact getD_true_of (hun p (by simp [hp'])) hl
      rw [List.map_append,List.map_cons] at hreg
      obtain ⟨t1,t2,f1,f2,f3⟩:=front hpre hreg
      refine step_ok hC (hat _ hp) hs f1 (fun a' w' hs'=>?_)
      have hsub:∀p,p∈pre++post→p∈pre++(i',io)::post:=fun p hp=>by
        rcases List.mem_append.1 hp with h|h
        · exact List.mem_append.2 (.inl h)
        · exact List.mem_append.2 (.inr (by simp [h]))
      have hpw':(pre++post).Pairwise (PairR ops):=hpw.sublist (List.Sublist.append_left (List.sublist_cons_self _ _) _)
      have hne:∀p∈pre++post,p.1≠i':=fun p hp=>by
        rcases List.mem_append.1 hp with h|h
        · exact ((List.pairwise_append.1 hpw).2.2 p h (i',io) (by simp)).1
        · exact Ne.symm ((List.pairwise_cons.1 (List.pairwise_append.1 hpw).2.1).1 p h).1
      have hmono:∀j,listedB listed j→listedB (listed.setIfInBounds i' true) j:=fun j hj=>getD_set_true hj
      have hnow:listedB (listed.setIfInBounds i' true) i':=by
        unfold listedB
        simp [hsz,hilt]
      refine ih (pre++post) _ t1 t2 a' w' (by simp at hlen ⊢;omega) (by simpa using hsz) (by rw [List.map_append];exact f2) (f3.trans hlike) hs' (fun p hp=>hat p (hsub p hp)) hpw' (fun p hp=>hself p (hsub p hp)) (fun p hp=>?_) (fun j hj=>?_) ?_
      · rw [getD_set_ne true (Ne.symm (hne p hp))]
        exact hun p (hsub p hp)
      · rcases hcov j hj with h|⟨p,hp,rfl⟩
        · exact .inl (hmono j h)
        · by_cases h:p.1=i'
          · rw [h];exact .inl hnow
          · refine .inr ⟨p,?_,rfl⟩
            rcases List.mem_append.1 hp with h'|h'
            · exact List.mem_append.2 (.inl h')
            · rcases List.mem_cons.1 h' with h'|h'
              · rw [h'] at h;exact absurd rfl h
              · exact List.mem_append.2 (.inr h')
      · intro j o' hj ho' e he hb
        by_cases h:j=i'
        · subst h
          simp only at h2
          rw [h2] at ho'
          obtain rfl:=Option.some.inj ho'
          exact hmono _ (h3 e he hb)
        · have:listedB listed j:=by
            unfold listedB at hj ⊢
            rwa [getD_set_ne false (Ne.symm h)] at hj
          exact hmono _ (hdown j o' this ho' e he hb)
theorem SR.drew {s:St} {a:Act} {w:World} (h:SR w0 fz0 mem0 ρ0 N s a w):SR w0 fz0 mem0 ρ0 N s a { w with drawn:=w.drawn+1 }:=by
  obtain ⟨fz,ρ,h1,h2,h3,h4,h5⟩:=h
  have ho:Old w { w with drawn:=w.drawn+1 }:=⟨rfl,rfl,rfl,Nat.le_refl _,fun _ _=>rfl⟩
  obtain ⟨k1,k2⟩:=h2.old ho
  exact ⟨fz,ρ,h1.trans k1,k2,fun n hn=>(h3 n hn).ext k1,h4,h5⟩
def okRegion (P:Program) (N:Nat) (ops:Array Oper) (draw:Bool):Option (List Nat)→List IOp→Bool
  | none,is=>!draw&&okList P N ops (List.range ops.size) is
  | some js,is=>draw&&js.length==ops.size&&is.length==ops.size&&okList P N ops js is&&okDrawn ops [] (js.zip is)&&(List.range ops.size).all js.contains
theorem okList_zip {ops:Array Oper}:∀{js:List Nat} {is:List IOp},okList P N ops js is=true→∀p∈js.zip is,okAt P N ops p.1 p.2=true
  | [],[],_,p,hp=>by simp at hp
  | j::js,i::is,h,p,hp=>by
    simp only [okList,Bool.and_eq_true] at h
    simp only [List.zip_cons_cons,List.mem_cons] at hp
    rcases hp with rfl|hp
    · exact h.1
    · exact okList_zip h.2 p hp
  | [],_::_,h,_,_=>by cases h
  | _::_,[],h,_,_=>by cases h
theorem region_ok (hC:CallsOk P C) (hm:P.follows .mixedOrders=true) {id:Nat} {ops:Array Oper} {draw:Bool} {perm:Option (List Nat)} {is:List IOp} {Q:Exit→Act→World→Prop} {s s':St} {a:Act} {w:World}
    (hk:okRegion P N ops draw perm is=true) (hs:SR w0 fz0 mem0 ρ0 N s a w) (h:RegR C is s s') (hQ:∀a' w',SR w0 fz0 mem0 ρ0 N s' a' w'→Q .normal a' w'):(Code.region id ops draw).wp P Q a w:=by
  cases perm with
  | none=>
    simp only [okRegion,Bool.and_eq_true,Bool.not_eq_true'] at hk
    obtain ⟨rfl,hk⟩:=hk
    exact wp_region (regT_ok hC hk hs h hQ)
  | some js=>
    simp only [okRegion,Bool.and_eq_true,beq_iff_eq,List.all_eq_true,List.mem_range] at hk
    obtain ⟨⟨⟨⟨⟨rfl,h1⟩,h2⟩,h3⟩,h4⟩,h5⟩:=hk
    obtain ⟨k1,k2⟩:=okDrawn_spec h4
    have hmap:(js.zip is).map (·.2)=is:=by
      rw [List.map_snd_zip];omega
    have hmap1:(js.zip is).map (·.1)=js:=by
      rw [List.map_fst_zip];omega
    refine wp_region_any hm (any_ok hC hQ ops.size (js.zip is) _ s s' a _ (by simp [h1,h2]) (by simp) (by rw [hmap];exact h) (Like.refl _) hs.drew (okList_zip h3) k1 (fun p hp o ho e he hb=>?_) (fun p hp=>?_) (fun j hj=>?_) ?_)
    · obtain ⟨_,o',g1,g2⟩:=k2 p hp
      rw [ho] at g1
      obtain rfl:=Option.some.inj g1
      obtain ⟨g3,g4⟩:=g2 e he hb
      refine ⟨g3,?_⟩
      rcases g4 with g4|⟨q,hq,hqe⟩
      · cases g4
      · obtain ⟨_,o',g5,_⟩:=k2 q hq
        rw [←hqe]
        exact (Array.getElem?_eq_some_iff.1 g5).1
    · obtain ⟨_,o',g5,_⟩:=k2 p hp
      have:=(Array.getElem?_eq_some_iff.1 g5).1
      simp [this]
    · refine .inr ?_
      have:=h5 j hj
      rw [←hmap1] at this
      simp only [List.contains_eq_mem,decide_eq_true_eq,List.mem_map] at this
      exact this
    · intro j o' hj
      unfold listedB at hj
      rcases Nat.lt_or_ge j ops.size with hl|hl<;>simp [hl] at hj
end
end Go.V
