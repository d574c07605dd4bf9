/- The texts VCode VCalls VRun VLoop VGlue VIr0, one behind the other. Conditions: each text's own. -/
import Derived.Test.YtlejgleocnemoaaG01
import Derived.Below
import Derived.Test.YtlejgleocnemoaaG00
set_option linter.unusedSimpArgs false
set_option linter.unusedVariables false
namespace Go.V
open Go
def okCode (P:Program) (N:Nat):Code→IR→Bool
  | c,.lv _ x=>okCode P N c x
  | c,.rsv _ _ sz x=>decide (0<sz)&&okCode P N c x
  | .skip,.skip=>true
  | .ret,.ret=>true
  | .exit i,.exit j=>i==j
  | .region _ ops draw,.reg perm is=>okRegion P N ops draw perm is
  | .seq a b,.seq x y=>okCode P N a x&&okCode P N b y
  | .cond c a b,.cond c' x y=>okOpd N c c'&&(okCode P N a x&&okCode P N b y)
  | .block i a,.block j x=>i==j&&okCode P N a x
  | .loop a,.loop _ _ x=>okCode P N a x
  | _,_=>false
termination_by structural _ x=>x
def noKeep:IR→Bool
  | .seq x y=>noKeep x&&noKeep y
  | .cond _ x y=>noKeep x&&noKeep y
  | .block _ x=>noKeep x
  | .lv _ x=>noKeep x
  | .rsv _ _ _ x=>noKeep x
  | .loop _ k x=>k.isNone&&noKeep x
  | _=>true
def X.exit?:X→Exit
  | .nrm=>.normal
  | .exit id=>.exit id
  | .ret=>.ret
section
variable {P:Program} {C:CallRel} {w0:World} {fz0:Nat→Prop} {mem0:List AObj} {ρ0:List Value} {N:Nat}
theorem under_agg {m:Nat}:∀{cs:List AV},underL m cs=true→∀c∈cs,under m c=true
  | [],_,c,hc=>by cases hc
  | d::cs,h,c,hc=>by
    simp only [underL,Bool.and_eq_true] at h
    rcases List.mem_cons.1 hc with rfl|hc
    · exact h.1
    · exact under_agg h.2 c hc
theorem Rep.take {w:World} {fz:Nat→Prop} {mem:List AObj} {ρ:List Value} {c:AV} {v:Value} {m:Nat} (h:Rep w fz mem ρ c v) (hu:under m c=true):Rep w fz (mem.take m) (ρ.take m) c v:=by
  have key:∀{n:Nat} {ob:AObj},n<m→mem[n]?=some ob→(mem.take m)[n]?=some ob∧(ρ.take m)[n]?=ρ[n]?:=fun {n ob} hn h=>by
    rw [List.getElem?_take,List.getElem?_take,if_pos hn,if_pos hn]
    exact ⟨h,rfl⟩
  induction h with
  | gr h=>exact .gr h
  | arr h1 h2 h3 h4=>
    simp only [under,decide_eq_true_eq] at hu
    exact .arr (key hu h1).1 h2 h3 (by rw [(key hu h1).2];exact h4)
  | loc h1 h2 h3 h4=>
    simp only [under,decide_eq_true_eq] at hu
    exact .loc (key hu h1).1 h2 h3 (by rw [(key hu h1).2];exact h4)
  | msl h1 h2 h3 h4=>
    simp only [under,decide_eq_true_eq] at hu
    exact .msl (key hu h1).1 h2 h3 (by rw [(key hu h1).2];exact h4)
  | agg h1 h2 _ ih=>
    rw [under] at hu
    exact .agg h1 h2 (fun j c u hc hv=>ih j c u hc hv (under_agg hu c (List.mem_of_getElem? hc)))
  | tup h1 _ ih=>
    rw [under] at hu
    exact .tup h1 (fun j c u hc hv=>ih j c u hc hv (under_agg hu c (List.mem_of_getElem? hc)))
  | fn h1 _ ih=>
    rw [under] at hu
    exact .fn h1 (fun j c u hc hv=>ih j c u hc hv (under_agg hu c (List.mem_of_getElem? hc)))
theorem Mem.take {w:World} {fz:Nat→Prop} {mem:List AObj} {ρ:List Value} (hm:Mem w fz mem ρ) {m:Nat} (h:(mem.take m).all (fun o=>!o.box || underL m o.cs)=true):Mem w fz (mem.take m) (ρ.take m):=by
  refine ⟨by simp [hm.len],fun n o v ho hv=>?_,fun n k u v b hne hu hv=>?_,hm.lt⟩
  · have hmem:=List.mem_of_getElem? ho
    rw [List.getElem?_take] at ho hv
    split at ho
    · rename_i hn
      rw [if_pos hn] at hv
      obtain ⟨h1,⟨vs,h2,h3,h4,h5⟩,h6,h7⟩:=hm.obj n o v ho hv
      refine ⟨h1,⟨vs,h2,h3,h4,fun j c u hc hu=>?_⟩,h6,h7⟩
      have h8:=h5 j c u hc hu
      rw [List.all_eq_true] at h
      have h9:=h o hmem
      split at h8
      · rename_i hb
        rw [if_pos hb]
        rw [hb] at h9
        simp only [Bool.not_true,Bool.false_or] at h9
        exact h8.take (under_agg h9 c (List.mem_of_getElem? hc))
      · rename_i hb;rw [if_neg hb];exact h8
    · cases ho
  · rw [List.getElem?_take] at hu hv
    split at hu
    · split at hv
      · exact hm.apart n k u v b hne hu hv
      · cases hv
    · cases hu
theorem getE_live {env:Env}:∀{live:List Nat} {n:Nat},n∈live→getE (live.map fun n=>(n,getE env n)) n=getE env n
  | k::live,n,h=>by
    simp only [List.map_cons,getE]
    by_cases hk:k=n
    · rw [if_pos hk,hk]
    · rw [if_neg hk]
      rcases List.mem_cons.1 h with h|h
      · exact absurd h.symm hk
      · exact getE_live h
theorem getE_dead {env:Env}:∀{live:List Nat} {n:Nat},n∉live→getE (live.map fun n=>(n,getE env n)) n=.any
  | [],n,h=>rfl
  | k::live,n,h=>by
    simp only [List.map_cons,getE]
    rw [if_neg (fun hk=>h (by simp [hk]))]
    exact getE_dead (fun hm=>h (by simp [hm]))
theorem EnvR.live {w:World} {fz:Nat→Prop} {mem:List AObj} {ρ:List Value} {env:Env} {a:Act} (he:EnvR w fz mem ρ env a) (live:List Nat):EnvR w fz mem ρ (live.map fun n=>(n,getE env n)) a:=by
  intro n hn
  by_cases h:n∈live
  · rw [getE_live h];exact he n hn
  · rw [getE_dead h];exact .gr .any
theorem take_ok {w:World} {fz:Nat→Prop} {mem:List AObj} {ρ:List Value} {env:Env} {m:Nat} {a:Act} (h1:Ext w0 fz0 [] ρ0 w fz mem ρ) (h2:Mem w fz mem ρ) (h3:EnvR w fz mem ρ env a) (h4:a.tmps.size=N) (h5:a.defers=[])
    (hc:(env.all (fun p=>under m p.2)&&(mem.take m).all (fun o=>!o.box || underL m o.cs))=true):SR w0 fz0 [] ρ0 N ⟨env,mem.take m⟩ a w:=by
  simp only [Bool.and_eq_true] at hc
  obtain ⟨hc1,hc2⟩:=hc
  refine ⟨fz,ρ.take m,⟨h1.os,h1.tape,h1.output,h1.size,h1.blk,h1.fzblk,h1.sub,h1.new,fun n o h=>by simp at h,fun n v b hv hb=>?_⟩,h2.take hc2,fun n hn=>?_,h4,h5⟩
  · rw [List.getElem?_take] at hv
    split at hv
    · exact h1.own n v b hv hb
    · cases hv
  · refine (h3 n hn).take ?_
    rw [List.all_eq_true] at hc1
    clear h1 h2 h3 hc2
    induction env with
    | nil=>simp [getE,under]
    | cons p r ih=>
      obtain ⟨k,v⟩:=p
      simp only [getE]
      split
      · exact hc1 (k,v) (List.mem_cons_self ..)
      · exact ih (fun x hx=>hc1 x (List.mem_cons_of_mem _ hx))
theorem getE_keep {mem:List AObj} {env:Env} {ts:List Nat}:∀{live:List Nat} {env':Env},live.mapM (keepOne mem env ts)=some env'→∀n,getE env' n=.any∨(n∈ts∧snap mem 10 (getE env n)=some (getE env' n))∨getE env' n=getE env n
  | [],env',h,n=>by
    simp at h
    subst h
    exact .inl rfl
  | k::live,env',h,n=>by
    rw [List.mapM_cons] at h
    simp only [Option.bind_eq_bind,Option.pure_def,Option.bind_eq_some_iff,Option.some.injEq] at h
    obtain ⟨p,h1,env2,h2,rfl⟩:=h
    have ih:=getE_keep h2 n
    unfold keepOne at h1
    split at h1
    · rename_i hk
      obtain ⟨v,h3,rfl⟩:=Option.map_eq_some_iff.1 h1
      simp only [getE]
      split
      · rename_i hkn
        subst hkn
        exact .inr (.inl ⟨by simpa using hk,h3⟩)
      · exact ih
    · obtain rfl:=Option.some.inj h1
      simp only [getE]
      split
      · rename_i hkn
        subst hkn
        exact .inr (.inr rfl)
      · exact ih
theorem head_ok {live:List Nat} {keep:Option (Nat × List Nat)} {s s0:St} {a:Act} {w:World} (hk:mem0=[]∨keep=none) (h:headOf live keep s=some s0) (hs:SR w0 fz0 mem0 ρ0 N s a w):SR w0 fz0 mem0 ρ0 N s0 a w:=by
  obtain ⟨fz,ρ,h1,h2,h3,h4,h5⟩:=hs
  unfold headOf at h
  split at h
  · simp only [Option.some.injEq] at h
    subst h
    exact ⟨fz,ρ,h1,h2,h3.live live,h4,h5⟩
  · rename_i m
    obtain rfl:mem0=[]:=by simpa using hk
    simp only at h
    split at h
    · rename_i hc
      simp only [Option.some.injEq] at h
      subst h
      exact take_ok h1 h2 (h3.live live) h4 h5 hc
    · cases h
  · rename_i m t ts
    obtain rfl:mem0=[]:=by simpa using hk
    split at h
    · rename_i env henv
      simp only at h
      split at h
      · rename_i hc
        simp only [Option.some.injEq] at h
        subst h
        obtain ⟨f1,f2⟩:=h2.freeze ((t::ts).flatMap fun n=>refs s.mem 10 (getE s.env n))
        refine take_ok (h1.trans f1) f2 (fun n hn=>?_) h4 h5 hc
        rcases getE_keep henv n with hg|⟨hg,hg2⟩|hg
        · rw [hg];exact .gr .any
        · exact .gr ((snap_rg h2 (fun b hb=>.inl hb) 10).1 _ _ _ hg2 (h3 n hn) (fun k hk u b hu hb=>.inr ⟨k,List.mem_flatMap.2 ⟨n,hg,hk⟩,u,hu,hb⟩))
        · rw [hg];exact (h3 n hn).ext f1
      · cases h
    · cases h
def WpN (P:Program) (n:Nat) (c:Code) (Q:Exit→Act→World→Prop) (a:Act) (w:World):Prop:=
  match c with
  | .loop b=>Code.rounds P b Q n a w
  | c=>c.wp P Q a w
theorem WpN.wp {n:Nat} {c:Code} {Q:Exit→Act→World→Prop} {a:Act} {w:World} (h:WpN P n c Q a w):c.wp P Q a w:=by
  unfold WpN at h
  split at h
  · exact wp_loop_rounds n h
  · exact h
theorem exec_ok (hC:CallsOk P C) (hm:P.follows .mixedOrders=true) {ir:IR} {s s':St} {x:X} (h:Exec C ir s x s'):∀{c:Code} {Q:Exit→Act→World→Prop},okCode P N c ir=true→(mem0=[]∨noKeep ir=true)→
    (∀a' w',SR w0 fz0 mem0 ρ0 N s' a' w'→Q x.exit? a' w')→∃n,∀a w,SR w0 fz0 mem0 ρ0 N s a w→WpN P n c Q a w:=by
  induction h with
  | skip=>
    intro c Q hk _ hQ
    cases c<;>simp only [okCode,Bool.false_eq_true] at hk
    exact ⟨0,fun a w hs=>wp_skip (hQ a w hs)⟩
  | ret=>
    intro c Q hk _ hQ
    cases c<;>simp only [okCode,Bool.false_eq_true] at hk
    exact ⟨0,fun a w hs=>wp_ret (hQ a w hs)⟩
  | exit=>
    intro c Q hk _ hQ
    cases c<;>simp only [okCode,Bool.false_eq_true,beq_iff_eq] at hk
    subst hk
    exact ⟨0,fun a w hs=>wp_exit (hQ a w hs)⟩
  | reg h=>
    intro c Q hk _ hQ
    cases c<;>simp only [okCode,Bool.false_eq_true] at hk
    exact ⟨0,fun a w hs=>region_ok hC hm hk hs h hQ⟩
  | seqN _ _ ih1 ih2=>
    intro c Q hk hn hQ
    cases c<;>simp only [okCode,Bool.false_eq_true,Bool.and_eq_true] at hk
    simp only [noKeep,Bool.and_eq_true] at hn
    obtain ⟨n2,h2⟩:=ih2 hk.2 (hn.imp id And.right) hQ
    obtain ⟨n1,h1⟩:=ih1 (Q:=Exit.then _ _) hk.1 (hn.imp id And.left) (fun a' w' hs'=>(h2 a' w' hs').wp)
    exact ⟨0,fun a w hs=>wp_seq (h1 a w hs).wp⟩
  | @seqX _ _ _ x _ _ hx ih1=>
    intro c Q hk hn hQ
    cases c<;>simp only [okCode,Bool.false_eq_true,Bool.and_eq_true] at hk
    rename_i ca cb
    simp only [noKeep,Bool.and_eq_true] at hn
    obtain ⟨n1,h1⟩:=ih1 (Q:=Exit.then (cb.wp P Q) Q) hk.1 (hn.imp id And.left) (fun a' w' hs'=>by
      have:=hQ a' w' hs'
      cases x with
      | nrm=>exact absurd rfl hx
      | exit id=>exact this
      | ret=>exact this)
    exact ⟨0,fun a w hs=>wp_seq (h1 a w hs).wp⟩
  | condT hc _ ih=>
    intro c Q hk hn hQ
    cases c<;>simp only [okCode,Bool.false_eq_true,Bool.and_eq_true] at hk
    simp only [noKeep,Bool.and_eq_true] at hn
    obtain ⟨n,h⟩:=ih hk.2.1 (hn.imp id And.left) hQ
    refine ⟨0,fun a w hs=>?_⟩
    obtain ⟨fz,ρ,e1,e2,e3,e4,e5⟩:=id hs
    have hv:=opd_rep e3 (by rw [e4];exact hk.1)
    rw [hc] at hv
    exact wp_cond_true (rep_bool hv) (h a w hs).wp
  | condF hc _ ih=>
    intro c Q hk hn hQ
    cases c<;>simp only [okCode,Bool.false_eq_true,Bool.and_eq_true] at hk
    simp only [noKeep,Bool.and_eq_true] at hn
    obtain ⟨n,h⟩:=ih hk.2.2 (hn.imp id And.right) hQ
    refine ⟨0,fun a w hs=>?_⟩
    obtain ⟨fz,ρ,e1,e2,e3,e4,e5⟩:=id hs
    have hv:=opd_rep e3 (by rw [e4];exact hk.1)
    rw [hc] at hv
    exact wp_cond_false (rep_bool hv) (h a w hs).wp
  | blockE _ ih=>
    intro c Q hk hn hQ
    cases c<;>simp only [okCode,Bool.false_eq_true,Bool.and_eq_true,beq_iff_eq] at hk
    simp only [noKeep] at hn
    rename_i i b
    obtain ⟨hid,hk⟩:=hk
    subst hid
    obtain ⟨n,h⟩:=ih (Q:=Exit.inBlock i Q) hk hn (fun a' w' hs'=>by
      show (if i=i then Q .normal a' w' else Q (.exit i) a' w')
      rw [if_pos rfl]
      exact hQ a' w' hs')
    exact ⟨0,fun a w hs=>wp_block (h a w hs).wp⟩
  | @blockX id _ _ x _ _ hx ih=>
    intro c Q hk hn hQ
    cases c<;>simp only [okCode,Bool.false_eq_true,Bool.and_eq_true,beq_iff_eq] at hk
    simp only [noKeep] at hn
    obtain ⟨rfl,hk⟩:=hk
    obtain ⟨n,h⟩:=ih (Q:=Exit.inBlock _ Q) hk hn (fun a' w' hs'=>by
      have:=hQ a' w' hs'
      cases x with
      | nrm=>exact this
      | ret=>exact this
      | exit id=>
        simp only [X.exit?,Exit.inBlock]
        rw [if_neg (fun h=>hx (by rw [h]))]
        exact this)
    exact ⟨0,fun a w hs=>wp_block (h a w hs).wp⟩
  | rsv _ ih=>
    intro c Q hk hn hQ
    rw [okCode] at hk
    simp only [Bool.and_eq_true,decide_eq_true_eq] at hk
    simp only [noKeep] at hn
    obtain ⟨n,h⟩:=ih hk.2 hn hQ
    refine ⟨n,fun a w hs=>h a w ?_⟩
    obtain ⟨fz,ρ,e1,e2,e3,e4,e5⟩:=hs
    obtain ⟨g1,g2⟩:=pushE e2 _ _ _ hk.1
    exact ⟨fz,_,e1.trans g1,g2,fun n hn=>(e3 n hn).ext g1,e4,e5⟩
  | lv _ ih=>
    intro c Q hk hn hQ
    rw [okCode] at hk
    simp only [noKeep] at hn
    obtain ⟨n,h⟩:=ih hk hn hQ
    refine ⟨n,fun a w hs=>h a w ?_⟩
    obtain ⟨fz,ρ,e1,e2,e3,e4,e5⟩:=hs
    exact ⟨fz,ρ,e1,e2,e3.live _,e4,e5⟩
  | loopN hh _ _ ih1 ih2=>
    intro c Q hk hn hQ
    cases c<;>simp only [okCode,Bool.false_eq_true] at hk
    rename_i b
    obtain ⟨n2,h2⟩:=ih2 (c:=.loop b) (by simpa only [okCode] using hk) hn hQ
    simp only [noKeep,Bool.and_eq_true,Option.isNone_iff_eq_none] at hn
    obtain ⟨n1,h1⟩:=ih1 (Q:=Exit.then (Code.rounds P b Q n2) Q) hk (hn.imp id And.right) (fun a' w' hs'=>h2 a' w' hs')
    exact ⟨n2+1,fun a w hs=>(h1 a w (head_ok (hn.imp id And.left) hh hs)).wp⟩
  | @loopX _ _ _ _ _ x _ hh _ hx ih=>
    intro c Q hk hn hQ
    cases c<;>simp only [okCode,Bool.false_eq_true] at hk
    rename_i b
    simp only [noKeep,Bool.and_eq_true,Option.isNone_iff_eq_none] at hn
    obtain ⟨n1,h1⟩:=ih (Q:=Exit.then (Code.rounds P b Q 0) Q) hk (hn.imp id And.right) (fun a' w' hs'=>by
      have:=hQ a' w' hs'
      cases x with
      | nrm=>exact absurd rfl hx
      | exit id=>exact this
      | ret=>exact this)
    exact ⟨1,fun a w hs=>(h1 a w (head_ok (hn.imp id And.left) hh hs)).wp⟩
def okRes (P:Program) (N:Nat):ResultVar→Res→Bool
  | .tmp t,.t n=>t==n&&decide (n<N)
  | .cell a t,.c n agg k=>a==n&&decide (n<N)&&okTy P t agg k
  | _,_=>false
def resRun (tmps:Array Value):ResultVar→Sem Value
  | .tmp t=>pure (tmps.getD t undef)
  | .cell a t=>do loadVar t (←asAddr (tmps.getD a undef))
theorem res_one {w:World} {fz:Nat→Prop} {mem:List AObj} {ρ:List Value} {env:Env} {a:Act} (hm:Mem w fz mem ρ) (he:EnvR w fz mem ρ env a) {rv:ResultVar} {r:Res} (hk:okRes P a.tmps.size rv r=true) {v:AV} (h:resOf ⟨env,mem⟩ r=some v) :
    ∃u,(resRun a.tmps rv).run P w=.ok u w∧Rep w fz mem ρ v u:=by
  cases rv with
  | tmp t=>
    cases r with
    | c=>cases hk
    | t n=>
      simp only [okRes,Bool.and_eq_true,beq_iff_eq,decide_eq_true_eq] at hk
      obtain ⟨rfl,hn⟩:=hk
      simp only [resOf,Option.some.injEq] at h
      subst h
      exact ⟨_,by simp only [resRun,Sem.run_pure],he t hn⟩
  | cell p t=>
    cases r with
    | t=>cases hk
    | c n agg k=>
      simp only [okRes,Bool.and_eq_true,beq_iff_eq,decide_eq_true_eq] at hk
      obtain ⟨⟨rfl,hn⟩,ht⟩:=hk
      simp only [resOf] at h
      split at h
      · rename_i q g i hq
        obtain ⟨ob,h1,h2⟩:=Option.bind_eq_some_iff.1 h
        have e1:=he p hn
        simp only [ev] at hq
        rw [hq] at e1
        obtain ⟨b,j,cap,g1,g2⟩:=rep_loc e1 h1
        obtain ⟨vs,h3,h4,h5,h6,h7,_,_⟩:=hm.rowAt (geto_some h1).1 g1
        have hcell:∀(j:Nat) (u:Value),vs[j]?=some u→w.cell? ⟨b,0+j,none⟩=some u:=fun j u hu=>by
          have:=h3.cells (g:=b) rfl j u hu
          rwa [addr_add] at this
        obtain ⟨u,g3,g4⟩:=load_run (P:=P) (w:=w) (fz:=fz) (mem:=mem) (ρ:=ρ) ht h4 h6 hcell (fun j c u hc hu=>by
          have:=h7 j c u hc hu
          split at this
          · exact this
          · exact .gr this) h2
        rw [Nat.zero_add] at g3
        refine ⟨u,?_,g4⟩
        simp only [resRun,g2,asAddr,Sem.run_bind,Sem.run_pure,Result.andThen_ok]
        simpa [Instr.loadAt,Instr.sureAddr] using g3
      · cases h
def okRess (P:Program) (N:Nat):List ResultVar→List Res→Bool
  | [],[]=>true
  | x::xs,r::rs=>okRes P N x r&&okRess P N xs rs
  | _,_=>false
theorem res_list {w:World} {fz:Nat→Prop} {mem:List AObj} {ρ:List Value} {env:Env} {a:Act} (hm:Mem w fz mem ρ) (he:EnvR w fz mem ρ env a):∀{xs:List ResultVar} {rs:List Res},okRess P a.tmps.size xs rs=true→∀{vs:List AV},rs.mapM (resOf ⟨env,mem⟩)=some vs→
    ∃us:List Value,(xs.mapM (resRun a.tmps)).run P w=.ok us w∧us.length=vs.length∧∀(j:Nat) (c:AV) (u:Value),vs[j]?=some c→us[j]?=some u→Rep w fz mem ρ c u
  | [],[],_,vs,h=>by
    simp at h
    subst h
    exact ⟨[],by simp,rfl,fun j c u h=>by simp at h⟩
  | x::xs,r::rs,hk,vs,h=>by
    simp only [okRess,Bool.and_eq_true] at hk
    rw [List.mapM_cons] at h
    simp only [Option.bind_eq_bind,Option.pure_def,Option.bind_eq_some_iff,Option.some.injEq] at h
    obtain ⟨v,h1,vs',h2,rfl⟩:=h
    obtain ⟨u,g1,g2⟩:=res_one hm he hk.1 h1
    obtain ⟨us,g3,g4,g5⟩:=res_list hm he hk.2 h2
    refine ⟨u::us,?_,by simp [g4],fun j c u' hc hu=>?_⟩
    · rw [List.mapM_cons]
      simp only [Sem.run_bind,g1,Result.andThen_ok,g3,Sem.run_pure]
    · cases j with
      | zero=>simp at hc hu;subst hc;subst hu;exact g2
      | succ j=>exact g5 j c u' (by simpa using hc) (by simpa using hu)
  | [],_::_,hk,_,_=>by cases hk
  | _::_,[],hk,_,_=>by cases hk
theorem results_ok {w:World} {fz:Nat→Prop} {mem:List AObj} {ρ:List Value} {env:Env} {a:Act} (hm:Mem w fz mem ρ) (he:EnvR w fz mem ρ env a) {fn:Func} {rs:List Res} (hk:okRess P a.tmps.size fn.results.toList rs=true) {v:AV} (h:resAll ⟨env,mem⟩ rs=some v) :
    ∃u,(results fn a.tmps).run P w=.ok u w∧Rep w fz mem ρ v u:=by
  have hres:results fn a.tmps=(do
      let vs←fn.results.mapM (resRun a.tmps)
      pure (if h:vs.size=1 then vs[0] else .tuple vs)):=by
    unfold results
    congr 1
  have key:∀{us:List Value},(fn.results.toList.mapM (resRun a.tmps)).run P w=.ok us w→(fn.results.mapM (resRun a.tmps)).run P w=.ok us.toArray w:=by
    intro us hus
    have:fn.results.mapM (resRun a.tmps)=List.toArray <$> fn.results.toList.mapM (resRun a.tmps):=by
      rw [Array.mapM_eq_mapM_toList]
    rw [this,map_eq_pure_bind,Sem.run_bind,hus]
    simp
  generalize hrl:fn.results.toList=xs at hk key
  unfold resAll at h
  split at h
  · rename_i r
    cases xs with
    | nil=>cases hk
    | cons x xs=>
      cases xs with
      | cons=>simp [okRess] at hk
      | nil=>
        simp only [okRess,Bool.and_true] at hk
        obtain ⟨u,g1,g2⟩:=res_one hm he hk h
        refine ⟨u,?_,g2⟩
        have:=key (us:=[u]) (by simp [g1])
        rw [hres,Sem.run_bind,this]
        simp
  · rename_i hne
    obtain ⟨vs,h1,rfl⟩:=Option.map_eq_some_iff.1 h
    obtain ⟨us,g3,g4,g5⟩:=res_list hm he hk h1
    have hl:vs.length=rs.length:=(mapM_spec h1).1
    refine ⟨.tuple us.toArray,?_,.tup (by simpa using g4) (fun j c u hc hu=>g5 j c u hc (by simpa using hu))⟩
    have h2:us.length≠1:=fun h3=>by
      have:rs.length=1:=by omega
      obtain ⟨r,rfl⟩:=List.length_eq_one_iff.1 this
      exact hne r rfl
    rw [hres,Sem.run_bind,key g3]
    simp [h2]
end
end Go.V

namespace Go.V
open Go
def sel (ρ:List Value) (ns:List Nat):List Value:=ns.reverse.map fun n=>(ρ[n]?).getD undef
structure OwnInv (mem:List AObj) (acc:List AObj) (ns:List Nat):Prop where
  len:acc.length=ns.length
  nodup:ns.Nodup
  obj:∀(k:Nat) (o':AObj),acc[k]?=some o'→∃(n:Nat) (o:AObj),ns.reverse[k]?=some n∧mem[n]?=some o∧o'={ o with g:=0 }∧o.box=false
theorem sel_cons {ρ:List Value} {n:Nat} {ns:List Nat}:sel ρ (n::ns)=sel ρ ns++[(ρ[n]?).getD undef]:=by simp [sel]
theorem sel_len {ρ:List Value} {ns:List Nat}:(sel ρ ns).length=ns.length:=by simp [sel]
section
variable {P:Program} {w:World} {fz:Nat→Prop} {mem:List AObj} {ρ:List Value}
theorem ownV_ok (hm:Mem w fz mem ρ) {a a':AV} {acc acc':List AObj} {ns ns':List Nat} (hi:OwnInv mem acc ns) (h:ownV mem a acc ns=some (a',acc',ns')) {v:Value} (hr:Rep w fz mem ρ a v) :
    OwnInv mem acc' ns'∧(∃e1 e2,acc'=acc++e1∧sel ρ ns'=sel ρ ns++e2)∧Rep w fz acc' (sel ρ ns') a' v:=by
  unfold ownV at h
  split at h
  · rename_i n g
    split at h
    · rename_i o ho
      split at h
      · rename_i hc
        obtain ⟨hb,hf,hn⟩:=hc
        simp only [Option.some.injEq,Prod.mk.injEq] at h
        obtain ⟨rfl,rfl,rfl⟩:=h
        obtain ⟨h1,h2⟩:=geto_some ho
        have hn':n∉ns:=by simpa using hn
        refine ⟨⟨by simp [hi.len],List.nodup_cons.2 ⟨hn',hi.nodup⟩,fun k o' hk=>?_⟩,⟨_,_,rfl,sel_cons⟩,?_⟩
        · rcases getElem?_snoc hk with hk|⟨rfl,rfl⟩
          · obtain ⟨m,p,k1,k2,k3,k4⟩:=hi.obj k o' hk
            refine ⟨m,p,?_,k2,k3,k4⟩
            rw [List.reverse_cons,List.getElem?_append_left (List.getElem?_eq_some_iff.1 k1).1]
            exact k1
          · refine ⟨n,o,?_,h1,rfl,hb⟩
            rw [List.reverse_cons,hi.len,←List.length_reverse,List.getElem?_append_right (Nat.le_refl _)]
            simp
        · cases hr with
          | gr hr=>cases hr
          | arr g1 g2 g3 g4=>
            rw [h1] at g1
            obtain rfl:=Option.some.inj g1
            have g5:=g4 h2.symm
            refine .arr (o:={ o with g:=0 }) (by simp) (Nat.le_refl _) g3 (fun _=>?_)
            rw [sel_cons,hi.len,←sel_len (ρ:=ρ),List.getElem?_append_right (Nat.le_refl _)]
            simp [g5]
      · cases h
    · cases h
  · split at h
    · rename_i hs
      simp only [Option.some.injEq,Prod.mk.injEq] at h
      obtain ⟨rfl,rfl,rfl⟩:=h
      refine ⟨hi,⟨[],[],by simp,by simp⟩,?_⟩
      cases a<;>simp [scalar] at hs<;>cases hr with|gr hr=>exact .gr hr
    · cases h
theorem ownL_ok (hm:Mem w fz mem ρ):∀{as as':List AV} {acc acc':List AObj} {ns ns':List Nat},OwnInv mem acc ns→ownL mem as acc ns=some (as',acc',ns')→
    OwnInv mem acc' ns'∧(∃e1 e2,acc'=acc++e1∧sel ρ ns'=sel ρ ns++e2)∧as'.length=as.length∧
      ∀(j:Nat) (c:AV) (u:Value),as'[j]?=some c→(∀d,as[j]?=some d→Rep w fz mem ρ d u)→Rep w fz acc' (sel ρ ns') c u
  | [],as',acc,acc',ns,ns',hi,h=>by
    simp only [ownL,Option.some.injEq,Prod.mk.injEq] at h
    obtain ⟨rfl,rfl,rfl⟩:=h
    exact ⟨hi,⟨[],[],by simp,by simp⟩,rfl,fun j c u h=>by simp at h⟩
  | a::as,as',acc,acc',ns,ns',hi,h=>by
    simp only [ownL] at h
    obtain ⟨⟨a1,acc1,ns1⟩,h1,h2⟩:=Option.bind_eq_some_iff.1 h
    obtain ⟨⟨as2,acc2,ns2⟩,h3,h4⟩:=Option.map_eq_some_iff.1 h2
    simp only [Prod.mk.injEq] at h4
    obtain ⟨rfl,rfl,rfl⟩:=h4
    have step:=fun {v:Value} (hr:Rep w fz mem ρ a v)=>ownV_ok hm hi h1 hr
    by_cases hex:∃v,Rep w fz mem ρ a v
    · obtain ⟨v,hv⟩:=hex
      obtain ⟨i1,⟨e1,e2,q1,q2⟩,_⟩:=step hv
      obtain ⟨i2,⟨f1,f2,q3,q4⟩,q5,q6⟩:=ownL_ok hm i1 h3
      have hlen:(sel ρ ns1).length=acc1.length:=by rw [sel_len,i1.len]
      refine ⟨i2,⟨e1++f1,e2++f2,by rw [q3,q1,List.append_assoc],by rw [q4,q2,List.append_assoc]⟩,by simp [q5],fun j c u hc hh=>?_⟩
      cases j with
      | zero=>
        simp at hc
        subst hc
        have:=(step (hh a (by simp))).2.2
        rw [q3,q4]
        exact this.append hlen
      | succ j=>exact q6 j c u (by simpa using hc) (fun d hd=>hh d (by simpa using hd))
    · exfalso
      exact hex (by
        simp only [ownV] at h1
        split at h1
        · rename_i n g
          split at h1
          · rename_i o ho
            obtain ⟨g1,g2⟩:=geto_some ho
            have hn:n<ρ.length:=by rw [hm.len];exact (List.getElem?_eq_some_iff.1 g1).1
            have hv:ρ[n]?=some ρ[n]:=by simp [hn]
            obtain ⟨vs,k1,_⟩:=(hm.obj n o _ g1 hv).row
            refine ⟨ρ[n],.arr g1 (Nat.le_of_eq g2.symm) ?_ (fun _=>hv)⟩
            rcases k1.2 with k2|⟨q,cap,cur,k2,_⟩
            · rw [k2.1];rfl
            · rw [k2];rfl
          · cases h1
        · split at h1
          · rename_i hs
            cases a<;>simp [scalar] at hs
            · exact ⟨_,.gr .int⟩
            · exact ⟨_,.gr .bool⟩
            · exact ⟨_,.gr .str⟩
          · cases h1)
theorem own_mem (hm:Mem w fz mem ρ) {acc:List AObj} {ns:List Nat} (hi:OwnInv mem acc ns):Mem w fz acc (sel ρ ns):=by
  have hsel:∀(k:Nat) (n:Nat) (v:Value),ns.reverse[k]?=some n→(sel ρ ns)[k]?=some v→v=(ρ[n]?).getD undef:=fun k n v hn hv=>by
    unfold sel at hv
    rw [List.getElem?_map,hn] at hv
    simpa using hv.symm
  refine ⟨by rw [sel_len,hi.len],fun k o' v ho hv=>?_,fun n m u v b hne hu hv hub hvb=>?_,hm.lt⟩
  · obtain ⟨n,o,h1,h2,rfl,h4⟩:=hi.obj k o' ho
    have hv':=hsel k n v h1 hv
    have hn:n<ρ.length:=by rw [hm.len];exact (List.getElem?_eq_some_iff.1 h2).1
    have hρ:ρ[n]?=some v:=by rw [hv'];simp [hn]
    obtain ⟨g1,⟨vs,g2,g3,g4,g5⟩,g6,g7⟩:=hm.obj n o v h2 hρ
    refine ⟨g1,⟨vs,g2,g3,g4,fun j c u hc hu=>?_⟩,g6,g7⟩
    have:=g5 j c u hc hu
    rw [h4] at this
    simp only [h4]
    exact this
  · have hk:∀(k:Nat) (x:Value),(sel ρ ns)[k]?=some x→∃i o,ns.reverse[k]?=some i∧mem[i]?=some o∧ρ[i]?=some x:=fun k x hx=>by
      have hlt:k<acc.length:=by rw [hi.len,←sel_len (ρ:=ρ)];exact (List.getElem?_eq_some_iff.1 hx).1
      obtain ⟨i,o,h1,h2,_,_⟩:=hi.obj k acc[k] (by simp [hlt])
      have hi':i<ρ.length:=by rw [hm.len];exact (List.getElem?_eq_some_iff.1 h2).1
      exact ⟨i,o,h1,h2,by rw [hsel k i x h1 hx];simp [hi']⟩
    obtain ⟨i,o1,a1,a2,a3⟩:=hk n u hu
    obtain ⟨j,o2,b1,b2,b3⟩:=hk m v hv
    have hij:i≠j:=fun h=>by
      subst h
      have hnd:ns.reverse.Nodup:=List.pairwise_reverse.2 (hi.nodup.imp fun h=>Ne.symm h)
      exact hne ((List.getElem?_inj (List.getElem?_eq_some_iff.1 a1).1 hnd).1 (a1.trans b1.symm))
    exact hm.apart i j u v b hij a3 b3 hub hvb
theorem Mem.add {acc:List AObj} {ρ1:List Value} {o:AObj} {v:Value} (hm:Mem w fz acc ρ1) (ho:ObjR w fz acc ρ1 o v) (hap:∀(n:Nat) (u:Value) (b:Nat),ρ1[n]?=some u→u.ownBlock=some b→v.ownBlock≠some b):Mem w fz (acc++[o]) (ρ1++[v]):=by
  have up:∀{o':AObj} {v':Value},ObjR w fz acc ρ1 o' v'→ObjR w fz (acc++[o]) (ρ1++[v]) o' v':=fun {o' v'} h=>by
    obtain ⟨g1,⟨vs,g2,g3,g4,g5⟩,g6,g7⟩:=h
    refine ⟨g1,⟨vs,g2,g3,g4,fun j c u hc hu=>?_⟩,g6,g7⟩
    have:=g5 j c u hc hu
    split at this
    · rename_i hb;rw [if_pos hb];exact this.append hm.len
    · rename_i hb;rw [if_neg hb];exact this
  have last:∀{x:Value},(ρ1++[v])[acc.length]?=some x→x=v:=fun {x} hx=>by
    rw [List.getElem?_append_right (by rw [hm.len];exact Nat.le_refl _),hm.len] at hx
    simpa using hx.symm
  have old:∀{n:Nat} {x:Value},(ρ1++[v])[n]?=some x→n<acc.length→ρ1[n]?=some x:=fun {n x} hx hn=>by
    rw [List.getElem?_append_left (by rw [hm.len];exact hn)] at hx
    exact hx
  have lt:∀{n:Nat} {x:Value},(ρ1++[v])[n]?=some x→n<acc.length∨n=acc.length:=fun {n x} hx=>by
    have:=(List.getElem?_eq_some_iff.1 hx).1
    simp [hm.len] at this
    omega
  refine ⟨by simp [hm.len],fun n o' u ho' hu=>?_,fun n m u x b hne hu hx hub=>?_,hm.lt⟩
  · rcases getElem?_snoc ho' with ho'|⟨rfl,rfl⟩
    · exact up (hm.obj n o' u ho' (old hu (List.getElem?_eq_some_iff.1 ho').1))
    · rw [last hu];exact up ho
  · rcases lt hu with hn|rfl
    · have hu':=old hu hn
      rcases lt hx with hk|rfl
      · exact hm.apart n m u x b hne hu' (old hx hk) hub
      · rw [last hx];exact hap n u b hu' hub
    · obtain rfl:=last hu
      rcases lt hx with hk|rfl
      · intro h;exact hap m x b (old hx hk) h hub
      · exact absurd rfl hne
theorem sel_get {acc:List AObj} {ns:List Nat} (hm:Mem w fz mem ρ) (hi:OwnInv mem acc ns) {k:Nat} {x:Value} (hx:(sel ρ ns)[k]?=some x):∃i o,ns.reverse[k]?=some i∧mem[i]?=some o∧ρ[i]?=some x∧o.box=false:=by
  have hlt:k<acc.length:=by rw [hi.len,←sel_len (ρ:=ρ)];exact (List.getElem?_eq_some_iff.1 hx).1
  obtain ⟨i,o,h1,h2,_,h4⟩:=hi.obj k acc[k] (by simp [hlt])
  have hi':i<ρ.length:=by rw [hm.len];exact (List.getElem?_eq_some_iff.1 h2).1
  refine ⟨i,o,h1,h2,?_,h4⟩
  unfold sel at hx
  rw [List.getElem?_map,h1] at hx
  simp [hi'] at hx
  simp [hi',hx]
theorem own_out (hm:Mem w fz mem ρ) {a r:AV} {m:List AObj} (h:ownOut mem a=some (r,m)) {v:Value} (hr:Rep w fz mem ρ a v):∃ρ',Mem w fz m ρ'∧Rep w fz m ρ' r v∧∀(n:Nat) (u:Value),ρ'[n]?=some u→∃k:Nat,u=(ρ[k]?).getD undef:=by
  have hi:OwnInv mem [] []:=⟨rfl,.nil,fun k o h=>by simp at h⟩
  have hsel:∀(ns:List Nat) (n:Nat) (u:Value),(sel ρ ns)[n]?=some u→∃k:Nat,u=(ρ[k]?).getD undef:=fun ns n u hu=>by
    unfold sel at hu
    rw [List.getElem?_map] at hu
    obtain ⟨k,_,rfl⟩:=Option.map_eq_some_iff.1 hu
    exact ⟨k,rfl⟩
  unfold ownOut at h
  split at h
  · rename_i vs
    obtain ⟨⟨as',acc,ns⟩,h1,h2⟩:=Option.map_eq_some_iff.1 h
    simp only [Prod.mk.injEq] at h2
    obtain ⟨rfl,rfl⟩:=h2
    obtain ⟨i1,_,q1,q2⟩:=ownL_ok hm hi h1
    obtain ⟨us,rfl,k1,k2⟩:=rg_tup_rep hr
    refine ⟨sel ρ ns,own_mem hm i1,.tup (by rw [q1];exact k1) (fun j c u hc hu=>q2 j c u hc (fun d hd=>k2 j d u hd hu)),hsel ns⟩
  · rename_i n g i
    split at h
    · rename_i o ho
      split at h
      · rename_i hc
        obtain ⟨hb,hf⟩:=hc
        obtain ⟨⟨cs',acc,ns⟩,h1,h2⟩:=Option.map_eq_some_iff.1 h
        simp only [Prod.mk.injEq] at h2
        obtain ⟨rfl,rfl⟩:=h2
        obtain ⟨i1,_,q1,q2⟩:=ownL_ok hm hi h1
        obtain ⟨b,k,cap,g1,rfl⟩:=rep_loc hr ho
        have hM:=own_mem hm i1
        have hlen:(sel ρ ns).length=acc.length:=by rw [sel_len,i1.len]
        obtain ⟨k1,⟨vs,k2,k3,k4,k5⟩,k6,k7⟩:=hm.obj n o _ (geto_some ho).1 g1
        have hobj:ObjR w fz acc (sel ρ ns) { o with g:=0,cs:=cs' } (.slice (some ⟨b,0,none⟩) k cap):=by
          refine ⟨k1,⟨vs,k2,by rw [k3];exact q1.symm,k4,fun j c u hc hu=>?_⟩,k6,k7⟩
          simp only [hb,if_true]
          refine q2 j c u hc (fun d hd=>?_)
          have:=k5 j d u hd hu
          rwa [hb,if_pos rfl] at this
        have hap:∀(m:Nat) (u:Value) (b':Nat),(sel ρ ns)[m]?=some u→u.ownBlock=some b'→(Value.slice (some ⟨b,0,none⟩) k cap).ownBlock≠some b':=fun m u b' hu hub h=>by
          obtain ⟨j,o2,_,e2,e3,e4⟩:=sel_get hm i1 hu
          have hjn:j≠n:=fun he=>by
            rw [he,(geto_some ho).1] at e2
            obtain rfl:=Option.some.inj e2
            rw [hb] at e4;cases e4
          exact hm.apart j n u _ b' hjn e3 g1 hub h
        refine ⟨sel ρ ns++[.slice (some ⟨b,0,none⟩) k cap],hM.add hobj hap,?_,fun m u hu=>?_⟩
        · refine .loc (o:={ o with g:=0,cs:=cs' }) (by simp) (Nat.le_refl _) rfl (fun _=>⟨b,k,cap,?_,rfl⟩)
          rw [←hlen,List.getElem?_append_right (Nat.le_refl _)]
          simp
        · rcases getElem?_snoc hu with hu|⟨_,rfl⟩
          · exact hsel ns m u hu
          · exact ⟨n,by rw [g1];rfl⟩
      · cases h
    · cases h
  · obtain ⟨⟨a',acc,ns⟩,h1,h2⟩:=Option.map_eq_some_iff.1 h
    simp only [Prod.mk.injEq] at h2
    obtain ⟨rfl,rfl⟩:=h2
    obtain ⟨i1,_,q⟩:=ownV_ok hm hi h1 hr
    exact ⟨sel ρ ns,own_mem hm i1,q,hsel ns⟩
theorem own_outB (hm:Mem w fz mem ρ) {a r:AV} {m:List AObj} (h:ownOutB mem a=some (r,m)) {v:Value} (hr:Rep w fz mem ρ a v):∃ρ',Mem w fz m ρ'∧Rep w fz m ρ' r v∧∀(n:Nat) (u:Value),ρ'[n]?=some u→∃k:Nat,u=(ρ[k]?).getD undef:=by
  have hi:OwnInv mem [] []:=⟨rfl,.nil,fun k o h=>by simp at h⟩
  unfold ownOutB at h
  split at h
  · rename_i n g
    split at h
    · rename_i o ho
      split at h
      · rename_i hc
        obtain ⟨hb,hf⟩:=hc
        obtain ⟨⟨cs',acc,ns⟩,h1,h2⟩:=Option.map_eq_some_iff.1 h
        simp only [Prod.mk.injEq] at h2
        obtain ⟨rfl,rfl⟩:=h2
        obtain ⟨i1,_,q1,q2⟩:=ownL_ok hm hi h1
        obtain ⟨g1,gone⟩:=rep_arr hr ho
        have hM:=own_mem hm i1
        have hlen:(sel ρ ns).length=acc.length:=by rw [sel_len,i1.len]
        obtain ⟨k1,⟨vs,k2,k3,k4,k5⟩,k6,k7⟩:=hm.obj n o _ (geto_some ho).1 g1
        have hobj:ObjR w fz acc (sel ρ ns) { o with g:=0,cs:=cs' } v:=by
          refine ⟨k1,⟨vs,k2,by rw [k3];exact q1.symm,k4,fun j c u hc hu=>?_⟩,k6,k7⟩
          simp only [hb,if_true]
          refine q2 j c u hc (fun d hd=>?_)
          have:=k5 j d u hd hu
          rwa [hb,if_pos rfl] at this
        have hap:∀(m:Nat) (u:Value) (b':Nat),(sel ρ ns)[m]?=some u→u.ownBlock=some b'→v.ownBlock≠some b':=fun m u b' hu hub h=>by
          obtain ⟨j,o2,_,e2,e3,e4⟩:=sel_get hm i1 hu
          have hjn:j≠n:=fun he=>by
            rw [he,(geto_some ho).1] at e2
            obtain rfl:=Option.some.inj e2
            rw [hb] at e4;cases e4
          exact hm.apart j n u _ b' hjn e3 g1 hub h
        refine ⟨sel ρ ns++[v],hM.add hobj hap,?_,fun m u hu=>?_⟩
        · refine .arr (o:={ o with g:=0,cs:=cs' }) (by simp) (Nat.le_refl _) gone (fun _=>?_)
          rw [←hlen,List.getElem?_append_right (Nat.le_refl _)]
          simp
        · rcases getElem?_snoc hu with hu|⟨_,rfl⟩
          · unfold sel at hu
            rw [List.getElem?_map] at hu
            obtain ⟨k,_,rfl⟩:=Option.map_eq_some_iff.1 hu
            exact ⟨k,rfl⟩
          · exact ⟨n,by rw [g1];rfl⟩
      · cases h
    · cases h
  · cases h
def okFun (P:Program) (f:Nat) (i:IFn):Bool:=
  match P.funcs[f]? with
  | some fn => (match fn.body with | some c => okCode P fn.ntmps c i.body | none => false) && okRess P fn.ntmps fn.results.toList i.res && i.ntmps == fn.ntmps && !(fn.name == "runtime.NumGoroutine") && (i.md != .ref || noKeep i.body)
  | none=>false
theorem getE_args:∀{as:List AV} {i n:Nat},getE (argsE i as) (i+n)=(as[n]?).getD .any
  | [],i,n=>by simp [argsE,getE]
  | a::as,i,n=>by
    simp only [argsE,getE]
    cases n with
    | zero=>simp
    | succ n=>
      rw [if_neg (by omega)]
      have:=getE_args (as:=as) (i:=i+1) (n:=n)
      rw [show i+1+n=i+(n+1) by omega] at this
      rw [this]
      simp
theorem callOf_ok {tab:Nat→Option IFn} {C:CallRel} (hC:CallsOk P C) (hm:P.follows .mixedOrders=true) (ht:∀f i,tab f=some i→okFun P f i=true):CallsOk P (CallOf tab C):=by
  intro f as mem r mem' h
  obtain ⟨i,s,x,rv,h1,h2,h3,h4,h5,h6,h7⟩:=h
  have hk:=ht f i h1
  unfold okFun at hk
  split at hk
  · rename_i fn hfn
    simp only [Bool.and_eq_true,beq_iff_eq,Bool.not_eq_true'] at hk
    obtain ⟨⟨⟨⟨k1,k2⟩,k3⟩,k4⟩,k5⟩:=hk
    split at k1
    · rename_i c hc
      refine ⟨by simp [okFn,hfn,hc,k4],?_⟩
      intro w fz ρ vals hM hsz hrep
      refine calls_of_wp hfn hc ?_
      have hsize:(vals++Array.replicate (fn.ntmps - vals.size) undef).size=fn.ntmps:=by simp;omega
      have hs0:SR w fz mem ρ fn.ntmps ⟨argsE 0 as,mem⟩ { tmps:=vals++Array.replicate (fn.ntmps - vals.size) undef,defers:=[] } w:=by
        refine ⟨fz,ρ,Ext.refl,hM,fun n hn=>?_,hsize,rfl⟩
        simp only
        have hge:=getE_args (as:=as) (i:=0) (n:=n)
        rw [Nat.zero_add] at hge
        rw [hge]
        by_cases hlt:n<as.length
        · have h8:as[n]?=some as[n]:=by simp [hlt]
          have h9:vals[n]?=some (vals[n]'(by omega)):=by simp [hsz,hlt]
          rw [h8]
          have h10:(vals++Array.replicate (fn.ntmps - vals.size) undef).getD n undef=vals[n]'(by omega):=by
            have:n<vals.size:=by omega
            simp [Array.getD,hsz,hlt,Array.getElem_append,this]
            omega
          rw [h10]
          exact hrep n _ _ h8 h9
        · rw [List.getElem?_eq_none (by omega)]
          exact .gr .any
      have hkeep:mem=[]∨noKeep i.body=true:=by
        cases hmd:i.md with
        | pure=>rw [hmd] at h7;exact .inl h7.1
        | own=>rw [hmd] at h7;exact .inl h7.1
        | ownB=>rw [hmd] at h7;exact .inl h7.1
        | ref=>rw [hmd] at k5;exact .inr (by simpa using k5)
      obtain ⟨n,hn⟩:=exec_ok (P:=P) (w0:=w) (fz0:=fz) (mem0:=mem) (ρ0:=ρ) (N:=fn.ntmps) hC hm h4 (Q:=bodyPost P fn fun e w'=>∃v fz' ρ',e=.returned v∧Ext w fz mem ρ w' fz' mem' ρ'∧Mem w' fz' mem' ρ'∧Rep w' fz' mem' ρ' r v) k1 hkeep (fun a' w' hs'=>by
        obtain ⟨fz1,ρ1,e1,e2,e3,e4,e5⟩:=hs'
        obtain ⟨u,g1,g2⟩:=results_ok (fn:=fn) (env:=s.env) e2 e3 (by rw [e4];exact k2) h6
        have fin:a'.defers=[]∧∃v,(results fn a'.tmps).run P w'=.ok v w'∧∃v' fz' ρ',Ending.returned v=.returned v'∧Ext w fz mem ρ w' fz' mem' ρ'∧Mem w' fz' mem' ρ'∧Rep w' fz' mem' ρ' r v':=by
          refine ⟨e5,u,g1,?_⟩
          cases hmd:i.md with
          | pure=>
            rw [hmd] at h7
            obtain ⟨rfl,rfl,h7⟩:=h7
            refine ⟨u,frzAll fz1 ρ1,[],rfl,⟨e1.os,e1.tape,e1.output,e1.size,e1.blk,e1.fzblk,fun b hb=>.inl (e1.sub b hb),fun b hb=>?_,fun n o h=>by simp at h,fun n v b h=>by simp at h⟩,e2.nil (frzAll_lt e2),.gr ((snap_rg e2 (fun b hb=>.inl hb) 10).1 _ r u h7 g2 (fun n _ u b hu hb=>.inr ⟨n,u,hu,hb⟩))⟩
            rcases hb with hb|⟨n,v,hv,hb⟩
            · exact e1.new b hb
            · rcases e1.own n v b hv hb with ⟨m,q,hq,hqb⟩|hq
              · exact .inr (.inr ⟨m,q,hq,hqb⟩)
              · exact .inr (.inl hq)
          | own=>
            rw [hmd] at h7
            obtain ⟨rfl,h7⟩:=h7
            obtain ⟨ρ2,q1,q2,q3⟩:=own_out e2 h7 g2
            refine ⟨u,fz1,ρ2,rfl,⟨e1.os,e1.tape,e1.output,e1.size,e1.blk,e1.fzblk,e1.sub,e1.new,fun n o h=>by simp at h,fun n v b hv hb=>?_⟩,q1,q2⟩
            obtain ⟨k,rfl⟩:=q3 n v hv
            cases hρ:ρ1[k]? with
            | none=>rw [hρ] at hb;simp [undef,Value.ownBlock] at hb
            | some v=>
              rw [hρ] at hb
              exact e1.own k v b hρ hb
          | ownB=>
            rw [hmd] at h7
            obtain ⟨rfl,h7⟩:=h7
            obtain ⟨ρ2,q1,q2,q3⟩:=own_outB e2 h7 g2
            refine ⟨u,fz1,ρ2,rfl,⟨e1.os,e1.tape,e1.output,e1.size,e1.blk,e1.fzblk,e1.sub,e1.new,fun n o h=>by simp at h,fun n v b hv hb=>?_⟩,q1,q2⟩
            obtain ⟨k,rfl⟩:=q3 n v hv
            cases hρ:ρ1[k]? with
            | none=>rw [hρ] at hb;simp [undef,Value.ownBlock] at hb
            | some v=>
              rw [hρ] at hb
              exact e1.own k v b hρ hb
          | ref=>
            rw [hmd] at h7
            obtain ⟨rfl,rfl⟩:=h7
            exact ⟨u,fz1,ρ1,rfl,e1,e2,g2⟩
        rcases h5 with rfl|rfl<;>exact fin)
      exact (hn _ _ hs0).wp
    · cases k1
  · cases hk
theorem callN_ok {tab:Nat→Option IFn} {E:CallRel} (hE:CallsOk P E) (hm:P.follows .mixedOrders=true) (ht:∀f i,tab f=some i→okFun P f i=true):∀n,CallsOk P (CallN tab E n)
  | 0=>hE
  | n+1=>fun h=>by
    rcases h with h|h
    · exact callN_ok hE hm ht n h
    · exact callOf_ok (callN_ok hE hm ht n) hm ht h
theorem call_ok {tab:Nat→Option IFn} {E:CallRel} (hE:CallsOk P E) (hm:P.follows .mixedOrders=true) (ht:∀f i,tab f=some i→okFun P f i=true) {f:Nat} {as:List AV} {mem:List AObj} {r:AV} {mem':List AObj} (h:Call tab E f as mem r mem'):CallS P f as mem r mem':=by
  obtain ⟨n,h⟩:=h
  exact (callN_ok hE hm ht n h).2
end
end Go.V

namespace Go.V
open Go
abbrev CallF:=Nat→List AV→List AObj→Option (AV × List AObj)
def runO (call:CallF) (mem:List AObj) (e:Opd→AV):MOp→Option (AV × List AObj)
  | .callP f xs=>match xs.mapM (fun x=>snap [] 10 (e x)) with
    | some as=>match call f as [] with
      | some (r,[])=>some (r,mem)
      | _=>none
    | none=>none
  | .callR f xs=>match xs.mapM (fun x=>snap mem 10 (e x)) with
    | some as=>match call f as [] with
      | some (r,[])=>if scalars r then some (r,mem) else none
      | _=>none
    | none=>none
  | .callF f xs=>match xs.mapM (fun x=>snap mem 10 (e x)) with
    | some as=>match call f as [] with
      | some (r,[])=>some (r,freeze (xs.flatMap fun x=>refs mem 10 (e x)) mem)
      | _=>none
    | none=>none
  | .callO f xs=>match xs.mapM (fun x=>snap mem 10 (e x)) with
    | some as=>match call f as [] with
      | some (r,m)=>if (m.all made)&&ownishR r then some (shiftR mem.length r,freeze (xs.flatMap fun x=>refs mem 10 (e x)) mem++m.map (shiftO mem.length)) else none
      | _=>none
    | none=>none
  | .callZ f xs=>match xs.mapM (fun x=>snap mem 10 (e x)) with
    | some as=>match call f as [] with
      | some (r,m)=>(snap m 10 r).map fun r'=>(r',freeze (xs.flatMap fun x=>refs mem 10 (e x)) mem)
      | _=>none
    | none=>none
  | .callG f xs=>if xs.all fun x=>plainArg (e x) then match call f (xs.map e) [] with
      | some (r,m)=>if (m.all made)&&ownishR r then some (shiftR mem.length r,mem++m.map (shiftO mem.length)) else none
      | _=>none
    else none
  | .callM f xs=>call f (xs.map e) mem
  | .callV x xs=>match e x with
    | .fn f caps=>match xs.mapM (fun x=>snap mem 10 (e x)),caps.mapM (fun c=>snap mem 10 c) with
      | some as,some bs=>match call f (as++bs) [] with
        | some (r,[])=>if scalars r then some (r,mem) else none
        | _=>none
      | _,_=>none
    | _=>none
  | io=>evalOp mem e io
def runR (call:CallF):List IOp→St→Option St
  | [],s=>some s
  | o::os,s=>match o.g with
    | none=>match runO call s.mem (ev s.env) o.op with
      | some (v,m)=>runR call os ⟨putE s.env o.dst v,m⟩
      | none=>none
    | some (t,b)=>match getE s.env t with
      | .bool c=>if c=b then
          match runO call s.mem (ev s.env) o.op with
          | some (v,m)=>runR call os ⟨putE s.env o.dst v,m⟩
          | none=>none
        else runR call os ⟨putE s.env o.dst (.tup []),s.mem⟩
      | .tup []=>runR call os ⟨putE s.env o.dst (.tup []),s.mem⟩
      | _=>none
def runI (call:CallF):Nat→IR→St→Option (X × St)
  | 0,_,_=>none
  | n+1,c,s=>match c with
    | .skip=>some (.nrm,s)
    | .ret=>some (.ret,s)
    | .exit id=>some (.exit id,s)
    | .reg _ ops=>(runR call ops s).map fun s1=>(.nrm,s1)
    | .seq a b=>match runI call n a s with
      | some (.nrm,s1)=>runI call n b s1
      | r=>r
    | .cond c a b=>match ev s.env c with
      | .bool true=>runI call n a s
      | .bool false=>runI call n b s
      | _=>none
    | .block id a=>match runI call n a s with
      | some (.exit j,s1)=>if j=id then some (.nrm,s1) else some (.exit j,s1)
      | r=>r
    | .rsv b ty sz a=>runI call n a ⟨s.env,s.mem++[⟨b,ty,sz,0,0,[],false⟩]⟩
    | .lv live a=>runI call n a ⟨live.map fun n=>(n,getE s.env n),s.mem⟩
    | .loop live keep a=>match headOf live keep s with
      | some s0=>match runI call n a s0 with
        | some (.nrm,s1)=>runI call n (.loop live keep a) s1
        | r=>r
      | none=>none
def runF (tab:Nat→Option IFn) (ext:CallF) (fuel:Nat):Nat→CallF
  | 0,_,_,_=>none
  | n+1,f,as,mem=>match tab f with
    | some fn=>if as.length=fn.nparams∧as.length≤fn.ntmps then
        match runI (runF tab ext fuel n) fuel fn.body ⟨argsE 0 as,mem⟩ with
        | some (.exit _,_)=>none
        | some (_,s)=>match resAll s fn.res with
          | some rv=>match fn.md with
            | .pure=>if mem.isEmpty then (snap s.mem 10 rv).map fun r=>(r,[]) else none
            | .own=>if mem.isEmpty then ownOut s.mem rv else none
            | .ref=>some (rv,s.mem)
            | .ownB=>if mem.isEmpty then ownOutB s.mem rv else none
          | none=>none
        | none=>none
      else none
    | none=>ext f as mem
section
variable {tab:Nat→Option IFn} {C:CallRel} {call:CallF}
theorem runO_ok (hc:∀{f as mem r m},call f as mem=some (r,m)→C f as mem r m) {mem:List AObj} {e:Opd→AV} {io:MOp} {v:AV} {m:List AObj} (h:runO call mem e io=some (v,m)):OpR C mem e io v m:=by
  cases io
  case callP f xs=>
    simp only [runO] at h
    split at h
    · rename_i as has
      split at h
      · rename_i r hr
        simp only [Option.some.injEq,Prod.mk.injEq] at h
        obtain ⟨rfl,rfl⟩:=h
        exact .callP has (hc hr)
      · cases h
    · cases h
  case callR f xs=>
    simp only [runO] at h
    split at h
    · rename_i as has
      split at h
      · rename_i r hr
        split at h
        · rename_i hs
          simp only [Option.some.injEq,Prod.mk.injEq] at h
          obtain ⟨rfl,rfl⟩:=h
          exact .callR has (hc hr) hs
        · cases h
      · cases h
    · cases h
  case callF f xs=>
    simp only [runO] at h
    split at h
    · rename_i as has
      split at h
      · rename_i r hr
        simp only [Option.some.injEq,Prod.mk.injEq] at h
        obtain ⟨rfl,rfl⟩:=h
        exact .callF has (hc hr)
      · cases h
    · cases h
  case callO f xs=>
    simp only [runO] at h
    split at h
    · rename_i as has
      split at h
      · rename_i r m' hr
        split at h
        · rename_i hs
          simp only [Bool.and_eq_true] at hs
          simp only [Option.some.injEq,Prod.mk.injEq] at h
          obtain ⟨rfl,rfl⟩:=h
          exact .callO has (hc hr) hs.1 hs.2
        · cases h
      · cases h
    · cases h
  case callZ f xs=>
    simp only [runO] at h
    split at h
    · rename_i as has
      split at h
      · rename_i r m' hr
        obtain ⟨r',h1,h2⟩:=Option.map_eq_some_iff.1 h
        simp only [Prod.mk.injEq] at h2
        obtain ⟨rfl,rfl⟩:=h2
        exact .callZ has (hc hr) h1
      · cases h
    · cases h
  case callG f xs=>
    simp only [runO] at h
    split at h
    · rename_i h0
      split at h
      · rename_i r m' hr
        split at h
        · rename_i hs
          simp only [Bool.and_eq_true] at hs
          simp only [Option.some.injEq,Prod.mk.injEq] at h
          obtain ⟨rfl,rfl⟩:=h
          exact .callG h0 (hc hr) hs.1 hs.2
        · cases h
      · cases h
    · cases h
  case callM f xs=>exact .callM (hc h)
  case callV x xs=>
    simp only [runO] at h
    split at h
    · rename_i f caps hf
      split at h
      · rename_i as bs h1 h2
        split at h
        · rename_i r hr
          split at h
          · rename_i hs
            simp only [Option.some.injEq,Prod.mk.injEq] at h
            obtain ⟨rfl,rfl⟩:=h
            exact .callV hf h1 h2 (hc hr) hs
          · cases h
        · cases h
      · cases h
    · cases h
  all_goals exact .op h
theorem runR_ok (hc:∀{f as mem r m},call f as mem=some (r,m)→C f as mem r m):∀{ops:List IOp} {s s':St},runR call ops s=some s'→RegR C ops s s'
  | [],s,s',h=>by
    simp only [runR,Option.some.injEq] at h
    subst h
    exact .nil
  | o::os,s,s',h=>by
    simp only [runR] at h
    split at h
    · rename_i hg
      split at h
      · rename_i v m hv
        exact .cons (.go (.inl hg) (runO_ok hc hv)) (runR_ok hc h)
      · cases h
    · rename_i t b hg
      split at h
      · rename_i c hb
        split at h
        · rename_i hcb
          subst hcb
          split at h
          · rename_i v m hv
            exact .cons (.go (.inr ⟨t,c,hg,hb⟩) (runO_ok hc hv)) (runR_ok hc h)
          · cases h
        · rename_i hcb
          refine .cons (.no hg (.inl ?_)) (runR_ok hc h)
          simp only [ev,hb]
          cases c<;>cases b<;>simp_all
      · rename_i hb
        exact .cons (.no hg (.inr hb)) (runR_ok hc h)
      · cases h
theorem runI_ok (hc:∀{f as mem r m},call f as mem=some (r,m)→C f as mem r m):∀{n:Nat} {c:IR} {s:St} {x:X} {s':St},runI call n c s=some (x,s')→Exec C c s x s'
  | 0,c,s,x,s',h=>by cases h
  | n+1,c,s,x,s',h=>by
    cases c
    case skip=>simp only [runI,Option.some.injEq,Prod.mk.injEq] at h;obtain ⟨rfl,rfl⟩:=h;exact .skip
    case ret=>simp only [runI,Option.some.injEq,Prod.mk.injEq] at h;obtain ⟨rfl,rfl⟩:=h;exact .ret
    case exit=>simp only [runI,Option.some.injEq,Prod.mk.injEq] at h;obtain ⟨rfl,rfl⟩:=h;exact .exit
    case reg p ops=>
      simp only [runI] at h
      obtain ⟨s1,h1,h2⟩:=Option.map_eq_some_iff.1 h
      simp only [Prod.mk.injEq] at h2
      obtain ⟨rfl,rfl⟩:=h2
      exact .reg (runR_ok hc h1)
    case seq a b=>
      simp only [runI] at h
      split at h
      · rename_i s1 h1;exact .seqN (runI_ok hc h1) (runI_ok hc h)
      · rename_i h1
        refine .seqX (runI_ok hc h) (fun hx=>?_)
        subst hx
        exact h1 s' h
    case cond c a b=>
      simp only [runI] at h
      split at h
      · rename_i h1;exact .condT h1 (runI_ok hc h)
      · rename_i h1;exact .condF h1 (runI_ok hc h)
      · cases h
    case block id a=>
      simp only [runI] at h
      split at h
      · rename_i j s1 h1
        split at h
        · rename_i hj
          subst hj
          simp only [Option.some.injEq,Prod.mk.injEq] at h
          obtain ⟨rfl,rfl⟩:=h
          exact .blockE (runI_ok hc h1)
        · rename_i hj
          simp only [Option.some.injEq,Prod.mk.injEq] at h
          obtain ⟨rfl,rfl⟩:=h
          exact .blockX (runI_ok hc h1) (by simpa using hj)
      · rename_i h1
        refine .blockX (runI_ok hc h) (fun hx=>?_)
        subst hx
        exact h1 id s' h
    case rsv b ty sz a=>
      simp only [runI] at h
      exact .rsv (runI_ok hc h)
    case lv live a=>
      simp only [runI] at h
      exact .lv (runI_ok hc h)
    case loop live keep a=>
      simp only [runI] at h
      split at h
      · rename_i s0 hs0
        split at h
        · rename_i s1 h1;exact .loopN hs0 (runI_ok hc h1) (runI_ok hc h)
        · rename_i h1
          refine .loopX hs0 (runI_ok hc h) (fun hx=>?_)
          subst hx
          exact h1 s' h
      · cases h
theorem runF_ok {E:CallRel} {ext:CallF} (hE:∀{f as mem r m},ext f as mem=some (r,m)→E f as mem r m) {fuel:Nat}:∀{n f:Nat} {as:List AV} {mem:List AObj} {r:AV} {m:List AObj},runF tab ext fuel n f as mem=some (r,m)→CallN tab E n f as mem r m
  | 0,f,as,mem,r,m,h=>by cases h
  | n+1,f,as,mem,r,m,h=>by
    simp only [runF] at h
    split at h
    · rename_i fn hfn
      split at h
      · rename_i hl
        split at h
        · cases h
        · rename_i x s hx hr
          have hex:=runI_ok (C:=CallN tab E n) (fun h=>runF_ok hE h) hr
          have hx':x=.nrm∨x=.ret:=by
            cases x with
            | nrm=>exact .inl rfl
            | ret=>exact .inr rfl
            | exit id=>exact absurd rfl (hx id)
          split at h
          · rename_i rv hrv
            refine .inr ⟨fn,s,x,rv,hfn,hl.1,hl.2,hex,hx',hrv,?_⟩
            cases hmd:fn.md with
            | pure=>
              rw [hmd] at h
              simp only at h
              split at h
              · rename_i hm
                obtain ⟨r',h1,h2⟩:=Option.map_eq_some_iff.1 h
                simp only [Prod.mk.injEq] at h2
                obtain ⟨rfl,rfl⟩:=h2
                exact ⟨by simpa using hm,rfl,h1⟩
              · cases h
            | own=>
              rw [hmd] at h
              simp only at h
              split at h
              · rename_i hm;exact ⟨by simpa using hm,h⟩
              · cases h
            | ref=>
              rw [hmd] at h
              simp only [Option.some.injEq,Prod.mk.injEq] at h
              exact ⟨h.1.symm,h.2.symm⟩
            | ownB=>
              rw [hmd] at h
              simp only at h
              split at h
              · rename_i hm;exact ⟨by simpa using hm,h⟩
              · cases h
          · cases h
        · cases h
      · cases h
    · exact CallN_mono (Nat.zero_le _) (hE h)
theorem Call.run {E:CallRel} {ext:CallF} (hE:∀{f as mem r m},ext f as mem=some (r,m)→E f as mem r m) {fuel n f:Nat} {as:List AV} {mem:List AObj} {r:AV} {m:List AObj} (h:runF tab ext fuel n f as mem=some (r,m)):Call tab E f as mem r m:=⟨n,runF_ok hE h⟩
end
end Go.V

namespace Go.V
open Go
theorem opR_wpO {C:CallRel} {mem:List AObj} {e:Opd→AV} {io:MOp} {v:AV} {m:List AObj} {K:AV→List AObj→Prop} (h:OpR C mem e io v m) (hK:K v m):wpO C mem e K io:=by
  cases h with
  | callP h1 h2=>exact ⟨_,_,h1,h2,hK⟩
  | callR h1 h2 h3=>exact ⟨_,_,h1,h2,h3,hK⟩
  | callF h1 h2=>exact ⟨_,_,h1,h2,hK⟩
  | callO h1 h2 h3 h4=>exact ⟨_,_,_,h1,h2,h3,h4,hK⟩
  | callZ h1 h2 h3=>exact ⟨_,_,_,_,h1,h2,h3,hK⟩
  | callG h0 h1 h2 h3=>exact ⟨h0,_,_,h1,h2,h3,hK⟩
  | callM h1=>exact ⟨_,_,h1,hK⟩
  | callV h0 h1 h2 h3 h4=>exact ⟨_,_,_,_,_,h0,h1,h2,h3,h4,hK⟩
  | op h=>
    cases io
    case callP=>simp [evalOp] at h
    case callR=>simp [evalOp] at h
    case callF=>simp [evalOp] at h
    case callO=>simp [evalOp] at h
    case callZ=>simp [evalOp] at h
    case callG=>simp [evalOp] at h
    case callM=>simp [evalOp] at h
    case callV=>simp [evalOp] at h
    all_goals simp only [wpO,h];exact hK
theorem regR_wpR {C:CallRel} {ops:List IOp} {s s':St} {Q:St→Prop} (h:RegR C ops s s') (hQ:Q s'):wpR C Q ops s:=by
  induction h with
  | nil=>exact hQ
  | cons h1 _ ih=>
    have ih:=ih hQ
    cases h1 with
    | go g1 g2=>
      rcases g1 with g1|⟨t,b,g1,g3⟩
      · simp only [wpR,g1];exact opR_wpO g2 ih
      · simp only [ev] at g3
        simp only [wpR,g1,g3,if_true]
        exact opR_wpO g2 ih
    | no g1 g2=>
      simp only [ev] at g2
      rcases g2 with g2|g2
      · simp only [wpR,g1,g2]
        rw [if_neg (by simp)]
        exact ih
      · simp only [wpR,g1,g2]
        exact ih
theorem exec_wp {C:CallRel} {c:IR} {s s':St} {x:X} (h:Exec C c s x s'):∀{Q:X→St→Prop},Q x s'→wp C c Q s:=by
  induction h with
  | skip=>exact fun h=>h
  | ret=>exact fun h=>h
  | exit=>exact fun h=>h
  | reg h=>exact fun hQ=>regR_wpR h hQ
  | seqN _ _ i1 i2=>exact fun hQ=>i1 (i2 hQ)
  | @seqX _ _ _ x _ _ hx i1=>
    intro Q hQ
    refine i1 ?_
    cases x with
    | nrm=>exact absurd rfl hx
    | exit=>exact hQ
    | ret=>exact hQ
  | condT hc _ i=>intro Q hQ;simp only [wp,hc,if_true];exact i hQ
  | condF hc _ i=>intro Q hQ;simp only [wp,hc,Bool.false_eq_true,if_false];exact i hQ
  | blockE _ i=>intro Q hQ;exact i (by simpa using hQ)
  | @blockX id _ _ x _ _ hx i=>
    intro Q hQ
    refine i ?_
    cases x with
    | nrm=>exact hQ
    | exit j=>simp only;rw [if_neg (fun h=>hx (by rw [h]))];exact hQ
    | ret=>exact hQ
  | rsv _ i=>exact fun hQ=>i hQ
  | lv _ i=>exact fun hQ=>i hQ
  | loopN hh _ _ i1 i2=>
    intro Q hQ
    obtain ⟨n,hn⟩:=i2 hQ
    refine ⟨n+1,?_⟩
    simp only [rounds,hh]
    exact i1 hn
  | @loopX _ _ _ _ _ x _ hh _ hx i=>
    intro Q hQ
    refine ⟨1,?_⟩
    simp only [rounds,hh]
    refine i ?_
    cases x with
    | nrm=>exact absurd rfl hx
    | exit=>exact hQ
    | ret=>exact hQ
theorem wp_mono {C:CallRel} {c:IR} {Q Q':X→St→Prop} {s:St} (hQ:∀x s,Q x s→Q' x s) (h:wp C c Q s):wp C c Q' s:=by
  obtain ⟨x,s',h1,h2⟩:=wp_exec h
  exact exec_wp h1 (hQ _ _ h2)
theorem wp_loop_inv {C:CallRel} {live:List Nat} {keep:Option (Nat × List Nat)} {a:IR} {Q:X→St→Prop} {s:St} (I:Nat→St→Prop) (N:Nat) (h0:∃s0,headOf live keep s=some s0∧I N s0)
    (step:∀n s0,I n s0→wp C a (fun x s1=>match x with|.nrm=>∃s2,headOf live keep s1=some s2∧∃m,m<n∧I m s2|x=>Q x s1) s0):wp C (.loop live keep a) Q s:=by
  induction N using Nat.strongRecOn generalizing s with
  | _ N ih=>
    obtain ⟨s0,h1,h2⟩:=h0
    obtain ⟨x,s1,hx,hq⟩:=wp_exec (step N s0 h2)
    cases x with
    | nrm=>
      obtain ⟨s2,g1,m,g2,g3⟩:=hq
      obtain ⟨n,hn⟩:=ih m g2 ⟨s2,g1,g3⟩
      refine ⟨n+1,?_⟩
      simp only [rounds,h1]
      exact exec_wp hx hn
    | exit id=>
      refine ⟨1,?_⟩
      simp only [rounds,h1]
      exact exec_wp hx hq
    | ret=>
      refine ⟨1,?_⟩
      simp only [rounds,h1]
      exact exec_wp hx hq
def Out (fn:IFn) (mem:List AObj) (r:AV) (mem':List AObj) (s:St):Prop:=
  match resAll s fn.res with
  | some rv=>outOf fn.md mem r mem' s rv
  | none=>False
def Fin (fn:IFn) (mem:List AObj) (r:AV) (mem':List AObj) (x:X) (s:St):Prop:=
  match x with
  | .exit _=>False
  | .nrm=>Out fn mem r mem' s
  | .ret=>Out fn mem r mem' s
theorem Call.go {tab:Nat→Option IFn} {E:CallRel} {f:Nat} {as:List AV} {mem:List AObj} {r:AV} {mem':List AObj} (fn:IFn) (c:IR) (hc:fn.body=c) (hf:tab f=some fn) (h1:as.length=fn.nparams) (h2:(decide (fn.nparams≤fn.ntmps))=true)
    (h:wp (Call tab E) c (Fin fn mem r mem') ⟨argsE 0 as,mem⟩):Call tab E f as mem r mem':=by
  subst hc
  refine Call.of fn hf h1 (by rw [h1];simpa using h2) (wp_mono (fun x s hx=>?_) h)
  have:∀s,Out fn mem r mem' s→∃rv,resAll s fn.res=some rv∧outOf fn.md mem r mem' s rv:=fun s h=>by
    unfold Out at h
    split at h
    · rename_i rv hrv;exact ⟨rv,hrv,h⟩
    · exact h.elim
  cases x with
  | exit=>exact hx.elim
  | nrm=>exact ⟨.inl rfl,this s hx⟩
  | ret=>exact ⟨.inr rfl,this s hx⟩
inductive Item where
  | code (c:IR)
  | ops (os:List IOp)
  | endb (id:Nat)
def Mach (C:CallRel) (Q:X→St→Prop):List Item→X→St→Prop
  | [],x,s=>Q x s
  | .code c::k,.nrm,s=>wp C c (Mach C Q k) s
  | .code _::k,x,s=>Mach C Q k x s
  | .ops os::k,.nrm,s=>wpR C (Mach C Q k .nrm) os s
  | .ops _::k,x,s=>Mach C Q k x s
  | .endb id::k,.exit j,s=>if j=id then Mach C Q k .nrm s else Mach C Q k (.exit j) s
  | .endb _::k,x,s=>Mach C Q k x s
section
variable {C:CallRel} {Q:X→St→Prop} {k:List Item} {s:St}
def MachB (C:CallRel) (Q:X→St→Prop) (v:AV) (a b:IR) (k:List Item) (s:St):Prop:=
  match v with
  | .bool t=>Mach C Q (.code (if t then a else b)::k) .nrm s
  | _=>False
def MachV (C:CallRel) (Q:X→St→Prop) (r:Option (AV × List AObj)) (d:Option Nat) (os:List IOp) (k:List Item) (env:Env):Prop:=
  match r with
  | some (v,m)=>Mach C Q (.ops os::k) .nrm ⟨putE env d v,m⟩
  | none=>False
def MachG (C:CallRel) (Q:X→St→Prop) (v:AV) (b:Bool) (d:Option Nat) (io:MOp) (os:List IOp) (k:List Item) (s:St):Prop:=
  match v with
  | .bool c=>if c=b then Mach C Q (.ops (⟨d,io,none⟩::os)::k) .nrm s else Mach C Q (.ops os::k) .nrm ⟨putE s.env d (.tup []),s.mem⟩
  | .tup []=>Mach C Q (.ops os::k) .nrm ⟨putE s.env d (.tup []),s.mem⟩
  | _=>False
inductive CK where
  | P|R|F|O|Z|G|M|V
def MachA (C:CallRel) (Q:X→St→Prop) (c:CK) (f:Nat) (as:Option (List AV)) (ns:List Nat) (d:Option Nat) (os:List IOp) (k:List Item) (s:St):Prop:=
  match as with
  | none=>False
  | some as=>match c with
    | .P=>∃r,C f as [] r []∧Mach C Q (.ops os::k) .nrm ⟨putE s.env d r,s.mem⟩
    | .R=>∃r,C f as [] r []∧scalars r=true∧Mach C Q (.ops os::k) .nrm ⟨putE s.env d r,s.mem⟩
    | .F=>∃r,C f as [] r []∧Mach C Q (.ops os::k) .nrm ⟨putE s.env d r,freeze ns s.mem⟩
    | .O=>∃r m,C f as [] r m∧(m.all made)=true∧ownishR r=true∧Mach C Q (.ops os::k) .nrm ⟨putE s.env d (shiftR s.mem.length r),freeze ns s.mem++m.map (shiftO s.mem.length)⟩
    | .Z=>∃r m r',C f as [] r m∧snap m 10 r=some r'∧Mach C Q (.ops os::k) .nrm ⟨putE s.env d r',freeze ns s.mem⟩
    | .G=>(as.all plainArg)=true∧∃r m,C f as [] r m∧(m.all made)=true∧ownishR r=true∧Mach C Q (.ops os::k) .nrm ⟨putE s.env d (shiftR s.mem.length r),s.mem++m.map (shiftO s.mem.length)⟩
    | .M=>∃r m,C f as s.mem r m∧Mach C Q (.ops os::k) .nrm ⟨putE s.env d r,m⟩
    | .V=>∃r,C f as [] r []∧scalars r=true∧Mach C Q (.ops os::k) .nrm ⟨putE s.env d r,s.mem⟩
def MachF (C:CallRel) (Q:X→St→Prop) (v:AV) (as:Option (List AV)) (d:Option Nat) (os:List IOp) (k:List Item) (s:St):Prop:=
  match v with
  | .fn f caps=>match caps.mapM (fun c=>snap s.mem 10 c) with
    | some bs=>MachA C Q .V f (as.map (· ++ bs)) [] d os k s
    | none=>False
  | _=>False
theorem mNil {x:X}:Mach C Q [] x s=Q x s:=by cases x<;>rfl
theorem mSkip:Mach C Q (.code .skip::k) .nrm s=Mach C Q k .nrm s:=Eq.trans rfl rfl
theorem mRet:Mach C Q (.code .ret::k) .nrm s=Mach C Q k .ret s:=Eq.trans rfl rfl
theorem mExit {id:Nat}:Mach C Q (.code (.exit id)::k) .nrm s=Mach C Q k (.exit id) s:=Eq.trans rfl rfl
theorem mReg {p:Option (List Nat)} {os:List IOp}:Mach C Q (.code (.reg p os)::k) .nrm s=Mach C Q (.ops os::k) .nrm s:=Eq.trans rfl rfl
theorem mSeq {a b:IR}:Mach C Q (.code (.seq a b)::k) .nrm s=Mach C Q (.code a::.code b::k) .nrm s:=by
  simp only [Mach,wp]
  congr 1
  funext x s1
  cases x<;>rfl
theorem mCond {c:Opd} {a b:IR}:Mach C Q (.code (.cond c a b)::k) .nrm s=MachB C Q (ev s.env c) a b k s:=by
  simp only [Mach,wp,MachB]
  cases ev s.env c with
  | bool t=>cases t<;>simp
  | _=>rfl
theorem mTrue {a b:IR}:MachB C Q (.bool true) a b k s=Mach C Q (.code a::k) .nrm s:=Eq.trans rfl rfl
theorem mFalse {a b:IR}:MachB C Q (.bool false) a b k s=Mach C Q (.code b::k) .nrm s:=Eq.trans rfl rfl
theorem mBlock {id:Nat} {a:IR}:Mach C Q (.code (.block id a)::k) .nrm s=Mach C Q (.code a::.endb id::k) .nrm s:=by
  simp only [Mach,wp]
  congr 1
  funext x s1
  cases x<;>rfl
theorem mRsv {b:Bool} {ty sz:Nat} {a:IR}:Mach C Q (.code (.rsv b ty sz a)::k) .nrm s=Mach C Q (.code a::k) .nrm ⟨s.env,s.mem++[⟨b,ty,sz,0,0,[],false⟩]⟩:=Eq.trans rfl rfl
theorem mLv {live:List Nat} {a:IR}:Mach C Q (.code (.lv live a)::k) .nrm s=Mach C Q (.code a::k) .nrm ⟨live.map fun n=>(n,getE s.env n),s.mem⟩:=Eq.trans rfl rfl
theorem mCodeE {c:IR} {id:Nat}:Mach C Q (.code c::k) (.exit id) s=Mach C Q k (.exit id) s:=Eq.trans rfl rfl
theorem mCodeR {c:IR}:Mach C Q (.code c::k) .ret s=Mach C Q k .ret s:=Eq.trans rfl rfl
theorem mEndN {id:Nat}:Mach C Q (.endb id::k) .nrm s=Mach C Q k .nrm s:=Eq.trans rfl rfl
theorem mEndR {id:Nat}:Mach C Q (.endb id::k) .ret s=Mach C Q k .ret s:=Eq.trans rfl rfl
theorem mEndE {id j:Nat}:Mach C Q (.endb id::k) (.exit j) s=if j=id then Mach C Q k .nrm s else Mach C Q k (.exit j) s:=Eq.trans rfl rfl
theorem mOps:Mach C Q (.ops []::k) .nrm s=Mach C Q k .nrm s:=Eq.trans rfl rfl
theorem mSome {v:AV} {m:List AObj} {d:Option Nat} {os:List IOp} {env:Env}:MachV C Q (some (v,m)) d os k env=Mach C Q (.ops os::k) .nrm ⟨putE env d v,m⟩:=Eq.trans rfl rfl
theorem mGuard {d:Option Nat} {io:MOp} {t:Nat} {b:Bool} {os:List IOp}:Mach C Q (.ops (⟨d,io,some (t,b)⟩::os)::k) .nrm s=MachG C Q (getE s.env t) b d io os k s:=by
  simp only [Mach,wpR,MachG]
  rfl
theorem mGtt {d:Option Nat} {io:MOp} {os:List IOp}:MachG C Q (.bool true) true d io os k s=Mach C Q (.ops (⟨d,io,none⟩::os)::k) .nrm s:=Eq.trans rfl rfl
theorem mGff {d:Option Nat} {io:MOp} {os:List IOp}:MachG C Q (.bool false) false d io os k s=Mach C Q (.ops (⟨d,io,none⟩::os)::k) .nrm s:=Eq.trans rfl rfl
theorem mGu {b:Bool} {d:Option Nat} {io:MOp} {os:List IOp}:MachG C Q (.tup []) b d io os k s=Mach C Q (.ops os::k) .nrm ⟨putE s.env d (.tup []),s.mem⟩:=Eq.trans rfl rfl
theorem mGtf {d:Option Nat} {io:MOp} {os:List IOp}:MachG C Q (.bool true) false d io os k s=Mach C Q (.ops os::k) .nrm ⟨putE s.env d (.tup []),s.mem⟩:=by simp [MachG]
theorem mGft {d:Option Nat} {io:MOp} {os:List IOp}:MachG C Q (.bool false) true d io os k s=Mach C Q (.ops os::k) .nrm ⟨putE s.env d (.tup []),s.mem⟩:=by simp [MachG]
variable {d:Option Nat} {os:List IOp} {f:Nat} {xs:List Opd}
theorem mCallP:Mach C Q (.ops (⟨d,.callP f xs,none⟩::os)::k) .nrm s=MachA C Q .P f (xs.mapM fun x=>snap [] 10 (ev s.env x)) [] d os k s:=by
  simp only [Mach,wpR,wpO,MachA]
  refine propext ⟨fun ⟨as,r,h1,h2,h3⟩=>?_,fun h=>?_⟩
  · rw [h1];exact ⟨r,h2,h3⟩
  · split at h
    · exact h.elim
    · rename_i as has;obtain ⟨r,h2,h3⟩:=h;exact ⟨as,r,has,h2,h3⟩
theorem mCallR:Mach C Q (.ops (⟨d,.callR f xs,none⟩::os)::k) .nrm s=MachA C Q .R f (xs.mapM fun x=>snap s.mem 10 (ev s.env x)) [] d os k s:=by
  simp only [Mach,wpR,wpO,MachA]
  refine propext ⟨fun ⟨as,r,h1,h2,h4,h3⟩=>?_,fun h=>?_⟩
  · rw [h1];exact ⟨r,h2,h4,h3⟩
  · split at h
    · exact h.elim
    · rename_i as has;obtain ⟨r,h2,h4,h3⟩:=h;exact ⟨as,r,has,h2,h4,h3⟩
theorem mCallF:Mach C Q (.ops (⟨d,.callF f xs,none⟩::os)::k) .nrm s=MachA C Q .F f (xs.mapM fun x=>snap s.mem 10 (ev s.env x)) (xs.flatMap fun x=>refs s.mem 10 (ev s.env x)) d os k s:=by
  simp only [Mach,wpR,wpO,MachA]
  refine propext ⟨fun ⟨as,r,h1,h2,h3⟩=>?_,fun h=>?_⟩
  · rw [h1];exact ⟨r,h2,h3⟩
  · split at h
    · exact h.elim
    · rename_i as has;obtain ⟨r,h2,h3⟩:=h;exact ⟨as,r,has,h2,h3⟩
theorem mCallO:Mach C Q (.ops (⟨d,.callO f xs,none⟩::os)::k) .nrm s=MachA C Q .O f (xs.mapM fun x=>snap s.mem 10 (ev s.env x)) (xs.flatMap fun x=>refs s.mem 10 (ev s.env x)) d os k s:=by
  simp only [Mach,wpR,wpO,MachA]
  refine propext ⟨fun ⟨as,r,m,h1,h2,h4,h5,h3⟩=>?_,fun h=>?_⟩
  · rw [h1];exact ⟨r,m,h2,h4,h5,h3⟩
  · split at h
    · exact h.elim
    · rename_i as has;obtain ⟨r,m,h2,h4,h5,h3⟩:=h;exact ⟨as,r,m,has,h2,h4,h5,h3⟩
theorem mCallZ:Mach C Q (.ops (⟨d,.callZ f xs,none⟩::os)::k) .nrm s=MachA C Q .Z f (xs.mapM fun x=>snap s.mem 10 (ev s.env x)) (xs.flatMap fun x=>refs s.mem 10 (ev s.env x)) d os k s:=by
  simp only [Mach,wpR,wpO,MachA]
  refine propext ⟨fun ⟨as,r,m,r',h1,h2,h4,h3⟩=>?_,fun h=>?_⟩
  · rw [h1];exact ⟨r,m,r',h2,h4,h3⟩
  · split at h
    · exact h.elim
    · rename_i as has;obtain ⟨r,m,r',h2,h4,h3⟩:=h;exact ⟨as,r,m,r',has,h2,h4,h3⟩
theorem mCallG:Mach C Q (.ops (⟨d,.callG f xs,none⟩::os)::k) .nrm s=MachA C Q .G f (some (xs.map (ev s.env))) [] d os k s:=by
  simp only [Mach,wpR,wpO,MachA,List.all_map,Function.comp_def]
theorem mCallM:Mach C Q (.ops (⟨d,.callM f xs,none⟩::os)::k) .nrm s=MachA C Q .M f (some (xs.map (ev s.env))) [] d os k s:=Eq.trans rfl rfl
theorem mCallV {x:Opd}:Mach C Q (.ops (⟨d,.callV x xs,none⟩::os)::k) .nrm s=MachF C Q (ev s.env x) (xs.mapM fun x=>snap s.mem 10 (ev s.env x)) d os k s:=by
  simp only [Mach,wpR,wpO,MachF,MachA]
  refine propext ⟨fun ⟨f,caps,as,bs,r,h0,h1,h2,h3,h4,h5⟩=>?_,fun h=>?_⟩
  · rw [h0,h1];simp only [h2,Option.map_some];exact ⟨r,h3,h4,h5⟩
  · split at h
    · rename_i f caps hf
      split at h
      · rename_i bs hbs
        split at h
        · exact h.elim
        · rename_i as has
          obtain ⟨as',h1,rfl⟩:=Option.map_eq_some_iff.1 has
          obtain ⟨r,h3,h4,h5⟩:=h
          exact ⟨f,caps,as',bs,r,hf,h1,hbs,h3,h4,h5⟩
      · exact h.elim
    · exact h.elim
theorem goP {as:List AV} {ns:List Nat} {r:AV} (h:C f as [] r []) (hk:Mach C Q (.ops os::k) .nrm ⟨putE s.env d r,s.mem⟩):MachA C Q .P f (some as) ns d os k s:=⟨r,h,hk⟩
theorem goR {as:List AV} {ns:List Nat} {r:AV} (h:C f as [] r []) (hs:scalars r=true) (hk:Mach C Q (.ops os::k) .nrm ⟨putE s.env d r,s.mem⟩):MachA C Q .R f (some as) ns d os k s:=⟨r,h,hs,hk⟩
theorem goF {as:List AV} {ns:List Nat} {r:AV} (h:C f as [] r []) (hk:Mach C Q (.ops os::k) .nrm ⟨putE s.env d r,freeze ns s.mem⟩):MachA C Q .F f (some as) ns d os k s:=⟨r,h,hk⟩
theorem goO {as:List AV} {ns:List Nat} {r:AV} {m:List AObj} (h:C f as [] r m) (h1:(m.all fun o=>!o.box)=true) (h2:ownishR r=true) (hk:Mach C Q (.ops os::k) .nrm ⟨putE s.env d (shiftR s.mem.length r),freeze ns s.mem++m⟩):MachA C Q .O f (some as) ns d os k s:=by
  rw [List.all_eq_true] at h1
  refine ⟨r,m,h,List.all_eq_true.2 (fun o ho=>by simp only [made,h1 o ho,Bool.true_or]),h2,?_⟩
  have:m.map (shiftO s.mem.length)=m:=by
    conv=>rhs;rw [←List.map_id m]
    refine List.map_congr_left (fun o ho=>?_)
    have:=h1 o ho
    simp only [Bool.not_eq_true'] at this
    simp only [shiftO,this,Bool.false_eq_true,if_false,id]
  rw [this]
  exact hk
theorem goZ {as:List AV} {ns:List Nat} {r r':AV} {m:List AObj} (h:C f as [] r m) (h1:snap m 10 r=some r') (hk:Mach C Q (.ops os::k) .nrm ⟨putE s.env d r',freeze ns s.mem⟩):MachA C Q .Z f (some as) ns d os k s:=⟨r,m,r',h,h1,hk⟩
theorem goG {as:List AV} {ns:List Nat} {r:AV} {m:List AObj} (h0:(as.all plainArg)=true) (h:C f as [] r m) (h1:(m.all made)=true) (h2:ownishR r=true) (hk:Mach C Q (.ops os::k) .nrm ⟨putE s.env d (shiftR s.mem.length r),s.mem++m.map (shiftO s.mem.length)⟩):MachA C Q .G f (some as) ns d os k s:=⟨h0,r,m,h,h1,h2,hk⟩
theorem goM {as:List AV} {ns:List Nat} {r:AV} {m:List AObj} (h:C f as s.mem r m) (hk:Mach C Q (.ops os::k) .nrm ⟨putE s.env d r,m⟩):MachA C Q .M f (some as) ns d os k s:=⟨r,m,h,hk⟩
theorem goV {as:List AV} {ns:List Nat} {r:AV} (h:C f as [] r []) (hs:scalars r=true) (hk:Mach C Q (.ops os::k) .nrm ⟨putE s.env d r,s.mem⟩):MachA C Q .V f (some as) ns d os k s:=⟨r,h,hs,hk⟩
theorem mO_mov {x:Opd}:Mach C Q (.ops (⟨d,.mov x,none⟩::os)::k) .nrm s=MachV C Q (evalOp s.mem (ev s.env) (.mov x)) d os k s.env:=Eq.trans rfl rfl
theorem mO_newnil {a b:Nat}:Mach C Q (.ops (⟨d,.newnil a b,none⟩::os)::k) .nrm s=MachV C Q (evalOp s.mem (ev s.env) (.newnil a b)) d os k s.env:=Eq.trans rfl rfl
theorem mO_pick {x y z:Opd}:Mach C Q (.ops (⟨d,.pick x y z,none⟩::os)::k) .nrm s=MachV C Q (evalOp s.mem (ev s.env) (.pick x y z)) d os k s.env:=Eq.trans rfl rfl
theorem mO_alloc {n:Nat} {cs:List AV}:Mach C Q (.ops (⟨d,.alloc n cs,none⟩::os)::k) .nrm s=MachV C Q (evalOp s.mem (ev s.env) (.alloc n cs)) d os k s.env:=Eq.trans rfl rfl
theorem mO_box {a b:Nat} {x:Opd}:Mach C Q (.ops (⟨d,.box a b x,none⟩::os)::k) .nrm s=MachV C Q (evalOp s.mem (ev s.env) (.box a b x)) d os k s.env:=Eq.trans rfl rfl
theorem mO_build {zz:List AV} {ps:List (Nat × Nat × Opd)}:Mach C Q (.ops (⟨d,.build zz ps,none⟩::os)::k) .nrm s=MachV C Q (evalOp s.mem (ev s.env) (.build zz ps)) d os k s.env:=Eq.trans rfl rfl
theorem mO_bsl {a b:Nat} {xs:List Opd}:Mach C Q (.ops (⟨d,.bsl a b xs,none⟩::os)::k) .nrm s=MachV C Q (evalOp s.mem (ev s.env) (.bsl a b xs)) d os k s.env:=Eq.trans rfl rfl
theorem mO_bslF {a b:Nat} {xs:List Opd}:Mach C Q (.ops (⟨d,.bslF a b xs,none⟩::os)::k) .nrm s=MachV C Q (evalOp s.mem (ev s.env) (.bslF a b xs)) d os k s.env:=Eq.trans rfl rfl
theorem mO_newnilB {a b:Nat}:Mach C Q (.ops (⟨d,.newnilB a b,none⟩::os)::k) .nrm s=MachV C Q (evalOp s.mem (ev s.env) (.newnilB a b)) d os k s.env:=Eq.trans rfl rfl
theorem mO_bslB {a b:Nat} {xs:List Opd}:Mach C Q (.ops (⟨d,.bslB a b xs,none⟩::os)::k) .nrm s=MachV C Q (evalOp s.mem (ev s.env) (.bslB a b xs)) d os k s.env:=Eq.trans rfl rfl
theorem mO_lenB {x:Opd}:Mach C Q (.ops (⟨d,.lenB x,none⟩::os)::k) .nrm s=MachV C Q (evalOp s.mem (ev s.env) (.lenB x)) d os k s.env:=Eq.trans rfl rfl
theorem mO_appB {a b c:Nat} {x y:Opd}:Mach C Q (.ops (⟨d,.appB a b c x y,none⟩::os)::k) .nrm s=MachV C Q (evalOp s.mem (ev s.env) (.appB a b c x y)) d os k s.env:=Eq.trans rfl rfl
theorem mO_allocA {js:List Nat} {j n:Nat} {cs:List AV}:Mach C Q (.ops (⟨d,.allocA js j n cs,none⟩::os)::k) .nrm s=MachV C Q (evalOp s.mem (ev s.env) (.allocA js j n cs)) d os k s.env:=Eq.trans rfl rfl
theorem mO_bslA {js:List Nat} {j a b:Nat}:Mach C Q (.ops (⟨d,.bslA js j a b,none⟩::os)::k) .nrm s=MachV C Q (evalOp s.mem (ev s.env) (.bslA js j a b)) d os k s.env:=Eq.trans rfl rfl
theorem mO_appA {js:List Nat} {a b c:Nat} {x y:Opd}:Mach C Q (.ops (⟨d,.appA js a b c x y,none⟩::os)::k) .nrm s=MachV C Q (evalOp s.mem (ev s.env) (.appA js a b c x y)) d os k s.env:=Eq.trans rfl rfl
theorem mO_ldb {g:Bool} {n:Nat} {x:Opd}:Mach C Q (.ops (⟨d,.ldb g n x,none⟩::os)::k) .nrm s=MachV C Q (evalOp s.mem (ev s.env) (.ldb g n x)) d os k s.env:=Eq.trans rfl rfl
theorem mO_faddrb {n:Nat} {x:Opd}:Mach C Q (.ops (⟨d,.faddrb n x,none⟩::os)::k) .nrm s=MachV C Q (evalOp s.mem (ev s.env) (.faddrb n x)) d os k s.env:=Eq.trans rfl rfl
theorem mO_ldf {g:Bool} {n:Nat} {x:Opd}:Mach C Q (.ops (⟨d,.ldf g n x,none⟩::os)::k) .nrm s=MachV C Q (evalOp s.mem (ev s.env) (.ldf g n x)) d os k s.env:=Eq.trans rfl rfl
theorem mO_ld {g:Bool} {n:Nat} {x:Opd}:Mach C Q (.ops (⟨d,.ld g n x,none⟩::os)::k) .nrm s=MachV C Q (evalOp s.mem (ev s.env) (.ld g n x)) d os k s.env:=Eq.trans rfl rfl
theorem mO_st {n:Nat} {x y:Opd}:Mach C Q (.ops (⟨d,.st n x y,none⟩::os)::k) .nrm s=MachV C Q (evalOp s.mem (ev s.env) (.st n x y)) d os k s.env:=Eq.trans rfl rfl
theorem mO_sta {av:List Nat} {n:Nat} {x y:Opd}:Mach C Q (.ops (⟨d,.sta av n x y,none⟩::os)::k) .nrm s=MachV C Q (evalOp s.mem (ev s.env) (.sta av n x y)) d os k s.env:=Eq.trans rfl rfl
theorem mO_nilchk {x:Opd}:Mach C Q (.ops (⟨d,.nilchk x,none⟩::os)::k) .nrm s=MachV C Q (evalOp s.mem (ev s.env) (.nilchk x)) d os k s.env:=Eq.trans rfl rfl
theorem mO_bin {b:Bin} {x y:Opd}:Mach C Q (.ops (⟨d,.bin b x y,none⟩::os)::k) .nrm s=MachV C Q (evalOp s.mem (ev s.env) (.bin b x y)) d os k s.env:=Eq.trans rfl rfl
theorem mO_binb {b:Bin} {x y:Opd}:Mach C Q (.ops (⟨d,.binb b x y,none⟩::os)::k) .nrm s=MachV C Q (evalOp s.mem (ev s.env) (.binb b x y)) d os k s.env:=Eq.trans rfl rfl
theorem mO_binp {b:Bin} {x y:Opd}:Mach C Q (.ops (⟨d,.binp b x y,none⟩::os)::k) .nrm s=MachV C Q (evalOp s.mem (ev s.env) (.binp b x y)) d os k s.env:=Eq.trans rfl rfl
theorem mO_bins {b:Bin} {sig:List Nat} {x y:Opd}:Mach C Q (.ops (⟨d,.bins b sig x y,none⟩::os)::k) .nrm s=MachV C Q (evalOp s.mem (ev s.env) (.bins b sig x y)) d os k s.env:=Eq.trans rfl rfl
theorem mO_neg {x:Opd}:Mach C Q (.ops (⟨d,.neg x,none⟩::os)::k) .nrm s=MachV C Q (evalOp s.mem (ev s.env) (.neg x)) d os k s.env:=Eq.trans rfl rfl
theorem mO_com {x:Opd}:Mach C Q (.ops (⟨d,.com x,none⟩::os)::k) .nrm s=MachV C Q (evalOp s.mem (ev s.env) (.com x)) d os k s.env:=Eq.trans rfl rfl
theorem mO_not {x:Opd}:Mach C Q (.ops (⟨d,.not x,none⟩::os)::k) .nrm s=MachV C Q (evalOp s.mem (ev s.env) (.not x)) d os k s.env:=Eq.trans rfl rfl
theorem mO_conv {kk:IntKind} {x:Opd}:Mach C Q (.ops (⟨d,.conv kk x,none⟩::os)::k) .nrm s=MachV C Q (evalOp s.mem (ev s.env) (.conv kk x)) d os k s.env:=Eq.trans rfl rfl
theorem mO_mk {a b:Nat} {zz:List AV} {x:Opd}:Mach C Q (.ops (⟨d,.mk a b zz x,none⟩::os)::k) .nrm s=MachV C Q (evalOp s.mem (ev s.env) (.mk a b zz x)) d os k s.env:=Eq.trans rfl rfl
theorem mO_mk0 {a b c:Nat} {x:Opd}:Mach C Q (.ops (⟨d,.mk0 a b c x,none⟩::os)::k) .nrm s=MachV C Q (evalOp s.mem (ev s.env) (.mk0 a b c x)) d os k s.env:=Eq.trans rfl rfl
theorem mO_mkB {a b c e:Nat} {x:Opd}:Mach C Q (.ops (⟨d,.mkB a b c e x,none⟩::os)::k) .nrm s=MachV C Q (evalOp s.mem (ev s.env) (.mkB a b c e x)) d os k s.env:=Eq.trans rfl rfl
theorem mO_s2b {x:Opd}:Mach C Q (.ops (⟨d,.s2b x,none⟩::os)::k) .nrm s=MachV C Q (evalOp s.mem (ev s.env) (.s2b x)) d os k s.env:=Eq.trans rfl rfl
theorem mO_b2s {x:Opd}:Mach C Q (.ops (⟨d,.b2s x,none⟩::os)::k) .nrm s=MachV C Q (evalOp s.mem (ev s.env) (.b2s x)) d os k s.env:=Eq.trans rfl rfl
theorem mO_cpy {n:Nat} {x y:Opd}:Mach C Q (.ops (⟨d,.cpy n x y,none⟩::os)::k) .nrm s=MachV C Q (evalOp s.mem (ev s.env) (.cpy n x y)) d os k s.env:=Eq.trans rfl rfl
theorem mO_cut {n:Nat} {x:Opd} {lo hi:Option Opd}:Mach C Q (.ops (⟨d,.cut n x lo hi,none⟩::os)::k) .nrm s=MachV C Q (evalOp s.mem (ev s.env) (.cut n x lo hi)) d os k s.env:=Eq.trans rfl rfl
theorem mO_faddr {n:Nat} {x:Opd}:Mach C Q (.ops (⟨d,.faddr n x,none⟩::os)::k) .nrm s=MachV C Q (evalOp s.mem (ev s.env) (.faddr n x)) d os k s.env:=Eq.trans rfl rfl
theorem mO_fld {g:Bool} {a b:Nat} {x:Opd}:Mach C Q (.ops (⟨d,.fld g a b x,none⟩::os)::k) .nrm s=MachV C Q (evalOp s.mem (ev s.env) (.fld g a b x)) d os k s.env:=Eq.trans rfl rfl
theorem mO_iaddr {n:Nat} {x y:Opd}:Mach C Q (.ops (⟨d,.iaddr n x y,none⟩::os)::k) .nrm s=MachV C Q (evalOp s.mem (ev s.env) (.iaddr n x y)) d os k s.env:=Eq.trans rfl rfl
theorem mO_iaddrf {n:Nat} {x y:Opd}:Mach C Q (.ops (⟨d,.iaddrf n x y,none⟩::os)::k) .nrm s=MachV C Q (evalOp s.mem (ev s.env) (.iaddrf n x y)) d os k s.env:=Eq.trans rfl rfl
theorem mO_sidx {x y:Opd}:Mach C Q (.ops (⟨d,.sidx x y,none⟩::os)::k) .nrm s=MachV C Q (evalOp s.mem (ev s.env) (.sidx x y)) d os k s.env:=Eq.trans rfl rfl
theorem mO_len {x:Opd}:Mach C Q (.ops (⟨d,.len x,none⟩::os)::k) .nrm s=MachV C Q (evalOp s.mem (ev s.env) (.len x)) d os k s.env:=Eq.trans rfl rfl
theorem mO_lenf {x:Opd}:Mach C Q (.ops (⟨d,.lenf x,none⟩::os)::k) .nrm s=MachV C Q (evalOp s.mem (ev s.env) (.lenf x)) d os k s.env:=Eq.trans rfl rfl
theorem mO_slen {x:Opd}:Mach C Q (.ops (⟨d,.slen x,none⟩::os)::k) .nrm s=MachV C Q (evalOp s.mem (ev s.env) (.slen x)) d os k s.env:=Eq.trans rfl rfl
theorem mO_scut {x:Opd} {lo hi:Option Opd}:Mach C Q (.ops (⟨d,.scut x lo hi,none⟩::os)::k) .nrm s=MachV C Q (evalOp s.mem (ev s.env) (.scut x lo hi)) d os k s.env:=Eq.trans rfl rfl
theorem mO_app {a b c:Nat} {x y:Opd}:Mach C Q (.ops (⟨d,.app a b c x y,none⟩::os)::k) .nrm s=MachV C Q (evalOp s.mem (ev s.env) (.app a b c x y)) d os k s.env:=Eq.trans rfl rfl
theorem mO_ext {x:Opd} {n:Nat}:Mach C Q (.ops (⟨d,.ext x n,none⟩::os)::k) .nrm s=MachV C Q (evalOp s.mem (ev s.env) (.ext x n)) d os k s.env:=Eq.trans rfl rfl
theorem mO_mx {x y:Opd}:Mach C Q (.ops (⟨d,.mx x y,none⟩::os)::k) .nrm s=MachV C Q (evalOp s.mem (ev s.env) (.mx x y)) d os k s.env:=Eq.trans rfl rfl
theorem mO_mn {x y:Opd}:Mach C Q (.ops (⟨d,.mn x y,none⟩::os)::k) .nrm s=MachV C Q (evalOp s.mem (ev s.env) (.mn x y)) d os k s.env:=Eq.trans rfl rfl
theorem mO_mkfn {f:Nat} {xs:List Opd}:Mach C Q (.ops (⟨d,.mkfn f xs,none⟩::os)::k) .nrm s=MachV C Q (evalOp s.mem (ev s.env) (.mkfn f xs)) d os k s.env:=Eq.trans rfl rfl
def LoopQ (live:List Nat) (keep:Option (Nat × List Nat)) (I:Nat→St→Prop) (n:Nat) (Q:X→St→Prop) (x:X) (s1:St):Prop:=
  match x with
  | .nrm=>∃s2,headOf live keep s1=some s2∧∃m,m<n∧I m s2
  | x=>Q x s1
theorem loopQ_exit {live:List Nat} {keep:Option (Nat × List Nat)} {I:Nat→St→Prop} {n id:Nat}:LoopQ live keep I n (Mach C Q k) (.exit id) s=Mach C Q k (.exit id) s:=Eq.trans rfl rfl
theorem loopQ_ret {live:List Nat} {keep:Option (Nat × List Nat)} {I:Nat→St→Prop} {n:Nat}:LoopQ live keep I n (Mach C Q k) .ret s=Mach C Q k .ret s:=Eq.trans rfl rfl
theorem mLoop {live:List Nat} {keep:Option (Nat × List Nat)} {a:IR} (I:Nat→St→Prop) (N:Nat) (h0:∃s0,headOf live keep s=some s0∧I N s0)
    (step:∀n s0,I n s0→Mach C (LoopQ live keep I n (Mach C Q k)) [.code a] .nrm s0):Mach C Q (.code (.loop live keep a)::k) .nrm s:=by
  refine wp_loop_inv I N h0 (fun n s0 hi=>?_)
  have:=step n s0 hi
  simp only [Mach] at this
  refine wp_mono (fun x s1 hx=>?_) this
  cases x<;>exact hx
theorem loopQ_go {live:List Nat} {keep:Option (Nat × List Nat)} {I:Nat→St→Prop} {n:Nat} {Q:X→St→Prop} {s2:St} (h:headOf live keep s=some s2) (m:Nat) (hm:m<n) (hI:I m s2):LoopQ live keep I n Q .nrm s:=⟨s2,h,m,hm,hI⟩
end
theorem finRet {fn:IFn} {mem:List AObj} {r:AV} {mem':List AObj} {s:St}:Fin fn mem r mem' .ret s=Out fn mem r mem' s:=Eq.trans rfl rfl
theorem finNrm {fn:IFn} {mem:List AObj} {r:AV} {mem':List AObj} {s:St}:Fin fn mem r mem' .nrm s=Out fn mem r mem' s:=Eq.trans rfl rfl
theorem Call.mach {tab:Nat→Option IFn} {E:CallRel} {f:Nat} {as:List AV} {mem:List AObj} {r:AV} {mem':List AObj} (fn:IFn) (c:IR) (hc:fn.body=c) (hf:tab f=some fn) (h1:as.length=fn.nparams) (h2:(decide (fn.nparams≤fn.ntmps))=true)
    (h:Mach (Call tab E) (Fin fn mem r mem') [.code c] .nrm ⟨argsE 0 as,mem⟩):Call tab E f as mem r mem':=
  Call.go fn c hc hf h1 h2 h
def nums (k:IntKind) (l:List Int):List AV:=l.map (.int k)
def ints (l:List Int):AV:=.sl l.length 1 (nums .i64 l)
theorem sub_nums {k:IntKind} {l:List Int} {i:Nat} (h:i<l.length):sub false 1 (nums k l) (i*1)=some (.int k (l.getD i 0)):=by
  simp only [sub,nums,List.length_map,Nat.mul_one,Bool.false_eq_true,if_false,if_true]
  rw [if_pos (by omega),List.getElem?_map,List.getElem?_eq_getElem h]
  simp [List.getD,h]
theorem freeze_nil {mem:List AObj}:freeze [] mem=mem:=by
  apply List.ext_getElem?
  intro i
  simp [freeze]
theorem nums_length {k:IntKind} {l:List Int}:(nums k l).length=l.length:=by simp [nums]
theorem fill_nums {k:IntKind} {l:List Int} {i:Nat} {v:Int}:fillIn (nums k l) (i*1) [.int k v]=nums k (l.take i++v::l.drop (i+1)):=by
  simp [fillIn,nums,List.map_take,List.map_drop]
theorem flat_nums {k:IntKind} {v:Int}:∀{n:Nat},(List.replicate n [AV.int k v]).flatten=nums k (List.replicate n v)
  | 0=>rfl
  | n+1=>by rw [List.replicate_succ,List.flatten_cons,flat_nums,List.replicate_succ];rfl
theorem ar_add {k:IntKind} {x y:Int}:arith .add k x y=some (.int k (k.wrap (x+y))):=rfl
theorem ar_sub {k:IntKind} {x y:Int}:arith .sub k x y=some (.int k (k.wrap (x - y))):=rfl
theorem ar_mul {k:IntKind} {x y:Int}:arith .mul k x y=some (.int k (k.wrap (x*y))):=rfl
theorem ar_quo {k:IntKind} {x y:Int}:arith .quo k x y=if y=0 then none else some (.int k (k.wrap (x.tdiv y))):=rfl
theorem ar_rem {k:IntKind} {x y:Int}:arith .rem k x y=if y=0 then none else some (.int k (x.tmod y)):=rfl
theorem ar_eq {k:IntKind} {x y:Int}:arith .eq k x y=some (.bool (x==y)):=rfl
theorem ar_ne {k:IntKind} {x y:Int}:arith .ne k x y=some (.bool (x != y)):=rfl
theorem ar_lt {k:IntKind} {x y:Int}:arith .lt k x y=some (.bool (decide (x<y))):=rfl
theorem ar_le {k:IntKind} {x y:Int}:arith .le k x y=some (.bool (decide (x≤y))):=rfl
theorem ar_gt {k:IntKind} {x y:Int}:arith .gt k x y=some (.bool (decide (x > y))):=rfl
theorem ar_ge {k:IntKind} {x y:Int}:arith .ge k x y=some (.bool (decide (x≥y))):=rfl
theorem ar_and {k:IntKind} {x y:Int}:arith .and k x y=some (.int k (k.wrap (BitVec.ofInt k.bits x &&& BitVec.ofInt k.bits y).toNat)):=rfl
theorem ar_or {k:IntKind} {x y:Int}:arith .or k x y=some (.int k (k.wrap (BitVec.ofInt k.bits x ||| BitVec.ofInt k.bits y).toNat)):=rfl
theorem ar_xor {k:IntKind} {x y:Int}:arith .xor k x y=some (.int k (k.wrap (BitVec.ofInt k.bits x ^^^ BitVec.ofInt k.bits y).toNat)):=rfl
theorem nat0:((0:Nat):Int)=0:=rfl
theorem wrap_i64 {n:Int} (h1 : -9223372036854775808≤n) (h2:n≤9223372036854775807):IntKind.i64.wrap n=n:=by
  simp only [IntKind.wrap,IntKind.bits,IntKind.signed]
  simp
  omega
theorem FL:type_of% (And.intro @fillAll.eq_1 (And.intro @fillAll.eq_2 (And.intro @fillIn.eq_1 (And.intro @shiftR.eq_1 (And.intro @shiftR.eq_2 (And.intro @shiftR.eq_3 (And.intro @shiftV.eq_1 (And.intro @shiftV.eq_2 (And.intro @shiftV.eq_3 (And.intro @List.take_succ_cons.{0} (And.intro @List.take_zero.{0} (And.intro @List.drop_succ_cons.{0} (And.intro @List.drop_zero.{0} (And.intro @List.append_nil.{0} (@Nat.zero_add))))))))))))))):=And.intro @fillAll.eq_1 (And.intro @fillAll.eq_2 (And.intro @fillIn.eq_1 (And.intro @shiftR.eq_1 (And.intro @shiftR.eq_2 (And.intro @shiftR.eq_3 (And.intro @shiftV.eq_1 (And.intro @shiftV.eq_2 (And.intro @shiftV.eq_3 (And.intro @List.take_succ_cons.{0} (And.intro @List.take_zero.{0} (And.intro @List.drop_succ_cons.{0} (And.intro @List.drop_zero.{0} (And.intro @List.append_nil.{0} (@Nat.zero_add))))))))))))))
theorem OT:type_of% (And.intro @Out.eq_1 (And.intro @resAll.eq_1 (And.intro @resAll.eq_2 (And.intro @geto.eq_1 (And.intro @ints.eq_1 (And.intro @List.getElem?_cons_zero.{0} (And.intro @List.getElem?_cons_succ.{0} (And.intro @resOf.eq_1 (And.intro @resOf.eq_2 (And.intro @outOf.eq_1 (And.intro @outOf.eq_2 (And.intro @outOf.eq_3 (And.intro @outOf.eq_4 (And.intro @snap.eq_1 (And.intro @snap.eq_2 (And.intro @snap.eq_3 (And.intro @snap.eq_4 (And.intro @snap.eq_5 (And.intro @snap.eq_6 (And.intro @snap.eq_7 (And.intro @snap.eq_8 (And.intro @snap.eq_9 (And.intro @snapL.eq_1 (And.intro @snapL.eq_2 (And.intro @snapL.eq_3 (And.intro @ev.eq_1 (And.intro @ev.eq_2 (And.intro @getE.eq_1 (And.intro @getE.eq_2 (And.intro @List.mapM_cons.{0,0,0} (And.intro @List.mapM_nil.{0,0,0} (And.intro @Option.bind_some.{0,0} (And.intro @Option.pure_def.{0} (And.intro @Option.bind_eq_bind.{0} (And.intro @Option.map_some.{0,0} (And.intro @true_and (@and_true))))))))))))))))))))))))))))))))))))):=And.intro @Out.eq_1 (And.intro @resAll.eq_1 (And.intro @resAll.eq_2 (And.intro @geto.eq_1 (And.intro @ints.eq_1 (And.intro @List.getElem?_cons_zero.{0} (And.intro @List.getElem?_cons_succ.{0} (And.intro @resOf.eq_1 (And.intro @resOf.eq_2 (And.intro @outOf.eq_1 (And.intro @outOf.eq_2 (And.intro @outOf.eq_3 (And.intro @outOf.eq_4 (And.intro @snap.eq_1 (And.intro @snap.eq_2 (And.intro @snap.eq_3 (And.intro @snap.eq_4 (And.intro @snap.eq_5 (And.intro @snap.eq_6 (And.intro @snap.eq_7 (And.intro @snap.eq_8 (And.intro @snap.eq_9 (And.intro @snapL.eq_1 (And.intro @snapL.eq_2 (And.intro @snapL.eq_3 (And.intro @ev.eq_1 (And.intro @ev.eq_2 (And.intro @getE.eq_1 (And.intro @getE.eq_2 (And.intro @List.mapM_cons.{0,0,0} (And.intro @List.mapM_nil.{0,0,0} (And.intro @Option.bind_some.{0,0} (And.intro @Option.pure_def.{0} (And.intro @Option.bind_eq_bind.{0} (And.intro @Option.map_some.{0,0} (And.intro @true_and (@and_true))))))))))))))))))))))))))))))))))))
end Go.V

namespace Go.V
open Go Go.RowKit
theorem walk_of {P:Program} {tab:Nat→Option IFn} {E:CallRel} (hE:CallsOk P E) (hm:P.follows .mixedOrders=true) (ht:∀f i,tab f=some i→okFun P f i=true) {f:Nat} {as:List AV} {b:Bool} (h:Call tab E f as [] (.bool b) []) {W:World} {vals:Array Value}
    (hsz:vals.size=as.length) (hr:∀(j:Nat) (c:AV) (u:Value),as[j]?=some c→vals[j]?=some u→RG W (fun b=>b<W.heap.size) c u) :
    Calls P f vals W fun e W'=>e=.returned (.bool b)∧Below W.heap.size W W':=by
  refine (call_ok hE hm ht h W (fun b=>b<W.heap.size) [] vals ⟨rfl,fun n o v h=>by simp at h,fun n m u v b _ h=>by simp at h,fun b h=>h⟩ hsz (fun j c u hc hu=>.gr (hr j c u hc hu))).mono fun e W' hh=>?_
  obtain ⟨v,fz',ρ',rfl,e1,e2,e3⟩:=hh
  refine ⟨by rw [rep_bool e3],e1.os,e1.tape,e1.output,e1.size,fun k hk=>e1.fzblk k hk⟩
theorem rg_row {k:IntKind} {W:World} {a:Option Addr} {len cap:Nat} {zs:List Int}
    (h:(a=none∧len=0∧cap=0∧zs=[])∨∃x,a=some x∧len≤cap∧zs.length=cap∧(∀i,i<zs.length→W.cell? (x.add i)=some (.int k (zs.getD i 0)))) :
    RG W (fun b=>b<W.heap.size) (.sl (zs.take len).length 1 (nums k (zs.take len))) (.slice a len cap):=by
  rcases h with ⟨rfl,rfl,rfl,rfl⟩|⟨x,rfl,h1,h2,h3⟩
  · exact .sl0
  · have hlen:(zs.take len).length=len:=by simp;omega
    rw [hlen]
    by_cases h0:len=0
    · subst h0
      simp only [List.take_zero,nums,List.map_nil]
      exact .sl0
    · obtain ⟨b,o,sp⟩:=x
      have hc0:=h3 0 (by omega)
      have hsp:sp=none:=by
        simp only [Addr.add,if_true,World.cell?] at hc0
        split at hc0
        · split at hc0
          · cases hc0
          · rename_i hh;simpa using hh
        · cases hc0
      subst hsp
      have hcell:∀i,i<zs.length→W.cell? ⟨b,o+i,none⟩=some (.int k (zs.getD i 0)):=by
        intro i hi
        have:=h3 i hi
        unfold Addr.add at this
        split at this
        · rename_i hi0;subst hi0;simpa using this
        · exact this
      have hb:b<W.heap.size:=by
        have:=hcell 0 (by omega)
        unfold World.cell? at this
        split at this
        · rename_i hh;exact (Array.getElem?_eq_some_iff.1 hh).1
        · cases this
      have hget:∀(j:Nat),j<len→((zs.take len).map (Value.int k))[j]?=some (.int k (zs.getD j 0)):=by
        intro j hj
        rw [List.getElem?_map,List.getElem?_take,if_pos hj,List.getElem?_eq_getElem (by omega)]
        simp [List.getD,show j<zs.length by omega]
      refine .sl (vs:=(zs.take len).map (Value.int k)) (by omega) h1 (by simp [nums];omega) (by simp [nums]) hb (fun u hu=>?_) (fun j u hu=>?_) (fun j c u hc hu=>?_)
      · obtain ⟨n,_,rfl⟩:=List.mem_map.1 hu;rfl
      · have hj:j<len:=by
          have:=(List.getElem?_eq_some_iff.1 hu).1
          simp at this;omega
        rw [hget j hj] at hu
        rw [←hu]
        exact hcell j (by omega)
      · rw [nums,List.getElem?_map] at hc
        rw [List.getElem?_map] at hu
        obtain ⟨n,hn,rfl⟩:=Option.map_eq_some_iff.1 hc
        rw [hn] at hu
        simp only [Option.map_some,Option.some.injEq] at hu
        subst hu
        exact .int
end Go.V

namespace Go.Proofs.Ytlejgleocnemoaa.I
open Go Go.V
def b4_0:IR:=
 .seq (.seq (.reg none [⟨some 102,.mov (.t 18),none⟩,⟨some 103,.ld true 5 (.t 16),none⟩,⟨some 104,.callR 23 [.t 103],none⟩,⟨some 105,.bin .lt (.t 102) (.t 104),none⟩])
 (.lv [3,4,16,18,105] (.cond (.t 105) (.skip)
 (.exit 0))))
 (.lv [3,4,16,18] (.seq (.block 1 (.seq (.reg (some [0,1,2,3,4,5,6,7,8,9,10,11,12,13,14,15,16,17,18,21,22,23,24,19,20,25,26,27]) [⟨some 108,.faddr 1 (.t 3),none⟩,⟨some 109,.ld false 1 (.t 108),none⟩,⟨some 110,.mov (.t 109),none⟩,⟨some 111,.ld true 5 (.t 16),(some (110,true))⟩,⟨some 112,.mov (.t 18),(some (110,true))⟩,⟨some 113,.callR 24 [.t 111,.t 112],(some (110,true))⟩,⟨some 114,.faddr 2 (.t 4),(some (110,true))⟩,⟨some 115,.ld false 1 (.t 114),(some (110,true))⟩,⟨some 116,.iaddrf 1 (.t 115) (.k (.int .i64 0)),(some (110,true))⟩,⟨some 117,.ldf false 1 (.t 116),(some (110,true))⟩,⟨some 118,.bin .ne (.t 113) (.t 117),(some (110,true))⟩,⟨some 119,.pick (.t 110) (.t 118) (.k (.bool false)),none⟩,⟨some 120,.mov (.t 119),none⟩,⟨some 121,.faddr 1 (.t 3),(some (120,false))⟩,⟨some 122,.ld false 1 (.t 121),(some (120,false))⟩,⟨some 123,.not (.t 122),(some (120,false))⟩,⟨some 124,.mov (.t 123),(some (120,false))⟩,⟨some 125,.ld true 5 (.t 16),(some (124,true))⟩,⟨some 126,.mov (.t 18),(some (124,true))⟩,⟨some 129,.faddr 3 (.t 4),(some (124,true))⟩,⟨some 130,.ld false 1 (.t 129),(some (124,true))⟩,⟨some 131,.iaddrf 3 (.t 130) (.k (.int .i64 0)),(some (124,true))⟩,⟨some 132,.ldf true 3 (.t 131),(some (124,true))⟩,⟨some 127,.callF 25 [.t 125,.t 126],(some (124,true))⟩,⟨some 128,.callP 26 [.t 127],(some (124,true))⟩,⟨some 133,.bins .ne [0,2,2] (.t 128) (.t 132),(some (124,true))⟩,⟨some 134,.pick (.t 124) (.t 133) (.k (.bool false)),(some (120,false))⟩,⟨some 135,.pick (.t 120) (.k (.bool true)) (.t 134),none⟩])
 (.lv [3,4,16,18,135] (.cond (.t 135) (.lv [] (.seq (.reg none [⟨some 6,.mov (.k (.bool false)),none⟩])
 (.ret)))
 (.skip)))))
 (.lv [3,4,16,18] (.reg none [⟨some 106,.mov (.t 18),none⟩,⟨some 107,.bin .add (.t 106) (.k (.int .i64 1)),none⟩,⟨some 18,.mov (.t 107),none⟩]))))
def k4_0:IR:=
 .seq (.reg none [⟨some 136,.callP 18 [],none⟩,⟨some 6,.mov (.t 136),none⟩])
 (.ret)
def c4:IR:=
 .seq (.reg none [⟨some 3,.box 37 4 (.t 0),none⟩,⟨some 4,.box 37 4 (.t 1),none⟩,⟨some 6,.mov (.k (.bool false)),none⟩])
 (.lv [2,3,4] (.seq (.reg none [⟨some 20,.mov (.t 2),none⟩,⟨some 21,.callP 16 [.t 20],none⟩,⟨some 19,.mov (.t 21),none⟩,⟨some 22,.ext (.t 19) 0,none⟩,⟨some 23,.ext (.t 19) 1,none⟩,⟨some 7,.mov (.t 22),none⟩,⟨some 8,.mov (.t 23),none⟩])
 (.lv [3,4,7,8] (.seq (.seq (.reg none [⟨some 24,.mov (.t 8),none⟩,⟨some 25,.not (.t 24),none⟩,⟨some 26,.mov (.t 25),none⟩,⟨some 27,.ld true 4 (.t 3),(some (26,false))⟩,⟨some 28,.callP 17 [.t 27,.k (.int .i64 200)],(some (26,false))⟩,⟨some 29,.not (.t 28),(some (26,false))⟩,⟨some 30,.pick (.t 26) (.k (.bool true)) (.t 29),none⟩,⟨some 31,.mov (.t 30),none⟩,⟨some 32,.ld true 4 (.t 4),(some (31,false))⟩,⟨some 33,.callP 17 [.t 32,.k (.int .i64 200)],(some (31,false))⟩,⟨some 34,.not (.t 33),(some (31,false))⟩,⟨some 35,.pick (.t 31) (.k (.bool true)) (.t 34),none⟩])
 (.lv [3,4,7,35] (.cond (.t 35) (.lv [] (.seq (.reg none [⟨some 36,.callP 18 [],none⟩,⟨some 6,.mov (.t 36),none⟩])
 (.ret)))
 (.skip))))
 (.lv [3,4,7] (.seq (.reg none [⟨some 37,.ld true 4 (.t 3),none⟩,⟨some 38,.callP 19 [.t 37],none⟩,⟨some 9,.alloc 28 [.nilsl 3 1,.bool false,.nilsl 21 1,.nilsl 59 3,.bool false],none⟩,⟨none,.st 5 (.t 9) (.t 38),none⟩])
 (.lv [3,4,7,9] (.seq (.reg none [⟨some 40,.ld true 5 (.t 9),none⟩,⟨some 41,.mov (.t 7),none⟩,⟨some 42,.callF 20 [.t 40,.k (.int .i64 0),.t 41],none⟩,⟨some 39,.mov (.t 42),none⟩,⟨some 43,.ext (.t 39) 0,none⟩,⟨some 44,.ext (.t 39) 1,none⟩,⟨some 10,.alloc 28 [.nilsl 3 1,.bool false,.nilsl 21 1,.nilsl 59 3,.bool false],none⟩,⟨none,.st 5 (.t 10) (.t 43),none⟩,⟨some 11,.mov (.t 44),none⟩])
 (.lv [3,4,7,9,10,11] (.seq (.seq (.reg none [⟨some 45,.mov (.t 11),none⟩,⟨some 46,.bin .ne (.t 45) (.k (.int .i64 0)),none⟩])
 (.lv [3,4,7,9,10,46] (.cond (.t 46) (.lv [] (.seq (.reg none [⟨some 47,.callP 18 [],none⟩,⟨some 6,.mov (.t 47),none⟩])
 (.ret)))
 (.skip))))
 (.lv [3,4,7,9,10] (.seq (.reg none [⟨some 49,.ld true 5 (.t 9),none⟩,⟨some 50,.ld true 5 (.t 10),none⟩,⟨some 51,.mov (.t 7),none⟩,⟨some 52,.callF 21 [.t 49,.t 50,.k (.int .i64 0),.t 51],none⟩,⟨some 48,.mov (.t 52),none⟩,⟨some 53,.ext (.t 48) 0,none⟩,⟨some 54,.ext (.t 48) 1,none⟩,⟨some 12,.alloc 28 [.nilsl 3 1,.bool false,.nilsl 21 1,.nilsl 59 3,.bool false],none⟩,⟨none,.st 5 (.t 12) (.t 53),none⟩,⟨some 13,.mov (.t 54),none⟩])
 (.lv [3,4,7,9,10,12,13] (.seq (.seq (.reg none [⟨some 55,.mov (.t 13),none⟩,⟨some 56,.bin .ne (.t 55) (.k (.int .i64 0)),none⟩,⟨some 57,.mov (.t 56),none⟩,⟨some 58,.ld true 5 (.t 9),(some (57,false))⟩,⟨some 59,.ld true 5 (.t 12),(some (57,false))⟩,⟨some 60,.callR 22 [.t 58,.t 59],(some (57,false))⟩,⟨some 61,.not (.t 60),(some (57,false))⟩,⟨some 62,.pick (.t 57) (.k (.bool true)) (.t 61),none⟩])
 (.lv [3,4,7,9,10,62] (.cond (.t 62) (.lv [] (.seq (.reg none [⟨some 6,.mov (.k (.bool false)),none⟩])
 (.ret)))
 (.skip))))
 (.lv [3,4,7,9,10] (.seq (.seq (.reg none [⟨some 63,.faddr 0 (.t 4),none⟩,⟨some 64,.ld false 1 (.t 63),none⟩,⟨some 65,.lenf (.t 64),none⟩,⟨some 66,.bin .ne (.t 65) (.k (.int .i64 0)),none⟩,⟨some 67,.mov (.t 66),none⟩,⟨some 68,.faddr 1 (.t 4),(some (67,false))⟩,⟨some 69,.ld false 1 (.t 68),(some (67,false))⟩,⟨some 70,.faddr 1 (.t 3),(some (67,false))⟩,⟨some 71,.ld false 1 (.t 70),(some (67,false))⟩,⟨some 72,.binb .ne (.t 69) (.t 71),(some (67,false))⟩,⟨some 73,.pick (.t 67) (.k (.bool true)) (.t 72),none⟩])
 (.lv [3,4,7,9,10,73] (.cond (.t 73) (.lv [] (.seq (.reg none [⟨some 74,.callP 18 [],none⟩,⟨some 6,.mov (.t 74),none⟩])
 (.ret)))
 (.skip))))
 (.lv [3,4,7,9,10] (.seq (.reg (some [0,1,2,3,4,5,6,7,8,9,10]) [⟨some 76,.ld true 5 (.t 9),none⟩,⟨some 77,.ld true 4 (.t 4),none⟩,⟨some 78,.callP 19 [.t 77],none⟩,⟨some 79,.mov (.t 7),none⟩,⟨some 80,.callF 21 [.t 76,.t 78,.k (.int .i64 0),.t 79],none⟩,⟨some 75,.mov (.t 80),none⟩,⟨some 81,.ext (.t 75) 0,none⟩,⟨some 82,.ext (.t 75) 1,none⟩,⟨some 14,.alloc 28 [.nilsl 3 1,.bool false,.nilsl 21 1,.nilsl 59 3,.bool false],none⟩,⟨none,.st 5 (.t 14) (.t 81),none⟩,⟨some 15,.mov (.t 82),none⟩])
 (.lv [3,4,7,10,14,15] (.seq (.reg none [⟨some 84,.ld true 5 (.t 14),none⟩,⟨some 85,.mov (.t 7),none⟩,⟨some 86,.callF 20 [.t 84,.k (.int .i64 0),.t 85],none⟩,⟨some 83,.mov (.t 86),none⟩,⟨some 87,.ext (.t 83) 0,none⟩,⟨some 88,.ext (.t 83) 1,none⟩,⟨some 16,.alloc 28 [.nilsl 3 1,.bool false,.nilsl 21 1,.nilsl 59 3,.bool false],none⟩,⟨none,.st 5 (.t 16) (.t 87),none⟩,⟨some 17,.mov (.t 88),none⟩])
 (.lv [3,4,10,15,16,17] (.seq (.seq (.reg (some [0,1,2,3,4,5,6,7,8,9,10,11,12]) [⟨some 89,.mov (.t 15),none⟩,⟨some 90,.bin .ne (.t 89) (.k (.int .i64 0)),none⟩,⟨some 91,.mov (.t 90),none⟩,⟨some 92,.mov (.t 17),(some (91,false))⟩,⟨some 93,.bin .ne (.t 92) (.k (.int .i64 0)),(some (91,false))⟩,⟨some 94,.pick (.t 91) (.k (.bool true)) (.t 93),none⟩,⟨some 95,.mov (.t 94),none⟩,⟨some 96,.ld true 5 (.t 16),(some (95,false))⟩,⟨some 97,.callR 23 [.t 96],(some (95,false))⟩,⟨some 98,.ld true 5 (.t 10),(some (95,false))⟩,⟨some 99,.callR 23 [.t 98],(some (95,false))⟩,⟨some 100,.bin .ne (.t 97) (.t 99),(some (95,false))⟩,⟨some 101,.pick (.t 95) (.k (.bool true)) (.t 100),none⟩])
 (.lv [3,4,16,101] (.cond (.t 101) (.lv [] (.seq (.reg none [⟨some 6,.mov (.k (.bool false)),none⟩])
 (.ret)))
 (.skip))))
 (.lv [3,4,16] (.seq (.seq (.reg none [⟨some 18,.mov (.k (.int .i64 0)),none⟩])
 (.lv [3,4,16,18] (.block 0 (.loop [3,4,16,18] (some (22,[])) b4_0))))
 k4_0))))))))))))))))))))))))
def i4:IFn:=⟨3,137,c4,[.t 6],.pure⟩
def b11_0:IR:=
 .seq (.reg none [⟨some 13,.bin .lt (.t 12) (.t 11),none⟩])
 (.lv [2,3,10,11,12,13] (.seq (.cond (.t 13) (.skip)
 (.exit 0))
 (.lv [2,3,10,11,12] (.seq (.block 1 (.seq (.reg none [⟨some 14,.iaddrf 1 (.t 10) (.t 12),none⟩,⟨some 15,.ldf false 1 (.t 14),none⟩,⟨some 5,.mov (.t 15),none⟩])
 (.lv [2,3,5,10,11,12] (.reg (some [0,1,2,3,4,5,6,7]) [⟨some 16,.faddr 3 (.t 3),none⟩,⟨some 17,.ld false 1 (.t 16),none⟩,⟨some 18,.mov (.t 5),none⟩,⟨some 19,.callP 53 [.t 18],none⟩,⟨some 20,.bsl 59 3 [.t 19],none⟩,⟨some 21,.app 59 3 56 (.t 17) (.t 20),none⟩,⟨some 22,.faddr 3 (.t 3),none⟩,⟨none,.st 1 (.t 22) (.t 21),none⟩]))))
 (.lv [2,3,10,11,12] (.reg none [⟨some 23,.bin .add (.t 12) (.k (.int .i64 1)),none⟩,⟨some 12,.mov (.t 23),none⟩]))))))
def k11_0:IR:=
 .seq (.reg none [⟨some 24,.ld true 5 (.t 3),none⟩,⟨none,.st 5 (.t 2) (.t 24),none⟩])
 (.ret)
def c11:IR:=
 .seq (.reg none [⟨some 2,.alloc 28 [.nilsl 3 1,.bool false,.nilsl 21 1,.nilsl 59 3,.bool false],none⟩])
 (.lv [0,2] (.seq (.reg none [⟨some 6,.mov (.t 0),none⟩,⟨some 7,.lenf (.t 6),none⟩,⟨some 8,.bsl 3 1 [.t 7],none⟩,⟨some 9,.build [.nilsl 3 1,.bool false,.nilsl 21 1,.nilsl 59 3,.bool false] [(0,1,.t 8),(4,1,.k (.bool true))],none⟩,⟨some 3,.alloc 28 [.nilsl 3 1,.bool false,.nilsl 21 1,.nilsl 59 3,.bool false],none⟩,⟨none,.st 5 (.t 3) (.t 9),none⟩])
 (.lv [0,2,3] (.seq (.seq (.reg none [⟨some 10,.mov (.t 0),none⟩,⟨some 11,.lenf (.t 10),none⟩,⟨some 12,.mov (.k (.int .i64 0)),none⟩])
 (.lv [2,3,10,11,12] (.block 0 (.loop [2,3,10,11,12] (some (11,[])) b11_0))))
 k11_0))))
def i11:IFn:=⟨1,25,c11,[.c 2 true 5],.pure⟩
def c12:IR:=
 .seq (.reg none [⟨some 2,.alloc 28 [.nilsl 3 1,.bool false,.nilsl 21 1,.nilsl 59 3,.bool false],none⟩])
 (.lv [0,2] (.seq (.reg none [⟨some 3,.mov (.t 0),none⟩,⟨some 4,.callP 53 [.t 3],none⟩,⟨some 5,.callP 54 [.t 4],none⟩,⟨none,.st 5 (.t 2) (.t 5),none⟩])
 (.ret)))
def i12:IFn:=⟨1,6,c12,[.c 2 true 5],.pure⟩
def b16_0:IR:=
 .seq (.seq (.reg none [⟨some 10,.mov (.t 6),none⟩,⟨some 11,.mov (.t 0),none⟩,⟨some 12,.lenf (.t 11),none⟩,⟨some 13,.bin .lt (.t 10) (.t 12),none⟩])
 (.lv [0,4,5,6,13] (.cond (.t 13) (.skip)
 (.exit 0))))
 (.lv [0,4,5,6] (.seq (.block 1 (.seq (.seq (.reg none [⟨some 16,.mov (.t 0),none⟩,⟨some 17,.mov (.t 6),none⟩,⟨some 18,.iaddrf 5 (.t 16) (.t 17),none⟩,⟨some 19,.faddr 1 (.t 18),none⟩,⟨some 20,.ldf true 4 (.t 19),none⟩,⟨some 21,.callP 17 [.t 20,.k (.int .i64 60)],none⟩,⟨some 22,.not (.t 21),none⟩])
 (.lv [0,4,5,6,22] (.cond (.t 22) (.lv [] (.seq (.reg none [⟨some 2,.newnil 97 6,none⟩,⟨some 3,.mov (.k (.bool false)),none⟩])
 (.ret)))
 (.skip))))
 (.lv [0,4,5,6] (.seq (.seq (.reg none [⟨some 23,.mov (.t 5),none⟩,⟨some 24,.mov (.t 0),none⟩,⟨some 25,.mov (.t 6),none⟩,⟨some 26,.iaddrf 5 (.t 24) (.t 25),none⟩,⟨some 27,.faddr 1 (.t 26),none⟩,⟨some 28,.ldf true 4 (.t 27),none⟩,⟨some 29,.callP 59 [.t 28],none⟩,⟨some 30,.mx (.k (.int .i64 1)) (.t 29),none⟩,⟨some 31,.bin .mul (.t 23) (.t 30),none⟩,⟨some 5,.mov (.t 31),none⟩])
 (.lv [0,4,5,6] (.seq (.reg none [⟨some 32,.mov (.t 5),none⟩,⟨some 33,.bin .gt (.t 32) (.k (.int .i64 5000)),none⟩])
 (.lv [0,4,5,6,33] (.cond (.t 33) (.lv [] (.seq (.reg none [⟨some 2,.newnil 97 6,none⟩,⟨some 3,.mov (.k (.bool false)),none⟩])
 (.ret)))
 (.skip))))))
 (.lv [0,4,5,6] (.reg (some [0,1,2,3,4,5,6,7,8,9,10,11,12,13,14,15]) [⟨some 34,.mov (.t 4),none⟩,⟨some 35,.mov (.t 0),none⟩,⟨some 36,.mov (.t 6),none⟩,⟨some 37,.iaddrf 5 (.t 35) (.t 36),none⟩,⟨some 38,.faddr 0 (.t 37),none⟩,⟨some 39,.ldf false 1 (.t 38),none⟩,⟨some 40,.mov (.t 0),none⟩,⟨some 41,.mov (.t 6),none⟩,⟨some 42,.iaddrf 5 (.t 40) (.t 41),none⟩,⟨some 43,.faddr 1 (.t 42),none⟩,⟨some 44,.ldf true 4 (.t 43),none⟩,⟨some 45,.callP 19 [.t 44],none⟩,⟨some 46,.build [.bool false,.nilsl 3 1,.bool false,.nilsl 21 1,.nilsl 59 3,.bool false] [(0,1,.t 39),(1,5,.t 45)],none⟩,⟨some 47,.bsl 97 6 [.t 46],none⟩,⟨some 48,.app 97 6 96 (.t 34) (.t 47),none⟩,⟨some 4,.mov (.t 48),none⟩]))))))
 (.lv [0,4,5,6] (.reg none [⟨some 14,.mov (.t 6),none⟩,⟨some 15,.bin .add (.t 14) (.k (.int .i64 1)),none⟩,⟨some 6,.mov (.t 15),none⟩]))))
def k16_0:IR:=
 .seq (.reg none [⟨some 49,.mov (.t 4),none⟩,⟨some 2,.mov (.t 49),none⟩,⟨some 3,.mov (.k (.bool true)),none⟩])
 (.ret)
def c16:IR:=
 .seq (.reg none [⟨some 2,.newnil 97 6,none⟩,⟨some 3,.mov (.k (.bool false)),none⟩])
 (.lv [0] (.seq (.seq (.reg none [⟨some 7,.mov (.t 0),none⟩,⟨some 8,.lenf (.t 7),none⟩,⟨some 9,.bin .gt (.t 8) (.k (.int .i64 20)),none⟩])
 (.lv [0,9] (.cond (.t 9) (.lv [] (.seq (.reg none [⟨some 2,.newnil 97 6,none⟩,⟨some 3,.mov (.k (.bool false)),none⟩])
 (.ret)))
 (.skip))))
 (.lv [0] (.seq (.reg none [⟨some 4,.newnil 97 6,none⟩])
 (.lv [0,4] (.seq (.reg none [⟨some 5,.mov (.k (.int .i64 1)),none⟩])
 (.lv [0,4,5] (.seq (.seq (.reg none [⟨some 6,.mov (.k (.int .i64 0)),none⟩])
 (.lv [0,4,5,6] (.block 0 (.loop [0,4,5,6] (some (2,[])) b16_0))))
 k16_0))))))))
def i16:IFn:=⟨1,50,c16,[.t 2,.t 3],.pure⟩
def b17_0:IR:=
 .seq (.seq (.reg none [⟨some 24,.mov (.t 5),none⟩,⟨some 25,.faddr 3 (.t 2),none⟩,⟨some 26,.ld false 1 (.t 25),none⟩,⟨some 27,.lenf (.t 26),none⟩,⟨some 28,.bin .lt (.t 24) (.t 27),none⟩])
 (.lv [2,5,28] (.cond (.t 28) (.skip)
 (.exit 0))))
 (.lv [2,5] (.seq (.block 1 (.seq (.reg none [⟨some 31,.faddr 3 (.t 2),none⟩,⟨some 32,.ld false 1 (.t 31),none⟩,⟨some 33,.mov (.t 5),none⟩,⟨some 34,.iaddrf 3 (.t 32) (.t 33),none⟩,⟨some 35,.faddr 1 (.t 34),none⟩,⟨some 36,.ldf false 1 (.t 35),none⟩,⟨some 37,.slen (.t 36),none⟩,⟨some 38,.bin .gt (.t 37) (.k (.int .i64 40)),none⟩,⟨some 39,.mov (.t 38),none⟩,⟨some 40,.faddr 3 (.t 2),(some (39,false))⟩,⟨some 41,.ld false 1 (.t 40),(some (39,false))⟩,⟨some 42,.mov (.t 5),(some (39,false))⟩,⟨some 43,.iaddrf 3 (.t 41) (.t 42),(some (39,false))⟩,⟨some 44,.faddr 2 (.t 43),(some (39,false))⟩,⟨some 45,.ldf false 1 (.t 44),(some (39,false))⟩,⟨some 46,.slen (.t 45),(some (39,false))⟩,⟨some 47,.bin .gt (.t 46) (.k (.int .i64 40)),(some (39,false))⟩,⟨some 48,.pick (.t 39) (.k (.bool true)) (.t 47),none⟩])
 (.lv [2,5,48] (.cond (.t 48) (.lv [] (.seq (.reg none [⟨some 4,.mov (.k (.bool false)),none⟩])
 (.ret)))
 (.skip)))))
 (.lv [2,5] (.reg none [⟨some 29,.mov (.t 5),none⟩,⟨some 30,.bin .add (.t 29) (.k (.int .i64 1)),none⟩,⟨some 5,.mov (.t 30),none⟩]))))
def k17_0:IR:=
 .seq (.reg none [⟨some 49,.ld true 4 (.t 2),none⟩,⟨some 50,.callP 60 [.t 49],none⟩,⟨some 4,.mov (.t 50),none⟩])
 (.ret)
def c17:IR:=
 .seq (.reg none [⟨some 2,.box 37 4 (.t 0),none⟩,⟨some 4,.mov (.k (.bool false)),none⟩])
 (.lv [1,2] (.seq (.seq (.reg none [⟨some 6,.faddr 2 (.t 2),none⟩,⟨some 7,.ld false 1 (.t 6),none⟩,⟨some 8,.lenf (.t 7),none⟩,⟨some 9,.mov (.t 1),none⟩,⟨some 10,.bin .gt (.t 8) (.t 9),none⟩,⟨some 11,.mov (.t 10),none⟩,⟨some 12,.faddr 3 (.t 2),(some (11,false))⟩,⟨some 13,.ld false 1 (.t 12),(some (11,false))⟩,⟨some 14,.lenf (.t 13),(some (11,false))⟩,⟨some 15,.mov (.t 1),(some (11,false))⟩,⟨some 16,.bin .gt (.t 14) (.t 15),(some (11,false))⟩,⟨some 17,.pick (.t 11) (.k (.bool true)) (.t 16),none⟩,⟨some 18,.mov (.t 17),none⟩,⟨some 19,.faddr 0 (.t 2),(some (18,false))⟩,⟨some 20,.ld false 1 (.t 19),(some (18,false))⟩,⟨some 21,.lenf (.t 20),(some (18,false))⟩,⟨some 22,.bin .gt (.t 21) (.k (.int .i64 8)),(some (18,false))⟩,⟨some 23,.pick (.t 18) (.k (.bool true)) (.t 22),none⟩])
 (.lv [2,23] (.cond (.t 23) (.lv [] (.seq (.reg none [⟨some 4,.mov (.k (.bool false)),none⟩])
 (.ret)))
 (.skip))))
 (.lv [2] (.seq (.seq (.reg none [⟨some 5,.mov (.k (.int .i64 0)),none⟩])
 (.lv [2,5] (.block 0 (.loop [2,5] (some (1,[])) b17_0))))
 k17_0))))
def i17:IFn:=⟨2,51,c17,[.t 4],.pure⟩
def c18:IR:=
 .seq (.reg none [⟨some 0,.mov (.k (.bool false)),none⟩])
 (.lv [] (.seq (.reg none [⟨some 6,.bsl 3 1 [.k (.int .i64 5),.k (.int .i64 6),.k (.int .i64 7)],none⟩,⟨some 7,.callF 11 [.t 6],none⟩,⟨some 1,.alloc 28 [.nilsl 3 1,.bool false,.nilsl 21 1,.nilsl 59 3,.bool false],none⟩,⟨none,.st 5 (.t 1) (.t 7),none⟩])
 (.lv [1] (.seq (.reg (some [0,1,2,3,4,5,6,7,8,9,10,11]) [⟨some 9,.ld true 5 (.t 1),none⟩,⟨some 10,.bslF 3 1 [.k (.int .i64 3),.k (.int .i64 1)],none⟩,⟨some 11,.callP 11 [.t 10],none⟩,⟨some 12,.build [.bool false,.nilsl 3 1,.bool false,.nilsl 21 1,.nilsl 59 3,.bool false] [(1,5,.t 11)],none⟩,⟨some 13,.bslF 97 6 [.t 12],none⟩,⟨some 14,.callP 20 [.t 9,.k (.int .i64 1),.t 13],none⟩,⟨some 8,.mov (.t 14),none⟩,⟨some 15,.ext (.t 8) 0,none⟩,⟨some 16,.ext (.t 8) 1,none⟩,⟨some 2,.alloc 28 [.nilsl 3 1,.bool false,.nilsl 21 1,.nilsl 59 3,.bool false],none⟩,⟨none,.st 5 (.t 2) (.t 15),none⟩,⟨some 3,.mov (.t 16),none⟩])
 (.lv [1,2,3] (.seq (.reg (some [0,1,2,3,4,5,6,7,8,9,10,11]) [⟨some 18,.ld true 5 (.t 1),none⟩,⟨some 19,.callP 12 [.k (.int .i64 9)],none⟩,⟨some 20,.callP 12 [.k (.int .i64 2)],none⟩,⟨some 21,.build [.bool false,.nilsl 3 1,.bool false,.nilsl 21 1,.nilsl 59 3,.bool false] [(1,5,.t 20)],none⟩,⟨some 22,.bslF 97 6 [.t 21],none⟩,⟨some 23,.callP 21 [.t 18,.t 19,.k (.int .i64 1),.t 22],none⟩,⟨some 17,.mov (.t 23),none⟩,⟨some 24,.ext (.t 17) 0,none⟩,⟨some 25,.ext (.t 17) 1,none⟩,⟨some 4,.alloc 28 [.nilsl 3 1,.bool false,.nilsl 21 1,.nilsl 59 3,.bool false],none⟩,⟨none,.st 5 (.t 4) (.t 24),none⟩,⟨some 5,.mov (.t 25),none⟩])
 (.lv [2,3,4,5] (.seq (.reg (some [0,1,2,3,4,5,6,7,8,9,10,11,12]) [⟨some 26,.ld true 5 (.t 2),none⟩,⟨some 27,.mov (.t 3),none⟩,⟨some 28,.bsl 3 1 [.k (.int .i64 7),.k (.int .i64 5)],none⟩,⟨some 29,.callF 41 [.t 28],none⟩,⟨some 30,.callR 61 [.t 26,.t 27,.t 29,.k (.int .i64 0)],none⟩,⟨some 31,.mov (.t 30),none⟩,⟨some 32,.ld true 5 (.t 4),(some (31,true))⟩,⟨some 33,.mov (.t 5),(some (31,true))⟩,⟨some 34,.bsl 3 1 [.k (.int .i64 5),.k (.int .i64 9),.k (.int .i64 7)],(some (31,true))⟩,⟨some 35,.callF 41 [.t 34],(some (31,true))⟩,⟨some 36,.callR 61 [.t 32,.t 33,.t 35,.k (.int .i64 0)],(some (31,true))⟩,⟨some 37,.pick (.t 31) (.t 36) (.k (.bool false)),none⟩,⟨some 0,.mov (.t 37),none⟩])
 (.ret)))))))))
def i18:IFn:=⟨0,38,c18,[.t 0],.pure⟩
def c19:IR:=
 .seq (.reg none [⟨some 1,.box 37 4 (.t 0),none⟩,⟨some 2,.alloc 28 [.nilsl 3 1,.bool false,.nilsl 21 1,.nilsl 59 3,.bool false],none⟩])
 (.lv [1,2] (.seq (.reg none [⟨some 6,.ld true 4 (.t 1),none⟩,⟨some 7,.callP 62 [.t 6],none⟩,⟨some 5,.mov (.t 7),none⟩,⟨some 8,.ext (.t 5) 0,none⟩,⟨some 9,.ext (.t 5) 1,none⟩,⟨some 3,.alloc 28 [.nilsl 3 1,.bool false,.nilsl 21 1,.nilsl 59 3,.bool false],none⟩,⟨none,.st 5 (.t 3) (.t 8),none⟩,⟨some 4,.mov (.t 9),none⟩])
 (.lv [2,3] (.seq (.reg none [⟨some 10,.ld true 5 (.t 3),none⟩,⟨none,.st 5 (.t 2) (.t 10),none⟩])
 (.ret)))))
def i19:IFn:=⟨1,11,c19,[.c 2 true 5],.pure⟩
def c20:IR:=
 .seq (.reg none [⟨some 3,.box 28 5 (.t 0),none⟩,⟨some 6,.alloc 28 [.nilsl 3 1,.bool false,.nilsl 21 1,.nilsl 59 3,.bool false],none⟩,⟨some 7,.mov (.k (.int .i64 0)),none⟩])
 (.lv [1,2,3,6] (.seq (.reg none [⟨some 14,.ld true 5 (.t 3),none⟩,⟨some 15,.callP 44 [.t 14],none⟩,⟨some 16,.mov (.t 1),none⟩,⟨some 17,.mov (.t 2),none⟩,⟨some 18,.callP 63 [.t 15,.t 16,.t 17],none⟩,⟨some 13,.mov (.t 18),none⟩,⟨some 19,.ext (.t 13) 0,none⟩,⟨some 20,.ext (.t 13) 1,none⟩,⟨some 21,.ext (.t 13) 2,none⟩,⟨some 8,.mov (.t 19),none⟩,⟨some 9,.mov (.t 20),none⟩,⟨some 10,.mov (.t 21),none⟩])
 (.lv [3,6,8,9,10] (.seq (.seq (.reg none [⟨some 22,.mov (.t 10),none⟩,⟨some 23,.bin .ne (.t 22) (.k (.int .i64 0)),none⟩])
 (.lv [3,6,8,9,10,23] (.cond (.t 23) (.lv [6,10] (.seq (.reg none [⟨some 24,.build [.sl 0 1 [],.bool false,.sl 0 1 [],.sl 0 3 [],.bool false] [],none⟩,⟨some 25,.mov (.t 10),none⟩,⟨none,.st 5 (.t 6) (.t 24),none⟩,⟨some 7,.mov (.t 25),none⟩])
 (.ret)))
 (.skip))))
 (.lv [3,6,8,9] (.seq (.reg (some [0,1,2,3,4,5,6,7,8,9,10,11,12]) [⟨some 27,.ld true 5 (.t 3),none⟩,⟨some 28,.mov (.t 9),none⟩,⟨some 29,.ld true 5 (.t 3),none⟩,⟨some 30,.callP 44 [.t 29],none⟩,⟨some 31,.mov (.t 8),none⟩,⟨some 32,.callP 65 [.t 30,.t 31],none⟩,⟨some 33,.callP 64 [.t 27,.t 28,.t 32],none⟩,⟨some 26,.mov (.t 33),none⟩,⟨some 34,.ext (.t 26) 0,none⟩,⟨some 35,.ext (.t 26) 1,none⟩,⟨some 11,.alloc 28 [.nilsl 3 1,.bool false,.nilsl 21 1,.nilsl 59 3,.bool false],none⟩,⟨none,.st 5 (.t 11) (.t 34),none⟩,⟨some 12,.mov (.t 35),none⟩])
 (.lv [6,11] (.seq (.reg none [⟨some 36,.ld true 5 (.t 11),none⟩,⟨none,.st 5 (.t 6) (.t 36),none⟩,⟨some 7,.mov (.k (.int .i64 0)),none⟩])
 (.ret)))))))))
def i20:IFn:=⟨3,37,c20,[.c 6 true 5,.t 7],.pure⟩
def b21_0:IR:=
 .seq (.reg none [⟨some 84,.bin .lt (.t 83) (.t 82),none⟩])
 (.lv [4,5,8,13,15,16,81,82,83,84] (.seq (.cond (.t 84) (.skip)
 (.exit 2))
 (.lv [4,5,8,13,15,16,81,82,83] (.seq (.block 3 (.seq (.reg none [⟨some 85,.mov (.t 83),none⟩,⟨some 86,.iaddrf 1 (.t 81) (.t 83),none⟩,⟨some 87,.ldf false 1 (.t 86),none⟩,⟨some 17,.mov (.t 85),none⟩,⟨some 18,.mov (.t 87),none⟩])
 (.lv [4,5,8,13,15,16,17,18,81,82,83] (.seq (.seq (.reg none [⟨some 88,.mov (.t 13),none⟩])
 (.lv [4,5,8,13,15,16,17,18,81,82,83,88] (.cond (.t 88) (.lv [4,5,8,13,15,16,18,81,82,83] (.reg none [⟨some 17,.mov (.k (.int .i64 0)),none⟩]))
 (.skip))))
 (.lv [4,5,8,13,15,16,17,18,81,82,83] (.seq (.reg none [⟨some 89,.ld true 5 (.t 4),none⟩,⟨some 90,.callP 68 [.t 89],none⟩])
 (.lv [4,5,8,13,15,16,17,18,81,82,83,90] (.cond (.t 90) (.lv [4,5,8,13,15,16,17,18,81,82,83] (.reg none [⟨some 91,.mov (.t 15),none⟩,⟨some 92,.mov (.t 18),none⟩,⟨some 93,.ld true 5 (.t 5),none⟩,⟨some 94,.mov (.t 17),none⟩,⟨some 95,.callP 24 [.t 93,.t 94],none⟩,⟨some 96,.iaddr 1 (.t 91) (.t 92),none⟩,⟨none,.st 1 (.t 96) (.t 95),none⟩]))
 (.lv [4,5,8,13,15,16,17,18,81,82,83] (.reg none [⟨some 97,.mov (.t 16),none⟩,⟨some 98,.mov (.t 18),none⟩,⟨some 99,.ld true 5 (.t 5),none⟩,⟨some 100,.mov (.t 17),none⟩,⟨some 101,.callP 25 [.t 99,.t 100],none⟩,⟨some 102,.iaddr 3 (.t 97) (.t 98),none⟩,⟨none,.st 3 (.t 102) (.t 101),none⟩]))))))))))
 (.lv [4,5,8,13,15,16,81,82,83] (.reg none [⟨some 103,.bin .add (.t 83) (.k (.int .i64 1)),none⟩,⟨some 83,.mov (.t 103),none⟩]))))))
def k21_0:IR:=
 .seq (.seq (.reg none [⟨some 104,.ld true 5 (.t 4),none⟩,⟨some 105,.callP 68 [.t 104],none⟩])
 (.lv [4,8,15,16,105] (.cond (.t 105) (.lv [4,8,15] (.seq (.reg none [⟨some 107,.ld true 5 (.t 4),none⟩,⟨some 108,.callP 44 [.t 107],none⟩,⟨some 109,.mov (.t 15),none⟩,⟨some 110,.callF 71 [.t 108,.t 109],none⟩,⟨some 106,.mov (.t 110),none⟩,⟨some 111,.ext (.t 106) 0,none⟩,⟨some 112,.ext (.t 106) 1,none⟩,⟨some 19,.alloc 28 [.nilsl 3 1,.bool false,.nilsl 21 1,.nilsl 59 3,.bool false],none⟩,⟨none,.st 5 (.t 19) (.t 111),none⟩,⟨some 20,.mov (.t 112),none⟩])
 (.lv [8,19] (.seq (.reg none [⟨some 113,.ld true 5 (.t 19),none⟩,⟨none,.st 5 (.t 8) (.t 113),none⟩,⟨some 9,.mov (.k (.int .i64 0)),none⟩])
 (.ret)))))
 (.skip))))
 (.lv [4,8,16] (.seq (.reg none [⟨some 115,.ld true 5 (.t 4),none⟩,⟨some 116,.callP 44 [.t 115],none⟩,⟨some 117,.mov (.t 16),none⟩,⟨some 118,.callF 52 [.t 116,.t 117],none⟩,⟨some 114,.mov (.t 118),none⟩,⟨some 119,.ext (.t 114) 0,none⟩,⟨some 120,.ext (.t 114) 1,none⟩,⟨some 21,.alloc 28 [.nilsl 3 1,.bool false,.nilsl 21 1,.nilsl 59 3,.bool false],none⟩,⟨none,.st 5 (.t 21) (.t 119),none⟩,⟨some 22,.mov (.t 120),none⟩])
 (.lv [8,21] (.seq (.reg none [⟨some 121,.ld true 5 (.t 21),none⟩,⟨none,.st 5 (.t 8) (.t 121),none⟩,⟨some 9,.mov (.k (.int .i64 0)),none⟩])
 (.ret)))))
def c21:IR:=
 .seq (.reg none [⟨some 4,.box 28 5 (.t 0),none⟩,⟨some 5,.box 28 5 (.t 1),none⟩,⟨some 8,.alloc 28 [.nilsl 3 1,.bool false,.nilsl 21 1,.nilsl 59 3,.bool false],none⟩,⟨some 9,.mov (.k (.int .i64 0)),none⟩])
 (.lv [2,3,4,5,8] (.seq (.reg none [⟨some 24,.ld true 5 (.t 4),none⟩,⟨some 25,.callP 44 [.t 24],none⟩,⟨some 26,.mov (.t 2),none⟩,⟨some 27,.mov (.t 3),none⟩,⟨some 28,.callP 63 [.t 25,.t 26,.t 27],none⟩,⟨some 23,.mov (.t 28),none⟩,⟨some 29,.ext (.t 23) 0,none⟩,⟨some 30,.ext (.t 23) 1,none⟩,⟨some 31,.ext (.t 23) 2,none⟩,⟨some 10,.mov (.t 29),none⟩,⟨some 11,.mov (.t 30),none⟩,⟨some 12,.mov (.t 31),none⟩])
 (.lv [4,5,8,10,11,12] (.seq (.seq (.reg none [⟨some 32,.mov (.t 12),none⟩,⟨some 33,.bin .ne (.t 32) (.k (.int .i64 0)),none⟩])
 (.lv [4,5,8,10,11,12,33] (.cond (.t 33) (.lv [8,12] (.seq (.reg none [⟨some 34,.build [.sl 0 1 [],.bool false,.sl 0 1 [],.sl 0 3 [],.bool false] [],none⟩,⟨some 35,.mov (.t 12),none⟩,⟨none,.st 5 (.t 8) (.t 34),none⟩,⟨some 9,.mov (.t 35),none⟩])
 (.ret)))
 (.skip))))
 (.lv [4,5,8,10,11] (.seq (.reg none [⟨some 36,.ld true 5 (.t 5),none⟩,⟨some 37,.callP 66 [.t 36],none⟩,⟨some 38,.bin .eq (.t 37) (.k (.int .i64 0)),none⟩,⟨some 13,.mov (.t 38),none⟩])
 (.lv [4,5,8,10,11,13] (.seq (.block 0 (.seq (.reg none [⟨some 40,.mov (.t 13),none⟩,⟨some 41,.not (.t 40),none⟩,⟨some 42,.mov (.t 41),none⟩,⟨some 43,.ld true 5 (.t 5),(some (42,true))⟩,⟨some 44,.callP 66 [.t 43],(some (42,true))⟩,⟨some 45,.mov (.t 11),(some (42,true))⟩,⟨some 46,.lenf (.t 45),(some (42,true))⟩,⟨some 47,.bin .ne (.t 44) (.t 46),(some (42,true))⟩,⟨some 48,.pick (.t 42) (.t 47) (.k (.bool false)),none⟩,⟨some 39,.mov (.t 48),none⟩])
 (.lv [4,5,8,10,11,13,39] (.cond (.t 39) (.lv [8] (.seq (.reg none [⟨some 49,.build [.sl 0 1 [],.bool false,.sl 0 1 [],.sl 0 3 [],.bool false] [],none⟩,⟨none,.st 5 (.t 8) (.t 49),none⟩,⟨some 9,.mov (.k (.int .i64 23)),none⟩])
 (.ret)))
 (.lv [4,5,8,10,11,13] (.seq (.reg none [⟨some 51,.mov (.t 13),none⟩,⟨some 52,.not (.t 51),none⟩,⟨some 53,.mov (.t 52),none⟩,⟨some 54,.ld true 5 (.t 5),(some (53,true))⟩,⟨some 55,.callP 44 [.t 54],(some (53,true))⟩,⟨some 56,.mov (.t 11),(some (53,true))⟩,⟨some 57,.callP 67 [.t 55,.t 56],(some (53,true))⟩,⟨some 58,.not (.t 57),(some (53,true))⟩,⟨some 59,.pick (.t 53) (.t 58) (.k (.bool false)),none⟩,⟨some 50,.mov (.t 59),none⟩])
 (.lv [4,5,8,10,13,50] (.cond (.t 50) (.lv [8] (.seq (.reg none [⟨some 60,.build [.sl 0 1 [],.bool false,.sl 0 1 [],.sl 0 3 [],.bool false] [],none⟩,⟨none,.st 5 (.t 8) (.t 60),none⟩,⟨some 9,.mov (.k (.int .i64 24)),none⟩])
 (.ret)))
 (.skip)))))))))
 (.lv [4,5,8,10,13] (.seq (.reg none [⟨some 61,.ld true 5 (.t 4),none⟩,⟨some 62,.callP 44 [.t 61],none⟩,⟨some 63,.mov (.t 10),none⟩,⟨some 64,.callP 65 [.t 62,.t 63],none⟩,⟨some 14,.mov (.t 64),none⟩])
 (.lv [4,5,8,13,14] (.seq (.block 1 (.seq (.reg none [⟨some 66,.mov (.t 14),none⟩,⟨some 67,.lenf (.t 66),none⟩,⟨some 68,.bin .eq (.t 67) (.k (.int .i64 0)),none⟩,⟨some 65,.mov (.t 68),none⟩])
 (.lv [4,5,8,13,14,65] (.cond (.t 65) (.lv [4,8] (.seq (.reg none [⟨some 69,.ld true 5 (.t 4),none⟩,⟨none,.st 5 (.t 8) (.t 69),none⟩,⟨some 9,.mov (.k (.int .i64 0)),none⟩])
 (.ret)))
 (.lv [4,5,8,13,14] (.seq (.reg (some [0,1,2,3,4,5]) [⟨some 71,.ld true 5 (.t 5),none⟩,⟨some 72,.callP 68 [.t 71],none⟩,⟨some 73,.ld true 5 (.t 4),none⟩,⟨some 74,.callP 68 [.t 73],none⟩,⟨some 75,.binb .ne (.t 72) (.t 74),none⟩,⟨some 70,.mov (.t 75),none⟩])
 (.lv [4,5,8,13,14,70] (.cond (.t 70) (.lv [8] (.seq (.reg none [⟨some 76,.build [.sl 0 1 [],.bool false,.sl 0 1 [],.sl 0 3 [],.bool false] [],none⟩,⟨none,.st 5 (.t 8) (.t 76),none⟩,⟨some 9,.mov (.k (.int .i64 22)),none⟩])
 (.ret)))
 (.skip)))))))))
 (.lv [4,5,8,13,14] (.seq (.reg (some [0,2,1,3,4,5]) [⟨some 77,.ld true 5 (.t 4),none⟩,⟨some 79,.ld true 5 (.t 4),none⟩,⟨some 78,.callO 69 [.t 77],none⟩,⟨some 80,.callO 70 [.t 79],none⟩,⟨some 15,.mov (.t 78),none⟩,⟨some 16,.mov (.t 80),none⟩])
 (.lv [4,5,8,13,14,15,16] (.seq (.seq (.reg none [⟨some 81,.mov (.t 14),none⟩,⟨some 82,.lenf (.t 81),none⟩,⟨some 83,.mov (.k (.int .i64 0)),none⟩])
 (.lv [4,5,8,13,15,16,81,82,83] (.block 2 (.loop [4,5,8,13,15,16,81,82,83] (some (8,[])) b21_0))))
 k21_0))))))))))))))))
def i21:IFn:=⟨4,122,c21,[.c 8 true 5,.t 9],.pure⟩
def c22:IR:=
 .seq (.reg none [⟨some 2,.box 28 5 (.t 0),none⟩,⟨some 3,.box 28 5 (.t 1),none⟩,⟨some 4,.mov (.k (.bool false)),none⟩])
 (.lv [2,3] (.seq (.reg (some [0,1,2,3,4,5,6,7,8,9,10,11,12,13,14,15,16,17,18,19,20,21,22,23,24,25,26]) [⟨some 5,.faddr 1 (.t 2),none⟩,⟨some 6,.ld false 1 (.t 5),none⟩,⟨some 7,.faddr 1 (.t 3),none⟩,⟨some 8,.ld false 1 (.t 7),none⟩,⟨some 9,.binb .eq (.t 6) (.t 8),none⟩,⟨some 10,.mov (.t 9),none⟩,⟨some 11,.ld true 5 (.t 2),(some (10,true))⟩,⟨some 12,.callP 44 [.t 11],(some (10,true))⟩,⟨some 13,.ld true 5 (.t 3),(some (10,true))⟩,⟨some 14,.callP 44 [.t 13],(some (10,true))⟩,⟨some 15,.callP 72 [.t 12,.t 14],(some (10,true))⟩,⟨some 16,.pick (.t 10) (.t 15) (.k (.bool false)),none⟩,⟨some 17,.mov (.t 16),none⟩,⟨some 18,.faddr 2 (.t 2),(some (17,true))⟩,⟨some 19,.ld false 1 (.t 18),(some (17,true))⟩,⟨some 20,.faddr 2 (.t 3),(some (17,true))⟩,⟨some 21,.ld false 1 (.t 20),(some (17,true))⟩,⟨some 22,.callP 73 [.t 19,.t 21],(some (17,true))⟩,⟨some 23,.pick (.t 17) (.t 22) (.k (.bool false)),none⟩,⟨some 24,.mov (.t 23),none⟩,⟨some 25,.faddr 3 (.t 2),(some (24,true))⟩,⟨some 26,.ld false 1 (.t 25),(some (24,true))⟩,⟨some 27,.faddr 3 (.t 3),(some (24,true))⟩,⟨some 28,.ld false 1 (.t 27),(some (24,true))⟩,⟨some 29,.callP 74 [.t 26,.t 28,.k (.fn 75 [])],(some (24,true))⟩,⟨some 30,.pick (.t 24) (.t 29) (.k (.bool false)),none⟩,⟨some 4,.mov (.t 30),none⟩])
 (.ret)))
def i22:IFn:=⟨2,31,c22,[.t 4],.pure⟩
def c23:IR:=
 .seq (.reg none [⟨some 1,.box 28 5 (.t 0),none⟩,⟨some 2,.mov (.k (.int .i64 0)),none⟩])
 (.lv [1] (.seq (.reg none [⟨some 3,.faddr 2 (.t 1),none⟩,⟨some 4,.ld false 1 (.t 3),none⟩,⟨some 5,.lenf (.t 4),none⟩,⟨some 6,.faddr 3 (.t 1),none⟩,⟨some 7,.ld false 1 (.t 6),none⟩,⟨some 8,.lenf (.t 7),none⟩,⟨some 9,.bin .add (.t 5) (.t 8),none⟩,⟨some 2,.mov (.t 9),none⟩])
 (.ret)))
def i23:IFn:=⟨1,10,c23,[.t 2],.pure⟩
def c24:IR:=
 .seq (.reg none [⟨some 2,.box 28 5 (.t 0),none⟩,⟨some 4,.mov (.k (.int .i32 0)),none⟩])
 (.lv [1,2] (.seq (.seq (.reg none [⟨some 5,.mov (.t 1),none⟩,⟨some 6,.bin .lt (.t 5) (.k (.int .i64 0)),none⟩,⟨some 7,.mov (.t 6),none⟩,⟨some 8,.mov (.t 1),(some (7,false))⟩,⟨some 9,.faddr 2 (.t 2),(some (7,false))⟩,⟨some 10,.ld false 1 (.t 9),(some (7,false))⟩,⟨some 11,.lenf (.t 10),(some (7,false))⟩,⟨some 12,.bin .ge (.t 8) (.t 11),(some (7,false))⟩,⟨some 13,.pick (.t 7) (.k (.bool true)) (.t 12),none⟩])
 (.lv [1,2,13] (.cond (.t 13) (.lv [] (.seq (.reg none [⟨some 4,.mov (.k (.int .i32 0)),none⟩])
 (.ret)))
 (.skip))))
 (.lv [1,2] (.seq (.reg none [⟨some 14,.faddr 2 (.t 2),none⟩,⟨some 15,.ld false 1 (.t 14),none⟩,⟨some 16,.mov (.t 1),none⟩,⟨some 17,.iaddrf 1 (.t 15) (.t 16),none⟩,⟨some 18,.ldf false 1 (.t 17),none⟩,⟨some 4,.mov (.t 18),none⟩])
 (.ret)))))
def i24:IFn:=⟨2,19,c24,[.t 4],.pure⟩
def c25:IR:=
 .seq (.reg none [⟨some 2,.box 28 5 (.t 0),none⟩,⟨some 4,.alloc 59 [.nilsl 154 1,.bool false,.nilsl 154 1],none⟩])
 (.lv [1,2,4] (.seq (.seq (.reg none [⟨some 5,.mov (.t 1),none⟩,⟨some 6,.bin .lt (.t 5) (.k (.int .i64 0)),none⟩,⟨some 7,.mov (.t 6),none⟩,⟨some 8,.mov (.t 1),(some (7,false))⟩,⟨some 9,.faddr 3 (.t 2),(some (7,false))⟩,⟨some 10,.ld false 1 (.t 9),(some (7,false))⟩,⟨some 11,.lenf (.t 10),(some (7,false))⟩,⟨some 12,.bin .ge (.t 8) (.t 11),(some (7,false))⟩,⟨some 13,.pick (.t 7) (.k (.bool true)) (.t 12),none⟩])
 (.lv [1,2,4,13] (.cond (.t 13) (.lv [4] (.seq (.reg none [⟨some 14,.build [.nilsl 154 1,.bool false,.nilsl 154 1] [],none⟩,⟨none,.st 3 (.t 4) (.t 14),none⟩])
 (.ret)))
 (.skip))))
 (.lv [1,2,4] (.seq (.reg none [⟨some 15,.faddr 3 (.t 2),none⟩,⟨some 16,.ld false 1 (.t 15),none⟩,⟨some 17,.mov (.t 1),none⟩,⟨some 18,.iaddrf 3 (.t 16) (.t 17),none⟩,⟨some 19,.ldf true 3 (.t 18),none⟩,⟨none,.st 3 (.t 4) (.t 19),none⟩])
 (.ret)))))
def i25:IFn:=⟨2,20,c25,[.c 4 true 3],.pure⟩
def c26:IR:=
 .seq (.reg none [⟨some 1,.box 59 3 (.t 0),none⟩,⟨some 2,.alloc 52 [.bool false,.str ⟨#[]⟩,.str ⟨#[]⟩],none⟩])
 (.lv [1,2] (.seq (.reg (some [0,1,2,3,4,5,6,7,8,9,10,11]) [⟨some 3,.faddr 0 (.t 1),none⟩,⟨some 4,.ld true 2 (.t 3),none⟩,⟨some 5,.callP 77 [.t 4],none⟩,⟨some 6,.faddr 0 (.t 1),none⟩,⟨some 7,.faddr 0 (.t 6),none⟩,⟨some 8,.ld true 1 (.t 7),none⟩,⟨some 9,.callP 78 [.t 8],none⟩,⟨some 10,.ld true 3 (.t 1),none⟩,⟨some 11,.callP 79 [.t 10],none⟩,⟨some 12,.callP 78 [.t 11],none⟩,⟨some 13,.build [.bool false,.str ⟨#[]⟩,.str ⟨#[]⟩] [(0,1,.t 5),(1,1,.t 9),(2,1,.t 12)],none⟩,⟨none,.st 3 (.t 2) (.t 13),none⟩])
 (.ret)))
def i26:IFn:=⟨1,14,c26,[.c 2 true 3],.pure⟩
def b33_0:IR:=
 .seq (.seq (.reg none [⟨some 36,.mov (.t 5),none⟩,⟨some 37,.faddr 3 (.t 2),none⟩,⟨some 38,.ld false 1 (.t 37),none⟩,⟨some 39,.lenf (.t 38),none⟩,⟨some 40,.bin .lt (.t 36) (.t 39),none⟩])
 (.lv [2,3,5,40] (.cond (.t 40) (.skip)
 (.exit 0))))
 (.lv [2,3,5] (.seq (.block 1 (.seq (.reg (some [0,1,2,3,4,5,6,7,8,9,10]) [⟨some 43,.faddr 3 (.t 2),none⟩,⟨some 44,.ld false 1 (.t 43),none⟩,⟨some 45,.mov (.t 5),none⟩,⟨some 46,.iaddrf 3 (.t 44) (.t 45),none⟩,⟨some 47,.ldf true 3 (.t 46),none⟩,⟨some 48,.faddr 3 (.t 3),none⟩,⟨some 49,.ld false 1 (.t 48),none⟩,⟨some 50,.mov (.t 5),none⟩,⟨some 51,.iaddrf 3 (.t 49) (.t 50),none⟩,⟨some 52,.ldf true 3 (.t 51),none⟩,⟨some 53,.bins .ne [0,2,2] (.t 47) (.t 52),none⟩])
 (.lv [2,3,5,53] (.cond (.t 53) (.lv [] (.seq (.reg none [⟨some 4,.mov (.k (.bool false)),none⟩])
 (.ret)))
 (.skip)))))
 (.lv [2,3,5] (.reg none [⟨some 41,.mov (.t 5),none⟩,⟨some 42,.bin .add (.t 41) (.k (.int .i64 1)),none⟩,⟨some 5,.mov (.t 42),none⟩]))))
def k33_0:IR:=
 .seq (.reg none [⟨some 4,.mov (.k (.bool true)),none⟩])
 (.ret)
def c33:IR:=
 .seq (.reg none [⟨some 2,.box 37 4 (.t 0),none⟩,⟨some 3,.box 37 4 (.t 1),none⟩,⟨some 4,.mov (.k (.bool false)),none⟩])
 (.lv [2,3] (.seq (.seq (.reg none [⟨some 6,.faddr 1 (.t 2),none⟩,⟨some 7,.ld false 1 (.t 6),none⟩,⟨some 8,.faddr 1 (.t 3),none⟩,⟨some 9,.ld false 1 (.t 8),none⟩,⟨some 10,.binb .ne (.t 7) (.t 9),none⟩,⟨some 11,.mov (.t 10),none⟩,⟨some 12,.faddr 0 (.t 2),(some (11,false))⟩,⟨some 13,.ld false 1 (.t 12),(some (11,false))⟩,⟨some 14,.faddr 0 (.t 3),(some (11,false))⟩,⟨some 15,.ld false 1 (.t 14),(some (11,false))⟩,⟨some 16,.callP 85 [.t 13,.t 15],(some (11,false))⟩,⟨some 17,.not (.t 16),(some (11,false))⟩,⟨some 18,.pick (.t 11) (.k (.bool true)) (.t 17),none⟩,⟨some 19,.mov (.t 18),none⟩,⟨some 20,.faddr 2 (.t 2),(some (19,false))⟩,⟨some 21,.ld false 1 (.t 20),(some (19,false))⟩,⟨some 22,.faddr 2 (.t 3),(some (19,false))⟩,⟨some 23,.ld false 1 (.t 22),(some (19,false))⟩,⟨some 24,.callP 86 [.t 21,.t 23],(some (19,false))⟩,⟨some 25,.not (.t 24),(some (19,false))⟩,⟨some 26,.pick (.t 19) (.k (.bool true)) (.t 25),none⟩,⟨some 27,.mov (.t 26),none⟩,⟨some 28,.faddr 3 (.t 2),(some (27,false))⟩,⟨some 29,.ld false 1 (.t 28),(some (27,false))⟩,⟨some 30,.lenf (.t 29),(some (27,false))⟩,⟨some 31,.faddr 3 (.t 3),(some (27,false))⟩,⟨some 32,.ld false 1 (.t 31),(some (27,false))⟩,⟨some 33,.lenf (.t 32),(some (27,false))⟩,⟨some 34,.bin .ne (.t 30) (.t 33),(some (27,false))⟩,⟨some 35,.pick (.t 27) (.k (.bool true)) (.t 34),none⟩])
 (.lv [2,3,35] (.cond (.t 35) (.lv [] (.seq (.reg none [⟨some 4,.mov (.k (.bool false)),none⟩])
 (.ret)))
 (.skip))))
 (.lv [2,3] (.seq (.seq (.reg none [⟨some 5,.mov (.k (.int .i64 0)),none⟩])
 (.lv [2,3,5] (.block 0 (.loop [2,3,5] (some (2,[])) b33_0))))
 k33_0))))
def i33:IFn:=⟨2,54,c33,[.t 4],.pure⟩
def b35_0:IR:=
 .seq (.reg none [⟨some 17,.bin .lt (.t 16) (.t 15),none⟩])
 (.lv [2,3,14,15,16,17] (.seq (.cond (.t 17) (.skip)
 (.exit 0))
 (.lv [2,3,14,15,16] (.seq (.block 1 (.seq (.reg none [⟨some 18,.iaddrf 3 (.t 14) (.t 16),none⟩,⟨some 19,.ldf true 3 (.t 18),none⟩,⟨some 5,.alloc 59 [.nilsl 154 1,.bool false,.nilsl 154 1],none⟩,⟨none,.st 3 (.t 5) (.t 19),none⟩])
 (.lv [2,3,5,14,15,16] (.reg (some [0,1,2,3,4,5,6,7]) [⟨some 20,.faddr 3 (.t 3),none⟩,⟨some 21,.ld false 1 (.t 20),none⟩,⟨some 22,.ld true 3 (.t 5),none⟩,⟨some 23,.callR 26 [.t 22],none⟩,⟨some 24,.bsl 52 3 [.t 23],none⟩,⟨some 25,.app 52 3 40 (.t 21) (.t 24),none⟩,⟨some 26,.faddr 3 (.t 3),none⟩,⟨none,.st 1 (.t 26) (.t 25),none⟩]))))
 (.lv [2,3,14,15,16] (.reg none [⟨some 27,.bin .add (.t 16) (.k (.int .i64 1)),none⟩,⟨some 16,.mov (.t 27),none⟩]))))))
def k35_0:IR:=
 .seq (.reg none [⟨some 28,.ld true 4 (.t 3),none⟩,⟨none,.st 4 (.t 2) (.t 28),none⟩])
 (.ret)
def c35:IR:=
 .seq (.reg none [⟨some 1,.box 28 5 (.t 0),none⟩,⟨some 2,.alloc 37 [.nilsl 3 1,.bool false,.nilsl 21 1,.nilsl 52 3],none⟩])
 (.lv [1,2] (.seq (.reg (some [0,1,2,3,4,5,6,7,8]) [⟨some 6,.ld true 5 (.t 1),none⟩,⟨some 7,.callP 44 [.t 6],none⟩,⟨some 8,.faddr 1 (.t 1),none⟩,⟨some 9,.ld false 1 (.t 8),none⟩,⟨some 10,.ld true 5 (.t 1),none⟩,⟨some 11,.callZ 69 [.t 10],none⟩,⟨some 12,.build [.nilsl 3 1,.bool false,.nilsl 21 1,.nilsl 52 3] [(0,1,.t 7),(1,1,.t 9),(2,1,.t 11)],none⟩,⟨some 3,.alloc 37 [.nilsl 3 1,.bool false,.nilsl 21 1,.nilsl 52 3],none⟩,⟨none,.st 4 (.t 3) (.t 12),none⟩])
 (.lv [1,2,3] (.seq (.seq (.reg none [⟨some 13,.faddr 3 (.t 1),none⟩,⟨some 14,.ld false 1 (.t 13),none⟩,⟨some 15,.lenf (.t 14),none⟩,⟨some 16,.mov (.k (.int .i64 0)),none⟩])
 (.lv [2,3,14,15,16] (.block 0 (.loop [2,3,14,15,16] (some (10,[])) b35_0))))
 k35_0))))
def i35:IFn:=⟨1,29,c35,[.c 2 true 4],.pure⟩
def b41_0:IR:=
 .seq (.seq (.reg none [⟨some 9,.mov (.t 4),none⟩,⟨some 10,.mov (.t 0),none⟩,⟨some 11,.lenf (.t 10),none⟩,⟨some 12,.bin .lt (.t 9) (.t 11),none⟩])
 (.lv [0,2,3,4,12] (.cond (.t 12) (.skip)
 (.exit 0))))
 (.lv [0,2,3,4] (.seq (.block 1 (.reg (some [0,1,2,3,4,5,6,7,8,9,10]) [⟨some 15,.faddr 3 (.t 3),none⟩,⟨some 16,.ld false 1 (.t 15),none⟩,⟨some 17,.mov (.t 0),none⟩,⟨some 18,.mov (.t 4),none⟩,⟨some 19,.iaddrf 1 (.t 17) (.t 18),none⟩,⟨some 20,.ldf false 1 (.t 19),none⟩,⟨some 21,.callP 58 [.t 20],none⟩,⟨some 22,.bsl 52 3 [.t 21],none⟩,⟨some 23,.app 52 3 40 (.t 16) (.t 22),none⟩,⟨some 24,.faddr 3 (.t 3),none⟩,⟨none,.st 1 (.t 24) (.t 23),none⟩]))
 (.lv [0,2,3,4] (.reg none [⟨some 13,.mov (.t 4),none⟩,⟨some 14,.bin .add (.t 13) (.k (.int .i64 1)),none⟩,⟨some 4,.mov (.t 14),none⟩]))))
def k41_0:IR:=
 .seq (.reg none [⟨some 25,.ld true 4 (.t 3),none⟩,⟨none,.st 4 (.t 2) (.t 25),none⟩])
 (.ret)
def c41:IR:=
 .seq (.reg none [⟨some 2,.alloc 37 [.nilsl 3 1,.bool false,.nilsl 21 1,.nilsl 52 3],none⟩])
 (.lv [0,2] (.seq (.reg none [⟨some 5,.mov (.t 0),none⟩,⟨some 6,.lenf (.t 5),none⟩,⟨some 7,.bsl 3 1 [.t 6],none⟩,⟨some 8,.build [.nilsl 3 1,.bool false,.nilsl 21 1,.nilsl 52 3] [(0,1,.t 7)],none⟩,⟨some 3,.alloc 37 [.nilsl 3 1,.bool false,.nilsl 21 1,.nilsl 52 3],none⟩,⟨none,.st 4 (.t 3) (.t 8),none⟩])
 (.lv [0,2,3] (.seq (.seq (.reg none [⟨some 4,.mov (.k (.int .i64 0)),none⟩])
 (.lv [0,2,3,4] (.block 0 (.loop [0,2,3,4] (some (11,[])) b41_0))))
 k41_0))))
def i41:IFn:=⟨1,26,c41,[.c 2 true 4],.pure⟩
def c43:IR:=
 .seq (.reg none [⟨some 2,.newnil 3 1,none⟩])
 (.lv [0] (.seq (.reg none [⟨some 3,.mov (.t 0),none⟩,⟨some 4,.callP 101 [.t 3],none⟩,⟨some 2,.mov (.t 4),none⟩])
 (.ret)))
def i43:IFn:=⟨1,5,c43,[.t 2],.pure⟩
def c44:IR:=
 .seq (.reg none [⟨some 1,.box 28 5 (.t 0),none⟩,⟨some 2,.newnil 3 1,none⟩])
 (.lv [1] (.seq (.seq (.reg none [⟨some 3,.faddr 4 (.t 1),none⟩,⟨some 4,.ld false 1 (.t 3),none⟩,⟨some 5,.not (.t 4),none⟩])
 (.lv [1,5] (.cond (.t 5) (.lv [] (.seq (.reg none [⟨some 6,.bsl 3 1 [.k (.int .i64 0)],none⟩,⟨some 2,.mov (.t 6),none⟩])
 (.ret)))
 (.skip))))
 (.lv [1] (.seq (.reg none [⟨some 7,.faddr 0 (.t 1),none⟩,⟨some 8,.ld false 1 (.t 7),none⟩,⟨some 9,.callO 102 [.t 8],none⟩,⟨some 2,.mov (.t 9),none⟩])
 (.ret)))))
def i44:IFn:=⟨1,10,c44,[.t 2],.pure⟩
def c52:IR:=
 .seq (.reg none [⟨some 4,.alloc 28 [.nilsl 3 1,.bool false,.nilsl 21 1,.nilsl 59 3,.bool false],none⟩,⟨some 5,.mov (.k (.bool false)),none⟩])
 (.lv [0,1,4] (.seq (.reg none [⟨some 9,.mov (.t 0),none⟩,⟨some 10,.callP 83 [.t 9],none⟩,⟨some 8,.mov (.t 10),none⟩,⟨some 11,.ext (.t 8) 0,none⟩,⟨some 12,.ext (.t 8) 1,none⟩,⟨some 6,.mov (.t 11),none⟩,⟨some 7,.mov (.t 12),none⟩])
 (.lv [0,1,4,6,7] (.seq (.seq (.reg none [⟨some 13,.mov (.t 7),none⟩,⟨some 14,.not (.t 13),none⟩,⟨some 15,.mov (.t 14),none⟩,⟨some 16,.mov (.t 6),(some (15,false))⟩,⟨some 17,.mov (.t 1),(some (15,false))⟩,⟨some 18,.lenf (.t 17),(some (15,false))⟩,⟨some 19,.bin .ne (.t 16) (.t 18),(some (15,false))⟩,⟨some 20,.pick (.t 15) (.k (.bool true)) (.t 19),none⟩])
 (.lv [0,1,4,20] (.cond (.t 20) (.lv [4] (.seq (.reg none [⟨some 21,.build [.nilsl 3 1,.bool false,.nilsl 21 1,.nilsl 59 3,.bool false] [],none⟩,⟨none,.st 5 (.t 4) (.t 21),none⟩,⟨some 5,.mov (.k (.bool false)),none⟩])
 (.ret)))
 (.skip))))
 (.lv [0,1,4] (.seq (.reg none [⟨some 22,.mov (.t 0),none⟩,⟨some 23,.callO 102 [.t 22],none⟩,⟨some 24,.mov (.t 1),none⟩,⟨some 25,.callO 112 [.t 24],none⟩,⟨some 26,.build [.nilsl 3 1,.bool false,.nilsl 21 1,.nilsl 59 3,.bool false] [(0,1,.t 23),(1,1,.k (.bool false)),(2,1,.k (.nilsl 21 1)),(3,1,.t 25),(4,1,.k (.bool true))],none⟩,⟨none,.st 5 (.t 4) (.t 26),none⟩,⟨some 5,.mov (.k (.bool true)),none⟩])
 (.ret)))))))
def i52:IFn:=⟨2,27,c52,[.c 4 true 5,.t 5],.pure⟩
def c53:IR:=
 .seq (.reg none [⟨some 2,.alloc 59 [.nilsl 154 1,.bool false,.nilsl 154 1],none⟩])
 (.lv [0,2] (.seq (.reg none [⟨some 3,.mov (.t 0),none⟩,⟨some 4,.callP 113 [.t 3],none⟩,⟨some 5,.callP 114 [.k (.int .u64 1)],none⟩,⟨some 6,.build [.nilsl 154 1,.bool false,.nilsl 154 1] [(0,2,.t 4),(2,1,.t 5)],none⟩,⟨none,.st 3 (.t 2) (.t 6),none⟩])
 (.ret)))
def i53:IFn:=⟨1,7,c53,[.c 2 true 3],.pure⟩
def c54:IR:=
 .seq (.reg none [⟨some 1,.box 59 3 (.t 0),none⟩,⟨some 2,.alloc 28 [.nilsl 3 1,.bool false,.nilsl 21 1,.nilsl 59 3,.bool false],none⟩])
 (.lv [1,2] (.seq (.reg none [⟨some 3,.ld true 3 (.t 1),none⟩,⟨some 4,.bsl 59 3 [.t 3],none⟩,⟨some 5,.build [.nilsl 3 1,.bool false,.nilsl 21 1,.nilsl 59 3,.bool false] [(0,1,.k (.nilsl 3 1)),(1,1,.k (.bool false)),(2,1,.k (.nilsl 21 1)),(3,1,.t 4),(4,1,.k (.bool true))],none⟩,⟨none,.st 5 (.t 2) (.t 5),none⟩])
 (.ret)))
def i54:IFn:=⟨1,6,c54,[.c 2 true 5],.pure⟩
def c58:IR:=
 .seq (.reg none [⟨some 2,.alloc 52 [.bool false,.str ⟨#[]⟩,.str ⟨#[]⟩],none⟩])
 (.lv [0,2] (.seq (.reg none [⟨some 4,.mov (.t 0),none⟩,⟨some 5,.callP 115 [.t 4],none⟩,⟨some 3,.alloc 147 [.bool false,.str ⟨#[]⟩],none⟩,⟨none,.st 2 (.t 3) (.t 5),none⟩])
 (.lv [2,3] (.seq (.reg none [⟨some 6,.faddr 0 (.t 3),none⟩,⟨some 7,.ld false 1 (.t 6),none⟩,⟨some 8,.faddr 1 (.t 3),none⟩,⟨some 9,.ld false 1 (.t 8),none⟩,⟨some 10,.build [.bool false,.str ⟨#[]⟩,.str ⟨#[]⟩] [(0,1,.t 7),(1,1,.t 9),(2,1,.k (.str ⟨#[49]⟩))],none⟩,⟨none,.st 3 (.t 2) (.t 10),none⟩])
 (.ret)))))
def i58:IFn:=⟨1,11,c58,[.c 2 true 3],.pure⟩
def c59:IR:=
 .seq (.reg none [⟨some 1,.box 37 4 (.t 0),none⟩,⟨some 2,.mov (.k (.int .i64 0)),none⟩])
 (.lv [1] (.seq (.reg none [⟨some 3,.faddr 2 (.t 1),none⟩,⟨some 4,.ld false 1 (.t 3),none⟩,⟨some 5,.lenf (.t 4),none⟩,⟨some 6,.faddr 3 (.t 1),none⟩,⟨some 7,.ld false 1 (.t 6),none⟩,⟨some 8,.lenf (.t 7),none⟩,⟨some 9,.bin .add (.t 5) (.t 8),none⟩,⟨some 2,.mov (.t 9),none⟩])
 (.ret)))
def i59:IFn:=⟨1,10,c59,[.t 2],.pure⟩
def b60_0:IR:=
 .seq (.seq (.reg none [⟨some 49,.mov (.t 5),none⟩,⟨some 50,.faddr 3 (.t 1),none⟩,⟨some 51,.ld false 1 (.t 50),none⟩,⟨some 52,.lenf (.t 51),none⟩,⟨some 53,.bin .lt (.t 49) (.t 52),none⟩])
 (.lv [1,5,53] (.cond (.t 53) (.skip)
 (.exit 0))))
 (.lv [1,5] (.seq (.block 1 (.seq (.reg none [⟨some 56,.faddr 3 (.t 1),none⟩,⟨some 57,.ld false 1 (.t 56),none⟩,⟨some 58,.mov (.t 5),none⟩,⟨some 59,.iaddrf 3 (.t 57) (.t 58),none⟩,⟨some 60,.ldf true 3 (.t 59),none⟩,⟨some 61,.callP 117 [.t 60],none⟩,⟨some 62,.not (.t 61),none⟩])
 (.lv [1,5,62] (.cond (.t 62) (.lv [] (.seq (.reg none [⟨some 2,.mov (.k (.bool false)),none⟩])
 (.ret)))
 (.skip)))))
 (.lv [1,5] (.reg none [⟨some 54,.mov (.t 5),none⟩,⟨some 55,.bin .add (.t 54) (.k (.int .i64 1)),none⟩,⟨some 5,.mov (.t 55),none⟩]))))
def k60_0:IR:=
 .seq (.reg none [⟨some 2,.mov (.k (.bool true)),none⟩])
 (.ret)
def c60:IR:=
 .seq (.reg none [⟨some 1,.box 37 4 (.t 0),none⟩,⟨some 2,.mov (.k (.bool false)),none⟩])
 (.lv [1] (.seq (.reg none [⟨some 7,.faddr 0 (.t 1),none⟩,⟨some 8,.ld false 1 (.t 7),none⟩,⟨some 9,.callP 116 [.t 8],none⟩,⟨some 6,.mov (.t 9),none⟩,⟨some 10,.ext (.t 6) 0,none⟩,⟨some 11,.ext (.t 6) 1,none⟩,⟨some 3,.mov (.t 10),none⟩,⟨some 4,.mov (.t 11),none⟩])
 (.lv [1,3,4] (.seq (.seq (.reg none [⟨some 12,.mov (.t 4),none⟩,⟨some 13,.not (.t 12),none⟩,⟨some 14,.mov (.t 13),none⟩,⟨some 15,.faddr 1 (.t 1),(some (14,false))⟩,⟨some 16,.ld false 1 (.t 15),(some (14,false))⟩,⟨some 17,.mov (.t 16),(some (14,false))⟩,⟨some 18,.faddr 2 (.t 1),(some (17,true))⟩,⟨some 19,.ld false 1 (.t 18),(some (17,true))⟩,⟨some 20,.lenf (.t 19),(some (17,true))⟩,⟨some 21,.mov (.t 3),(some (17,true))⟩,⟨some 22,.bin .ne (.t 20) (.t 21),(some (17,true))⟩,⟨some 23,.mov (.t 22),(some (17,true))⟩,⟨some 24,.faddr 3 (.t 1),(some (23,false))⟩,⟨some 25,.ld false 1 (.t 24),(some (23,false))⟩,⟨some 26,.lenf (.t 25),(some (23,false))⟩,⟨some 27,.bin .ne (.t 26) (.k (.int .i64 0)),(some (23,false))⟩,⟨some 28,.pick (.t 23) (.k (.bool true)) (.t 27),(some (17,true))⟩,⟨some 29,.pick (.t 17) (.t 28) (.k (.bool false)),(some (14,false))⟩,⟨some 30,.pick (.t 14) (.k (.bool true)) (.t 29),none⟩,⟨some 31,.mov (.t 30),none⟩,⟨some 32,.faddr 1 (.t 1),(some (31,false))⟩,⟨some 33,.ld false 1 (.t 32),(some (31,false))⟩,⟨some 34,.not (.t 33),(some (31,false))⟩,⟨some 35,.mov (.t 34),(some (31,false))⟩,⟨some 36,.faddr 3 (.t 1),(some (35,true))⟩,⟨some 37,.ld false 1 (.t 36),(some (35,true))⟩,⟨some 38,.lenf (.t 37),(some (35,true))⟩,⟨some 39,.mov (.t 3),(some (35,true))⟩,⟨some 40,.bin .ne (.t 38) (.t 39),(some (35,true))⟩,⟨some 41,.mov (.t 40),(some (35,true))⟩,⟨some 42,.faddr 2 (.t 1),(some (41,false))⟩,⟨some 43,.ld false 1 (.t 42),(some (41,false))⟩,⟨some 44,.lenf (.t 43),(some (41,false))⟩,⟨some 45,.bin .ne (.t 44) (.k (.int .i64 0)),(some (41,false))⟩,⟨some 46,.pick (.t 41) (.k (.bool true)) (.t 45),(some (35,true))⟩,⟨some 47,.pick (.t 35) (.t 46) (.k (.bool false)),(some (31,false))⟩,⟨some 48,.pick (.t 31) (.k (.bool true)) (.t 47),none⟩])
 (.lv [1,48] (.cond (.t 48) (.lv [] (.seq (.reg none [⟨some 2,.mov (.k (.bool false)),none⟩])
 (.ret)))
 (.skip))))
 (.lv [1] (.seq (.seq (.reg none [⟨some 5,.mov (.k (.int .i64 0)),none⟩])
 (.lv [1,5] (.block 0 (.loop [1,5] (some (1,[])) b60_0))))
 k60_0))))))
def i60:IFn:=⟨1,63,c60,[.t 2],.pure⟩
def c61:IR:=
 .seq (.reg none [⟨some 4,.box 28 5 (.t 0),none⟩,⟨some 6,.box 37 4 (.t 2),none⟩,⟨some 8,.mov (.k (.bool false)),none⟩])
 (.lv [1,3,4,6] (.seq (.seq (.reg none [⟨some 9,.mov (.t 1),none⟩,⟨some 10,.mov (.t 3),none⟩,⟨some 11,.bin .ne (.t 9) (.t 10),none⟩])
 (.lv [3,4,6,11] (.cond (.t 11) (.lv [] (.seq (.reg none [⟨some 8,.mov (.k (.bool false)),none⟩])
 (.ret)))
 (.skip))))
 (.lv [3,4,6] (.seq (.seq (.reg none [⟨some 12,.mov (.t 3),none⟩,⟨some 13,.bin .ne (.t 12) (.k (.int .i64 0)),none⟩])
 (.lv [4,6,13] (.cond (.t 13) (.lv [4] (.seq (.reg none [⟨some 14,.ld true 5 (.t 4),none⟩,⟨some 15,.callP 23 [.t 14],none⟩,⟨some 16,.bin .eq (.t 15) (.k (.int .i64 0)),none⟩,⟨some 8,.mov (.t 16),none⟩])
 (.ret)))
 (.skip))))
 (.lv [4,6] (.seq (.reg (some [0,1,2,3,4]) [⟨some 17,.ld true 5 (.t 4),none⟩,⟨some 18,.callP 35 [.t 17],none⟩,⟨some 19,.ld true 4 (.t 6),none⟩,⟨some 20,.callP 33 [.t 18,.t 19],none⟩,⟨some 8,.mov (.t 20),none⟩])
 (.ret)))))))
def i61:IFn:=⟨4,21,c61,[.t 8],.pure⟩
def b62_0:IR:=
 .seq (.reg none [⟨some 68,.bin .lt (.t 67) (.t 66),none⟩])
 (.lv [2,6,65,66,67,68] (.seq (.cond (.t 68) (.skip)
 (.exit 0))
 (.lv [2,6,65,66,67] (.seq (.block 1 (.seq (.reg none [⟨some 69,.iaddrf 3 (.t 65) (.t 67),none⟩,⟨some 70,.ldf true 3 (.t 69),none⟩,⟨some 8,.alloc 52 [.bool false,.str ⟨#[]⟩,.str ⟨#[]⟩],none⟩,⟨none,.st 3 (.t 8) (.t 70),none⟩])
 (.lv [2,6,8,65,66,67] (.seq (.reg none [⟨some 72,.ld true 3 (.t 8),none⟩,⟨some 73,.callP 119 [.t 72],none⟩,⟨some 71,.mov (.t 73),none⟩,⟨some 74,.ext (.t 71) 0,none⟩,⟨some 75,.ext (.t 71) 1,none⟩,⟨some 9,.alloc 59 [.nilsl 154 1,.bool false,.nilsl 154 1],none⟩,⟨none,.st 3 (.t 9) (.t 74),none⟩,⟨some 10,.mov (.t 75),none⟩])
 (.lv [2,6,9,10,65,66,67] (.seq (.seq (.reg none [⟨some 76,.mov (.t 10),none⟩,⟨some 77,.not (.t 76),none⟩])
 (.lv [2,6,9,65,66,67,77] (.cond (.t 77) (.lv [2] (.seq (.reg none [⟨some 78,.build [.nilsl 3 1,.bool false,.nilsl 21 1,.nilsl 59 3,.bool false] [],none⟩,⟨none,.st 5 (.t 2) (.t 78),none⟩,⟨some 3,.mov (.k (.bool false)),none⟩])
 (.ret)))
 (.skip))))
 (.lv [2,6,9,65,66,67] (.reg none [⟨some 79,.faddr 3 (.t 6),none⟩,⟨some 80,.ld false 1 (.t 79),none⟩,⟨some 81,.ld true 3 (.t 9),none⟩,⟨some 82,.bsl 59 3 [.t 81],none⟩,⟨some 83,.app 59 3 56 (.t 80) (.t 82),none⟩,⟨some 84,.faddr 3 (.t 6),none⟩,⟨none,.st 1 (.t 84) (.t 83),none⟩]))))))))
 (.lv [2,6,65,66,67] (.reg none [⟨some 85,.bin .add (.t 67) (.k (.int .i64 1)),none⟩,⟨some 67,.mov (.t 85),none⟩]))))))
def k62_0:IR:=
 .seq (.reg none [⟨some 86,.ld true 5 (.t 6),none⟩,⟨none,.st 5 (.t 2) (.t 86),none⟩,⟨some 3,.mov (.k (.bool true)),none⟩])
 (.ret)
def c62:IR:=
 .seq (.reg none [⟨some 1,.box 37 4 (.t 0),none⟩,⟨some 2,.alloc 28 [.nilsl 3 1,.bool false,.nilsl 21 1,.nilsl 59 3,.bool false],none⟩,⟨some 3,.mov (.k (.bool false)),none⟩])
 (.lv [1,2] (.seq (.reg none [⟨some 12,.faddr 0 (.t 1),none⟩,⟨some 13,.ld false 1 (.t 12),none⟩,⟨some 14,.callP 83 [.t 13],none⟩,⟨some 11,.mov (.t 14),none⟩,⟨some 15,.ext (.t 11) 0,none⟩,⟨some 16,.ext (.t 11) 1,none⟩,⟨some 4,.mov (.t 15),none⟩,⟨some 5,.mov (.t 16),none⟩])
 (.lv [1,2,4,5] (.seq (.seq (.reg none [⟨some 17,.mov (.t 5),none⟩,⟨some 18,.not (.t 17),none⟩,⟨some 19,.mov (.t 18),none⟩,⟨some 20,.faddr 1 (.t 1),(some (19,false))⟩,⟨some 21,.ld false 1 (.t 20),(some (19,false))⟩,⟨some 22,.mov (.t 21),(some (19,false))⟩,⟨some 23,.faddr 2 (.t 1),(some (22,true))⟩,⟨some 24,.ld false 1 (.t 23),(some (22,true))⟩,⟨some 25,.lenf (.t 24),(some (22,true))⟩,⟨some 26,.mov (.t 4),(some (22,true))⟩,⟨some 27,.bin .ne (.t 25) (.t 26),(some (22,true))⟩,⟨some 28,.mov (.t 27),(some (22,true))⟩,⟨some 29,.faddr 3 (.t 1),(some (28,false))⟩,⟨some 30,.ld false 1 (.t 29),(some (28,false))⟩,⟨some 31,.lenf (.t 30),(some (28,false))⟩,⟨some 32,.bin .gt (.t 31) (.k (.int .i64 0)),(some (28,false))⟩,⟨some 33,.pick (.t 28) (.k (.bool true)) (.t 32),(some (22,true))⟩,⟨some 34,.pick (.t 22) (.t 33) (.k (.bool false)),(some (19,false))⟩,⟨some 35,.pick (.t 19) (.k (.bool true)) (.t 34),none⟩,⟨some 36,.mov (.t 35),none⟩,⟨some 37,.faddr 1 (.t 1),(some (36,false))⟩,⟨some 38,.ld false 1 (.t 37),(some (36,false))⟩,⟨some 39,.not (.t 38),(some (36,false))⟩,⟨some 40,.mov (.t 39),(some (36,false))⟩,⟨some 41,.faddr 3 (.t 1),(some (40,true))⟩,⟨some 42,.ld false 1 (.t 41),(some (40,true))⟩,⟨some 43,.lenf (.t 42),(some (40,true))⟩,⟨some 44,.mov (.t 4),(some (40,true))⟩,⟨some 45,.bin .ne (.t 43) (.t 44),(some (40,true))⟩,⟨some 46,.mov (.t 45),(some (40,true))⟩,⟨some 47,.faddr 2 (.t 1),(some (46,false))⟩,⟨some 48,.ld false 1 (.t 47),(some (46,false))⟩,⟨some 49,.lenf (.t 48),(some (46,false))⟩,⟨some 50,.bin .gt (.t 49) (.k (.int .i64 0)),(some (46,false))⟩,⟨some 51,.pick (.t 46) (.k (.bool true)) (.t 50),(some (40,true))⟩,⟨some 52,.pick (.t 40) (.t 51) (.k (.bool false)),(some (36,false))⟩,⟨some 53,.pick (.t 36) (.k (.bool true)) (.t 52),none⟩])
 (.lv [1,2,53] (.cond (.t 53) (.lv [2] (.seq (.reg none [⟨some 54,.build [.nilsl 3 1,.bool false,.nilsl 21 1,.nilsl 59 3,.bool false] [],none⟩,⟨none,.st 5 (.t 2) (.t 54),none⟩,⟨some 3,.mov (.k (.bool false)),none⟩])
 (.ret)))
 (.skip))))
 (.lv [1,2] (.seq (.reg (some [0,1,3,4,5,6,2,7,8,9,10]) [⟨some 55,.faddr 0 (.t 1),none⟩,⟨some 56,.ld false 1 (.t 55),none⟩,⟨some 58,.faddr 1 (.t 1),none⟩,⟨some 59,.ld false 1 (.t 58),none⟩,⟨some 60,.faddr 2 (.t 1),none⟩,⟨some 61,.ld false 1 (.t 60),none⟩,⟨some 57,.callZ 102 [.t 56],none⟩,⟨some 62,.callZ 118 [.t 61],none⟩,⟨some 63,.build [.nilsl 3 1,.bool false,.nilsl 21 1,.nilsl 59 3,.bool false] [(0,1,.t 57),(1,1,.t 59),(2,1,.t 62),(3,1,.k (.nilsl 59 3)),(4,1,.k (.bool true))],none⟩,⟨some 6,.alloc 28 [.nilsl 3 1,.bool false,.nilsl 21 1,.nilsl 59 3,.bool false],none⟩,⟨none,.st 5 (.t 6) (.t 63),none⟩])
 (.lv [1,2,6] (.seq (.seq (.reg none [⟨some 64,.faddr 3 (.t 1),none⟩,⟨some 65,.ld false 1 (.t 64),none⟩,⟨some 66,.lenf (.t 65),none⟩,⟨some 67,.mov (.k (.int .i64 0)),none⟩])
 (.lv [2,6,65,66,67] (.block 0 (.loop [2,6,65,66,67] (some (10,[])) b62_0))))
 k62_0))))))))
def i62:IFn:=⟨1,87,c62,[.c 2 true 5,.t 3],.pure⟩
def b63_0:IR:=
 .seq (.reg none [⟨some 29,.bin .lt (.t 28) (.t 27),none⟩])
 (.lv [0,1,9,10,26,27,28,29] (.seq (.cond (.t 29) (.skip)
 (.exit 0))
 (.lv [0,1,9,10,26,27,28] (.seq (.block 1 (.seq (.reg none [⟨some 30,.mov (.t 28),none⟩,⟨some 31,.iaddrf 6 (.t 26) (.t 28),none⟩,⟨some 32,.ldf true 6 (.t 31),none⟩,⟨some 12,.alloc 97 [.bool false,.nilsl 3 1,.bool false,.nilsl 21 1,.nilsl 59 3,.bool false],none⟩,⟨some 11,.mov (.t 30),none⟩,⟨none,.st 6 (.t 12) (.t 32),none⟩])
 (.lv [0,1,9,10,11,12,26,27,28] (.seq (.seq (.reg none [⟨some 33,.faddr 0 (.t 12),none⟩,⟨some 34,.ld false 1 (.t 33),none⟩])
 (.lv [0,1,9,10,11,12,26,27,28,34] (.cond (.t 34) (.lv [0,1,9,10,11,12,26,27,28] (.reg none [⟨some 35,.mov (.t 0),none⟩,⟨some 36,.mov (.t 11),none⟩,⟨some 37,.iaddrf 1 (.t 35) (.t 36),none⟩,⟨some 38,.ldf false 1 (.t 37),none⟩,⟨some 39,.mov (.t 1),none⟩,⟨some 40,.callO 120 [.t 38,.t 39],none⟩,⟨some 41,.callF 11 [.t 40],none⟩,⟨some 42,.faddr 1 (.t 12),none⟩,⟨none,.st 5 (.t 42) (.t 41),none⟩]))
 (.skip))))
 (.lv [0,1,9,10,12,26,27,28] (.seq (.reg none [⟨some 44,.faddr 1 (.t 12),none⟩,⟨some 45,.ld true 5 (.t 44),none⟩,⟨some 46,.callO 91 [.t 45],none⟩,⟨some 43,.mov (.t 46),none⟩,⟨some 47,.ext (.t 43) 0,none⟩,⟨some 48,.ext (.t 43) 1,none⟩,⟨some 13,.mov (.t 47),none⟩,⟨some 14,.mov (.t 48),none⟩])
 (.lv [0,1,9,10,12,13,14,26,27,28] (.seq (.seq (.reg none [⟨some 49,.mov (.t 14),none⟩,⟨some 50,.not (.t 49),none⟩])
 (.lv [0,1,9,10,12,13,26,27,28,50] (.cond (.t 50) (.lv [] (.seq (.reg none [⟨some 6,.mov (.k (.sl 0 1 [])),none⟩,⟨some 7,.mov (.k (.sl 0 1 [])),none⟩,⟨some 8,.mov (.k (.int .i64 22)),none⟩])
 (.ret)))
 (.skip))))
 (.lv [0,1,9,10,12,13,26,27,28] (.seq (.reg none [⟨some 51,.mov (.t 9),none⟩,⟨some 52,.mov (.t 13),none⟩,⟨some 53,.bslB 24 1 [.t 52],none⟩,⟨some 54,.appB 24 1 24 (.t 51) (.t 53),none⟩,⟨some 9,.mov (.t 54),none⟩])
 (.lv [0,1,9,10,12,26,27,28] (.reg none [⟨some 55,.mov (.t 10),none⟩,⟨some 56,.faddr 1 (.t 12),none⟩,⟨some 57,.ld true 5 (.t 56),none⟩,⟨some 58,.callF 44 [.t 57],none⟩,⟨some 59,.bslB 24 1 [.t 55,.t 58],none⟩,⟨some 60,.callF 43 [.t 59],none⟩,⟨some 10,.mov (.t 60),none⟩]))))))))))))
 (.lv [0,1,9,10,26,27,28] (.reg none [⟨some 61,.bin .add (.t 28) (.k (.int .i64 1)),none⟩,⟨some 28,.mov (.t 61),none⟩]))))))
def b63_2:IR:=
 .seq (.reg none [⟨some 72,.bin .lt (.t 71) (.t 70),none⟩])
 (.lv [0,1,9,10,15,16,62,63,64,69,70,71,72] (.seq (.cond (.t 72) (.skip)
 (.exit 4))
 (.lv [0,1,9,10,15,16,62,63,64,69,70,71] (.seq (.block 5 (.seq (.reg none [⟨some 73,.mov (.t 71),none⟩,⟨some 74,.iaddr 1 (.t 69) (.t 71),none⟩,⟨some 75,.ld false 1 (.t 74),none⟩,⟨some 17,.mov (.t 73),none⟩,⟨some 18,.mov (.t 75),none⟩])
 (.lv [0,1,9,10,15,16,17,18,62,63,64,69,70,71] (.seq (.seq (.reg none [⟨some 76,.mov (.t 18),none⟩,⟨some 77,.mov (.t 1),none⟩,⟨some 78,.bin .lt (.t 76) (.t 77),none⟩,⟨some 79,.mov (.t 78),none⟩,⟨some 80,.mov (.t 18),(some (79,false))⟩,⟨some 81,.mov (.t 1),(some (79,false))⟩,⟨some 82,.bin .sub (.t 80) (.t 81),(some (79,false))⟩,⟨some 83,.mov (.t 0),(some (79,false))⟩,⟨some 84,.mov (.t 15),(some (79,false))⟩,⟨some 85,.iaddrf 1 (.t 83) (.t 84),(some (79,false))⟩,⟨some 86,.ldf false 1 (.t 85),(some (79,false))⟩,⟨some 87,.bin .ge (.t 82) (.t 86),(some (79,false))⟩,⟨some 88,.pick (.t 79) (.k (.bool true)) (.t 87),none⟩])
 (.lv [0,1,9,10,15,16,17,18,62,63,64,69,70,71,88] (.cond (.t 88) (.lv [] (.seq (.reg none [⟨some 6,.mov (.k (.sl 0 1 [])),none⟩,⟨some 7,.mov (.k (.sl 0 1 [])),none⟩,⟨some 8,.mov (.k (.int .i64 25)),none⟩])
 (.ret)))
 (.skip))))
 (.lv [0,1,9,10,15,16,17,18,62,63,64,69,70,71] (.reg none [⟨some 89,.mov (.t 16),none⟩,⟨some 90,.mov (.t 17),none⟩,⟨some 91,.mov (.t 18),none⟩,⟨some 92,.mov (.t 1),none⟩,⟨some 93,.bin .sub (.t 91) (.t 92),none⟩,⟨some 94,.iaddr 1 (.t 89) (.t 90),none⟩,⟨none,.st 1 (.t 94) (.t 93),none⟩]))))))
 (.lv [0,1,9,10,15,16,62,63,64,69,70,71] (.reg none [⟨some 95,.bin .add (.t 71) (.k (.int .i64 1)),none⟩,⟨some 71,.mov (.t 95),none⟩]))))))
def k63_0:IR:=
 .reg none [⟨some 96,.bin .add (.t 64) (.k (.int .i64 1)),none⟩,⟨some 64,.mov (.t 96),none⟩]
def b63_1:IR:=
 .seq (.reg none [⟨some 65,.bin .lt (.t 64) (.t 63),none⟩])
 (.lv [0,1,9,10,62,63,64,65] (.seq (.cond (.t 65) (.skip)
 (.exit 2))
 (.lv [0,1,9,10,62,63,64] (.seq (.block 3 (.seq (.reg none [⟨some 66,.mov (.t 64),none⟩,⟨some 67,.iaddr 1 (.t 62) (.t 64),none⟩,⟨some 68,.ld false 1 (.t 67),none⟩,⟨some 15,.mov (.t 66),none⟩,⟨some 16,.mov (.t 68),none⟩])
 (.lv [0,1,9,10,15,16,62,63,64] (.seq (.reg none [⟨some 69,.mov (.t 16),none⟩,⟨some 70,.len (.t 69),none⟩,⟨some 71,.mov (.k (.int .i64 0)),none⟩])
 (.lv [0,1,9,10,15,16,62,63,64,69,70,71] (.block 4 (.loop [0,1,9,10,15,16,62,63,64,69,70,71] none b63_2)))))))
 k63_0))))
def k63_1:IR:=
 .seq (.seq (.reg none [⟨some 97,.mov (.t 10),none⟩,⟨some 98,.lenf (.t 97),none⟩,⟨some 99,.bin .gt (.t 98) (.k (.int .i64 8)),none⟩])
 (.lv [9,10,99] (.cond (.t 99) (.lv [] (.seq (.reg none [⟨some 6,.mov (.k (.sl 0 1 [])),none⟩,⟨some 7,.mov (.k (.sl 0 1 [])),none⟩,⟨some 8,.mov (.k (.int .i64 23)),none⟩])
 (.ret)))
 (.skip))))
 (.lv [9,10] (.seq (.seq (.reg none [⟨some 101,.mov (.t 10),none⟩,⟨some 102,.callP 83 [.t 101],none⟩,⟨some 100,.mov (.t 102),none⟩,⟨some 103,.ext (.t 100) 0,none⟩,⟨some 104,.ext (.t 100) 1,none⟩,⟨some 19,.mov (.t 103),none⟩,⟨some 20,.mov (.t 104),none⟩])
 (.lv [9,10,20] (.seq (.reg none [⟨some 105,.mov (.t 20),none⟩,⟨some 106,.not (.t 105),none⟩])
 (.lv [9,10,106] (.cond (.t 106) (.lv [] (.seq (.reg none [⟨some 6,.mov (.k (.sl 0 1 [])),none⟩,⟨some 7,.mov (.k (.sl 0 1 [])),none⟩,⟨some 8,.mov (.k (.int .i64 26)),none⟩])
 (.ret)))
 (.skip))))))
 (.lv [9,10] (.seq (.reg none [⟨some 107,.mov (.t 9),none⟩,⟨some 108,.mov (.t 10),none⟩,⟨some 6,.mov (.t 107),none⟩,⟨some 7,.mov (.t 108),none⟩,⟨some 8,.mov (.k (.int .i64 0)),none⟩])
 (.ret)))))
def k63_2:IR:=
 .seq (.seq (.reg none [⟨some 62,.mov (.t 9),none⟩,⟨some 63,.lenB (.t 62),none⟩,⟨some 64,.mov (.k (.int .i64 0)),none⟩])
 (.lv [0,1,9,10,62,63,64] (.block 2 (.loop [0,1,9,10,62,63,64] none b63_1))))
 k63_1
def c63:IR:=
 .seq (.reg none [⟨some 6,.mov (.k (.sl 0 1 [])),none⟩,⟨some 7,.mov (.k (.sl 0 1 [])),none⟩,⟨some 8,.mov (.k (.int .i64 0)),none⟩])
 (.lv [0,1,2] (.seq (.seq (.reg none [⟨some 21,.mov (.t 2),none⟩,⟨some 22,.lenf (.t 21),none⟩,⟨some 23,.mov (.t 0),none⟩,⟨some 24,.lenf (.t 23),none⟩,⟨some 25,.bin .ne (.t 22) (.t 24),none⟩])
 (.lv [0,1,2,25] (.cond (.t 25) (.lv [] (.seq (.reg none [⟨some 6,.mov (.k (.sl 0 1 [])),none⟩,⟨some 7,.mov (.k (.sl 0 1 [])),none⟩,⟨some 8,.mov (.k (.int .i64 23)),none⟩])
 (.ret)))
 (.skip))))
 (.lv [0,1,2] (.seq (.reg none [⟨some 9,.newnilB 24 1,none⟩])
 (.lv [0,1,2,9] (.seq (.reg none [⟨some 10,.mov (.k (.sl 0 1 [])),none⟩])
 (.lv [0,1,2,9,10] (.seq (.seq (.reg none [⟨some 26,.mov (.t 2),none⟩,⟨some 27,.lenf (.t 26),none⟩,⟨some 28,.mov (.k (.int .i64 0)),none⟩])
 (.lv [0,1,9,10,26,27,28] (.block 0 (.loop [0,1,9,10,26,27,28] none b63_0))))
 k63_2))))))))
def i63:IFn:=⟨3,109,c63,[.t 6,.t 7,.t 8],.pure⟩
def b64_0:IR:=
 .seq (.reg none [⟨some 35,.bin .lt (.t 34) (.t 33),none⟩])
 (.lv [3,6,10,32,33,34,35] (.seq (.cond (.t 35) (.skip)
 (.exit 0))
 (.lv [3,6,10,32,33,34] (.seq (.block 1 (.seq (.reg none [⟨some 36,.iaddrf 1 (.t 32) (.t 34),none⟩,⟨some 37,.ldf false 1 (.t 36),none⟩,⟨some 12,.mov (.t 37),none⟩])
 (.lv [3,6,10,12,32,33,34] (.block 2 (.seq (.reg none [⟨some 49,.faddr 1 (.t 3),none⟩,⟨some 50,.ld false 1 (.t 49),none⟩,⟨some 51,.not (.t 50),none⟩,⟨some 48,.mov (.t 51),none⟩])
 (.lv [3,6,10,12,32,33,34,48] (.cond (.t 48) (.lv [3,6,10,12,32,33,34] (.reg (some [0,1,2,3,4,5,6,7,8]) [⟨some 52,.faddr 3 (.t 10),none⟩,⟨some 53,.ld false 1 (.t 52),none⟩,⟨some 54,.ld true 5 (.t 3),none⟩,⟨some 55,.mov (.t 12),none⟩,⟨some 56,.callP 25 [.t 54,.t 55],none⟩,⟨some 57,.bsl 59 3 [.t 56],none⟩,⟨some 58,.app 59 3 56 (.t 53) (.t 57),none⟩,⟨some 59,.faddr 3 (.t 10),none⟩,⟨none,.st 1 (.t 59) (.t 58),none⟩]))
 (.lv [3,6,10,12,32,33,34] (.seq (.reg none [⟨some 61,.mov (.t 12),none⟩,⟨some 62,.bin .lt (.t 61) (.k (.int .i64 0)),none⟩,⟨some 63,.mov (.t 62),none⟩,⟨some 64,.mov (.t 12),(some (63,false))⟩,⟨some 65,.faddr 2 (.t 3),(some (63,false))⟩,⟨some 66,.ld false 1 (.t 65),(some (63,false))⟩,⟨some 67,.lenf (.t 66),(some (63,false))⟩,⟨some 68,.bin .ge (.t 64) (.t 67),(some (63,false))⟩,⟨some 69,.pick (.t 63) (.k (.bool true)) (.t 68),none⟩,⟨some 60,.mov (.t 69),none⟩])
 (.lv [3,6,10,12,32,33,34,60] (.cond (.t 60) (.lv [3,6,10,32,33,34] (.reg none [⟨some 70,.faddr 2 (.t 10),none⟩,⟨some 71,.ld false 1 (.t 70),none⟩,⟨some 72,.bsl 21 1 [.k (.int .i32 32)],none⟩,⟨some 73,.app 21 1 4 (.t 71) (.t 72),none⟩,⟨some 74,.faddr 2 (.t 10),none⟩,⟨none,.st 1 (.t 74) (.t 73),none⟩]))
 (.lv [3,6,10,12,32,33,34] (.reg (some [0,1,2,3,4,5,6,7,8,9,10]) [⟨some 38,.faddr 2 (.t 10),none⟩,⟨some 39,.ld false 1 (.t 38),none⟩,⟨some 40,.faddr 2 (.t 3),none⟩,⟨some 41,.ld false 1 (.t 40),none⟩,⟨some 42,.mov (.t 12),none⟩,⟨some 43,.iaddrf 1 (.t 41) (.t 42),none⟩,⟨some 44,.ldf false 1 (.t 43),none⟩,⟨some 45,.bsl 21 1 [.t 44],none⟩,⟨some 46,.app 21 1 4 (.t 39) (.t 45),none⟩,⟨some 47,.faddr 2 (.t 10),none⟩,⟨none,.st 1 (.t 47) (.t 46),none⟩])))))))))))))
 (.lv [3,6,10,32,33,34] (.reg none [⟨some 75,.bin .add (.t 34) (.k (.int .i64 1)),none⟩,⟨some 34,.mov (.t 75),none⟩]))))))
def k64_0:IR:=
 .seq (.reg none [⟨some 76,.ld true 5 (.t 10),none⟩,⟨none,.st 5 (.t 6) (.t 76),none⟩,⟨some 7,.mov (.k (.bool true)),none⟩])
 (.ret)
def c64:IR:=
 .seq (.reg none [⟨some 3,.box 28 5 (.t 0),none⟩,⟨some 6,.alloc 28 [.nilsl 3 1,.bool false,.nilsl 21 1,.nilsl 59 3,.bool false],none⟩,⟨some 7,.mov (.k (.bool false)),none⟩])
 (.lv [1,2,3,6] (.seq (.reg none [⟨some 14,.mov (.t 1),none⟩,⟨some 15,.callP 83 [.t 14],none⟩,⟨some 13,.mov (.t 15),none⟩,⟨some 16,.ext (.t 13) 0,none⟩,⟨some 17,.ext (.t 13) 1,none⟩,⟨some 8,.mov (.t 16),none⟩,⟨some 9,.mov (.t 17),none⟩])
 (.lv [1,2,3,6,8,9] (.seq (.seq (.reg none [⟨some 18,.mov (.t 9),none⟩,⟨some 19,.not (.t 18),none⟩,⟨some 20,.mov (.t 19),none⟩,⟨some 21,.mov (.t 8),(some (20,false))⟩,⟨some 22,.mov (.t 2),(some (20,false))⟩,⟨some 23,.lenf (.t 22),(some (20,false))⟩,⟨some 24,.bin .ne (.t 21) (.t 23),(some (20,false))⟩,⟨some 25,.pick (.t 20) (.k (.bool true)) (.t 24),none⟩])
 (.lv [1,2,3,6,25] (.cond (.t 25) (.lv [6] (.seq (.reg none [⟨some 26,.build [.nilsl 3 1,.bool false,.nilsl 21 1,.nilsl 59 3,.bool false] [],none⟩,⟨none,.st 5 (.t 6) (.t 26),none⟩,⟨some 7,.mov (.k (.bool false)),none⟩])
 (.ret)))
 (.skip))))
 (.lv [1,2,3,6] (.seq (.reg (some [0,2,3,1,4,5,6]) [⟨some 27,.mov (.t 1),none⟩,⟨some 29,.faddr 1 (.t 3),none⟩,⟨some 30,.ld false 1 (.t 29),none⟩,⟨some 28,.callZ 102 [.t 27],none⟩,⟨some 31,.build [.nilsl 3 1,.bool false,.nilsl 21 1,.nilsl 59 3,.bool false] [(0,1,.t 28),(1,1,.t 30),(4,1,.k (.bool true))],none⟩,⟨some 10,.alloc 28 [.nilsl 3 1,.bool false,.nilsl 21 1,.nilsl 59 3,.bool false],none⟩,⟨none,.st 5 (.t 10) (.t 31),none⟩])
 (.lv [2,3,6,10] (.seq (.seq (.reg none [⟨some 32,.mov (.t 2),none⟩,⟨some 33,.lenf (.t 32),none⟩,⟨some 34,.mov (.k (.int .i64 0)),none⟩])
 (.lv [3,6,10,32,33,34] (.block 0 (.loop [3,6,10,32,33,34] (some (11,[])) b64_0))))
 k64_0))))))))
def i64:IFn:=⟨3,77,c64,[.c 6 true 5,.t 7],.pure⟩
def b65_2:IR:=
 .seq (.reg none [⟨some 39,.bin .lt (.t 38) (.t 37),none⟩])
 (.lv [5,7,8,9,11,17,18,19,30,31,32,36,37,38,39] (.seq (.cond (.t 39) (.skip)
 (.exit 4))
 (.lv [5,7,8,9,11,17,18,19,30,31,32,36,37,38] (.seq (.block 5 (.seq (.reg none [⟨some 40,.iaddrf 1 (.t 36) (.t 38),none⟩,⟨some 41,.ldf false 1 (.t 40),none⟩,⟨some 13,.mov (.t 41),none⟩])
 (.lv [5,7,8,9,11,13,17,18,19,30,31,32,36,37,38] (.reg none [⟨some 42,.mov (.t 9),none⟩,⟨some 43,.mov (.t 11),none⟩,⟨some 44,.mov (.t 13),none⟩,⟨some 45,.mov (.t 5),none⟩,⟨some 46,.mov (.t 7),none⟩,⟨some 47,.iaddrf 1 (.t 45) (.t 46),none⟩,⟨some 48,.ldf false 1 (.t 47),none⟩,⟨some 49,.bin .mul (.t 44) (.t 48),none⟩,⟨some 50,.bin .add (.t 43) (.t 49),none⟩,⟨some 51,.bsl 3 1 [.t 50],none⟩,⟨some 52,.app 3 1 8 (.t 42) (.t 51),none⟩,⟨some 9,.mov (.t 52),none⟩]))))
 (.lv [5,7,8,9,11,17,18,19,30,31,32,36,37,38] (.reg none [⟨some 53,.bin .add (.t 38) (.k (.int .i64 1)),none⟩,⟨some 38,.mov (.t 53),none⟩]))))))
def k65_0:IR:=
 .reg none [⟨some 54,.bin .add (.t 32) (.k (.int .i64 1)),none⟩,⟨some 32,.mov (.t 54),none⟩]
def b65_1:IR:=
 .seq (.reg none [⟨some 33,.bin .lt (.t 32) (.t 31),none⟩])
 (.lv [5,7,8,9,17,18,19,30,31,32,33] (.seq (.cond (.t 33) (.skip)
 (.exit 2))
 (.lv [5,7,8,9,17,18,19,30,31,32] (.seq (.block 3 (.seq (.reg none [⟨some 34,.iaddr 1 (.t 30) (.t 32),none⟩,⟨some 35,.ld false 1 (.t 34),none⟩,⟨some 11,.mov (.t 35),none⟩])
 (.lv [5,7,8,9,11,17,18,19,30,31,32] (.seq (.reg none [⟨some 36,.mov (.t 8),none⟩,⟨some 37,.lenf (.t 36),none⟩,⟨some 38,.mov (.k (.int .i64 0)),none⟩])
 (.lv [5,7,8,9,11,17,18,19,30,31,32,36,37,38] (.block 4 (.loop [5,7,8,9,11,17,18,19,30,31,32,36,37,38] (some (2,[])) b65_2)))))))
 k65_0))))
def k65_1:IR:=
 .reg none [⟨some 55,.mov (.t 9),none⟩,⟨some 6,.mov (.t 55),none⟩]
def k65_2:IR:=
 .reg none [⟨some 56,.bin .add (.t 19) (.k (.int .i64 1)),none⟩,⟨some 19,.mov (.t 56),none⟩]
def b65_0:IR:=
 .seq (.reg none [⟨some 20,.bin .lt (.t 19) (.t 18),none⟩])
 (.lv [5,6,17,18,19,20] (.seq (.cond (.t 20) (.skip)
 (.exit 0))
 (.lv [5,6,17,18,19] (.seq (.block 1 (.seq (.reg none [⟨some 21,.mov (.t 19),none⟩,⟨some 22,.iaddrf 1 (.t 17) (.t 19),none⟩,⟨some 23,.ldf false 1 (.t 22),none⟩,⟨some 7,.mov (.t 21),none⟩,⟨some 8,.mov (.t 23),none⟩])
 (.lv [5,6,7,8,17,18,19] (.seq (.reg none [⟨some 24,.mov (.t 6),none⟩,⟨some 25,.len (.t 24),none⟩,⟨some 26,.mov (.t 8),none⟩,⟨some 27,.lenf (.t 26),none⟩,⟨some 28,.bin .mul (.t 25) (.t 27),none⟩,⟨some 29,.mk0 3 1 8 (.t 28),none⟩,⟨some 9,.mov (.t 29),none⟩])
 (.lv [5,6,7,8,9,17,18,19] (.seq (.seq (.reg none [⟨some 30,.mov (.t 6),none⟩,⟨some 31,.len (.t 30),none⟩,⟨some 32,.mov (.k (.int .i64 0)),none⟩])
 (.lv [5,7,8,9,17,18,19,30,31,32] (.block 2 (.loop [5,7,8,9,17,18,19,30,31,32] (some (2,[])) b65_1))))
 k65_1))))))
 k65_2))))
def k65_3:IR:=
 .seq (.reg none [⟨some 57,.mov (.t 6),none⟩,⟨some 4,.mov (.t 57),none⟩])
 (.ret)
def c65:IR:=
 .seq (.reg none [⟨some 4,.newnil 3 1,none⟩])
 (.lv [0,1] (.seq (.reg none [⟨some 14,.mov (.t 0),none⟩,⟨some 15,.callP 121 [.t 14],none⟩,⟨some 5,.mov (.t 15),none⟩])
 (.lv [1,5] (.seq (.reg none [⟨some 16,.bsl 3 1 [.k (.int .i64 0)],none⟩,⟨some 6,.mov (.t 16),none⟩])
 (.lv [1,5,6] (.seq (.seq (.reg none [⟨some 17,.mov (.t 1),none⟩,⟨some 18,.lenf (.t 17),none⟩,⟨some 19,.mov (.k (.int .i64 0)),none⟩])
 (.lv [5,6,17,18,19] (.block 0 (.loop [5,6,17,18,19] (some (1,[6])) b65_0))))
 k65_3))))))
def i65:IFn:=⟨2,58,c65,[.t 4],.pure⟩
def c66:IR:=
 .seq (.reg none [⟨some 1,.box 28 5 (.t 0),none⟩,⟨some 2,.mov (.k (.int .i64 0)),none⟩])
 (.lv [1] (.seq (.reg none [⟨some 3,.ld true 5 (.t 1),none⟩,⟨some 4,.callP 44 [.t 3],none⟩,⟨some 5,.lenf (.t 4),none⟩,⟨some 2,.mov (.t 5),none⟩])
 (.ret)))
def i66:IFn:=⟨1,6,c66,[.t 2],.pure⟩
def c67:IR:=
 .seq (.reg none [⟨some 4,.mov (.k (.bool false)),none⟩])
 (.lv [0,1] (.seq (.reg none [⟨some 5,.mov (.t 0),none⟩,⟨some 6,.mov (.t 1),none⟩,⟨some 7,.callP 72 [.t 5,.t 6],none⟩,⟨some 4,.mov (.t 7),none⟩])
 (.ret)))
def i67:IFn:=⟨2,8,c67,[.t 4],.pure⟩
def c68:IR:=
 .seq (.reg none [⟨some 1,.box 28 5 (.t 0),none⟩,⟨some 2,.mov (.k (.bool false)),none⟩])
 (.lv [1] (.seq (.reg none [⟨some 3,.faddr 1 (.t 1),none⟩,⟨some 4,.ld false 1 (.t 3),none⟩,⟨some 2,.mov (.t 4),none⟩])
 (.ret)))
def i68:IFn:=⟨1,5,c68,[.t 2],.pure⟩
def c69:IR:=
 .seq (.reg none [⟨some 1,.box 28 5 (.t 0),none⟩,⟨some 2,.newnil 21 1,none⟩])
 (.lv [1] (.seq (.reg none [⟨some 3,.faddr 2 (.t 1),none⟩,⟨some 4,.ld false 1 (.t 3),none⟩,⟨some 5,.callO 118 [.t 4],none⟩,⟨some 2,.mov (.t 5),none⟩])
 (.ret)))
def i69:IFn:=⟨1,6,c69,[.t 2],.own⟩
def c70:IR:=
 .seq (.reg none [⟨some 1,.box 28 5 (.t 0),none⟩,⟨some 2,.newnil 59 3,none⟩])
 (.lv [1] (.seq (.reg none [⟨some 3,.faddr 3 (.t 1),none⟩,⟨some 4,.ld false 1 (.t 3),none⟩,⟨some 5,.callO 112 [.t 4],none⟩,⟨some 2,.mov (.t 5),none⟩])
 (.ret)))
def i70:IFn:=⟨1,6,c70,[.t 2],.own⟩
def c71:IR:=
 .seq (.reg none [⟨some 4,.alloc 28 [.nilsl 3 1,.bool false,.nilsl 21 1,.nilsl 59 3,.bool false],none⟩,⟨some 5,.mov (.k (.bool false)),none⟩])
 (.lv [0,1,4] (.seq (.reg none [⟨some 9,.mov (.t 0),none⟩,⟨some 10,.callP 83 [.t 9],none⟩,⟨some 8,.mov (.t 10),none⟩,⟨some 11,.ext (.t 8) 0,none⟩,⟨some 12,.ext (.t 8) 1,none⟩,⟨some 6,.mov (.t 11),none⟩,⟨some 7,.mov (.t 12),none⟩])
 (.lv [0,1,4,6,7] (.seq (.seq (.reg none [⟨some 13,.mov (.t 7),none⟩,⟨some 14,.not (.t 13),none⟩,⟨some 15,.mov (.t 14),none⟩,⟨some 16,.mov (.t 6),(some (15,false))⟩,⟨some 17,.mov (.t 1),(some (15,false))⟩,⟨some 18,.lenf (.t 17),(some (15,false))⟩,⟨some 19,.bin .ne (.t 16) (.t 18),(some (15,false))⟩,⟨some 20,.pick (.t 15) (.k (.bool true)) (.t 19),none⟩])
 (.lv [0,1,4,20] (.cond (.t 20) (.lv [4] (.seq (.reg none [⟨some 21,.build [.nilsl 3 1,.bool false,.nilsl 21 1,.nilsl 59 3,.bool false] [],none⟩,⟨none,.st 5 (.t 4) (.t 21),none⟩,⟨some 5,.mov (.k (.bool false)),none⟩])
 (.ret)))
 (.skip))))
 (.lv [0,1,4] (.seq (.reg none [⟨some 22,.mov (.t 0),none⟩,⟨some 23,.callO 102 [.t 22],none⟩,⟨some 24,.mov (.t 1),none⟩,⟨some 25,.callO 118 [.t 24],none⟩,⟨some 26,.build [.nilsl 3 1,.bool false,.nilsl 21 1,.nilsl 59 3,.bool false] [(0,1,.t 23),(1,1,.k (.bool true)),(2,1,.t 25),(3,1,.k (.nilsl 59 3)),(4,1,.k (.bool true))],none⟩,⟨none,.st 5 (.t 4) (.t 26),none⟩,⟨some 5,.mov (.k (.bool true)),none⟩])
 (.ret)))))))
def i71:IFn:=⟨2,27,c71,[.c 4 true 5,.t 5],.pure⟩
def b72_0:IR:=
 .seq (.reg none [⟨some 14,.bin .lt (.t 13) (.t 12),none⟩])
 (.lv [0,1,12,13,14] (.seq (.cond (.t 14) (.skip)
 (.exit 0))
 (.lv [0,1,12,13] (.seq (.block 1 (.seq (.reg none [⟨some 15,.mov (.t 13),none⟩,⟨some 5,.mov (.t 15),none⟩])
 (.lv [0,1,5,12,13] (.seq (.reg (some [0,1,2,3,4,5,6,7,8]) [⟨some 16,.mov (.t 0),none⟩,⟨some 17,.mov (.t 5),none⟩,⟨some 18,.iaddrf 1 (.t 16) (.t 17),none⟩,⟨some 19,.ldf false 1 (.t 18),none⟩,⟨some 20,.mov (.t 1),none⟩,⟨some 21,.mov (.t 5),none⟩,⟨some 22,.iaddrf 1 (.t 20) (.t 21),none⟩,⟨some 23,.ldf false 1 (.t 22),none⟩,⟨some 24,.bin .ne (.t 19) (.t 23),none⟩])
 (.lv [0,1,12,13,24] (.cond (.t 24) (.lv [] (.seq (.reg none [⟨some 4,.mov (.k (.bool false)),none⟩])
 (.ret)))
 (.skip)))))))
 (.lv [0,1,12,13] (.reg none [⟨some 25,.bin .add (.t 13) (.k (.int .i64 1)),none⟩,⟨some 13,.mov (.t 25),none⟩]))))))
def k72_0:IR:=
 .seq (.reg none [⟨some 4,.mov (.k (.bool true)),none⟩])
 (.ret)
def c72:IR:=
 .seq (.reg none [⟨some 4,.mov (.k (.bool false)),none⟩])
 (.lv [0,1] (.seq (.seq (.reg none [⟨some 6,.mov (.t 0),none⟩,⟨some 7,.lenf (.t 6),none⟩,⟨some 8,.mov (.t 1),none⟩,⟨some 9,.lenf (.t 8),none⟩,⟨some 10,.bin .ne (.t 7) (.t 9),none⟩])
 (.lv [0,1,10] (.cond (.t 10) (.lv [] (.seq (.reg none [⟨some 4,.mov (.k (.bool false)),none⟩])
 (.ret)))
 (.skip))))
 (.lv [0,1] (.seq (.seq (.reg none [⟨some 11,.mov (.t 0),none⟩,⟨some 12,.lenf (.t 11),none⟩,⟨some 13,.mov (.k (.int .i64 0)),none⟩])
 (.lv [0,1,12,13] (.block 0 (.loop [0,1,12,13] (some (0,[])) b72_0))))
 k72_0))))
def i72:IFn:=⟨2,26,c72,[.t 4],.pure⟩
def b73_0:IR:=
 .seq (.reg none [⟨some 14,.bin .lt (.t 13) (.t 12),none⟩])
 (.lv [0,1,12,13,14] (.seq (.cond (.t 14) (.skip)
 (.exit 0))
 (.lv [0,1,12,13] (.seq (.block 1 (.seq (.reg none [⟨some 15,.mov (.t 13),none⟩,⟨some 5,.mov (.t 15),none⟩])
 (.lv [0,1,5,12,13] (.seq (.reg (some [0,1,2,3,4,5,6,7,8]) [⟨some 16,.mov (.t 0),none⟩,⟨some 17,.mov (.t 5),none⟩,⟨some 18,.iaddrf 1 (.t 16) (.t 17),none⟩,⟨some 19,.ldf false 1 (.t 18),none⟩,⟨some 20,.mov (.t 1),none⟩,⟨some 21,.mov (.t 5),none⟩,⟨some 22,.iaddrf 1 (.t 20) (.t 21),none⟩,⟨some 23,.ldf false 1 (.t 22),none⟩,⟨some 24,.bin .ne (.t 19) (.t 23),none⟩])
 (.lv [0,1,12,13,24] (.cond (.t 24) (.lv [] (.seq (.reg none [⟨some 4,.mov (.k (.bool false)),none⟩])
 (.ret)))
 (.skip)))))))
 (.lv [0,1,12,13] (.reg none [⟨some 25,.bin .add (.t 13) (.k (.int .i64 1)),none⟩,⟨some 13,.mov (.t 25),none⟩]))))))
def k73_0:IR:=
 .seq (.reg none [⟨some 4,.mov (.k (.bool true)),none⟩])
 (.ret)
def c73:IR:=
 .seq (.reg none [⟨some 4,.mov (.k (.bool false)),none⟩])
 (.lv [0,1] (.seq (.seq (.reg none [⟨some 6,.mov (.t 0),none⟩,⟨some 7,.lenf (.t 6),none⟩,⟨some 8,.mov (.t 1),none⟩,⟨some 9,.lenf (.t 8),none⟩,⟨some 10,.bin .ne (.t 7) (.t 9),none⟩])
 (.lv [0,1,10] (.cond (.t 10) (.lv [] (.seq (.reg none [⟨some 4,.mov (.k (.bool false)),none⟩])
 (.ret)))
 (.skip))))
 (.lv [0,1] (.seq (.seq (.reg none [⟨some 11,.mov (.t 0),none⟩,⟨some 12,.lenf (.t 11),none⟩,⟨some 13,.mov (.k (.int .i64 0)),none⟩])
 (.lv [0,1,12,13] (.block 0 (.loop [0,1,12,13] (some (0,[])) b73_0))))
 k73_0))))
def i73:IFn:=⟨2,26,c73,[.t 4],.pure⟩
def b74_0:IR:=
 .seq (.reg none [⟨some 18,.bin .lt (.t 17) (.t 16),none⟩])
 (.lv [1,2,15,16,17,18] (.seq (.cond (.t 18) (.skip)
 (.exit 0))
 (.lv [1,2,15,16,17] (.seq (.block 1 (.seq (.reg none [⟨some 19,.mov (.t 17),none⟩,⟨some 20,.iaddrf 3 (.t 15) (.t 17),none⟩,⟨some 21,.ldf true 3 (.t 20),none⟩,⟨some 8,.alloc 59 [.nilsl 154 1,.bool false,.nilsl 154 1],none⟩,⟨some 7,.mov (.t 19),none⟩,⟨none,.st 3 (.t 8) (.t 21),none⟩])
 (.lv [1,2,7,8,15,16,17] (.seq (.reg none [⟨some 22,.mov (.t 1),none⟩,⟨some 23,.mov (.t 7),none⟩,⟨some 24,.iaddrf 3 (.t 22) (.t 23),none⟩,⟨some 25,.ldf true 3 (.t 24),none⟩,⟨some 9,.alloc 59 [.nilsl 154 1,.bool false,.nilsl 154 1],none⟩,⟨none,.st 3 (.t 9) (.t 25),none⟩])
 (.lv [1,2,8,9,15,16,17] (.seq (.reg none [⟨some 26,.mov (.t 2),none⟩,⟨some 27,.ld true 3 (.t 8),none⟩,⟨some 28,.ld true 3 (.t 9),none⟩,⟨some 29,.callV (.t 26) [.t 27,.t 28],none⟩,⟨some 30,.not (.t 29),none⟩])
 (.lv [1,2,15,16,17,30] (.cond (.t 30) (.lv [] (.seq (.reg none [⟨some 6,.mov (.k (.bool false)),none⟩])
 (.ret)))
 (.skip)))))))))
 (.lv [1,2,15,16,17] (.reg none [⟨some 31,.bin .add (.t 17) (.k (.int .i64 1)),none⟩,⟨some 17,.mov (.t 31),none⟩]))))))
def k74_0:IR:=
 .seq (.reg none [⟨some 6,.mov (.k (.bool true)),none⟩])
 (.ret)
def c74:IR:=
 .seq (.reg none [⟨some 6,.mov (.k (.bool false)),none⟩])
 (.lv [0,1,2] (.seq (.seq (.reg none [⟨some 10,.mov (.t 0),none⟩,⟨some 11,.lenf (.t 10),none⟩,⟨some 12,.mov (.t 1),none⟩,⟨some 13,.lenf (.t 12),none⟩,⟨some 14,.bin .ne (.t 11) (.t 13),none⟩])
 (.lv [0,1,2,14] (.cond (.t 14) (.lv [] (.seq (.reg none [⟨some 6,.mov (.k (.bool false)),none⟩])
 (.ret)))
 (.skip))))
 (.lv [0,1,2] (.seq (.seq (.reg none [⟨some 15,.mov (.t 0),none⟩,⟨some 16,.lenf (.t 15),none⟩,⟨some 17,.mov (.k (.int .i64 0)),none⟩])
 (.lv [1,2,15,16,17] (.block 0 (.loop [1,2,15,16,17] (some (0,[])) b74_0))))
 k74_0))))
def i74:IFn:=⟨3,32,c74,[.t 6],.pure⟩
def c75:IR:=
 .seq (.reg none [⟨some 2,.box 59 3 (.t 0),none⟩,⟨some 3,.box 59 3 (.t 1),none⟩,⟨some 4,.mov (.k (.bool false)),none⟩])
 (.lv [2,3] (.seq (.reg none [⟨some 5,.ld true 3 (.t 2),none⟩,⟨some 6,.ld true 3 (.t 3),none⟩,⟨some 7,.callP 76 [.t 5,.t 6],none⟩,⟨some 8,.bin .eq (.t 7) (.k (.int .i64 0)),none⟩,⟨some 4,.mov (.t 8),none⟩])
 (.ret)))
def i75:IFn:=⟨2,9,c75,[.t 4],.pure⟩
def c76:IR:=
 .seq (.reg none [⟨some 2,.box 59 3 (.t 0),none⟩,⟨some 3,.box 59 3 (.t 1),none⟩,⟨some 4,.mov (.k (.int .i64 0)),none⟩])
 (.lv [2,3] (.seq (.reg (some [0,1,2,3,6,7,8,4,5,9,10,11,12,13]) [⟨some 5,.faddr 0 (.t 2),none⟩,⟨some 6,.ld true 2 (.t 5),none⟩,⟨some 7,.ld true 3 (.t 3),none⟩,⟨some 8,.callP 109 [.t 7],none⟩,⟨some 11,.faddr 0 (.t 3),none⟩,⟨some 12,.ld true 2 (.t 11),none⟩,⟨some 13,.ld true 3 (.t 2),none⟩,⟨some 9,.bsl 57 2 [.t 8],none⟩,⟨some 10,.callF 108 [.t 6,.t 9],none⟩,⟨some 14,.callP 109 [.t 13],none⟩,⟨some 15,.bsl 57 2 [.t 14],none⟩,⟨some 16,.callF 108 [.t 12,.t 15],none⟩,⟨some 17,.callP 122 [.t 10,.t 16],none⟩,⟨some 4,.mov (.t 17),none⟩])
 (.ret)))
def i76:IFn:=⟨2,18,c76,[.t 4],.pure⟩
def c77:IR:=
 .seq (.reg none [⟨some 1,.box 57 2 (.t 0),none⟩,⟨some 2,.mov (.k (.bool false)),none⟩])
 (.lv [1] (.seq (.reg none [⟨some 3,.faddr 1 (.t 1),none⟩,⟨some 4,.ld false 1 (.t 3),none⟩,⟨some 2,.mov (.t 4),none⟩])
 (.ret)))
def i77:IFn:=⟨1,5,c77,[.t 2],.pure⟩
def b78_1:IR:=
 .seq (.seq (.reg none [⟨some 21,.mov (.t 6),none⟩,⟨some 22,.bin .lt (.t 21) (.k (.int .i64 9)),none⟩,⟨some 23,.mov (.t 22),none⟩,⟨some 24,.mov (.t 5),(some (23,true))⟩,⟨some 25,.bin .gt (.t 24) (.k (.int .u32 0)),(some (23,true))⟩,⟨some 26,.mov (.t 25),(some (23,true))⟩,⟨some 27,.ld true 1 (.t 4),(some (26,false))⟩,⟨some 28,.callR 123 [.t 27],(some (26,false))⟩,⟨some 29,.not (.t 28),(some (26,false))⟩,⟨some 30,.pick (.t 26) (.k (.bool true)) (.t 29),(some (23,true))⟩,⟨some 31,.pick (.t 23) (.t 30) (.k (.bool false)),none⟩])
 (.lv [1,3,4,5,6,31] (.cond (.t 31) (.skip)
 (.exit 2))))
 (.lv [1,3,4,5,6] (.seq (.block 3 (.seq (.reg none [⟨some 34,.mov (.t 3),none⟩,⟨some 35,.mov (.t 5),none⟩,⟨some 36,.bin .rem (.t 35) (.k (.int .u32 10)),none⟩,⟨some 37,.bin .add (.k (.int .u32 48)) (.t 36),none⟩,⟨some 38,.conv .u8 (.t 37),none⟩,⟨some 39,.bsl 5 1 [.t 38],none⟩,⟨some 40,.app 5 1 1 (.t 34) (.t 39),none⟩,⟨some 3,.mov (.t 40),none⟩])
 (.lv [1,3,4,5,6] (.reg none [⟨some 41,.mov (.t 5),none⟩,⟨some 42,.bin .quo (.t 41) (.k (.int .u32 10)),none⟩,⟨some 5,.mov (.t 42),none⟩]))))
 (.lv [1,3,4,5,6] (.reg none [⟨some 32,.mov (.t 6),none⟩,⟨some 33,.bin .add (.t 32) (.k (.int .i64 1)),none⟩,⟨some 6,.mov (.t 33),none⟩]))))
def k78_0:IR:=
 .reg none [⟨some 43,.ld true 1 (.t 4),none⟩,⟨none,.st 1 (.t 1) (.t 43),none⟩]
def b78_0:IR:=
 .seq (.seq (.reg none [⟨some 13,.ld true 1 (.t 1),none⟩,⟨some 14,.callR 123 [.t 13],none⟩,⟨some 15,.not (.t 14),none⟩])
 (.lv [1,3,15] (.cond (.t 15) (.skip)
 (.exit 0))))
 (.lv [1,3] (.block 1 (.seq (.reg none [⟨some 17,.ld true 1 (.t 1),none⟩,⟨some 18,.callF 124 [.t 17,.k (.int .u32 1000000000)],none⟩,⟨some 16,.mov (.t 18),none⟩,⟨some 19,.ext (.t 16) 0,none⟩,⟨some 20,.ext (.t 16) 1,none⟩,⟨some 4,.alloc 55 [.nilsl 154 1],none⟩,⟨none,.st 1 (.t 4) (.t 19),none⟩,⟨some 5,.mov (.t 20),none⟩])
 (.lv [1,3,4,5] (.seq (.seq (.reg none [⟨some 6,.mov (.k (.int .i64 0)),none⟩])
 (.lv [1,3,4,5,6] (.block 2 (.loop [1,3,4,5,6] (some (4,[])) b78_1))))
 k78_0)))))
def b78_2:IR:=
 .seq (.seq (.reg none [⟨some 47,.mov (.t 7),none⟩,⟨some 48,.mov (.t 8),none⟩,⟨some 49,.bin .lt (.t 47) (.t 48),none⟩])
 (.lv [3,7,8,49] (.cond (.t 49) (.skip)
 (.exit 4))))
 (.lv [3,7,8] (.seq (.block 5 (.reg (some [0,1,2,3,4,5,6,7,8,9,10,11,12,13,14,15]) [⟨some 54,.mov (.t 3),none⟩,⟨some 55,.mov (.t 7),none⟩,⟨some 56,.mov (.t 3),none⟩,⟨some 57,.mov (.t 8),none⟩,⟨some 58,.mov (.t 3),none⟩,⟨some 59,.mov (.t 8),none⟩,⟨some 60,.iaddr 1 (.t 58) (.t 59),none⟩,⟨some 61,.ld false 1 (.t 60),none⟩,⟨some 62,.mov (.t 3),none⟩,⟨some 63,.mov (.t 7),none⟩,⟨some 64,.iaddr 1 (.t 62) (.t 63),none⟩,⟨some 65,.ld false 1 (.t 64),none⟩,⟨some 66,.iaddr 1 (.t 54) (.t 55),none⟩,⟨none,.st 1 (.t 66) (.t 61),none⟩,⟨some 67,.iaddr 1 (.t 56) (.t 57),none⟩,⟨none,.st 1 (.t 67) (.t 65),none⟩]))
 (.lv [3,7,8] (.reg none [⟨some 50,.mov (.t 7),none⟩,⟨some 51,.bin .add (.t 50) (.k (.int .i64 1)),none⟩,⟨some 52,.mov (.t 8),none⟩,⟨some 53,.bin .sub (.t 52) (.k (.int .i64 1)),none⟩,⟨some 7,.mov (.t 51),none⟩,⟨some 8,.mov (.t 53),none⟩]))))
def k78_1:IR:=
 .seq (.reg none [⟨some 68,.mov (.t 3),none⟩,⟨some 69,.b2s (.t 68),none⟩,⟨some 2,.mov (.t 69),none⟩])
 (.ret)
def k78_2:IR:=
 .seq (.seq (.reg none [⟨some 44,.mov (.t 3),none⟩,⟨some 45,.len (.t 44),none⟩,⟨some 46,.bin .sub (.t 45) (.k (.int .i64 1)),none⟩,⟨some 7,.mov (.k (.int .i64 0)),none⟩,⟨some 8,.mov (.t 46),none⟩])
 (.lv [3,7,8] (.block 4 (.loop [3,7,8] (some (2,[])) b78_2))))
 k78_1
def c78:IR:=
 .seq (.reg none [⟨some 1,.box 55 1 (.t 0),none⟩,⟨some 2,.mov (.k (.str ⟨#[]⟩)),none⟩])
 (.lv [1] (.seq (.seq (.reg none [⟨some 9,.faddr 0 (.t 1),none⟩,⟨some 10,.ld false 1 (.t 9),none⟩,⟨some 11,.len (.t 10),none⟩,⟨some 12,.bin .eq (.t 11) (.k (.int .i64 0)),none⟩])
 (.lv [1,12] (.cond (.t 12) (.lv [] (.seq (.reg none [⟨some 2,.mov (.k (.str ⟨#[48]⟩)),none⟩])
 (.ret)))
 (.skip))))
 (.lv [1] (.seq (.reg none [⟨some 3,.newnil 5 1,none⟩])
 (.lv [1,3] (.seq (.block 0 (.loop [1,3] (some (2,[])) b78_0))
 k78_2))))))
def i78:IFn:=⟨1,70,c78,[.t 2],.pure⟩
def c79:IR:=
 .seq (.reg none [⟨some 1,.box 59 3 (.t 0),none⟩,⟨some 2,.alloc 55 [.nilsl 154 1],none⟩])
 (.lv [1,2] (.seq (.seq (.reg none [⟨some 3,.faddr 2 (.t 1),none⟩,⟨some 4,.ld true 1 (.t 3),none⟩,⟨some 5,.callP 123 [.t 4],none⟩])
 (.lv [1,2,5] (.cond (.t 5) (.lv [2] (.seq (.reg none [⟨some 6,.callP 114 [.k (.int .u64 1)],none⟩,⟨none,.st 1 (.t 2) (.t 6),none⟩])
 (.ret)))
 (.skip))))
 (.lv [1,2] (.seq (.reg none [⟨some 7,.faddr 2 (.t 1),none⟩,⟨some 8,.ld true 1 (.t 7),none⟩,⟨none,.st 1 (.t 2) (.t 8),none⟩])
 (.ret)))))
def i79:IFn:=⟨1,9,c79,[.c 2 true 1],.pure⟩
end Go.Proofs.Ytlejgleocnemoaa.I
