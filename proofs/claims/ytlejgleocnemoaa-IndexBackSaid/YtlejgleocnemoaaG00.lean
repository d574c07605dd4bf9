/- The texts VDef VRep VMem VSnap VOpA VOpB VOpC VOpD, one behind the other. Conditions: each text's own. -/
import Derived.OwnWalk
import Derived.Maps.AppendAt
import Derived.Deep.OwnRows
import Derived.Deep.MidRow
import Derived.Laws.StructEq
import Derived.Lib.ConvBytes
import Derived.Laws.OwnMore
import Derived.Laws.BytesArg
set_option linter.unusedSimpArgs false
set_option linter.unusedVariables false
namespace Go.V
open Go
inductive AV where
  | any
  | int (k:IntKind) (n:Int)
  | bool (b:Bool)
  | str (s:ByteArray)
  | sl (n sz:Nat) (cs:List AV)
  | ptr (cs:List AV) (i:Nat)
  | nilptr
  | nilsl (ty sz:Nat)
  | loc (n g i:Nat)
  | arr (n g:Nat)
  | msl (n g off len:Nat)
  | agg (cs:List AV)
  | tup (vs:List AV)
  | fn (f:Nat) (caps:List AV)
  deriving Inhabited
structure AObj where
  box:Bool
  ty:Nat
  sz:Nat
  g:Nat
  n:Nat
  cs:List AV
  fr:Bool
abbrev Env:=List (Nat × AV)
structure St where
  env:Env
  mem:List AObj
inductive Opd where
  | t (n:Nat)
  | k (v:AV)
def getE:Env→Nat→AV
  | [],_=>.any
  | (m,v)::r,n=>if m=n then v else getE r n
def ev (env:Env):Opd→AV
  | .t n=>getE env n
  | .k v=>v
def geto (mem:List AObj) (n g:Nat):Option AObj:=
  match mem[n]? with
  | some o=>if o.g=g then some o else none
  | none=>none
def cellsOf:AV→Option (List AV)
  | .any=>none
  | .tup _=>none
  | .agg cs=>some cs
  | v=>some [v]
inductive Bin where
  | add|sub|mul|quo|rem|and|or|xor|shl|shr|eq|ne|lt|le|gt|ge
  deriving DecidableEq
inductive MOp where
  | bad
  | mov (x:Opd)
  | newnil (ty sz:Nat)
  | pick (c a b:Opd)
  | alloc (ty:Nat) (cs:List AV)
  | box (ty n:Nat) (x:Opd)
  | build (zero:List AV) (parts:List (Nat × Nat × Opd))
  | bsl (ty sz:Nat) (xs:List Opd)
  | bslF (ty sz:Nat) (xs:List Opd)
  | newnilB (ty sz:Nat)
  | bslB (ty sz:Nat) (xs:List Opd)
  | lenB (x:Opd)
  | appB (ty sz bytes:Nat) (s x:Opd)
  | allocA (js:List Nat) (j ty:Nat) (cs:List AV)
  | bslA (js:List Nat) (j ty sz:Nat)
  | appA (js:List Nat) (ty sz bytes:Nat) (s x:Opd)
  | ldb (agg:Bool) (n:Nat) (x:Opd)
  | faddrb (off:Nat) (x:Opd)
  | ldf (agg:Bool) (n:Nat) (x:Opd)
  | ld (agg:Bool) (n:Nat) (x:Opd)
  | st (n:Nat) (a x:Opd)
  | sta (avoid:List Nat) (n:Nat) (a x:Opd)
  | nilchk (x:Opd)
  | bin (op:Bin) (x y:Opd)
  | binb (op:Bin) (x y:Opd)
  | binp (op:Bin) (x y:Opd)
  | bins (op:Bin) (sig:List Nat) (x y:Opd)
  | neg (x:Opd)
  | com (x:Opd)
  | not (x:Opd)
  | conv (k:IntKind) (x:Opd)
  | mk (ty bytes:Nat) (zero:List AV) (x:Opd)
  | mk0 (ty sz bytes:Nat) (x:Opd)
  | mkB (ty bytes ty' sz':Nat) (x:Opd)
  | s2b (x:Opd)
  | b2s (x:Opd)
  | cpy (sz:Nat) (d x:Opd)
  | cut (sz:Nat) (x:Opd) (lo hi:Option Opd)
  | faddr (off:Nat) (x:Opd)
  | fld (agg:Bool) (off n:Nat) (x:Opd)
  | iaddr (sz:Nat) (x i:Opd)
  | iaddrf (sz:Nat) (x i:Opd)
  | sidx (x i:Opd)
  | len (x:Opd)
  | lenf (x:Opd)
  | slen (x:Opd)
  | scut (x:Opd) (lo hi:Option Opd)
  | app (ty sz bytes:Nat) (s x:Opd)
  | ext (x:Opd) (i:Nat)
  | mx (x y:Opd)
  | mn (x y:Opd)
  | mkfn (f:Nat) (xs:List Opd)
  | callP (f:Nat) (xs:List Opd)
  | callR (f:Nat) (xs:List Opd)
  | callF (f:Nat) (xs:List Opd)
  | callO (f:Nat) (xs:List Opd)
  | callZ (f:Nat) (xs:List Opd)
  | callG (f:Nat) (xs:List Opd)
  | callM (f:Nat) (xs:List Opd)
  | callV (x:Opd) (xs:List Opd)
structure IOp where
  dst:Option Nat
  op:MOp
  g:Option (Nat × Bool)
inductive IR where
  | skip
  | ret
  | exit (id:Nat)
  | reg (perm:Option (List Nat)) (ops:List IOp)
  | seq (a b:IR)
  | cond (c:Opd) (a b:IR)
  | block (id:Nat) (a:IR)
  | loop (live:List Nat) (keep:Option (Nat × List Nat)) (a:IR)
  | lv (live:List Nat) (a:IR)
  | rsv (b:Bool) (ty sz:Nat) (a:IR)
inductive Res where
  | t (n:Nat)
  | c (n:Nat) (agg:Bool) (k:Nat)
inductive Md where
  | pure|own|ref|ownB
  deriving DecidableEq
structure IFn where
  nparams:Nat
  ntmps:Nat
  body:IR
  res:List Res
  md:Md
mutual
def snap (mem:List AObj):Nat→AV→Option AV
  | 0,_=>none
  | k+1,.arr n g=>match geto mem n g with
    | some o=>(snapL mem k o.box o.cs).map fun cs=>.sl o.n o.sz cs
    | none=>none
  | k+1,.msl n g off len=>match geto mem n g with
    | some o=>if o.box then none else some (.sl len o.sz ((o.cs.drop (off*o.sz)).take (len*o.sz)))
    | none=>none
  | k+1,.loc n g i=>match geto mem n g with
    | some o=>(snapL mem k o.box o.cs).map fun cs=>.ptr cs i
    | none=>none
  | k+1,.agg cs=>(snapL mem k true cs).map .agg
  | k+1,.tup cs=>(snapL mem k true cs).map .tup
  | k+1,.fn f cs=>(snapL mem k true cs).map (.fn f)
  | _+1,.nilsl _ sz=>some (.sl 0 sz [])
  | _+1,v=>some v
def snapL (mem:List AObj):Nat→Bool→List AV→Option (List AV)
  | 0,_,_=>none
  | _+1,false,cs=>some cs
  | k+1,true,cs=>cs.mapM (snap mem k)
end
mutual
def refs (mem:List AObj):Nat→AV→List Nat
  | 0,_=>[]
  | k+1,.arr n g=>n::(match geto mem n g with|some o=>refsL mem k o.box o.cs|none=>[])
  | _+1,.msl n _ _ _=>[n]
  | k+1,.loc n g _=>n::(match geto mem n g with|some o=>refsL mem k o.box o.cs|none=>[])
  | k+1,.agg cs=>refsL mem k true cs
  | k+1,.tup cs=>refsL mem k true cs
  | k+1,.fn _ cs=>refsL mem k true cs
  | _+1,_=>[]
def refsL (mem:List AObj):Nat→Bool→List AV→List Nat
  | 0,_,_=>[]
  | _+1,false,_=>[]
  | k+1,true,cs=>cs.flatMap (refs mem k)
end
def freeze (ns:List Nat) (mem:List AObj):List AObj:=mem.mapIdx fun i o=>if ns.contains i then { o with fr:=true } else o
def adopt:List AV→List AObj→List AV × List AObj
  | [],mem=>([],mem)
  | .nilsl ty sz::cs,mem=>
    let r:=adopt cs (mem++[⟨false,ty,sz,0,0,[],false⟩])
    (.arr mem.length 0::r.1,r.2)
  | c::cs,mem=>
    let r:=adopt cs mem
    (c::r.1,r.2)
def scalar:AV→Bool
  | .int _ _|.bool _|.str _=>true
  | _=>false
def scalars:AV→Bool
  | .agg cs=>cs.all scalar
  | .tup cs=>cs.all fun|.agg ds=>ds.all scalar|v=>scalar v
  | v=>scalar v
def ownish:AV→Bool
  | .arr _ _=>true
  | c=>scalar c
def ownishR:AV→Bool
  | .tup vs=>vs.all ownish
  | .loc _ _ _=>true
  | c=>ownish c
def made (o:AObj):Bool:=!o.box || o.cs.all ownish
mutual
def under (m:Nat):AV→Bool
  | .arr n _|.loc n _ _|.msl n _ _ _=>decide (n<m)
  | .agg cs|.tup cs|.fn _ cs=>underL m cs
  | _=>true
termination_by structural a=>a
def underL (m:Nat):List AV→Bool
  | []=>true
  | c::cs=>under m c&&underL m cs
termination_by structural cs=>cs
end
def arith (op:Bin) (k:IntKind) (x y:Int):Option AV:=
  match op with
  | .add=>some (.int k (k.wrap (x+y)))
  | .sub=>some (.int k (k.wrap (x - y)))
  | .mul=>some (.int k (k.wrap (x*y)))
  | .quo=>if y=0 then none else some (.int k (k.wrap (x.tdiv y)))
  | .rem=>if y=0 then none else some (.int k (x.tmod y))
  | .and=>some (.int k (k.wrap (BitVec.ofInt k.bits x &&& BitVec.ofInt k.bits y).toNat))
  | .or=>some (.int k (k.wrap (BitVec.ofInt k.bits x ||| BitVec.ofInt k.bits y).toNat))
  | .xor=>some (.int k (k.wrap (BitVec.ofInt k.bits x ^^^ BitVec.ofInt k.bits y).toNat))
  | .eq=>some (.bool (x==y))
  | .ne=>some (.bool (x != y))
  | .lt=>some (.bool (x<y))
  | .le=>some (.bool (x≤y))
  | .gt=>some (.bool (x > y))
  | .ge=>some (.bool (x≥y))
  | _=>none
def shiftOp (op:Bin) (k:IntKind) (x y:Int):Option AV:=
  if y<0 then none else
  match op with
  | .shl=>some (.int k (k.wrap (x*2^(min y.toNat k.bits))))
  | .shr=>some (.int k (x.fdiv (2^(min y.toNat k.bits))))
  | _=>none
def strOp (op:Bin) (x y:ByteArray):Option AV:=
  match op with
  | .add=>if ((x.size+y.size:Nat):Int) > IntKind.i64.max then none else some (.str (x++y))
  | .eq=>some (.bool (x.toList==y.toList))
  | .ne=>some (.bool !(x.toList==y.toList))
  | .lt=>some (.bool (Op.bytesLess x.toList y.toList))
  | .le=>some (.bool (Op.bytesLess x.toList y.toList || x.toList==y.toList))
  | .gt=>some (.bool !(Op.bytesLess x.toList y.toList || x.toList==y.toList))
  | .ge=>some (.bool !(Op.bytesLess x.toList y.toList))
  | _=>none
def scalEq:AV→AV→Option Bool
  | .int k a,.int k' b=>if k=k' then some (a==b) else none
  | .bool a,.bool b=>some (a==b)
  | .str a,.str b=>some (a==b)
  | _,_=>none
def scalarsEq:List AV→List AV→Option Bool
  | [],[]=>some true
  | a::as,b::bs=>match scalEq a b with
    | some true=>scalarsEq as bs
    | some false=>some false
    | none=>none
  | _,_=>none
def binV (op:Bin):AV→AV→Option AV
  | .int k x,.int k' y=>if op=.shl∨op=.shr then shiftOp op k x y else if k=k' then arith op k x y else none
  | .str a,.str b=>strOp op a b
  | _,_=>none
def boolV (op:Bin):AV→AV→Option AV
  | .bool a,.bool b=>if op=.eq then some (.bool (a==b)) else if op=.ne then some (.bool (!(a==b))) else none
  | _,_=>none
def nilV (op:Bin):AV→AV→Option AV
  | .nilptr,.nilptr=>if op=.eq then some (.bool true) else if op=.ne then some (.bool (!true)) else none
  | .ptr _ _,.nilptr=>if op=.eq then some (.bool false) else if op=.ne then some (.bool (!false)) else none
  | _,_=>none
def kindOf:AV→Nat
  | .bool _=>0
  | .int _ _=>1
  | .str _=>2
  | _=>3
def structV (op:Bin) (sig:List Nat):AV→AV→Option AV
  | .agg cs,.agg ds=>if cs.map kindOf=sig∧ds.map kindOf=sig then (scalarsEq cs ds).bind fun r=>if op=.eq then some (.bool r) else if op=.ne then some (.bool (!r)) else none else none
  | _,_=>none
def nilArg (mem:List AObj):AV→AV
  | .loc n g _=>match geto mem n g with
    | some _=>.ptr [] 0
    | none=>.any
  | v=>v
def sub (agg:Bool) (n:Nat) (cs:List AV) (i:Nat):Option AV:=
  if i+n≤cs.length then
    if agg then some (.agg ((cs.drop i).take n)) else if n=1 then cs[i]? else none
  else none
def fillIn (cs:List AV) (i:Nat) (ds:List AV):List AV:=cs.take i++ds++cs.drop (i+ds.length)
def fillAll:List (Nat × Nat × Opd)→(Opd→AV)→List AV→Option (List AV)
  | [],_,cs=>some cs
  | (off,n,x)::ps,e,cs=>match cellsOf (e x) with
    | some ds=>if ds.length=n∧off+n≤cs.length then fillAll ps e (fillIn cs off ds) else none
    | none=>none
def bytesAV (s:ByteArray):List AV:=s.data.toList.map fun b=>.int .u8 b.toNat
def byteOfAV:AV→Option UInt8
  | .int .u8 n=>some (UInt8.ofNat n.toNat)
  | _=>none
def bytesOfAV (cs:List AV):Option ByteArray:=(cs.mapM byteOfAV).map fun (l:List UInt8)=>⟨l.toArray⟩
def rowOf (mem:List AObj):AV→Option (Nat × Nat × List AV)
  | .sl n sz cs=>some (n,sz,cs)
  | .nilsl _ sz=>some (0,sz,[])
  | .arr n g=>match geto mem n g with
    | some o=>if o.box then none else some (o.n,o.sz,o.cs)
    | none=>none
  | .msl n g off len=>match geto mem n g with
    | some o=>if o.box then none else some (len,o.sz,(o.cs.drop (off*o.sz)).take (len*o.sz))
    | none=>none
  | _=>none
def bound (lo:Option Opd) (e:Opd→AV) (d:Nat) (most:Nat):Option Nat:=
  match lo with
  | none=>some d
  | some x=>match e x with
    | .int _ i=>if 0≤i∧i≤most then some i.toNat else none
    | _=>none
def cutOp (mem:List AObj) (sz:Nat) (x:AV) (lo hi:Option Opd) (e:Opd→AV):Option AV:=
  match x with
  | .sl n sz' cs=>if sz=sz' then (bound hi e n n).bind fun h=>(bound lo e 0 h).bind fun l=>some (.sl (h - l) sz ((cs.drop (l*sz)).take ((h - l)*sz))) else none
  | .arr n g=>match geto mem n g with
    | some o=>if o.sz=sz∧o.box=false then (bound hi e o.n o.n).bind fun h=>(bound lo e 0 h).bind fun l=>some (.msl n g l (h - l)) else none
    | none=>none
  | .msl n g off len=>match geto mem n g with
    | some o=>if o.sz=sz∧o.box=false then (bound hi e len len).bind fun h=>(bound lo e 0 h).bind fun l=>some (.msl n g (off+l) (h - l)) else none
    | none=>none
  | _=>none
def storeOp (mem:List AObj) (n:Nat) (a x:AV):Option (AV × List AObj):=
  match a with
    | .loc m g i=>match geto mem m g with
      | some o=>match cellsOf x with
        | some cs=>if cs.length=n∧i+n≤o.cs.length∧o.fr=false then
            if o.box then
              let r:=adopt cs mem
              some (.any,r.2.set m { o with cs:=fillIn o.cs i r.1 })
            else match snapL mem 9 true cs with
              | some ds=>if (refsL mem 9 true cs).contains m then none else some (.any,(freeze (refsL mem 9 true cs) mem).set m { o with cs:=fillIn o.cs i ds })
              | none=>none
          else none
        | none=>none
      | none=>none
    | _=>none
def apartOf:AV→AV→Bool
  | .loc m _ _,.loc n _ _=>m != n
  | _,_=>false
def evalOp (mem:List AObj) (e:Opd→AV):MOp→Option (AV × List AObj)
  | .mov x=>some (e x,mem)
  | .newnil ty sz=>some (.arr mem.length 0,mem++[⟨false,ty,sz,0,0,[],false⟩])
  | .pick c a b=>match e c with
    | .bool t=>some (if t then e a else e b,mem)
    | _=>none
  | .alloc ty cs=>
    let r:=adopt cs mem
    some (.loc r.2.length 0 0,r.2++[⟨true,ty,cs.length,0,1,r.1,false⟩])
  | .box ty n x=>match cellsOf (e x) with
    | some cs=>if cs.length=n then
        let r:=adopt cs mem
        some (.loc r.2.length 0 0,r.2++[⟨true,ty,n,0,1,r.1,false⟩])
      else none
    | none=>none
  | .build zero parts=>(fillAll parts e zero).map fun cs=>(.agg cs,mem)
  | .bsl ty sz xs=>match xs.mapM (fun x=>(cellsOf (e x)).bind fun cs=>if cs.length=sz then snapL mem 9 true cs else none) with
    | some css=>some (.arr mem.length 0,freeze (xs.flatMap fun x=>refsL mem 9 true ((cellsOf (e x)).getD [])) mem++[⟨false,ty,sz,0,xs.length,css.flatten,false⟩])
    | none=>none
  | .bslF ty sz xs=>match xs.mapM (fun x=>(cellsOf (e x)).bind fun cs=>if cs.length=sz then snapL [] 9 true cs else none) with
    | some css=>some (.sl xs.length sz css.flatten,mem)
    | none=>none
  | .newnilB ty sz=>some (.arr mem.length 0,mem++[⟨true,ty,sz,0,0,[],false⟩])
  | .bslB ty sz xs=>match xs.mapM (fun x=>(cellsOf (e x)).bind fun cs=>if cs.length=sz then some cs else none) with
    | some css=>some (.arr mem.length 0,mem++[⟨true,ty,sz,0,xs.length,css.flatten,false⟩])
    | none=>none
  | .lenB x=>match e x with
    | .arr n g=>(geto mem n g).map fun o=>(.int .i64 o.n,mem)
    | _=>none
  | .appB ty sz bytes s x=>match e x with
    | .arr m h=>match geto mem m h with
      | some p=>match e s with
        | .arr n g=>match geto mem n g with
          | some o=>if o.box=true∧o.fr=false∧o.sz=sz∧p.sz=sz∧o.ty=ty∧(o.n+p.n)*bytes≤140737488355328∧o.n+p.n≤140737488355328 then
              some (.arr n (g+1),mem.set n { o with g:=g+1,n:=o.n+p.n,cs:=o.cs++p.cs })
            else none
          | none=>none
        | _=>none
      | none=>none
    | _=>none
  | .allocA js j ty cs=>if js.contains j=false then match geto mem j 0 with
      | some o=>if o.box=true∧o.fr=false∧o.n=0∧o.sz=cs.length∧o.ty=ty then some (.loc j 1 0,mem.set j { o with g:=1,n:=1,cs:=cs }) else none
      | none=>none
    else none
  | .bslA js j ty sz=>if js.contains j=false then match geto mem j 0 with
      | some o=>if o.box=false∧o.fr=false∧o.n=0∧o.sz=sz∧o.ty=ty then some (.arr j 1,mem.set j { o with g:=1,n:=0,cs:=[] }) else none
      | none=>none
    else none
  | .appA js ty sz bytes s x=>match e x with
    | .sl m sz' ds=>if sz'=sz then match e s with
        | .arr n g=>if js.contains n=false then match geto mem n g with
            | some o=>if o.box=false∧o.fr=false∧o.sz=sz∧o.ty=ty∧(o.n+m)*bytes≤140737488355328∧o.n+m≤140737488355328 then
                some (.arr n (g+1),mem.set n { o with g:=g+1,n:=o.n+m,cs:=o.cs++ds })
              else none
            | none=>none
          else none
        | _=>none
      else none
    | _=>none
  | .ldb agg n x=>match e x with
    | .ptr cs i=>(sub agg n cs i).map fun v=>(v,mem)
    | .loc m g i=>match geto mem m g with
      | some o=>if o.box=true∧o.n≠0 then (sub agg n o.cs i).map fun v=>(v,mem) else none
      | none=>none
    | _=>none
  | .faddrb off x=>match e x with
    | .ptr cs i=>some (.ptr cs (i+off),mem)
    | .loc n g i=>match geto mem n g with
      | some o=>if o.box=true∧o.n≠0 then some (.loc n g (i+off),mem) else none
      | none=>none
    | _=>none
  | .ldf agg n x=>match e x with
    | .ptr cs i=>(sub agg n cs i).map fun v=>(v,mem)
    | _=>none
  | .ld agg n x=>match e x with
    | .ptr cs i=>(sub agg n cs i).map fun v=>(v,mem)
    | .loc m g i=>match geto mem m g with
      | some o=>(sub agg n o.cs i).map fun v=>(v,mem)
      | none=>none
    | _=>none
  | .st n a x=>storeOp mem n (e a) (e x)
  | .sta avoid n a x=>if avoid.all (fun t=>apartOf (e (.t t)) (e a)) then storeOp mem n (e a) (e x) else none
  | .nilchk x=>match e x with
    | .ptr cs i=>some (.ptr cs i,mem)
    | .loc n g i=>(geto mem n g).map fun _=>(.loc n g i,mem)
    | _=>none
  | .bin op x y=>(binV op (e x) (e y)).map fun v=>(v,mem)
  | .binb op x y=>(boolV op (e x) (e y)).map fun v=>(v,mem)
  | .binp op x y=>(nilV op (nilArg mem (e x)) (e y)).map fun v=>(v,mem)
  | .bins op n x y=>(structV op n (e x) (e y)).map fun v=>(v,mem)
  | .neg x=>match e x with
    | .int k n=>some (.int k (k.wrap (0 - n)),mem)
    | _=>none
  | .com x=>match e x with
    | .int k n=>some (.int k (k.wrap (BitVec.ofInt k.bits (if k.signed then -1 else k.max) ^^^ BitVec.ofInt k.bits n).toNat),mem)
    | _=>none
  | .not x=>match e x with
    | .bool b=>some (.bool !b,mem)
    | _=>none
  | .conv k x=>match e x with
    | .int _ n=>some (.int k (k.wrap n),mem)
    | _=>none
  | .mk ty bytes zero x=>match e x with
    | .int _ n=>if 0≤n∧bytes*n.toNat≤140737488355328∧n≤140737488355328 then
        some (.arr mem.length 0,mem++[⟨false,ty,zero.length,0,n.toNat,(List.replicate n.toNat zero).flatten,false⟩])
      else none
    | _=>none
  | .mk0 ty sz bytes x=>match e x with
    | .int _ n=>if 0≤n∧bytes*n.toNat≤140737488355328∧n≤140737488355328 then
        some (.arr mem.length 0,mem++[⟨false,ty,sz,0,0,[],false⟩])
      else none
    | _=>none
  | .mkB ty bytes ty' sz' x=>match e x with
    | .int _ n=>if 0≤n∧bytes*n.toNat≤140737488355328∧n≤140737488355328 then
        let r:=adopt (List.replicate n.toNat (.nilsl ty' sz')) mem
        some (.arr r.2.length 0,r.2++[⟨true,ty,1,0,n.toNat,r.1,false⟩])
      else none
    | _=>none
  | .s2b x=>match e x with
    | .str s=>some (.sl s.size 1 (bytesAV s),mem)
    | _=>none
  | .b2s x=>(rowOf mem (e x)).bind fun r=>if r.2.1=1 then (bytesOfAV r.2.2).map fun s=>(.str s,mem) else none
  | .cpy sz d x=>match rowOf mem (e x) with
    | some (m,sz',ds)=>if sz'=sz then match e d with
        | .arr n g=>match geto mem n g with
          | some o=>if o.box=false∧o.fr=false∧o.sz=sz∧m≤o.n then
              some (.int .i64 m,mem.set n { o with cs:=fillIn o.cs 0 ds })
            else none
          | none=>none
        | _=>none
      else none
    | none=>none
  | .cut sz x lo hi=>(cutOp mem sz (e x) lo hi e).map fun v=>(v,mem)
  | .faddr off x=>match e x with
    | .ptr cs i=>some (.ptr cs (i+off),mem)
    | .loc n g i=>(geto mem n g).map fun _=>(.loc n g (i+off),mem)
    | _=>none
  | .fld agg off n x=>match e x with
    | .agg cs=>(sub agg n cs off).map fun v=>(v,mem)
    | _=>none
  | .iaddr sz x i=>match e i with
    | .int _ j=>match e x with
      | .sl n sz' cs=>if sz=sz'∧0≤j∧j<n then some (.ptr cs (j.toNat*sz),mem) else none
      | .arr n g=>match geto mem n g with
        | some o=>if sz=o.sz∧0≤j∧j<o.n then some (.loc n g (j.toNat*sz),mem) else none
        | none=>none
      | .msl n g off len=>match geto mem n g with
        | some o=>if sz=o.sz∧0≤j∧j<len then some (.loc n g (off*sz+j.toNat*sz),mem) else none
        | none=>none
      | _=>none
    | _=>none
  | .iaddrf sz x i=>match e i with
    | .int _ j=>match e x with
      | .sl n sz' cs=>if sz=sz'∧0≤j∧j<n then some (.ptr cs (j.toNat*sz),mem) else none
      | _=>none
    | _=>none
  | .sidx x i=>match e i with
    | .int _ j=>match e x with
      | .str s=>if 0≤j then (s[j.toNat]?).map fun b=>(.int .u8 b.toNat,mem) else none
      | _=>none
    | _=>none
  | .len x=>(rowOf mem (e x)).map fun r=>(.int .i64 r.1,mem)
  | .lenf x=>match e x with
    | .sl n _ _=>some (.int .i64 n,mem)
    | _=>none
  | .slen x=>match e x with
    | .str s=>some (.int .i64 s.size,mem)
    | _=>none
  | .scut x lo hi=>match e x with
    | .str s=>(bound hi e s.size s.size).bind fun h=>(bound lo e 0 h).bind fun l=>some (.str (s.extract l h),mem)
    | _=>none
  | .app ty sz bytes s x=>match rowOf mem (e x) with
    | some (m,sz',ds)=>if sz'=sz then match e s with
        | .arr n g=>match geto mem n g with
          | some o=>if o.box=false∧o.fr=false∧o.sz=sz∧o.ty=ty∧(o.n+m)*bytes≤140737488355328∧o.n+m≤140737488355328 then
              some (.arr n (g+1),mem.set n { o with g:=g+1,n:=o.n+m,cs:=o.cs++ds })
            else none
          | none=>none
        | _=>none
      else none
    | none=>none
  | .ext x i=>match e x with
    | .tup vs=>(vs[i]?).map fun v=>(v,mem)
    | _=>none
  | .mx x y=>match e x,e y with
    | .int k a,.int k' b=>if k=k' then some (.int k (if b > a then b else a),mem) else none
    | _,_=>none
  | .mn x y=>match e x,e y with
    | .int k a,.int k' b=>if k=k' then some (.int k (if b<a then b else a),mem) else none
    | _,_=>none
  | .mkfn f xs=>some (.fn f (xs.map e),mem)
  | _=>none
abbrev CallRel:=Nat→List AV→List AObj→AV→List AObj→Prop
def shiftV (d:Nat):AV→AV
  | .arr n g=>.arr (n+d) g
  | .loc n g i=>.loc (n+d) g i
  | v=>v
def shiftO (d:Nat) (o:AObj):AObj:=if o.box then { o with cs:=o.cs.map (shiftV d) } else o
def shiftR (d:Nat):AV→AV
  | .agg cs=>.agg (cs.map (shiftV d))
  | .tup vs=>.tup (vs.map fun|.agg cs=>.agg (cs.map (shiftV d))|v=>shiftV d v)
  | v=>shiftV d v
def plainArg:AV→Bool
  | .nilsl _ _=>true
  | c=>scalar c
inductive OpR (C:CallRel) (mem:List AObj) (e:Opd→AV):MOp→AV→List AObj→Prop
  | op {io v m}:evalOp mem e io=some (v,m)→OpR C mem e io v m
  | callP {f xs as r}:xs.mapM (fun x=>snap [] 10 (e x))=some as→C f as [] r []→OpR C mem e (.callP f xs) r mem
  | callR {f xs as r}:xs.mapM (fun x=>snap mem 10 (e x))=some as→C f as [] r []→scalars r=true→OpR C mem e (.callR f xs) r mem
  | callF {f xs as r}:xs.mapM (fun x=>snap mem 10 (e x))=some as→C f as [] r []→OpR C mem e (.callF f xs) r (freeze (xs.flatMap fun x=>refs mem 10 (e x)) mem)
  | callO {f xs as r m}:xs.mapM (fun x=>snap mem 10 (e x))=some as→C f as [] r m→(m.all made)=true→ownishR r=true→
      OpR C mem e (.callO f xs) (shiftR mem.length r) (freeze (xs.flatMap fun x=>refs mem 10 (e x)) mem++m.map (shiftO mem.length))
  | callZ {f xs as r m r'}:xs.mapM (fun x=>snap mem 10 (e x))=some as→C f as [] r m→snap m 10 r=some r'→
      OpR C mem e (.callZ f xs) r' (freeze (xs.flatMap fun x=>refs mem 10 (e x)) mem)
  | callG {f xs r m}:(xs.all fun x=>plainArg (e x))=true→C f (xs.map e) [] r m→(m.all made)=true→ownishR r=true→OpR C mem e (.callG f xs) (shiftR mem.length r) (mem++m.map (shiftO mem.length))
  | callM {f xs r m}:C f (xs.map e) mem r m→OpR C mem e (.callM f xs) r m
  | callV {x xs f caps as bs r}:e x=.fn f caps→xs.mapM (fun x=>snap mem 10 (e x))=some as→caps.mapM (fun c=>snap mem 10 c)=some bs→C f (as++bs) [] r []→scalars r=true→
      OpR C mem e (.callV x xs) r mem
def putE (env:Env) (d:Option Nat) (v:AV):Env:=
  match d with
  | some d=>(d,v)::env
  | none=>env
inductive StepR (C:CallRel) (s:St) (o:IOp):St→Prop
  | go {v m}:(o.g=none∨∃t b,o.g=some (t,b)∧ev s.env (.t t)=.bool b)→OpR C s.mem (ev s.env) o.op v m→StepR C s o ⟨putE s.env o.dst v,m⟩
  | no {t b}:o.g=some (t,b)→(ev s.env (.t t)=.bool (!b)∨ev s.env (.t t)=.tup [])→StepR C s o ⟨putE s.env o.dst (.tup []),s.mem⟩
inductive RegR (C:CallRel):List IOp→St→St→Prop
  | nil {s}:RegR C [] s s
  | cons {o os s s1 s2}:StepR C s o s1→RegR C os s1 s2→RegR C (o::os) s s2
inductive X where
  | nrm
  | exit (id:Nat)
  | ret
def keepOne (mem:List AObj) (env:Env) (ts:List Nat) (n:Nat):Option (Nat × AV):=
  if ts.contains n then (snap mem 10 (getE env n)).map fun v=>(n,v) else some (n,getE env n)
def headOf (live:List Nat) (keep:Option (Nat × List Nat)) (s:St):Option St:=
  match keep with
  | none=>some ⟨live.map fun n=>(n,getE s.env n),s.mem⟩
  | some (m,[])=>
    let env:=live.map fun n=>(n,getE s.env n)
    if env.all (fun p=>under m p.2)&&(s.mem.take m).all (fun o=>!o.box || underL m o.cs) then some ⟨env,s.mem.take m⟩ else none
  | some (m,t::ts)=>
    match live.mapM (keepOne s.mem s.env (t::ts)) with
    | some env=>
      let mem:=freeze ((t::ts).flatMap fun n=>refs s.mem 10 (getE s.env n)) s.mem
      if env.all (fun p=>under m p.2)&&(mem.take m).all (fun o=>!o.box || underL m o.cs) then some ⟨env,mem.take m⟩ else none
    | none=>none
inductive Exec (C:CallRel):IR→St→X→St→Prop
  | skip {s}:Exec C .skip s .nrm s
  | ret {s}:Exec C .ret s .ret s
  | exit {id s}:Exec C (.exit id) s (.exit id) s
  | reg {d ops s s'}:RegR C ops s s'→Exec C (.reg d ops) s .nrm s'
  | seqN {a b s s1 x s2}:Exec C a s .nrm s1→Exec C b s1 x s2→Exec C (.seq a b) s x s2
  | seqX {a b s x s1}:Exec C a s x s1→x≠.nrm→Exec C (.seq a b) s x s1
  | condT {c a b s x s1}:ev s.env c=.bool true→Exec C a s x s1→Exec C (.cond c a b) s x s1
  | condF {c a b s x s1}:ev s.env c=.bool false→Exec C b s x s1→Exec C (.cond c a b) s x s1
  | blockE {id a s s1}:Exec C a s (.exit id) s1→Exec C (.block id a) s .nrm s1
  | blockX {id a s x s1}:Exec C a s x s1→x≠.exit id→Exec C (.block id a) s x s1
  | rsv {b ty sz a s x s1}:Exec C a ⟨s.env,s.mem++[⟨b,ty,sz,0,0,[],false⟩]⟩ x s1→Exec C (.rsv b ty sz a) s x s1
  | lv {live a s x s1}:Exec C a ⟨live.map fun n=>(n,getE s.env n),s.mem⟩ x s1→Exec C (.lv live a) s x s1
  | loopN {live keep a s s0 s1 x s2}:headOf live keep s=some s0→Exec C a s0 .nrm s1→Exec C (.loop live keep a) s1 x s2→Exec C (.loop live keep a) s x s2
  | loopX {live keep a s s0 x s1}:headOf live keep s=some s0→Exec C a s0 x s1→x≠.nrm→Exec C (.loop live keep a) s x s1
def resOf (s:St):Res→Option AV
  | .t n=>some (ev s.env (.t n))
  | .c n agg k=>match ev s.env (.t n) with
    | .loc m g i=>(geto s.mem m g).bind fun o=>sub agg k o.cs i
    | _=>none
def resAll (s:St) (rs:List Res):Option AV:=
  match rs with
  | [r]=>resOf s r
  | rs=>(rs.mapM (resOf s)).map .tup
def ownV (mem:List AObj) (a:AV) (acc:List AObj) (ns:List Nat):Option (AV × List AObj × List Nat):=
  match a with
  | .arr n g=>match geto mem n g with
    | some o=>if o.box=false∧o.fr=false∧ns.contains n=false then some (.arr acc.length 0,acc++[{ o with g:=0 }],n::ns) else none
    | none=>none
  | _=>if scalar a then some (a,acc,ns) else none
def ownL (mem:List AObj):List AV→List AObj→List Nat→Option (List AV × List AObj × List Nat)
  | [],acc,ns=>some ([],acc,ns)
  | a::as,acc,ns=>(ownV mem a acc ns).bind fun r=>(ownL mem as r.2.1 r.2.2).map fun q=>(r.1::q.1,q.2)
def ownOut (mem:List AObj):AV→Option (AV × List AObj)
  | .tup vs=>(ownL mem vs [] []).map fun r=>(.tup r.1,r.2.1)
  | .loc n g i=>match geto mem n g with
    | some o=>if o.box=true∧o.fr=false then (ownL mem o.cs [] []).map fun r=>(.loc r.2.1.length 0 i,r.2.1++[{ o with g:=0,cs:=r.1 }]) else none
    | none=>none
  | v=>(ownV mem v [] []).map fun r=>(r.1,r.2.1)
def ownOutB (mem:List AObj):AV→Option (AV × List AObj)
  | .arr n g=>match geto mem n g with
    | some o=>if o.box=true∧o.fr=false then (ownL mem o.cs [] []).map fun r=>(.arr r.2.1.length 0,r.2.1++[{ o with g:=0,cs:=r.1 }]) else none
    | none=>none
  | _=>none
def argsE:Nat→List AV→Env
  | _,[]=>[]
  | i,a::as=>(i,a)::argsE (i+1) as
def CallOf (tab:Nat→Option IFn) (C:CallRel):CallRel:=fun f as mem r mem'=>
  ∃ fn s x rv,tab f=some fn∧as.length=fn.nparams∧as.length≤fn.ntmps∧
    Exec C fn.body ⟨argsE 0 as,mem⟩ x s∧(x=.nrm∨x=.ret)∧resAll s fn.res=some rv∧
    match fn.md with
    | .pure=>mem=[]∧mem'=[]∧snap s.mem 10 rv=some r
    | .own=>mem=[]∧ownOut s.mem rv=some (r,mem')
    | .ref=>r=rv∧mem'=s.mem
    | .ownB=>mem=[]∧ownOutB s.mem rv=some (r,mem')
def CallN (tab:Nat→Option IFn) (E:CallRel):Nat→CallRel
  | 0=>E
  | n+1=>fun f as mem r mem'=>CallN tab E n f as mem r mem'∨CallOf tab (CallN tab E n) f as mem r mem'
def Call (tab:Nat→Option IFn) (E:CallRel):CallRel:=fun f as mem r mem'=>∃n,CallN tab E n f as mem r mem'
end Go.V

namespace Go.V
open Go
inductive RG (w:World) (fz:Nat→Prop):AV→Value→Prop
  | any {v}:RG w fz .any v
  | int {k n}:RG w fz (.int k n) (.int k n)
  | bool {b}:RG w fz (.bool b) (.bool b)
  | str {s}:RG w fz (.str s) (.string s)
  | nilptr:RG w fz .nilptr (.pointer none)
  | nilsl {ty sz:Nat}:0<sz→RG w fz (.nilsl ty sz) (.slice none 0 0)
  | sl0 {sz A cap}:RG w fz (.sl 0 sz []) (.slice A 0 cap)
  | sl {n sz b o cap:Nat} {cs:List AV} {vs:List Value}:0<n→n≤cap→cs.length=n*sz→vs.length=cs.length→fz b→(∀u∈vs,u.oneCell'=true)→
      (∀(j:Nat) (u:Value),vs[j]?=some u→w.cell? ⟨b,o+j,none⟩=some u)→(∀(j:Nat) (c:AV) (u:Value),cs[j]?=some c→vs[j]?=some u→RG w fz c u)→RG w fz (.sl n sz cs) (.slice (some ⟨b,o,none⟩) n cap)
  | ptr {i b o:Nat} {cs:List AV} {vs:List Value}:vs.length=cs.length→fz b→(∀u∈vs,u.oneCell'=true)→
      (∀(j:Nat) (u:Value),vs[j]?=some u→w.cell? ⟨b,o+j,none⟩=some u)→(∀(j:Nat) (c:AV) (u:Value),cs[j]?=some c→vs[j]?=some u→RG w fz c u)→RG w fz (.ptr cs i) (.pointer (some ⟨b,o+i,none⟩))
  | agg {cs:List AV} {vs:Array Value}:vs.size=cs.length→(∀(j:Nat) (u:Value),vs[j]?=some u→u.oneCell'=true)→(∀(j:Nat) (c:AV) (u:Value),cs[j]?=some c→vs[j]?=some u→RG w fz c u)→RG w fz (.agg cs) (.agg vs)
  | tup {cs:List AV} {vs:Array Value}:vs.size=cs.length→(∀(j:Nat) (c:AV) (u:Value),cs[j]?=some c→vs[j]?=some u→RG w fz c u)→RG w fz (.tup cs) (.tuple vs)
  | fn {f:Nat} {cs:List AV} {vs:Array Value}:vs.size=cs.length→(∀(j:Nat) (c:AV) (u:Value),cs[j]?=some c→vs[j]?=some u→RG w fz c u)→RG w fz (.fn f cs) (.func (.func f) #[] vs)
inductive Rep (w:World) (fz:Nat→Prop) (mem:List AObj) (ρ:List Value):AV→Value→Prop
  | gr {a v}:RG w fz a v→Rep w fz mem ρ a v
  | arr {n g:Nat} {o:AObj} {v:Value}:mem[n]?=some o→g≤o.g→v.oneCell'=true→(g=o.g→ρ[n]?=some v)→Rep w fz mem ρ (.arr n g) v
  | loc {n g i:Nat} {o:AObj} {v:Value}:mem[n]?=some o→g≤o.g→v.oneCell'=true→
      (g=o.g→∃(b k cap:Nat),ρ[n]?=some (.slice (some ⟨b,0,none⟩) k cap)∧v=.pointer (some ⟨b,i,none⟩))→Rep w fz mem ρ (.loc n g i) v
  | msl {n g off len:Nat} {o:AObj} {v:Value}:mem[n]?=some o→g≤o.g→v.oneCell'=true→
      (g=o.g→off+len≤o.n∧∃(A:Option Addr) (c':Nat),v=.slice A len c'∧len≤c'∧(len≠0→∃(b k cap:Nat),ρ[n]?=some (.slice (some ⟨b,0,none⟩) k cap)∧A=some ⟨b,off*o.sz,none⟩))→Rep w fz mem ρ (.msl n g off len) v
  | agg {cs:List AV} {vs:Array Value}:vs.size=cs.length→(∀(j:Nat) (u:Value),vs[j]?=some u→u.oneCell'=true)→(∀(j:Nat) (c:AV) (u:Value),cs[j]?=some c→vs[j]?=some u→Rep w fz mem ρ c u)→Rep w fz mem ρ (.agg cs) (.agg vs)
  | tup {cs:List AV} {vs:Array Value}:vs.size=cs.length→(∀(j:Nat) (c:AV) (u:Value),cs[j]?=some c→vs[j]?=some u→Rep w fz mem ρ c u)→Rep w fz mem ρ (.tup cs) (.tuple vs)
  | fn {f:Nat} {cs:List AV} {vs:Array Value}:vs.size=cs.length→(∀(j:Nat) (c:AV) (u:Value),cs[j]?=some c→vs[j]?=some u→Rep w fz mem ρ c u)→Rep w fz mem ρ (.fn f cs) (.func (.func f) #[] vs)
structure ObjR (w:World) (fz:Nat→Prop) (mem:List AObj) (ρ:List Value) (o:AObj) (v:Value):Prop where
  pos:0<o.sz
  row:∃vs:List Value,w.ownsRow 0 o.ty o.sz v o.n vs∧vs.length=o.cs.length∧(∀u∈vs,u.oneCell'=true)∧
    (∀(j:Nat) (c:AV) (u:Value),o.cs[j]?=some c→vs[j]?=some u→if o.box then Rep w fz mem ρ c u else RG w fz c u)
  frz:o.fr=true→∀b,v.ownBlock=some b→fz b
  live:o.fr=false→∀b,v.ownBlock=some b→¬fz b
structure Mem (w:World) (fz:Nat→Prop) (mem:List AObj) (ρ:List Value):Prop where
  len:ρ.length=mem.length
  obj:∀(n:Nat) (o:AObj) (v:Value),mem[n]?=some o→ρ[n]?=some v→ObjR w fz mem ρ o v
  apart:∀(n m:Nat) (u v:Value) (b:Nat),n≠m→ρ[n]?=some u→ρ[m]?=some v→u.ownBlock=some b→v.ownBlock≠some b
  lt:∀b,fz b→b<w.heap.size
structure Ext (w:World) (fz:Nat→Prop) (mem:List AObj) (ρ:List Value) (w':World) (fz':Nat→Prop) (mem':List AObj) (ρ':List Value):Prop where
  os:w'.os=w.os
  tape:w'.tape=w.tape
  output:w'.output=w.output
  size:w.heap.size≤w'.heap.size
  blk:∀b,b<w.heap.size→(∀(n:Nat) (v:Value),ρ[n]?=some v→v.ownBlock≠some b)→w'.heap[b]?=w.heap[b]?
  fzblk:∀b,fz b→w'.heap[b]?=w.heap[b]?
  sub:∀b,fz b→fz' b
  new:∀b,fz' b→fz b∨w.heap.size≤b∨∃(n:Nat) (v:Value),ρ[n]?=some v∧v.ownBlock=some b
  mem:∀(n:Nat) (o:AObj),mem[n]?=some o→∃o':AObj,mem'[n]?=some o'∧o.g≤o'.g∧(o'.g=o.g→ρ'[n]?=ρ[n]?∧o'.n=o.n)∧o'.sz=o.sz∧o'.box=o.box
  own:∀(n:Nat) (v:Value) (b:Nat),ρ'[n]?=some v→v.ownBlock=some b→(∃(m:Nat) (u:Value),ρ[m]?=some u∧u.ownBlock=some b)∨w.heap.size≤b
theorem cell_of_block {w w':World} {b o:Nat} (h:w'.heap[b]?=w.heap[b]?):w'.cell? ⟨b,o,none⟩=w.cell? ⟨b,o,none⟩:=by simp [World.cell?,h]
theorem RG.mono {w w':World} {fz fz':Nat→Prop} {a:AV} {v:Value} (h:RG w fz a v) (hb:∀b,fz b→w'.heap[b]?=w.heap[b]?) (hf:∀b,fz b→fz' b):RG w' fz' a v:=by
  induction h with
  | any=>exact .any
  | int=>exact .int
  | bool=>exact .bool
  | str=>exact .str
  | nilptr=>exact .nilptr
  | nilsl h=>exact .nilsl h
  | sl0=>exact .sl0
  | sl h1 h2 h3 h4 h5 h6 h7 _ ih=>exact .sl h1 h2 h3 h4 (hf _ h5) h6 (fun j u hu=>by rw [cell_of_block (hb _ h5)];exact h7 j u hu) ih
  | ptr h4 h5 h6 h7 _ ih=>exact .ptr h4 (hf _ h5) h6 (fun j u hu=>by rw [cell_of_block (hb _ h5)];exact h7 j u hu) ih
  | agg h1 h2 _ ih=>exact .agg h1 h2 ih
  | tup h1 _ ih=>exact .tup h1 ih
  | fn h1 _ ih=>exact .fn h1 ih
theorem Rep.ext {w w':World} {fz fz':Nat→Prop} {mem mem':List AObj} {ρ ρ':List Value} {a:AV} {v:Value} (h:Rep w fz mem ρ a v) (e:Ext w fz mem ρ w' fz' mem' ρ'):Rep w' fz' mem' ρ' a v:=by
  induction h with
  | gr h=>exact .gr (h.mono e.fzblk e.sub)
  | arr h1 h2 h3 h4=>
    obtain ⟨o',g1,g2,g3,g4,g5⟩:=e.mem _ _ h1
    refine .arr g1 (Nat.le_trans h2 g2) h3 (fun hg=>?_)
    have e1:=Nat.le_antisymm (by omega) g2
    rw [(g3 (by omega)).1]
    exact h4 (by omega)
  | loc h1 h2 h3 h4=>
    obtain ⟨o',g1,g2,g3,g4,g5⟩:=e.mem _ _ h1
    refine .loc g1 (Nat.le_trans h2 g2) h3 (fun hg=>?_)
    rw [(g3 (by omega)).1]
    exact h4 (by omega)
  | msl h1 h2 h3 h4=>
    obtain ⟨o',g1,g2,g3,g4,g5⟩:=e.mem _ _ h1
    refine .msl g1 (Nat.le_trans h2 g2) h3 (fun hg=>?_)
    rw [(g3 (by omega)).1,(g3 (by omega)).2,g4]
    exact h4 (by omega)
  | agg h1 h2 _ ih=>exact .agg h1 h2 ih
  | tup h1 _ ih=>exact .tup h1 ih
  | fn h1 _ ih=>exact .fn h1 ih
theorem Ext.refl {w:World} {fz:Nat→Prop} {mem:List AObj} {ρ:List Value}:Ext w fz mem ρ w fz mem ρ:=
  ⟨rfl,rfl,rfl,Nat.le_refl _,fun _ _ _=>rfl,fun _ _=>rfl,fun _ h=>h,fun _ h=>.inl h,fun _ o h=>⟨o,h,Nat.le_refl _,fun _=>⟨rfl,rfl⟩,rfl,rfl⟩,fun n v b h h'=>.inl ⟨n,v,h,h'⟩⟩
theorem Ext.trans {w0 w1 w2:World} {f0 f1 f2:Nat→Prop} {m0 m1 m2:List AObj} {r0 r1 r2:List Value} (a:Ext w0 f0 m0 r0 w1 f1 m1 r1) (b:Ext w1 f1 m1 r1 w2 f2 m2 r2):Ext w0 f0 m0 r0 w2 f2 m2 r2 where
  os:=b.os.trans a.os
  tape:=b.tape.trans a.tape
  output:=b.output.trans a.output
  size:=Nat.le_trans a.size b.size
  blk:=fun k hk hn=>by
    rw [b.blk k (Nat.lt_of_lt_of_le hk a.size),a.blk k hk hn]
    intro n v hv hb
    rcases a.own n v k hv hb with ⟨m,u,h1,h2⟩|h
    · exact hn m u h1 h2
    · omega
  fzblk:=fun k hk=>(b.fzblk k (a.sub k hk)).trans (a.fzblk k hk)
  sub:=fun k hk=>b.sub k (a.sub k hk)
  new:=fun k hk=>by
    rcases b.new k hk with h|h|⟨n,v,h1,h2⟩
    · exact a.new k h
    · exact .inr (.inl (Nat.le_trans a.size h))
    · rcases a.own n v k h1 h2 with h|h
      · exact .inr (.inr h)
      · exact .inr (.inl h)
  mem:=fun n o h=>by
    obtain ⟨o1,g1,g2,g3,g4,g5⟩:=a.mem n o h
    obtain ⟨o2,k1,k2,k3,k4,k5⟩:=b.mem n o1 g1
    refine ⟨o2,k1,Nat.le_trans g2 k2,fun hg=>?_,k4.trans g4,k5.trans g5⟩
    have e1:o1.g=o.g:=by omega
    have e2:o2.g=o1.g:=by omega
    exact ⟨(k3 e2).1.trans (g3 e1).1,(k3 e2).2.trans (g3 e1).2⟩
  own:=fun n v k h1 h2=>by
    rcases b.own n v k h1 h2 with ⟨m,u,h3,h4⟩|h
    · exact a.own m u k h3 h4
    · exact .inr (Nat.le_trans a.size h)
end Go.V

namespace Go.V
open Go
structure Old (w w':World):Prop where
  os:w'.os=w.os
  tape:w'.tape=w.tape
  output:w'.output=w.output
  size:w.heap.size≤w'.heap.size
  blk:∀b,b<w.heap.size→w'.heap[b]?=w.heap[b]?
theorem Old.refl (w:World):Old w w:=⟨rfl,rfl,rfl,Nat.le_refl _,fun _ _=>rfl⟩
theorem Old.alloc (w:World) (o:Obj):Old w (w.alloc o):=⟨rfl,rfl,rfl,by simp,fun b hb=>heap_alloc_old w o b hb⟩
theorem Old.drew (w:World):Old w w.drew:=⟨rfl,rfl,rfl,Nat.le_refl _,fun _ _=>rfl⟩
theorem ownBlock_lt {w:World} {base e sz:Nat} {v:Value} {n:Nat} {vs:List Value} (h:w.ownsRow base e sz v n vs) {b:Nat} (hb:v.ownBlock=some b):b<w.heap.size:=(h.lt b hb).2
theorem ownsRow_old {w w':World} (hw:∀b,b<w.heap.size→w'.heap[b]?=w.heap[b]?) {base e sz:Nat} {v:Value} {n:Nat} {vs:List Value} (h:w.ownsRow base e sz v n vs):w'.ownsRow base e sz v n vs:=by
  refine ⟨h.1,?_⟩
  rcases h.2 with h0|⟨g,cap,cur,h1,h2,h3,h4⟩
  · exact .inl h0
  · refine .inr ⟨g,cap,cur,h1,h2,?_,h4⟩
    rw [hw g (Array.getElem?_eq_some_iff.1 h3).1]
    exact h3
theorem ownsRow_at {w w':World} {base e sz:Nat} {v:Value} {n:Nat} {vs:List Value} (h:w.ownsRow base e sz v n vs) (hw:∀b,v.ownBlock=some b→w'.heap[b]?=w.heap[b]?):w'.ownsRow base e sz v n vs:=by
  refine ⟨h.1,?_⟩
  rcases h.2 with h0|⟨g,cap,cur,h1,h2,h3,h4⟩
  · exact .inl h0
  · refine .inr ⟨g,cap,cur,h1,h2,?_,h4⟩
    rw [hw g (by rw [h1];rfl)]
    exact h3
theorem Mem.blk_lt {w:World} {fz:Nat→Prop} {mem:List AObj} {ρ:List Value} (h:Mem w fz mem ρ) {n:Nat} {v:Value} (hv:ρ[n]?=some v) {b:Nat} (hb:v.ownBlock=some b):b<w.heap.size:=by
  have hn:n<mem.length:=by
    rw [←h.len]
    exact (List.getElem?_eq_some_iff.1 hv).1
  obtain ⟨vs,h1,_⟩:=(h.obj n mem[n] v (by simp [hn]) hv).row
  exact ownBlock_lt h1 hb
theorem getElem?_snoc {α:Type} {l:List α} {x y:α} {n:Nat} (h:(l++[x])[n]?=some y):l[n]?=some y∨(n=l.length∧y=x):=by
  rw [List.getElem?_append] at h
  split at h
  · exact .inl h
  · rename_i hn
    have:n - l.length=0:=by
      rcases Nat.eq_zero_or_pos (n - l.length) with h0|h0
      · exact h0
      · rw [List.getElem?_eq_none (by simp;omega)] at h
        cases h
    rw [this] at h
    simp at h
    exact .inr ⟨by omega,h.symm⟩
theorem Mem.old {w w':World} {fz:Nat→Prop} {mem:List AObj} {ρ:List Value} (hm:Mem w fz mem ρ) (hw:Old w w'):Ext w fz mem ρ w' fz mem ρ∧Mem w' fz mem ρ:=by
  have he:Ext w fz mem ρ w' fz mem ρ:=⟨hw.os,hw.tape,hw.output,hw.size,fun b hb _=>hw.blk b hb,fun b hb=>hw.blk b (hm.lt b hb),fun _ h=>h,fun _ h=>.inl h,
    fun _ o h=>⟨o,h,Nat.le_refl _,fun _=>⟨rfl,rfl⟩,rfl,rfl⟩,fun n v b h h'=>.inl ⟨n,v,h,h'⟩⟩
  refine ⟨he,hm.len,fun n o v ho hv=>?_,hm.apart,fun b hb=>Nat.lt_of_lt_of_le (hm.lt b hb) hw.size⟩
  obtain ⟨h1,⟨vs,h2,h3,h4,h5⟩,h6,h7⟩:=hm.obj n o v ho hv
  refine ⟨h1,⟨vs,ownsRow_old hw.blk h2,h3,h4,fun j c u hc hu=>?_⟩,h6,h7⟩
  have:=h5 j c u hc hu
  split at this
  · rename_i hb;rw [if_pos hb];exact this.ext he
  · rename_i hb;rw [if_neg hb];exact this.mono he.fzblk he.sub
theorem Mem.push {w w':World} {fz:Nat→Prop} {mem:List AObj} {ρ:List Value} (hm:Mem w fz mem ρ) (hw:Old w w') (o:AObj) (v:Value) (hfr:o.fr=false) (hpos:0<o.sz)
    (hb:∀b,v.ownBlock=some b→w.heap.size≤b) (hrow:∃vs:List Value,w'.ownsRow 0 o.ty o.sz v o.n vs∧vs.length=o.cs.length∧(∀u∈vs,u.oneCell'=true)∧
      (∀(j:Nat) (c:AV) (u:Value),o.cs[j]?=some c→vs[j]?=some u→if o.box then Rep w fz mem ρ c u else RG w fz c u)) :
    Ext w fz mem ρ w' fz (mem++[o]) (ρ++[v])∧Mem w' fz (mem++[o]) (ρ++[v]):=by
  have he:Ext w fz mem ρ w' fz (mem++[o]) (ρ++[v]):=by
    refine ⟨hw.os,hw.tape,hw.output,hw.size,fun b hb _=>hw.blk b hb,fun b hb=>hw.blk b (hm.lt b hb),fun _ h=>h,fun _ h=>.inl h,fun n o' h=>?_,fun n u b h h'=>?_⟩
    · have hn:=(List.getElem?_eq_some_iff.1 h).1
      refine ⟨o',by rw [List.getElem?_append_left hn];exact h,Nat.le_refl _,fun _=>⟨?_,rfl⟩,rfl,rfl⟩
      rw [List.getElem?_append_left (by rw [hm.len];exact hn)]
    · rcases getElem?_snoc h with h|⟨_,rfl⟩
      · exact .inl ⟨n,u,h,h'⟩
      · exact .inr (hb b h')
  refine ⟨he,by simp [hm.len],fun n o' u ho hu=>?_,fun n m u v' b hnm hu hv hub=>?_,fun b hb=>Nat.lt_of_lt_of_le (hm.lt b hb) hw.size⟩
  · rcases getElem?_snoc ho with ho|⟨rfl,rfl⟩
    · have hn:=(List.getElem?_eq_some_iff.1 ho).1
      have hu':ρ[n]?=some u:=by rw [List.getElem?_append_left (by rw [hm.len];exact hn)] at hu;exact hu
      obtain ⟨h1,⟨vs,h2,h3,h4,h5⟩,h6,h7⟩:=hm.obj n o' u ho hu'
      refine ⟨h1,⟨vs,ownsRow_old hw.blk h2,h3,h4,fun j c x hc hx=>?_⟩,h6,h7⟩
      have:=h5 j c x hc hx
      split at this
      · rename_i hb;rw [if_pos hb];exact this.ext he
      · rename_i hb;rw [if_neg hb];exact this.mono he.fzblk he.sub
    · have hu':u=v:=by
        rw [List.getElem?_append_right (by rw [hm.len];exact Nat.le_refl _),hm.len] at hu
        simpa using hu.symm
      subst hu'
      obtain ⟨vs,h2,h3,h4,h5⟩:=hrow
      refine ⟨hpos,⟨vs,h2,h3,h4,fun j c x hc hx=>?_⟩,fun h=>absurd h (by rw [hfr];decide),fun _ b hb' hf=>?_⟩
      · have:=h5 j c x hc hx
        split at this
        · rename_i hb;rw [if_pos hb];exact this.ext he
        · rename_i hb;rw [if_neg hb];exact this.mono he.fzblk he.sub
      · have:=hb b hb'
        have:=hm.lt b hf
        omega
  · rcases getElem?_snoc hu with ku|⟨h1,e1⟩
    · rcases getElem?_snoc hv with kv|⟨h1,e1⟩
      · exact hm.apart n m u v' b hnm ku kv hub
      · intro h
        rw [e1] at h
        have:=hb b h
        have:=hm.blk_lt ku hub
        omega
    · rcases getElem?_snoc hv with kv|⟨h2,e2⟩
      · intro h
        rw [e1] at hub
        have:=hb b hub
        have:=hm.blk_lt kv h
        omega
      · omega
theorem Mem.write {w w':World} {fz:Nat→Prop} {mem:List AObj} {ρ:List Value} (hm:Mem w fz mem ρ) {m:Nat} {o o2:AObj} {v v2:Value} (ho:mem[m]?=some o) (hv:ρ[m]?=some v)
    (hg:w.grownBy w' v.ownBlock) (hfr:o.fr=false) (hfr2:o2.fr=false) (hsz:o2.sz=o.sz) (hbox:o2.box=o.box) (hgen:o.g≤o2.g) (hsame:o2.g=o.g→v2=v∧o2.n=o.n)
    (hat:∀b,v2.ownBlock=some b→v.ownBlock=some b∨w.heap.size≤b)
    (hrow:∃vs:List Value,w'.ownsRow 0 o2.ty o2.sz v2 o2.n vs∧vs.length=o2.cs.length∧(∀u∈vs,u.oneCell'=true)∧
      (∀(j:Nat) (c:AV) (u:Value),o2.cs[j]?=some c→vs[j]?=some u→if o2.box then Rep w fz mem ρ c u else RG w fz c u)) :
    Ext w fz mem ρ w' fz (mem.set m o2) (ρ.set m v2)∧Mem w' fz (mem.set m o2) (ρ.set m v2):=by
  have hlive:=(hm.obj m o v ho hv).live hfr
  have hmlt:=(List.getElem?_eq_some_iff.1 ho).1
  have hrlt:=(List.getElem?_eq_some_iff.1 hv).1
  have hne:∀b,fz b→some b≠v.ownBlock:=fun b hb h=>hlive b h.symm hb
  have he:Ext w fz mem ρ w' fz (mem.set m o2) (ρ.set m v2):=by
    refine ⟨hg.os,hg.tape,hg.output,hg.size,fun b hb hn=>hg.block b hb (fun h=>hn m v hv h.symm),fun b hb=>hg.block b (hm.lt b hb) (hne b hb),fun _ h=>h,fun _ h=>.inl h,fun n o' h=>?_,fun n u b h h'=>?_⟩
    · by_cases hnm:m=n
      · subst hnm
        obtain rfl:o'=o:=by rw [ho] at h;exact (Option.some.inj h).symm
        refine ⟨o2,by simp [hmlt],hgen,fun hh=>?_,hsz,hbox⟩
        obtain ⟨h1,h2⟩:=hsame hh
        subst h1
        exact ⟨by rw [hv];simp [hrlt],h2⟩
      · refine ⟨o',by rw [List.getElem?_set_ne hnm];exact h,Nat.le_refl _,fun _=>⟨by rw [List.getElem?_set_ne hnm],rfl⟩,rfl,rfl⟩
    · by_cases hnm:m=n
      · subst hnm
        have hu:u=v2:=by simpa [hrlt] using h.symm
        subst hu
        rcases hat b h' with h1|h1
        · exact .inl ⟨m,v,hv,h1⟩
        · exact .inr h1
      · rw [List.getElem?_set_ne hnm] at h
        exact .inl ⟨n,u,h,h'⟩
  refine ⟨he,by simp [hm.len],fun n o' u ho' hu=>?_,fun n k u x b hnk hu hx hub=>?_,fun b hb=>Nat.lt_of_lt_of_le (hm.lt b hb) hg.size⟩
  · by_cases hnm:m=n
    · subst hnm
      have e1:o'=o2:=by simpa [hmlt] using ho'.symm
      have e2:u=v2:=by simpa [hrlt] using hu.symm
      subst e1;subst e2
      obtain ⟨vs,h2,h3,h4,h5⟩:=hrow
      refine ⟨by rw [hsz];exact (hm.obj m o v ho hv).pos,⟨vs,h2,h3,h4,fun j c x hc hx=>?_⟩,fun h=>absurd h (by rw [hfr2];decide),fun _ b hb' hf=>?_⟩
      · have:=h5 j c x hc hx
        split at this
        · rename_i hb;rw [if_pos hb];exact this.ext he
        · rename_i hb;rw [if_neg hb];exact this.mono he.fzblk he.sub
      · rcases hat b hb' with h1|h1
        · exact hlive b h1 hf
        · have:=hm.lt b hf;omega
    · rw [List.getElem?_set_ne hnm] at ho' hu
      obtain ⟨h1,⟨vs,h2,h3,h4,h5⟩,h6,h7⟩:=hm.obj n o' u ho' hu
      refine ⟨h1,⟨vs,ownsRow_at h2 (fun b hb=>hg.block b (ownBlock_lt h2 hb) (fun h=>hm.apart n m u v b (Ne.symm hnm) hu hv hb h.symm)),h3,h4,fun j c x hc hx=>?_⟩,h6,h7⟩
      have:=h5 j c x hc hx
      split at this
      · rename_i hb;rw [if_pos hb];exact this.ext he
      · rename_i hb;rw [if_neg hb];exact this.mono he.fzblk he.sub
  · by_cases hnm:m=n
    · subst hnm
      have e2:u=v2:=by simpa [hrlt] using hu.symm
      subst e2
      rw [List.getElem?_set_ne hnk] at hx
      intro h
      rcases hat b hub with h1|h1
      · exact hm.apart m k v x b hnk hv hx h1 h
      · have:=hm.blk_lt hx h;omega
    · rw [List.getElem?_set_ne hnm] at hu
      by_cases hkm:m=k
      · subst hkm
        have e2:x=v2:=by simpa [hrlt] using hx.symm
        subst e2
        intro h
        rcases hat b h with h1|h1
        · exact hm.apart n m u v b hnk hu hv hub h1
        · have:=hm.blk_lt hu hub;omega
      · rw [List.getElem?_set_ne hkm] at hx
        exact hm.apart n k u x b hnk hu hx hub
end Go.V

namespace Go.V
open Go
theorem mapM_spec {α β:Type} {f:α→Option β}:∀{l:List α} {l':List β},l.mapM f=some l'→l'.length=l.length∧∀(j:Nat) (c':β),l'[j]?=some c'→∃c,l[j]?=some c∧f c=some c'
  | [],l',h=>by
    simp at h
    subst h
    exact ⟨rfl,fun j c' h=>by simp at h⟩
  | a::l,l',h=>by
    rw [List.mapM_cons] at h
    cases ha:f a with
    | none=>simp [ha] at h
    | some b=>
      cases hl:l.mapM f with
      | none=>simp [ha,hl] at h
      | some bs=>
        simp [ha,hl] at h
        subst h
        obtain ⟨h1,h2⟩:=mapM_spec hl
        refine ⟨by simp [h1],fun j c' hc=>?_⟩
        cases j with
        | zero=>simp at hc;subst hc;exact ⟨a,rfl,ha⟩
        | succ j=>simp at hc;obtain ⟨c,h3,h4⟩:=h2 j c' hc;exact ⟨c,by simpa using h3,h4⟩
theorem geto_some {mem:List AObj} {n g:Nat} {o:AObj} (h:geto mem n g=some o):mem[n]?=some o∧o.g=g:=by
  unfold geto at h
  split at h
  · rename_i o' ho
    split at h
    · rename_i hg;obtain rfl:=Option.some.inj h;exact ⟨ho,hg⟩
    · cases h
  · cases h
theorem rg_agg_rep {w:World} {fz:Nat→Prop} {mem:List AObj} {ρ:List Value} {cs:List AV} {v:Value} (h:Rep w fz mem ρ (.agg cs) v) :
    ∃vs:Array Value,v=.agg vs∧vs.size=cs.length∧(∀(j:Nat) (u:Value),vs[j]?=some u→u.oneCell'=true)∧(∀(j:Nat) (c:AV) (u:Value),cs[j]?=some c→vs[j]?=some u→Rep w fz mem ρ c u):=by
  cases h with
  | gr h=>cases h with|agg h1 h2 h3=>exact ⟨_,rfl,h1,h2,fun j c u a b=>.gr (h3 j c u a b)⟩
  | agg h1 h2 h3=>exact ⟨_,rfl,h1,h2,h3⟩
theorem rg_tup_rep {w:World} {fz:Nat→Prop} {mem:List AObj} {ρ:List Value} {cs:List AV} {v:Value} (h:Rep w fz mem ρ (.tup cs) v) :
    ∃vs:Array Value,v=.tuple vs∧vs.size=cs.length∧(∀(j:Nat) (c:AV) (u:Value),cs[j]?=some c→vs[j]?=some u→Rep w fz mem ρ c u):=by
  cases h with
  | gr h=>cases h with|tup h1 h3=>exact ⟨_,rfl,h1,fun j c u a b=>.gr (h3 j c u a b)⟩
  | tup h1 h3=>exact ⟨_,rfl,h1,h3⟩
theorem rg_fn_rep {w:World} {fz:Nat→Prop} {mem:List AObj} {ρ:List Value} {f:Nat} {cs:List AV} {v:Value} (h:Rep w fz mem ρ (.fn f cs) v) :
    ∃vs:Array Value,v=.func (.func f) #[] vs∧vs.size=cs.length∧(∀(j:Nat) (c:AV) (u:Value),cs[j]?=some c→vs[j]?=some u→Rep w fz mem ρ c u):=by
  cases h with
  | gr h=>cases h with|fn h1 h3=>exact ⟨_,rfl,h1,fun j c u a b=>.gr (h3 j c u a b)⟩
  | fn h1 h3=>exact ⟨_,rfl,h1,h3⟩
theorem rep_arr {w:World} {fz:Nat→Prop} {mem:List AObj} {ρ:List Value} {n g:Nat} {o:AObj} {v:Value} (h:Rep w fz mem ρ (.arr n g) v) (ho:geto mem n g=some o):ρ[n]?=some v∧v.oneCell'=true:=by
  obtain ⟨h1,h2⟩:=geto_some ho
  cases h with
  | gr h=>cases h
  | arr h3 h4 h5 h6=>rw [h1] at h3;obtain rfl:=Option.some.inj h3;exact ⟨h6 h2.symm,h5⟩
theorem rep_loc {w:World} {fz:Nat→Prop} {mem:List AObj} {ρ:List Value} {n g i:Nat} {o:AObj} {v:Value} (h:Rep w fz mem ρ (.loc n g i) v) (ho:geto mem n g=some o) :
    ∃(b k cap:Nat),ρ[n]?=some (.slice (some ⟨b,0,none⟩) k cap)∧v=.pointer (some ⟨b,i,none⟩):=by
  obtain ⟨h1,h2⟩:=geto_some ho
  cases h with
  | gr h=>cases h
  | loc h3 h4 h5 h6=>rw [h1] at h3;obtain rfl:=Option.some.inj h3;exact h6 h2.symm
theorem rep_msl {w:World} {fz:Nat→Prop} {mem:List AObj} {ρ:List Value} {n g off len:Nat} {o:AObj} {v:Value} (h:Rep w fz mem ρ (.msl n g off len) v) (ho:geto mem n g=some o) :
    off+len≤o.n∧∃(A:Option Addr) (c':Nat),v=.slice A len c'∧len≤c'∧(len≠0→∃(b k cap:Nat),ρ[n]?=some (.slice (some ⟨b,0,none⟩) k cap)∧A=some ⟨b,off*o.sz,none⟩):=by
  obtain ⟨h1,h2⟩:=geto_some ho
  cases h with
  | gr h=>cases h
  | msl h3 h4 h5 h6=>rw [h1] at h3;obtain rfl:=Option.some.inj h3;exact h6 h2.symm
theorem addr_add (b o j:Nat):(⟨b,o,none⟩:Addr).add j=⟨b,o+j,none⟩:=by unfold Addr.add;split<;>simp_all
theorem Mem.rowAt {w:World} {fz:Nat→Prop} {mem:List AObj} {ρ:List Value} (hm:Mem w fz mem ρ) {n:Nat} {o:AObj} {v:Value} (ho:mem[n]?=some o) (hv:ρ[n]?=some v) :
    ∃vs:List Value,w.ownsRow 0 o.ty o.sz v o.n vs∧vs.length=o.cs.length∧o.cs.length=o.n*o.sz∧(∀u∈vs,u.oneCell'=true)∧
    (∀(j:Nat) (c:AV) (u:Value),o.cs[j]?=some c→vs[j]?=some u→if o.box then Rep w fz mem ρ c u else RG w fz c u)∧
    (o.n=0→∃(A:Option Addr) (cap:Nat),v=.slice A 0 cap)∧
    (0<o.n→∃(b cap:Nat),v=.slice (some ⟨b,0,none⟩) o.n cap∧o.n≤cap∧∀(j:Nat) (u:Value),vs[j]?=some u→w.cell? ⟨b,j,none⟩=some u):=by
  obtain ⟨hp,⟨vs,h2,h3,h4,h5⟩,_,_⟩:=hm.obj n o v ho hv
  refine ⟨vs,h2,h3,h3▸h2.1,h4,h5,fun h0=>?_,fun h0=>?_⟩
  · rcases h2.2 with ⟨h,_⟩|⟨g,cap,cur,h,_⟩
    · exact ⟨none,0,h⟩
    · exact ⟨_,cap,by rw [h,h0]⟩
  · rcases h2.2 with ⟨h,h'⟩|⟨g,cap,cur,h,_,_,h6,_⟩
    · omega
    · refine ⟨g,cap,h,h6,fun j u hu=>?_⟩
      have:=h2.cells (g:=g) (by rw [h];rfl) j u hu
      rw [addr_add] at this
      simpa using this
theorem snap_rg {w:World} {fz fz2:Nat→Prop} {mem:List AObj} {ρ:List Value} (hm:Mem w fz mem ρ) (hf:∀b,fz b→fz2 b):∀(k:Nat),
    (∀(a a':AV) (v:Value),snap mem k a=some a'→Rep w fz mem ρ a v→(∀n∈refs mem k a,∀(u:Value) (b:Nat),ρ[n]?=some u→u.ownBlock=some b→fz2 b)→RG w fz2 a' v)∧
    (∀(box:Bool) (cs cs':List AV),snapL mem k box cs=some cs'→(∀n∈refsL mem k box cs,∀(u:Value) (b:Nat),ρ[n]?=some u→u.ownBlock=some b→fz2 b)→
      cs'.length=cs.length∧∀(j:Nat) (c':AV) (u:Value),cs'[j]?=some c'→(∀c,cs[j]?=some c→if box then Rep w fz mem ρ c u else RG w fz c u)→RG w fz2 c' u):=by
  have mono:∀{a:AV} {v:Value},RG w fz a v→RG w fz2 a v:=fun h=>h.mono (fun _ _=>rfl) hf
  intro k
  induction k with
  | zero=>exact ⟨fun a a' v h=>by simp [snap] at h,fun box cs cs' h=>by simp [snapL] at h⟩
  | succ k ih=>
    obtain ⟨ih1,ih2⟩:=ih
    refine ⟨fun a a' v h hr hn=>?_,fun box cs cs' h hn=>?_⟩
    · cases a with
      | any=>simp only [snap,Option.some.injEq] at h;subst h;exact .any
      | int=>simp only [snap,Option.some.injEq] at h;subst h;cases hr with|gr h=>exact mono h
      | bool=>simp only [snap,Option.some.injEq] at h;subst h;cases hr with|gr h=>exact mono h
      | str=>simp only [snap,Option.some.injEq] at h;subst h;cases hr with|gr h=>exact mono h
      | sl=>simp only [snap,Option.some.injEq] at h;subst h;cases hr with|gr h=>exact mono h
      | ptr=>simp only [snap,Option.some.injEq] at h;subst h;cases hr with|gr h=>exact mono h
      | nilptr=>simp only [snap,Option.some.injEq] at h;subst h;cases hr with|gr h=>exact mono h
      | nilsl ty sz=>simp only [snap,Option.some.injEq] at h;subst h;cases hr with|gr h=>cases h;exact .sl0
      | loc n g i=>
        simp only [snap] at h
        split at h
        · rename_i o ho
          obtain ⟨cs',hs,rfl⟩:=Option.map_eq_some_iff.1 h
          obtain ⟨b,q,cap,h1,rfl⟩:=rep_loc hr ho
          have hrefs:refs mem (k+1) (.loc n g i)=n::refsL mem k o.box o.cs:=by simp only [refs,ho]
          rw [hrefs] at hn
          obtain ⟨vs,h2,h3,h4,h5,h6,h7,h8⟩:=hm.rowAt (geto_some ho).1 h1
          obtain ⟨h9,h10⟩:=ih2 o.box o.cs cs' hs (fun m hm'=>hn m (List.mem_cons_of_mem _ hm'))
          have hb:=hn n (List.mem_cons_self ..) _ b h1 rfl
          have hcell:∀(j:Nat) (u:Value),vs[j]?=some u→w.cell? ⟨b,0+j,none⟩=some u:=fun j u hu=>by
            have:=h2.cells (g:=b) rfl j u hu
            rwa [addr_add] at this
          have:=RG.ptr (w:=w) (fz:=fz2) (i:=i) (b:=b) (o:=0) (cs:=cs') (vs:=vs) (by rw [h9,h3]) hb h5 hcell (fun j c' u hc hu=>h10 j c' u hc (fun c hc2=>h6 j c u hc2 hu))
          simpa using this
        · cases h
      | arr n g=>
        simp only [snap] at h
        split at h
        · rename_i o ho
          obtain ⟨cs',hs,rfl⟩:=Option.map_eq_some_iff.1 h
          obtain ⟨h1,_⟩:=rep_arr hr ho
          have hrefs:refs mem (k+1) (.arr n g)=n::refsL mem k o.box o.cs:=by simp only [refs,ho]
          rw [hrefs] at hn
          obtain ⟨vs,h2,h3,h4,h5,h6,h7,h8⟩:=hm.rowAt (geto_some ho).1 h1
          obtain ⟨h9,h10⟩:=ih2 o.box o.cs cs' hs (fun m hm'=>hn m (List.mem_cons_of_mem _ hm'))
          rcases Nat.eq_zero_or_pos o.n with h0|h0
          · obtain ⟨A,cap,rfl⟩:=h7 h0
            have:cs'=[]:=List.eq_nil_of_length_eq_zero (by rw [h9,h4,h0];simp)
            subst this
            rw [h0]
            exact .sl0
          · obtain ⟨b,cap,rfl,h11,h12⟩:=h8 h0
            exact .sl h0 h11 (by rw [h9,h4]) (by rw [h9,h3]) (hn n (List.mem_cons_self ..) _ b h1 rfl) h5 (fun j u hu=>by rw [Nat.zero_add];exact h12 j u hu) (fun j c' u hc hu=>h10 j c' u hc (fun c hc2=>h6 j c u hc2 hu))
        · cases h
      | msl n g off len=>
        simp only [snap] at h
        split at h
        · rename_i o ho
          split at h
          · cases h
          · rename_i hbox
            obtain rfl:=Option.some.inj h
            obtain ⟨hle,A,c',rfl,hlc,hA⟩:=rep_msl hr ho
            have hmn:=(geto_some ho).1
            have hlt:=(List.getElem?_eq_some_iff.1 hmn).1
            have hltr:n<ρ.length:=by rw [hm.len];exact hlt
            have hr':ρ[n]?=some ρ[n]:=by simp [hltr]
            obtain ⟨vs,h2,h3,h4,h5,h6,h7,h8⟩:=hm.rowAt hmn hr'
            rcases Nat.eq_zero_or_pos len with h0|h0
            · subst h0
              simp only [Nat.zero_mul,List.take_zero]
              exact .sl0
            · obtain ⟨b,q,cap,h9,rfl⟩:=hA (by omega)
              rw [hr'] at h9
              have h9':=Option.some.inj h9
              have hrefs:n∈refs mem (k+1) (.msl n g off len):=by simp [refs]
              have hcell:∀(j:Nat) (u:Value),vs[j]?=some u→w.cell? ⟨b,j,none⟩=some u:=fun j u hu=>by
                have:=h2.cells (g:=b) (by rw [h9'];rfl) j u hu
                rw [addr_add] at this
                simpa using this
              have hlen:off*o.sz+len*o.sz≤o.cs.length:=by rw [h4,←Nat.add_mul];exact Nat.mul_le_mul_right _ hle
              refine .sl (vs:=(vs.drop (off*o.sz)).take (len*o.sz)) h0 hlc ?_ ?_ (hn n hrefs _ b hr' (by rw [h9'];rfl)) (fun u hu=>h5 u (List.mem_of_mem_drop (List.mem_of_mem_take hu))) (fun j u hu=>?_) (fun j c u hc hu=>?_)
              · simp;omega
              · simp;omega
              · rw [List.getElem?_take] at hu
                split at hu
                · rw [List.getElem?_drop] at hu;exact hcell _ _ hu
                · cases hu
              · rw [List.getElem?_take] at hu hc
                split at hu
                · rename_i hj
                  rw [if_pos hj,List.getElem?_drop] at hc
                  rw [List.getElem?_drop] at hu
                  have:=h6 _ c u hc hu
                  rw [if_neg hbox] at this
                  exact mono this
                · cases hu
        · cases h
      | agg cs=>
        simp only [snap] at h
        obtain ⟨cs',hs,rfl⟩:=Option.map_eq_some_iff.1 h
        obtain ⟨vs,rfl,h1,h2,h3⟩:=rg_agg_rep hr
        obtain ⟨h9,h10⟩:=ih2 true cs cs' hs (by simpa only [refs] using hn)
        exact .agg (by rw [h9,h1]) h2 (fun j c' u hc hu=>h10 j c' u hc (fun c hc2=>by simpa using h3 j c u hc2 hu))
      | tup cs=>
        simp only [snap] at h
        obtain ⟨cs',hs,rfl⟩:=Option.map_eq_some_iff.1 h
        obtain ⟨vs,rfl,h1,h3⟩:=rg_tup_rep hr
        obtain ⟨h9,h10⟩:=ih2 true cs cs' hs (by simpa only [refs] using hn)
        exact .tup (by rw [h9,h1]) (fun j c' u hc hu=>h10 j c' u hc (fun c hc2=>by simpa using h3 j c u hc2 hu))
      | fn f cs=>
        simp only [snap] at h
        obtain ⟨cs',hs,rfl⟩:=Option.map_eq_some_iff.1 h
        obtain ⟨vs,rfl,h1,h3⟩:=rg_fn_rep hr
        obtain ⟨h9,h10⟩:=ih2 true cs cs' hs (by simpa only [refs] using hn)
        exact .fn (by rw [h9,h1]) (fun j c' u hc hu=>h10 j c' u hc (fun c hc2=>by simpa using h3 j c u hc2 hu))
    · cases box with
      | false=>
        simp only [snapL,Option.some.injEq] at h
        subst h
        exact ⟨rfl,fun j c' u hc hh=>mono (by simpa using hh c' hc)⟩
      | true=>
        simp only [snapL] at h
        obtain ⟨h1,h2⟩:=mapM_spec h
        refine ⟨h1,fun j c' u hc hh=>?_⟩
        obtain ⟨c,h3,h4⟩:=h2 j c' hc
        refine ih1 c c' u h4 (by simpa using hh c h3) (fun n hn'=>hn n ?_)
        simp only [refsL,List.mem_flatMap]
        exact ⟨c,List.mem_of_getElem? h3,hn'⟩
theorem freeze_get (ns:List Nat) (mem:List AObj) (n:Nat):(freeze ns mem)[n]?=(mem[n]?).map fun o=>if ns.contains n then { o with fr:=true } else o:=by
  simp [freeze]
theorem freeze_length (ns:List Nat) (mem:List AObj):(freeze ns mem).length=mem.length:=by simp [freeze]
def frzOf (fz:Nat→Prop) (ρ:List Value) (ns:List Nat):Nat→Prop:=fun b=>fz b∨∃n∈ns,∃v,ρ[n]?=some v∧v.ownBlock=some b
theorem Mem.freeze {w:World} {fz:Nat→Prop} {mem:List AObj} {ρ:List Value} (hm:Mem w fz mem ρ) (ns:List Nat) :
    Ext w fz mem ρ w (frzOf fz ρ ns) (freeze ns mem) ρ∧Mem w (frzOf fz ρ ns) (freeze ns mem) ρ:=by
  have he:Ext w fz mem ρ w (frzOf fz ρ ns) (Go.V.freeze ns mem) ρ:=by
    refine ⟨rfl,rfl,rfl,Nat.le_refl _,fun _ _ _=>rfl,fun _ _=>rfl,fun _ h=>.inl h,fun b h=>?_,fun n o h=>?_,fun n v b h h'=>.inl ⟨n,v,h,h'⟩⟩
    · rcases h with h|⟨n,_,v,h1,h2⟩
      · exact .inl h
      · exact .inr (.inr ⟨n,v,h1,h2⟩)
    · refine ⟨if ns.contains n then { o with fr:=true } else o,by rw [freeze_get,h];rfl,?_⟩
      split<;>exact ⟨Nat.le_refl _,fun _=>⟨rfl,rfl⟩,rfl,rfl⟩
  refine ⟨he,by rw [freeze_length];exact hm.len,fun n o' v ho hv=>?_,hm.apart,fun b h=>?_⟩
  · rw [freeze_get] at ho
    obtain ⟨o,ho2,rfl⟩:=Option.map_eq_some_iff.1 ho
    obtain ⟨h1,⟨vs,h2,h3,h4,h5⟩,h6,h7⟩:=hm.obj n o v ho2 hv
    have hcells:∀(j:Nat) (c:AV) (u:Value),o.cs[j]?=some c→vs[j]?=some u→if o.box then Rep w (frzOf fz ρ ns) (Go.V.freeze ns mem) ρ c u else RG w (frzOf fz ρ ns) c u:=fun j c u hc hu=>by
      have:=h5 j c u hc hu
      split at this
      · rename_i hb;rw [if_pos hb];exact this.ext he
      · rename_i hb;rw [if_neg hb];exact this.mono he.fzblk he.sub
    split
    · rename_i hn
      exact ⟨h1,⟨vs,h2,h3,h4,hcells⟩,fun _ b hb=>.inr ⟨n,by simpa using hn,v,hv,hb⟩,fun h=>by cases h⟩
    · rename_i hn
      refine ⟨h1,⟨vs,h2,h3,h4,hcells⟩,fun h b hb=>.inl (h6 h b hb),fun h b hb=>?_⟩
      rintro (h8|⟨m,hm1,u,hm2,hm3⟩)
      · exact h7 h b hb h8
      · by_cases hnm:n=m
        · subst hnm;exact hn (by simpa using hm1)
        · exact hm.apart n m v u b hnm hv hm2 hb hm3
  · rcases h with h|⟨n,_,v,h1,h2⟩
    · exact hm.lt b h
    · exact hm.blk_lt h1 h2
end Go.V

namespace Go.V
open Go
def okCell:Value→AV→Bool
  | .int k n,.int k' n'=>k==k'&&n==n'
  | .bool b,.bool c=>b==c
  | .string s,.str t=>s.data==t.data
  | .pointer none,.nilptr=>true
  | .slice none 0 0,.nilsl _ sz=>decide (0<sz)
  | .slice none 0 0,.sl 0 _ []=>true
  | _,_=>false
def okConst:Value→AV→Bool
  | .agg vs,.agg cs=>vs.size==cs.length&&(vs.toList.zip cs).all fun p=>okCell p.1 p.2
  | v,c=>okCell v c
def okOpd (N:Nat):Operand→Opd→Bool
  | .tmp t,.t n=>t==n&&decide (n<N)
  | .const v,.k c=>okConst v c
  | .func f,.k (.fn g [])=>f==g
  | _,_=>false
theorem okCell_rg {w:World} {fz:Nat→Prop} {v:Value} {c:AV} (h:okCell v c=true):RG w fz c v∧v.oneCell'=true:=by
  unfold okCell at h
  split at h
  · simp only [Bool.and_eq_true,beq_iff_eq] at h;obtain ⟨rfl,rfl⟩:=h;exact ⟨.int,rfl⟩
  · simp only [beq_iff_eq] at h;subst h;exact ⟨.bool,rfl⟩
  · rename_i s t
    have:s=t:=by cases s;cases t;simp at h;simp [h]
    subst this;exact ⟨.str,rfl⟩
  · exact ⟨.nilptr,rfl⟩
  · exact ⟨.nilsl (by simpa using h),rfl⟩
  · exact ⟨.sl0,rfl⟩
  · cases h
theorem zip_get {α β:Type} {l:List α} {m:List β} {j:Nat} {a:α} {b:β} (h1:l[j]?=some a) (h2:m[j]?=some b):(a,b)∈l.zip m:=by
  refine List.mem_of_getElem? (i:=j) ?_
  rw [List.getElem?_zip_eq_some]
  exact ⟨h1,h2⟩
theorem okConst_rg {w:World} {fz:Nat→Prop} {v:Value} {c:AV} (h:okConst v c=true):RG w fz c v:=by
  unfold okConst at h
  split at h
  · rename_i vs cs
    simp only [Bool.and_eq_true,beq_iff_eq,List.all_eq_true] at h
    obtain ⟨h1,h2⟩:=h
    refine .agg h1 (fun j u hu=>?_) (fun j c u hc hu=>?_)
    · have hj:j<cs.length:=by rw [←h1];exact (Array.getElem?_eq_some_iff.1 hu).1
      have:=h2 _ (zip_get (j:=j) (a:=u) (b:=cs[j]) (by simpa using hu) (by simp [hj]))
      exact (okCell_rg (w:=w) (fz:=fz) this).2
    · have:=h2 _ (zip_get (j:=j) (a:=u) (b:=c) (by simpa using hu) hc)
      exact (okCell_rg this).1
  · exact (okCell_rg h).1
def EnvR (w:World) (fz:Nat→Prop) (mem:List AObj) (ρ:List Value) (env:Env) (a:Act):Prop:=∀n,n<a.tmps.size→Rep w fz mem ρ (getE env n) (a.tmps.getD n undef)
theorem opd_rep {w:World} {fz:Nat→Prop} {mem:List AObj} {ρ:List Value} {env:Env} {a:Act} (he:EnvR w fz mem ρ env a) {x:Operand} {y:Opd} (h:okOpd a.tmps.size x y=true):Rep w fz mem ρ (ev env y) (a.eval x):=by
  unfold okOpd at h
  split at h
  · simp only [Bool.and_eq_true,beq_iff_eq,decide_eq_true_eq] at h
    obtain ⟨rfl,h⟩:=h
    exact he _ h
  · exact .gr (okConst_rg h)
  · simp only [beq_iff_eq] at h
    subst h
    exact .gr (.fn (by simp) (fun j c u hc=>by simp at hc))
  · cases h
theorem rep_int {w:World} {fz:Nat→Prop} {mem:List AObj} {ρ:List Value} {k:IntKind} {n:Int} {v:Value} (h:Rep w fz mem ρ (.int k n) v):v=.int k n:=by cases h with|gr h=>cases h;rfl
theorem rep_bool {w:World} {fz:Nat→Prop} {mem:List AObj} {ρ:List Value} {b:Bool} {v:Value} (h:Rep w fz mem ρ (.bool b) v):v=.bool b:=by cases h with|gr h=>cases h;rfl
theorem rep_str {w:World} {fz:Nat→Prop} {mem:List AObj} {ρ:List Value} {s:ByteArray} {v:Value} (h:Rep w fz mem ρ (.str s) v):v=.string s:=by cases h with|gr h=>cases h;rfl
theorem rep_nilptr {w:World} {fz:Nat→Prop} {mem:List AObj} {ρ:List Value} {v:Value} (h:Rep w fz mem ρ .nilptr v):v=.pointer none:=by cases h with|gr h=>cases h;rfl
theorem rep_sl {w:World} {fz:Nat→Prop} {mem:List AObj} {ρ:List Value} {n sz:Nat} {cs:List AV} {v:Value} (h:Rep w fz mem ρ (.sl n sz cs) v):RG w fz (.sl n sz cs) v∧∃(A:Option Addr) (c:Nat),v=.slice A n c∧n≤c:=by
  cases h with
  | gr h=>
    refine ⟨h,?_⟩
    cases h with
    | sl0=>exact ⟨_,_,rfl,Nat.zero_le _⟩
    | sl h1 h2=>exact ⟨_,_,rfl,h2⟩
theorem rg_sl_inv {w:World} {fz:Nat→Prop} {n sz:Nat} {cs:List AV} {v:Value} (h:RG w fz (.sl n sz cs) v) :
    (n=0∧cs=[]∧∃(A:Option Addr) (c:Nat),v=.slice A 0 c)∨
    ∃ (b o cap:Nat) (vs:List Value),v=.slice (some ⟨b,o,none⟩) n cap∧0<n∧n≤cap∧cs.length=n*sz∧vs.length=cs.length∧fz b∧(∀u∈vs,u.oneCell'=true)∧
      (∀(j:Nat) (u:Value),vs[j]?=some u→w.cell? ⟨b,o+j,none⟩=some u)∧(∀(j:Nat) (c:AV) (u:Value),cs[j]?=some c→vs[j]?=some u→RG w fz c u):=by
  cases h with
  | sl0=>exact .inl ⟨rfl,rfl,_,_,rfl⟩
  | sl h1 h2 h3 h4 h5 h6 h7 h8=>exact .inr ⟨_,_,_,_,rfl,h1,h2,h3,h4,h5,h6,h7,h8⟩
theorem rep_ptr {w:World} {fz:Nat→Prop} {mem:List AObj} {ρ:List Value} {i:Nat} {cs:List AV} {v:Value} (h:Rep w fz mem ρ (.ptr cs i) v):RG w fz (.ptr cs i) v:=by cases h with|gr h=>exact h
theorem rep_one {w:World} {fz:Nat→Prop} {mem:List AObj} {ρ:List Value} {c:AV} {v:Value} (h:Rep w fz mem ρ c v) (h1:c≠.any) (h2:∀cs,c≠.agg cs) (h3:∀cs,c≠.tup cs):v.oneCell'=true:=by
  cases h with
  | gr h=>cases h<;>first|rfl|exact absurd rfl h1|exact absurd rfl (h2 _)|exact absurd rfl (h3 _)
  | arr _ _ h=>exact h
  | loc _ _ h=>exact h
  | msl _ _ h=>exact h
  | agg=>exact absurd rfl (h2 _)
  | tup=>exact absurd rfl (h3 _)
  | fn=>rfl
theorem rep_cells {w:World} {fz:Nat→Prop} {mem:List AObj} {ρ:List Value} {c:AV} {cs:List AV} {v:Value} (h:Rep w fz mem ρ c v) (hc:cellsOf c=some cs) :
    v.cells.size=cs.length∧(∀u∈v.cells.toList,u.oneCell'=true)∧∀(j:Nat) (d:AV) (u:Value),cs[j]?=some d→v.cells[j]?=some u→Rep w fz mem ρ d u:=by
  have single:c≠.any→(∀cs,c≠.agg cs)→(∀cs,c≠.tup cs)→cs=[c]→v.cells.size=cs.length∧(∀u∈v.cells.toList,u.oneCell'=true)∧∀(j:Nat) (d:AV) (u:Value),cs[j]?=some d→v.cells[j]?=some u→Rep w fz mem ρ d u:=by
    intro h1 h2 h3 hcs
    subst hcs
    have ho:=rep_one h h1 h2 h3
    have hv:v.cells = #[v]:=by cases v<;>first|rfl|cases ho
    rw [hv]
    refine ⟨rfl,by simpa using ho,fun j d u hd hu=>?_⟩
    cases j with
    | zero=>simp at hd hu;subst hd;subst hu;exact h
    | succ j=>simp at hd
  cases c with
  | any=>simp [cellsOf] at hc
  | tup=>simp [cellsOf] at hc
  | agg ds=>
    simp only [cellsOf,Option.some.injEq] at hc
    subst hc
    obtain ⟨vs,rfl,h1,h2,h3⟩:=rg_agg_rep h
    refine ⟨h1,fun u hu=>?_,fun j d u hd hu=>h3 j d u hd hu⟩
    obtain ⟨j,hj⟩:=List.mem_iff_getElem?.1 hu
    exact h2 j u (by simpa [Value.cells] using hj)
  | _=>simp only [cellsOf,Option.some.injEq] at hc;exact single (by simp) (by simp) (by simp) hc.symm
theorem rg_ptr_inv {w:World} {fz:Nat→Prop} {i:Nat} {cs:List AV} {v:Value} (h:RG w fz (.ptr cs i) v) :
    ∃ (b o:Nat) (vs:List Value),v=.pointer (some ⟨b,o+i,none⟩)∧vs.length=cs.length∧fz b∧(∀u∈vs,u.oneCell'=true)∧
      (∀(j:Nat) (u:Value),vs[j]?=some u→w.cell? ⟨b,o+j,none⟩=some u)∧(∀(j:Nat) (c:AV) (u:Value),cs[j]?=some c→vs[j]?=some u→RG w fz c u):=by
  cases h with
  | ptr h4 h5 h6 h7 h8=>exact ⟨_,_,_,rfl,h4,h5,h6,h7,h8⟩
def PureOut (P:Program) (o:Oper) (a:Act) (w:World) (fz:Nat→Prop) (mem:List AObj) (ρ:List Value) (v:AV):Prop:=
  ∃u,(execOp a.eval o).run P w=.ok (.value u) w∧Rep w fz mem ρ v u
section
variable {P:Program} {w:World} {fz:Nat→Prop} {mem:List AObj} {ρ:List Value} {env:Env} {a:Act} {o:Oper}
theorem op_mov (he:EnvR w fz mem ρ env a) {x:Operand} {y:Opd} (ho:o.op=.move x∨o.op=.assign x) (h:okOpd a.tmps.size x y=true):PureOut P o a w fz mem ρ (ev env y):=by
  refine ⟨a.eval x,?_,opd_rep he h⟩
  rcases ho with ho|ho<;>simp [execOp,ho]
theorem op_pick (he:EnvR w fz mem ρ env a) {c x y:Operand} {c' x' y':Opd} (ho:o.op=.pick c x y) (hc:okOpd a.tmps.size c c'=true) (hx:okOpd a.tmps.size x x'=true) (hy:okOpd a.tmps.size y y'=true)
    {v:AV} {m:List AObj} (h:evalOp mem (ev env) (.pick c' x' y')=some (v,m)):m=mem∧PureOut P o a w fz mem ρ v:=by
  simp only [evalOp] at h
  split at h
  · rename_i t ht
    have hcv:=opd_rep he hc
    rw [ht] at hcv
    have:=rep_bool hcv
    simp only [Option.some.injEq,Prod.mk.injEq] at h
    obtain ⟨rfl,rfl⟩:=h
    refine ⟨rfl,if t then a.eval x else a.eval y,by simp [execOp,ho,this,asBool],?_⟩
    cases t
    · exact opd_rep he hy
    · exact opd_rep he hx
  · cases h
def okBin:BinOp→Bin→Bool
  | .add,.add|.sub,.sub|.mul,.mul|.quo,.quo|.rem,.rem|.and,.and|.or,.or|.xor,.xor|.shl,.shl|.shr,.shr
  | .eql,.eq|.neq,.ne|.lss,.lt|.leq,.le|.gtr,.gt|.geq,.ge=>true
  | _,_=>false
theorem eqGuard_int (op:BinOp) (t:TypeId) (x y:Operand) (k j:IntKind) (m n:Int):(eqGuard op t x y (.int k m) (.int j n)).run P w=.ok () w:=by
  unfold eqGuard
  cases op<;>simp
theorem eqGuard_bool (op:BinOp) (t:TypeId) (x y:Operand) (m n:Bool):(eqGuard op t x y (.bool m) (.bool n)).run P w=.ok () w:=by
  unfold eqGuard
  cases op<;>simp
theorem eqGuard_str (op:BinOp) (t:TypeId) (x y:Operand) (m n:ByteArray):(eqGuard op t x y (.string m) (.string n)).run P w=.ok () w:=by
  unfold eqGuard
  cases op<;>simp
theorem eqGuard_ptr (op:BinOp) (t:TypeId) (x y:Operand) (m n:Option Addr):(eqGuard op t x y (.pointer m) (.pointer n)).run P w=.ok () w:=by
  unfold eqGuard
  cases op<;>simp
theorem bin_int {op:BinOp} {b:Bin} (hb:okBin op b=true) (t:TypeId) {k j:IntKind} {m n:Int} {v:AV} (h:binV b (.int k m) (.int j n)=some v) :
    ∃u,(binOp op t (.int k m) (.int j n)).run P w=.ok u w∧RG w fz v u:=by
  simp only [binV] at h
  by_cases hs:b=.shl∨b=.shr
  · rw [if_pos hs] at h
    unfold shiftOp at h
    split at h
    · cases h
    · rename_i hn
      rcases hs with rfl|rfl
      · cases op<;>simp [okBin] at hb
        simp only [Option.some.injEq] at h
        subst h
        exact ⟨_,by simp [binOp,Op.shift,hn],.int⟩
      · cases op<;>simp [okBin] at hb
        simp only [Option.some.injEq] at h
        subst h
        exact ⟨_,by simp [binOp,Op.shift,hn],.int⟩
  · rw [if_neg hs] at h
    split at h
    · rename_i hk
      subst hk
      cases op<;>cases b<;>simp [okBin] at hb<;>simp at hs<;>simp only [arith] at h
      case quo.quo=>
        split at h
        · cases h
        · rename_i hn;simp only [Option.some.injEq] at h;subst h;exact ⟨_,by simp [binOp,Op.intDiv,hn],.int⟩
      case rem.rem=>
        split at h
        · cases h
        · rename_i hn;simp only [Option.some.injEq] at h;subst h;exact ⟨_,by simp [binOp,Op.intDiv,hn],.int⟩
      all_goals
        simp only [Option.some.injEq] at h
        subst h
        refine ⟨_,?_,by first|exact .int|exact .bool⟩
        simp only [binOp,Op.intArith,Op.intBits,Op.intCmp,ne_eq,not_true_eq_false,if_false]
        rfl
    · cases h
theorem bin_str {op:BinOp} {b:Bin} (hb:okBin op b=true) (t:TypeId) {m n:ByteArray} {v:AV} (h:strOp b m n=some v) :
    ∃u,(binOp op t (.string m) (.string n)).run P w=.ok u w∧RG w fz v u:=by
  cases op<;>cases b<;>simp [okBin] at hb<;>simp only [strOp] at h<;>try (cases h;done)
  case add.add=>
    split at h
    · cases h
    · rename_i hn
      simp only [Option.some.injEq] at h;subst h
      exact ⟨_,by simp only [binOp,Op.stringOp];rw [if_neg hn];rfl,.str⟩
  all_goals
    simp only [Option.some.injEq] at h
    subst h
    exact ⟨_,by simp only [binOp,Op.stringOp];rfl,.bool⟩
theorem op_bin_int (he:EnvR w fz mem ρ env a) {op:BinOp} {b:Bin} {t t':TypeId} {x y:Operand} {x' y':Opd} (ho:o.op=.binOp op t x y t') (hb:okBin op b=true) (hx:okOpd a.tmps.size x x'=true) (hy:okOpd a.tmps.size y y'=true)
    {k j:IntKind} {m n:Int} (h1:ev env x'=.int k m) (h2:ev env y'=.int j n) {v:AV} (h:binV b (.int k m) (.int j n)=some v):PureOut P o a w fz mem ρ v:=by
  have e1:=opd_rep he hx
  have e2:=opd_rep he hy
  rw [h1] at e1;rw [h2] at e2
  have e1:=rep_int e1
  have e2:=rep_int e2
  obtain ⟨u,h3,h4⟩:=bin_int (P:=P) (w:=w) (fz:=fz) hb t h
  exact ⟨u,by simp [execOp,ho,e1,e2,eqGuard_int,h3],.gr h4⟩
theorem op_bin_str (he:EnvR w fz mem ρ env a) {op:BinOp} {b:Bin} {t t':TypeId} {x y:Operand} {x' y':Opd} (ho:o.op=.binOp op t x y t') (hb:okBin op b=true) (hx:okOpd a.tmps.size x x'=true) (hy:okOpd a.tmps.size y y'=true)
    {m n:ByteArray} (h1:ev env x'=.str m) (h2:ev env y'=.str n) {v:AV} (h:strOp b m n=some v):PureOut P o a w fz mem ρ v:=by
  have e1:=opd_rep he hx
  have e2:=opd_rep he hy
  rw [h1] at e1;rw [h2] at e2
  have e1:=rep_str e1
  have e2:=rep_str e2
  obtain ⟨u,h3,h4⟩:=bin_str (P:=P) (w:=w) (fz:=fz) hb t h
  exact ⟨u,by simp [execOp,ho,e1,e2,eqGuard_str,h3],.gr h4⟩
theorem equalIn_bool (d:Nat) {t:TypeId} (ht:P.underlying t=some .bool) (m n:Bool):(Op.equalIn (d+1) t (.bool m) (.bool n)).run P w=.ok (m==n) w:=by
  simp only [Op.equalIn,Sem.run_bind,run_underlying ht,Result.andThen_ok,Sem.run_pure]
theorem equalIn_nil (d:Nat) {t e:TypeId} (ht:P.underlying t=some (.pointer e)) (p:Option Addr):(Op.equalIn (d+1) t (.pointer p) (.pointer none)).run P w=.ok p.isNone w:=by
  cases p<;>simp only [Op.equalIn,Sem.run_bind,run_underlying ht,Result.andThen_ok,Sem.run_pure,Option.isNone]
theorem op_bin_bool (he:EnvR w fz mem ρ env a) {op:BinOp} {b:Bin} {t t':TypeId} {x y:Operand} {x' y':Opd} (ho:o.op=.binOp op t x y t') (hb:okBin op b=true) (hx:okOpd a.tmps.size x x'=true) (hy:okOpd a.tmps.size y y'=true)
    (ht:P.underlying t=some .bool) {m n:Bool} (h1:ev env x'=.bool m) (h2:ev env y'=.bool n) {v:AV} (h:boolV b (.bool m) (.bool n)=some v):PureOut P o a w fz mem ρ v:=by
  have e1:=opd_rep he hx
  have e2:=opd_rep he hy
  rw [h1] at e1;rw [h2] at e2
  have e1:=rep_bool e1
  have e2:=rep_bool e2
  simp only [boolV] at h
  have heq:(Op.equal t (.bool m) (.bool n)).run P w=.ok (m==n) w:=by
    exact equalIn_bool 9999 ht m n
  split at h
  · rename_i hh;subst hh
    simp only [Option.some.injEq] at h;subst h
    cases op<;>simp [okBin] at hb
    exact ⟨_,by simp only [execOp,ho,e1,e2,Sem.run_bind,eqGuard_bool,Result.andThen_ok,binOp,heq,Sem.run_pure],.gr .bool⟩
  · split at h
    · rename_i hh;subst hh
      simp only [Option.some.injEq] at h;subst h
      cases op<;>simp [okBin] at hb
      exact ⟨_,by simp only [execOp,ho,e1,e2,Sem.run_bind,eqGuard_bool,Result.andThen_ok,binOp,heq,Sem.run_pure],.gr .bool⟩
    · cases h
theorem op_bin_nil (he:EnvR w fz mem ρ env a) {op:BinOp} {b:Bin} {t t' e:TypeId} {x y:Operand} {x' y':Opd} (ho:o.op=.binOp op t x y t') (hb:okBin op b=true) (hx:okOpd a.tmps.size x x'=true) (hy:okOpd a.tmps.size y y'=true)
    (ht:P.underlying t=some (.pointer e)) (h2:ev env y'=.nilptr) (r:Bool) (hr:∃p:Option Addr,a.eval x=.pointer p∧p.isNone=r) {v:AV} (h:(if b=.eq then some (AV.bool r) else if b=.ne then some (.bool !r) else none)=some v):PureOut P o a w fz mem ρ v:=by
  have e2:=opd_rep he hy
  rw [h2] at e2
  have e2:=rep_nilptr e2
  obtain ⟨p,e1,hp⟩:=hr
  have heq:(Op.equal t (.pointer p) (.pointer none)).run P w=.ok r w:=by
    rw [←hp]
    exact equalIn_nil 9999 ht p
  split at h
  · rename_i hh;subst hh
    simp only [Option.some.injEq] at h;subst h
    cases op<;>simp [okBin] at hb
    exact ⟨_,by cases p<;>simp only [execOp,ho,e1,e2,Sem.run_bind,eqGuard_ptr,Result.andThen_ok,binOp,heq,Sem.run_pure],.gr .bool⟩
  · split at h
    · rename_i hh;subst hh
      simp only [Option.some.injEq] at h;subst h
      cases op<;>simp [okBin] at hb
      exact ⟨_,by cases p<;>simp only [execOp,ho,e1,e2,Sem.run_bind,eqGuard_ptr,Result.andThen_ok,binOp,heq,Sem.run_pure],.gr .bool⟩
    · cases h
theorem op_neg (he:EnvR w fz mem ρ env a) {t:TypeId} {x:Operand} {x':Opd} (ho:o.op=.unOp .neg t x) (hx:okOpd a.tmps.size x x'=true) {k:IntKind} {n:Int} (h1:ev env x'=.int k n):PureOut P o a w fz mem ρ (.int k (k.wrap (0 - n))):=by
  have e1:=opd_rep he hx
  rw [h1] at e1
  exact ⟨_,by simp [execOp,ho,rep_int e1,Op.unary,Op.intArith],.gr .int⟩
theorem op_com (he:EnvR w fz mem ρ env a) {t:TypeId} {x:Operand} {x':Opd} (ho:o.op=.unOp .xor t x) (hx:okOpd a.tmps.size x x'=true) {k:IntKind} {n:Int} (h1:ev env x'=.int k n):PureOut P o a w fz mem ρ (.int k (k.wrap (BitVec.ofInt k.bits (if k.signed then -1 else k.max) ^^^ BitVec.ofInt k.bits n).toNat)):=by
  have e1:=opd_rep he hx
  rw [h1] at e1
  exact ⟨_,by simp [execOp,ho,rep_int e1,Op.unary,Op.intBits],.gr .int⟩
theorem op_not (he:EnvR w fz mem ρ env a) {t:TypeId} {x:Operand} {x':Opd} (ho:o.op=.unOp .not t x) (hx:okOpd a.tmps.size x x'=true) {b:Bool} (h1:ev env x'=.bool b):PureOut P o a w fz mem ρ (.bool !b):=by
  have e1:=opd_rep he hx
  rw [h1] at e1
  exact ⟨_,by simp [execOp,ho,rep_bool e1,Op.unary],.gr .bool⟩
theorem op_conv (he:EnvR w fz mem ρ env a) {s t:TypeId} {x:Operand} {x':Opd} {k k':IntKind} {d:TypeDesc} (ho:o.op=.convert s t x) (hx:okOpd a.tmps.size x x'=true) (hs:P.underlying s=some d) (ht:P.underlying t=some (.int k)) {n:Int} (h1:ev env x'=.int k' n) :
    PureOut P o a w fz mem ρ (.int k (k.wrap n)):=by
  have e1:=opd_rep he hx
  rw [h1] at e1
  exact ⟨_,by simp [execOp,ho,rep_int e1,convert,run_underlying hs,run_underlying ht,Conv.intToInt],.gr .int⟩
theorem rep_addr {c:AV} {v:Value} (h:Rep w fz mem ρ c v) (n:Nat):(∀cs i,c=.ptr cs i→∃b o,v=.pointer (some ⟨b,o+i,none⟩)∧RG w fz (.ptr cs n) (.pointer (some ⟨b,o+n,none⟩))):=by
  intro cs i hc
  subst hc
  cases rep_ptr h with
  | ptr h1 h2 h3 h4 h5=>exact ⟨_,_,rfl,.ptr h1 h2 h3 h4 h5⟩
theorem fieldPlace_run {f:Field} {i:TypeInfo} (hi:P.info? f.type=some i) (hz:i.size≠0) (A:Addr):(fieldPlace A f).run P w=.ok (A.add f.offset) w:=by
  simp [fieldPlace,sizeOf,typeInfo,hi,hz]
theorem op_faddr (he:EnvR w fz mem ρ env a) {s:TypeId} {x:Operand} {x':Opd} {k off:Nat} {fs:Array Field} {f:Field} {i:TypeInfo} (ho:o.op=.fieldAddr s x k) (hx:okOpd a.tmps.size x x'=true)
    (hs:P.underlying s=some (.struct fs)) (hf:fs[k]?=some f) (hoff:f.offset=off) (hi:P.info? f.type=some i) (hz:i.size≠0) {v:AV} {m:List AObj} (h:evalOp mem (ev env) (.faddr off x')=some (v,m)):m=mem∧PureOut P o a w fz mem ρ v:=by
  subst hoff
  have e1:=opd_rep he hx
  simp only [evalOp] at h
  split at h
  · rename_i cs j hj
    rw [hj] at e1
    simp only [Option.some.injEq,Prod.mk.injEq] at h
    obtain ⟨rfl,rfl⟩:=h
    obtain ⟨b,q,h1,h2⟩:=rep_addr e1 (j+f.offset) cs j rfl
    refine ⟨rfl,_,?_,.gr h2⟩
    simp [execOp,ho,h1,Instr.fieldAt,run_underlying hs,hf,Instr.sureAddr,fieldPlace_run hi hz,addr_add,Nat.add_assoc]
  · rename_i n g j hj
    rw [hj] at e1
    obtain ⟨ob,hob,h⟩:=Option.map_eq_some_iff.1 h
    simp only [Prod.mk.injEq] at h
    obtain ⟨rfl,rfl⟩:=h
    obtain ⟨b,q,cap,h1,h2⟩:=rep_loc e1 hob
    obtain ⟨h3,h4⟩:=geto_some hob
    refine ⟨rfl,.pointer (some ⟨b,j+f.offset,none⟩),?_,.loc h3 (Nat.le_of_eq h4.symm) rfl (fun _=>⟨b,q,cap,h1,rfl⟩)⟩
    simp [execOp,ho,h2,Instr.fieldAt,run_underlying hs,hf,Instr.sureAddr,fieldPlace_run hi hz,addr_add]
  · cases h
theorem iaddr_run {t elem:TypeId} {i:TypeInfo} (ht:P.underlying t=some (.slice elem)) (hi:P.info? elem=some i) (b q n c:Nat) (k:IntKind) (j:Int) (h0:0≤j) (h1:j<n) :
    (Instr.indexAt t (.slice (some ⟨b,q,none⟩) n c) (.int k j)).run P w=.ok (.pointer (some ⟨b,q+j.toNat*i.size,none⟩)) w:=by
  simp [Instr.indexAt,asIntOf,run_underlying ht,h0,h1,sizeOf,typeInfo,hi,addr_add]
theorem op_iaddr (hm:Mem w fz mem ρ) (he:EnvR w fz mem ρ env a) {t elem:TypeId} {x y:Operand} {x' y':Opd} {sz:Nat} {i:TypeInfo} (ho:o.op=.indexAddr t x y) (hx:okOpd a.tmps.size x x'=true) (hy:okOpd a.tmps.size y y'=true)
    (ht:P.underlying t=some (.slice elem)) (hi:P.info? elem=some i) (hsz:i.size=sz) {v:AV} {m:List AObj} (h:evalOp mem (ev env) (.iaddr sz x' y')=some (v,m)):m=mem∧PureOut P o a w fz mem ρ v:=by
  subst hsz
  have e1:=opd_rep he hx
  have e2:=opd_rep he hy
  simp only [evalOp] at h
  split at h
  · rename_i k j hj
    rw [hj] at e2
    have e2:=rep_int e2
    split at h
    · rename_i n sz' cs hs
      rw [hs] at e1
      split at h
      · rename_i hc
        obtain ⟨rfl,h0,h1⟩:=hc
        simp only [Option.some.injEq,Prod.mk.injEq] at h
        obtain ⟨rfl,rfl⟩:=h
        rcases rg_sl_inv (rep_sl e1).1 with ⟨rfl,_⟩|⟨b,q,cap,vs,hcase,g1,g2,g3,g4,g5,g6,g7,g8⟩
        · omega
        · refine ⟨rfl,.pointer (some ⟨b,q+j.toNat*i.size,none⟩),?_,.gr (.ptr g4 g5 g6 g7 g8)⟩
          simp only [execOp,ho,e2,hcase,Sem.run_bind,iaddr_run ht hi b q n cap k j h0 h1,Result.andThen_ok,Sem.run_pure]
      · cases h
    · rename_i n g hs
      rw [hs] at e1
      split at h
      · rename_i ob hob
        split at h
        · rename_i hc
          obtain ⟨h4,h0,h1⟩:=hc
          simp only [Option.some.injEq,Prod.mk.injEq] at h
          obtain ⟨rfl,rfl⟩:=h
          obtain ⟨g1,g2⟩:=rep_arr e1 hob
          obtain ⟨k1,k2⟩:=geto_some hob
          obtain ⟨vs,_,_,_,_,_,_,h8⟩:=hm.rowAt k1 g1
          obtain ⟨b,cap,e3,_,_⟩:=h8 (by omega)
          refine ⟨rfl,.pointer (some ⟨b,0+j.toNat*i.size,none⟩),?_,.loc k1 (Nat.le_of_eq k2.symm) rfl (fun _=>⟨b,ob.n,cap,by rw [g1,e3],by rw [Nat.zero_add]⟩)⟩
          simp only [execOp,ho,e2,e3,Sem.run_bind,iaddr_run ht hi b 0 ob.n cap k j h0 h1,Result.andThen_ok,Sem.run_pure]
        · cases h
      · cases h
    · rename_i n g off len hs
      rw [hs] at e1
      split at h
      · rename_i ob hob
        split at h
        · rename_i hc
          obtain ⟨h4,h0,h1⟩:=hc
          simp only [Option.some.injEq,Prod.mk.injEq] at h
          obtain ⟨rfl,rfl⟩:=h
          obtain ⟨g1,A,c',e3,g3,g4⟩:=rep_msl e1 hob
          obtain ⟨k1,k2⟩:=geto_some hob
          obtain ⟨b,q,cap,g5,rfl⟩:=g4 (by omega)
          refine ⟨rfl,.pointer (some ⟨b,off*ob.sz+j.toNat*i.size,none⟩),?_,.loc k1 (Nat.le_of_eq k2.symm) rfl (fun _=>⟨b,q,cap,g5,by rw [h4]⟩)⟩
          simp only [execOp,ho,e2,e3,Sem.run_bind,iaddr_run ht hi b (off*ob.sz) len c' k j h0 h1,Result.andThen_ok,Sem.run_pure]
        · cases h
      · cases h
    · cases h
  · cases h
def okFlat (P:Program):List Field→List Nat→Nat→Bool
  | [],[],_=>true
  | f :: fs, s :: sig, i => f.name != "_" && f.offset == i && (match P.underlying f.type with | some .bool => s == 0 | some (.int _) => s == 1 | some .string => s == 2 | _ => false) && okFlat P fs sig (i + 1)
  | _,_,_=>false
def okStruct (P:Program) (t:TypeId) (sig:List Nat):Bool:=
  match P.underlying t with
  | some (.struct fs)=>!(P.stoodInHeld t) && !(P.eqGuardType P.depth t)&&okFlat P fs.toList sig 0
  | _=>false
theorem eqFields_run (d:Nat) (xs ys:Array Value):∀{fs:List Field} {sig:List Nat} {off:Nat} {cs ds:List AV} {r:Bool},okFlat P fs sig off=true→cs.map kindOf=sig→ds.map kindOf=sig→scalarsEq cs ds=some r→
    (∀(j:Nat) (c:AV),cs[j]?=some c→∃u,xs[off+j]?=some u∧Rep w fz mem ρ c u)→(∀(j:Nat) (c:AV),ds[j]?=some c→∃u,ys[off+j]?=some u∧Rep w fz mem ρ c u)→
    (Op.eqFields (d+1) xs ys fs).run P w=.ok r w
  | [],[],off,cs,ds,r,hk,h1,h2,h,hx,hy=>by
    have e1:cs=[]:=by simpa using h1
    have e2:ds=[]:=by simpa using h2
    subst e1;subst e2
    simp only [scalarsEq,Option.some.injEq] at h
    subst h
    simp [Op.eqFields]
  | f::fs,s::sig,off,[],ds,r,hk,h1,h2,h,hx,hy=>by simp at h1
  | f::fs,s::sig,off,c::cs,[],r,hk,h1,h2,h,hx,hy=>by simp at h2
  | [],s::sig,off,cs,ds,r,hk,h1,h2,h,hx,hy=>by simp [okFlat] at hk
  | f::fs,[],off,cs,ds,r,hk,h1,h2,h,hx,hy=>by simp [okFlat] at hk
  | f::fs,s::sig,off,c::cs,e::ds,r,hk,h1,h2,h,hx,hy=>by
    simp only [okFlat,Bool.and_eq_true,bne_iff_ne,ne_eq,beq_iff_eq] at hk
    obtain ⟨⟨⟨k1,k2⟩,k3⟩,k4⟩:=hk
    simp only [List.map_cons,List.cons.injEq] at h1 h2
    obtain ⟨u,hu,ru⟩:=hx 0 c rfl
    obtain ⟨v,hv,rv⟩:=hy 0 e rfl
    rw [Nat.add_zero] at hu hv
    have hpart:∀(zs:Array Value) (z:Value),zs[off]?=some z→(part f.type zs f.offset).run P w=.ok z w:=fun zs z hz=>by
      rw [k2]
      split at k3
      all_goals first
        | (rename_i ht;simp [part,isAgg,run_underlying ht,hz])
        | cases k3
    have rec':∀b,scalarsEq cs ds=some b→(Op.eqFields (d+1) xs ys fs).run P w=.ok b w:=fun b hb=>
      eqFields_run d xs ys k4 h1.2 h2.2 hb (fun j c hc=>by have:=hx (j+1) c hc;rwa [show off+(j+1)=off+1+j by omega] at this) (fun j c hc=>by have:=hy (j+1) c hc;rwa [show off+(j+1)=off+1+j by omega] at this)
    have heq:∃b,scalEq c e=some b∧(Op.equalIn (d+1) f.type u v).run P w=.ok b w:=by
      simp only [scalarsEq] at h
      cases hse:scalEq c e with
      | none=>rw [hse] at h;cases h
      | some b=>
        refine ⟨b,rfl,?_⟩
        split at k3
        · rename_i ht
          simp only [beq_iff_eq] at k3
          subst k3
          cases c<;>simp [kindOf] at h1
          cases e<;>simp [kindOf] at h2
          simp only [scalEq,Option.some.injEq] at hse
          subst hse
          obtain rfl:=rep_bool ru
          obtain rfl:=rep_bool rv
          exact equalIn_bool d ht _ _
        · rename_i q ht
          simp only [beq_iff_eq] at k3
          subst k3
          cases c<;>simp [kindOf] at h1
          cases e<;>simp [kindOf] at h2
          simp only [scalEq] at hse
          split at hse
          · rename_i hkk
            subst hkk
            obtain rfl:=rep_int ru
            obtain rfl:=rep_int rv
            obtain rfl:=Option.some.inj hse
            exact run_equalIn_int w d f.type _ _ _ _ ht
          · cases hse
        · rename_i ht
          simp only [beq_iff_eq] at k3
          subst k3
          cases c<;>simp [kindOf] at h1
          cases e<;>simp [kindOf] at h2
          simp only [scalEq,Option.some.injEq] at hse
          subst hse
          obtain rfl:=rep_str ru
          obtain rfl:=rep_str rv
          simp [Op.equalIn,run_underlying ht]
        · cases k3
    obtain ⟨b,hb1,hb2⟩:=heq
    simp only [scalarsEq,hb1] at h
    simp only [Op.eqFields,k1,ne_eq,not_false_eq_true,if_true,Sem.run_bind,hpart xs u hu,hpart ys v hv,hb2,Result.andThen_ok]
    cases b
    · simp only [Option.some.injEq] at h
      subst h
      simp
    · simpa using rec' r h
theorem op_bins (he:EnvR w fz mem ρ env a) {op:BinOp} {b:Bin} {t t':TypeId} {x y:Operand} {x' y':Opd} {sig:List Nat} (ho:o.op=.binOp op t x y t') (hb:okBin op b=true) (hx:okOpd a.tmps.size x x'=true) (hy:okOpd a.tmps.size y y'=true)
    (ht:okStruct P t sig=true) {v:AV} (h:structV b sig (ev env x') (ev env y')=some v):PureOut P o a w fz mem ρ v:=by
  have e1:=opd_rep he hx
  have e2:=opd_rep he hy
  generalize ev env x'=p at *
  generalize ev env y'=q at *
  unfold structV at h
  split at h
  · rename_i cs ds
    split at h
    · rename_i hsig
      obtain ⟨r,h1,h2⟩:=Option.bind_eq_some_iff.1 h
      obtain ⟨xs,g1,g2,_,g3⟩:=rg_agg_rep e1
      obtain ⟨ys,g4,g5,_,g6⟩:=rg_agg_rep e2
      unfold okStruct at ht
      split at ht
      · rename_i fs hfs
        simp only [Bool.and_eq_true,Bool.not_eq_true'] at ht
        obtain ⟨⟨t1,t2⟩,t3⟩:=ht
        have hfo:P.fieldsOf t=fs:=by simp only [Program.fieldsOf,hfs]
        have hget:∀{cs:List AV} {xs:Array Value},xs.size=cs.length→(∀(j:Nat) (c:AV) (u:Value),cs[j]?=some c→xs[j]?=some u→Rep w fz mem ρ c u)→∀(j:Nat) (c:AV),cs[j]?=some c→∃u,xs[0+j]?=some u∧Rep w fz mem ρ c u:=fun {cs xs} hl hr j c hc=>by
          have hj:j<xs.size:=by rw [hl];exact (List.getElem?_eq_some_iff.1 hc).1
          exact ⟨xs[j],by simp [hj],hr j c _ hc (by simp [hj])⟩
        have hrun:(Op.equalIn 10000 t (.agg xs) (.agg ys)).run P w=.ok r w:=by
          rw [run_equalIn_struct w 9999 t xs ys (by rw [hfo];exact hfs) t1,hfo]
          exact eqFields_run 9998 xs ys t3 hsig.1 hsig.2 h1 (hget g2 g3) (hget g5 g6)
        have hg:=run_eqGuard_agg (P:=P) w op t x y xs ys t2
        split at h2
        · rename_i hh;subst hh
          simp only [Option.some.injEq] at h2;subst h2
          cases op<;>simp [okBin] at hb
          exact ⟨_,by simp only [execOp,ho,g1,g4,Sem.run_bind,hg,Result.andThen_ok,run_eql_struct,hrun,Sem.run_pure],.gr .bool⟩
        · split at h2
          · rename_i hh;subst hh
            simp only [Option.some.injEq] at h2;subst h2
            cases op<;>simp [okBin] at hb
            exact ⟨_,by simp only [execOp,ho,g1,g4,Sem.run_bind,hg,Result.andThen_ok,run_neq_struct,hrun,Sem.run_pure],.gr .bool⟩
          · cases h2
      · cases ht
    · cases h
  · cases h
end
end Go.V

namespace Go.V
open Go
section
variable {P:Program} {w:World} {fz:Nat→Prop} {mem:List AObj} {ρ:List Value} {env:Env} {a:Act} {o:Oper}
def okTy (P:Program) (t:TypeId) (agg:Bool) (n:Nat):Bool:=
  match P.underlying t,P.info? t with
  | some d,some i=>d.isRow==agg&&i.size==n&&(agg || n==1)
  | _,_=>false
theorem okTy_spec {t:TypeId} {agg:Bool} {n:Nat} (h:okTy P t agg n=true):∃d i,P.underlying t=some d∧P.info? t=some i∧d.isRow=agg∧i.size=n∧(agg=false→n=1):=by
  unfold okTy at h
  split at h
  · rename_i d i h1 h2
    simp only [Bool.and_eq_true,beq_iff_eq,Bool.or_eq_true] at h
    exact ⟨d,i,h1,h2,h.1.1,h.1.2,fun h'=>by rcases h.2 with h2|h2<;>simp_all⟩
  · cases h
theorem isAgg_run {t:TypeId} {d:TypeDesc} (h:P.underlying t=some d):(isAgg t).run P w=.ok d.isRow w:=by
  unfold isAgg
  rw [Sem.run_bind,run_underlying h]
  cases d<;>rfl
theorem load_run {t:TypeId} {agg:Bool} {n:Nat} (ht:okTy P t agg n=true) {b q i:Nat} {cs:List AV} {vs:List Value} (hl:vs.length=cs.length) (h1:∀u∈vs,u.oneCell'=true)
    (hc:∀(j:Nat) (u:Value),vs[j]?=some u→w.cell? ⟨b,q+j,none⟩=some u) (hr:∀(j:Nat) (c:AV) (u:Value),cs[j]?=some c→vs[j]?=some u→Rep w fz mem ρ c u) {v:AV} (h:sub agg n cs i=some v) :
    ∃u,(Instr.loadAt t (.pointer (some ⟨b,q+i,none⟩))).run P w=.ok u w∧Rep w fz mem ρ v u:=by
  obtain ⟨d,ti,h2,h3,h4,h5,h6⟩:=okTy_spec ht
  unfold sub at h
  split at h
  · rename_i hle
    split at h
    · rename_i hagg
      simp only [Option.some.injEq] at h
      subst h
      have hlen:((vs.drop i).take n).length=n:=by simp;omega
      refine ⟨.agg ((vs.drop i).take n).toArray,run_loadAt_mid w b (q+i) t ((vs.drop i).take n) d (fun j u hu=>?_) h2 (by rw [h4,hagg]) (by rw [h3,hlen,←h5];rfl),?_⟩
      · rw [List.getElem?_take] at hu
        split at hu
        · rw [List.getElem?_drop] at hu;rw [Nat.add_assoc];exact hc _ _ hu
        · cases hu
      · refine .agg (by simp;omega) (fun j u hu=>?_) (fun j c u hc' hu=>?_)
        · have:u∈vs:=by
            have hu':((vs.drop i).take n)[j]?=some u:=by simpa using hu
            exact List.mem_of_mem_drop (List.mem_of_mem_take (List.mem_of_getElem? hu'))
          exact h1 u this
        · have hu':((vs.drop i).take n)[j]?=some u:=by simpa using hu
          rw [List.getElem?_take] at hu' hc'
          split at hu'
          · rename_i hj
            rw [if_pos hj,List.getElem?_drop] at hc'
            rw [List.getElem?_drop] at hu'
            exact hr _ c u hc' hu'
          · cases hu'
    · rename_i hagg
      split at h
      · rename_i hn
        have hi:i<vs.length:=by omega
        have hg:vs[i]?=some vs[i]:=by simp [hi]
        refine ⟨vs[i],?_,hr i v _ h hg⟩
        have hcell:=hc i _ hg
        have hf:d.isRow=false:=by rw [h4];simpa using hagg
        simp only [Instr.loadAt,Instr.sureAddr,loadVar,Sem.run_bind,Sem.run_pure,Result.andThen_ok,isAgg_run h2,hf,Bool.false_eq_true,if_false]
        simp [run_load,hcell]
      · cases h
  · cases h
theorem op_ld (hm:Mem w fz mem ρ) (he:EnvR w fz mem ρ env a) {t:TypeId} {x:Operand} {x':Opd} {agg:Bool} {n:Nat} (ho:o.op=.load t x) (hx:okOpd a.tmps.size x x'=true) (ht:okTy P t agg n=true)
    {v:AV} {m:List AObj} (h:evalOp mem (ev env) (.ld agg n x')=some (v,m)):m=mem∧PureOut P o a w fz mem ρ v:=by
  have e1:=opd_rep he hx
  simp only [evalOp] at h
  split at h
  · rename_i cs j hj
    rw [hj] at e1
    obtain ⟨r,hs,hr⟩:=Option.map_eq_some_iff.1 h
    simp only [Prod.mk.injEq] at hr
    obtain ⟨rfl,rfl⟩:=hr
    obtain ⟨b,q,vs,hq,h1,h2,h3,h4,h5⟩:=rg_ptr_inv (rep_ptr e1)
    · obtain ⟨u,g1,g2⟩:=load_run (w:=w) (fz:=fz) (mem:=mem) (ρ:=ρ) ht h1 h3 h4 (fun j c u a b=>.gr (h5 j c u a b)) hs
      exact ⟨rfl,u,by simp only [execOp,ho,hq,Sem.run_bind,g1,Result.andThen_ok,Sem.run_pure],g2⟩
  · rename_i k g j hj
    rw [hj] at e1
    split at h
    · rename_i ob hob
      obtain ⟨r,hs,hr⟩:=Option.map_eq_some_iff.1 h
      simp only [Prod.mk.injEq] at hr
      obtain ⟨rfl,rfl⟩:=hr
      obtain ⟨b,q,cap,g1,g2⟩:=rep_loc e1 hob
      obtain ⟨vs,h2,h3,h4,h5,h6,_,_⟩:=hm.rowAt (geto_some hob).1 g1
      have hcell:∀(j:Nat) (u:Value),vs[j]?=some u→w.cell? ⟨b,0+j,none⟩=some u:=fun j u hu=>by
        have:=h2.cells (g:=b) rfl j u hu
        rwa [addr_add] at this
      obtain ⟨u,g3,g4⟩:=load_run (w:=w) (fz:=fz) (mem:=mem) (ρ:=ρ) ht h3 h5 hcell (fun j c u hc hu=>by
        have:=h6 j c u hc hu
        split at this
        · exact this
        · exact .gr this) hs
      rw [Nat.zero_add] at g3
      exact ⟨rfl,u,by simp only [execOp,ho,g2,Sem.run_bind,g3,Result.andThen_ok,Sem.run_pure],g4⟩
    · cases h
  · cases h
theorem op_ldf (hm:Mem w fz mem ρ) (he:EnvR w fz mem ρ env a) {t:TypeId} {x:Operand} {x':Opd} {agg:Bool} {n:Nat} (ho:o.op=.load t x) (hx:okOpd a.tmps.size x x'=true) (ht:okTy P t agg n=true)
    {v:AV} {m:List AObj} (h:evalOp mem (ev env) (.ldf agg n x')=some (v,m)):m=mem∧PureOut P o a w fz mem ρ v:=by
  refine op_ld hm he ho hx ht ?_
  simp only [evalOp] at h ⊢
  split at h
  · rename_i hj;rw [hj];exact h
  · cases h
theorem op_iaddrf (hm:Mem w fz mem ρ) (he:EnvR w fz mem ρ env a) {t elem:TypeId} {x y:Operand} {x' y':Opd} {sz:Nat} {i:TypeInfo} (ho:o.op=.indexAddr t x y) (hx:okOpd a.tmps.size x x'=true) (hy:okOpd a.tmps.size y y'=true)
    (ht:P.underlying t=some (.slice elem)) (hi:P.info? elem=some i) (hsz:i.size=sz) {v:AV} {m:List AObj} (h:evalOp mem (ev env) (.iaddrf sz x' y')=some (v,m)):m=mem∧PureOut P o a w fz mem ρ v:=by
  refine op_iaddr hm he ho hx hy ht hi hsz ?_
  simp only [evalOp] at h ⊢
  split at h
  · split at h
    · rename_i hk;simp only [hk];exact h
    · cases h
  · cases h
theorem op_nilchk (he:EnvR w fz mem ρ env a) {x:Operand} {x':Opd} (ho:o.op=.nilCheck x) (hx:okOpd a.tmps.size x x'=true) {v:AV} {m:List AObj} (h:evalOp mem (ev env) (.nilchk x')=some (v,m)):m=mem∧PureOut P o a w fz mem ρ v:=by
  have e1:=opd_rep he hx
  simp only [evalOp] at h
  split at h
  · rename_i cs j hj
    rw [hj] at e1
    simp only [Option.some.injEq,Prod.mk.injEq] at h
    obtain ⟨rfl,rfl⟩:=h
    obtain ⟨b,q,h1,_⟩:=rep_addr e1 j cs j rfl
    exact ⟨rfl,a.eval x,by simp [execOp,ho,h1],e1⟩
  · rename_i n g j hj
    rw [hj] at e1
    obtain ⟨ob,hob,h⟩:=Option.map_eq_some_iff.1 h
    simp only [Prod.mk.injEq] at h
    obtain ⟨rfl,rfl⟩:=h
    obtain ⟨b,q,cap,h1,h2⟩:=rep_loc e1 hob
    exact ⟨rfl,a.eval x,by simp [execOp,ho,h2],e1⟩
  · cases h
theorem part_run {t:TypeId} {agg:Bool} {n:Nat} (ht:okTy P t agg n=true) {off:Nat} {cs:List AV} {vs:Array Value} (hl:vs.size=cs.length) (h1:∀(j:Nat) (u:Value),vs[j]?=some u→u.oneCell'=true)
    (hr:∀(j:Nat) (c:AV) (u:Value),cs[j]?=some c→vs[j]?=some u→Rep w fz mem ρ c u) {v:AV} (h:sub agg n cs off=some v) :
    ∃u,(part t vs off).run P w=.ok u w∧Rep w fz mem ρ v u:=by
  obtain ⟨d,ti,h2,h3,h4,h5,h6⟩:=okTy_spec ht
  unfold sub at h
  split at h
  · rename_i hle
    split at h
    · rename_i hagg
      simp only [Option.some.injEq] at h
      subst h
      refine ⟨.agg (vs.extract off (off+n)),?_,.agg (by simp;omega) (fun j u hu=>?_) (fun j c u hc hu=>?_)⟩
      · simp [part,isAgg_run h2,h4,hagg,sizeOf,typeInfo,h3,h5]
      · rw [Array.getElem?_extract] at hu
        split at hu
        · exact h1 _ _ hu
        · cases hu
      · rw [Array.getElem?_extract] at hu
        split at hu
        · rename_i hj
          rw [List.getElem?_take,if_pos (by omega),List.getElem?_drop] at hc
          exact hr _ c u hc hu
        · cases hu
    · rename_i hagg
      split at h
      · have hi:off<vs.size:=by omega
        have hg:vs[off]?=some vs[off]:=by simp [hi]
        refine ⟨vs[off],?_,hr off v _ h hg⟩
        have hf:d.isRow=false:=by rw [h4];simpa using hagg
        simp [part,isAgg_run h2,hf,hi]
      · cases h
  · cases h
theorem op_fld (he:EnvR w fz mem ρ env a) {s:TypeId} {x:Operand} {x':Opd} {k off n:Nat} {agg:Bool} {fs:Array Field} {f:Field} (ho:o.op=.field s x k) (hx:okOpd a.tmps.size x x'=true)
    (hs:P.underlying s=some (.struct fs)) (hf:fs[k]?=some f) (hoff:f.offset=off) (ht:okTy P f.type agg n=true) {v:AV} {m:List AObj} (h:evalOp mem (ev env) (.fld agg off n x')=some (v,m)):m=mem∧PureOut P o a w fz mem ρ v:=by
  subst hoff
  have e1:=opd_rep he hx
  simp only [evalOp] at h
  split at h
  · rename_i cs hj
    rw [hj] at e1
    obtain ⟨r,hs',hr⟩:=Option.map_eq_some_iff.1 h
    simp only [Prod.mk.injEq] at hr
    obtain ⟨rfl,rfl⟩:=hr
    obtain ⟨vs,h1,h2,h3,h4⟩:=rg_agg_rep e1
    obtain ⟨u,g1,g2⟩:=part_run (P:=P) ht h2 h3 h4 hs'
    exact ⟨rfl,u,by simp [execOp,ho,h1,Instr.field,run_underlying hs,hf,asAgg,g1],g2⟩
  · cases h
theorem op_sidx (he:EnvR w fz mem ρ env a) {t:TypeId} {x y:Operand} {x' y':Opd} (ho:o.op=.index t x y) (hx:okOpd a.tmps.size x x'=true) (hy:okOpd a.tmps.size y y'=true)
    (ht:P.underlying t=some .string) {v:AV} {m:List AObj} (h:evalOp mem (ev env) (.sidx x' y')=some (v,m)):m=mem∧PureOut P o a w fz mem ρ v:=by
  have e1:=opd_rep he hx
  have e2:=opd_rep he hy
  simp only [evalOp] at h
  split at h
  · rename_i k j hj
    rw [hj] at e2
    have e2:=rep_int e2
    split at h
    · rename_i s hs
      rw [hs] at e1
      have e1:=rep_str e1
      split at h
      · rename_i h0
        obtain ⟨b,hb,hr⟩:=Option.map_eq_some_iff.1 h
        simp only [Prod.mk.injEq] at hr
        obtain ⟨rfl,rfl⟩:=hr
        refine ⟨rfl,.int .u8 b.toNat,?_,.gr .int⟩
        simp [execOp,ho,e1,e2,Instr.index,asIntOf,run_underlying ht,h0,hb]
      · cases h
    · cases h
  · cases h
theorem row_rep (hm:Mem w fz mem ρ) {c:AV} {v:Value} (hc:Rep w fz mem ρ c v) {n sz:Nat} {cs:List AV} (h:rowOf mem c=some (n,sz,cs)) :
    ∃ (A:Option Addr) (cap:Nat),v=.slice A n cap∧n≤cap∧cs.length=n*sz∧(n=0∨∃(b q:Nat) (vs:List Value),A=some ⟨b,q,none⟩∧vs.length=cs.length∧(∀u∈vs,u.oneCell'=true)∧
      (∀(j:Nat) (u:Value),vs[j]?=some u→w.cell? ⟨b,q+j,none⟩=some u)∧(∀(j:Nat) (d:AV) (u:Value),cs[j]?=some d→vs[j]?=some u→RG w fz d u)):=by
  unfold rowOf at h
  split at h
  · simp only [Option.some.injEq,Prod.mk.injEq] at h
    obtain ⟨rfl,rfl,rfl⟩:=h
    rcases rg_sl_inv (rep_sl hc).1 with ⟨rfl,rfl,A,cap,rfl⟩|⟨b,q,cap,vs,rfl,g1,g2,g3,g4,g5,g6,g7,g8⟩
    · exact ⟨A,cap,rfl,Nat.zero_le _,by simp,.inl rfl⟩
    · exact ⟨_,cap,rfl,g2,g3,.inr ⟨b,q,vs,rfl,g4,g6,g7,g8⟩⟩
  · simp only [Option.some.injEq,Prod.mk.injEq] at h
    obtain ⟨rfl,rfl,rfl⟩:=h
    cases hc with|gr hc=>cases hc;exact ⟨none,0,rfl,Nat.le_refl _,by simp,.inl rfl⟩
  · split at h
    · rename_i ob hob
      split at h
      · cases h
      · rename_i hbox
        simp only [Option.some.injEq,Prod.mk.injEq] at h
        obtain ⟨rfl,rfl,rfl⟩:=h
        obtain ⟨g1,g2⟩:=rep_arr hc hob
        obtain ⟨vs,h2,h3,h4,h5,h6,h7,h8⟩:=hm.rowAt (geto_some hob).1 g1
        rcases Nat.eq_zero_or_pos ob.n with h0|h0
        · obtain ⟨A,cap,rfl⟩:=h7 h0
          exact ⟨A,cap,by rw [h0],by omega,h4,.inl h0⟩
        · obtain ⟨b,cap,rfl,h11,h12⟩:=h8 h0
          exact ⟨_,cap,rfl,h11,h4,.inr ⟨b,0,vs,rfl,h3,h5,fun j u hu=>by rw [Nat.zero_add];exact h12 j u hu,fun j d u hd hu=>by have:=h6 j d u hd hu;rwa [if_neg hbox] at this⟩⟩
    · cases h
  · split at h
    · rename_i n g off len _ ob hob
      split at h
      · cases h
      · rename_i hbox
        simp only [Option.some.injEq,Prod.mk.injEq] at h
        obtain ⟨rfl,rfl,rfl⟩:=h
        obtain ⟨g1,A,c',rfl,g3,g4⟩:=rep_msl hc hob
        have hmn:=(geto_some hob).1
        have hltr:n<ρ.length:=by rw [hm.len];exact (List.getElem?_eq_some_iff.1 hmn).1
        have hr':ρ[n]?=some ρ[n]:=by simp [hltr]
        obtain ⟨vs,h2,h3,h4,h5,h6,h7,h8⟩:=hm.rowAt hmn hr'
        have hlen:off*ob.sz+len*ob.sz≤ob.cs.length:=by rw [h4,←Nat.add_mul];exact Nat.mul_le_mul_right _ g1
        refine ⟨A,c',rfl,g3,by simp;omega,?_⟩
        rcases Nat.eq_zero_or_pos len with h0|h0
        · exact .inl h0
        · obtain ⟨b,q,cap,g5,rfl⟩:=g4 (by omega)
          rw [hr'] at g5
          have g5':=Option.some.inj g5
          refine .inr ⟨b,off*ob.sz,(vs.drop (off*ob.sz)).take (len*ob.sz),rfl,by simp;omega,fun u hu=>h5 u (List.mem_of_mem_drop (List.mem_of_mem_take hu)),fun j u hu=>?_,fun j c u hc hu=>?_⟩
          · rw [List.getElem?_take] at hu
            split at hu
            · rw [List.getElem?_drop] at hu
              have:=h2.cells (g:=b) (by rw [g5'];rfl) _ u hu
              rw [addr_add] at this
              simpa using this
            · cases hu
          · rw [List.getElem?_take] at hu hc
            split at hu
            · rename_i hj
              rw [if_pos hj,List.getElem?_drop] at hc
              rw [List.getElem?_drop] at hu
              have:=h6 _ c u hc hu
              rwa [if_neg hbox] at this
            · cases hu
    · cases h
  · cases h
theorem op_len (hm:Mem w fz mem ρ) (he:EnvR w fz mem ρ env a) {t e:TypeId} {x:Operand} {x':Opd} (ho:o.op=.call ⟨.builtin .len,#[x],#[t]⟩) (hx:okOpd a.tmps.size x x'=true)
    (ht:P.underlying t=some (.slice e)) {v:AV} {m:List AObj} (h:evalOp mem (ev env) (.len x')=some (v,m)):m=mem∧PureOut P o a w fz mem ρ v:=by
  have e1:=opd_rep he hx
  simp only [evalOp] at h
  obtain ⟨⟨n,sz,cs⟩,hr,h⟩:=Option.map_eq_some_iff.1 h
  simp only [Prod.mk.injEq] at h
  obtain ⟨rfl,rfl⟩:=h
  obtain ⟨A,cap,h1,_⟩:=row_rep hm e1 hr
  refine ⟨rfl,.int .i64 n,?_,.gr .int⟩
  simp [execOp,ho,resolve,invoke,builtin,h1,Builtin.len_,run_underlying ht,goInt]
theorem op_lenf (hm:Mem w fz mem ρ) (he:EnvR w fz mem ρ env a) {t e:TypeId} {x:Operand} {x':Opd} (ho:o.op=.call ⟨.builtin .len,#[x],#[t]⟩) (hx:okOpd a.tmps.size x x'=true)
    (ht:P.underlying t=some (.slice e)) {v:AV} {m:List AObj} (h:evalOp mem (ev env) (.lenf x')=some (v,m)):m=mem∧PureOut P o a w fz mem ρ v:=by
  refine op_len hm he ho hx ht ?_
  simp only [evalOp] at h ⊢
  split at h
  · rename_i hj;rw [hj];simpa only [rowOf,Option.map_some] using h
  · cases h
theorem op_slen (he:EnvR w fz mem ρ env a) {t:TypeId} {x:Operand} {x':Opd} (ho:o.op=.call ⟨.builtin .len,#[x],#[t]⟩) (hx:okOpd a.tmps.size x x'=true)
    (ht:P.underlying t=some .string) {v:AV} {m:List AObj} (h:evalOp mem (ev env) (.slen x')=some (v,m)):m=mem∧PureOut P o a w fz mem ρ v:=by
  have e1:=opd_rep he hx
  simp only [evalOp] at h
  split at h
  · rename_i s hs
    rw [hs] at e1
    simp only [Option.some.injEq,Prod.mk.injEq] at h
    obtain ⟨rfl,rfl⟩:=h
    refine ⟨rfl,.int .i64 s.size,?_,.gr .int⟩
    simp [execOp,ho,resolve,invoke,builtin,rep_str e1,Builtin.len_,run_underlying ht,goInt]
  · cases h
theorem op_ext (he:EnvR w fz mem ρ env a) {x:Operand} {x':Opd} {i:Nat} (ho:o.op=.extract x i) (hx:okOpd a.tmps.size x x'=true) {v:AV} {m:List AObj} (h:evalOp mem (ev env) (.ext x' i)=some (v,m)):m=mem∧PureOut P o a w fz mem ρ v:=by
  have e1:=opd_rep he hx
  simp only [evalOp] at h
  split at h
  · rename_i vs hj
    rw [hj] at e1
    obtain ⟨r,hs',hr⟩:=Option.map_eq_some_iff.1 h
    simp only [Prod.mk.injEq] at hr
    obtain ⟨rfl,rfl⟩:=hr
    obtain ⟨us,h1,h2,h3⟩:=rg_tup_rep e1
    have hi:i<us.size:=by rw [h2];exact (List.getElem?_eq_some_iff.1 hs').1
    have hg:us[i]?=some us[i]:=by simp [hi]
    exact ⟨rfl,us[i],by simp [execOp,ho,h1,Instr.extract,hi],h3 i _ _ hs' hg⟩
  · cases h
theorem op_mx (he:EnvR w fz mem ρ env a) {x y:Operand} {x' y':Opd} {ts:Array TypeId} (ho:o.op=.call ⟨.builtin .max,#[x,y],ts⟩) (hx:okOpd a.tmps.size x x'=true) (hy:okOpd a.tmps.size y y'=true) {v:AV} {m:List AObj} (h:evalOp mem (ev env) (.mx x' y')=some (v,m)):m=mem∧PureOut P o a w fz mem ρ v:=by
  have e1:=opd_rep he hx
  have e2:=opd_rep he hy
  simp only [evalOp] at h
  split at h
  · rename_i k p k' q h1 h2
    rw [h1] at e1;rw [h2] at e2
    split at h
    · rename_i hk
      subst hk
      simp only [Option.some.injEq,Prod.mk.injEq] at h
      obtain ⟨rfl,rfl⟩:=h
      exact ⟨rfl,_,by simp [execOp,ho,resolve,invoke,builtin,rep_int e1,rep_int e2,Builtin.max_,Builtin.max2],.gr .int⟩
    · cases h
  · cases h
theorem op_mn (he:EnvR w fz mem ρ env a) {x y:Operand} {x' y':Opd} {ts:Array TypeId} (ho:o.op=.call ⟨.builtin .min,#[x,y],ts⟩) (hx:okOpd a.tmps.size x x'=true) (hy:okOpd a.tmps.size y y'=true) {v:AV} {m:List AObj} (h:evalOp mem (ev env) (.mn x' y')=some (v,m)):m=mem∧PureOut P o a w fz mem ρ v:=by
  have e1:=opd_rep he hx
  have e2:=opd_rep he hy
  simp only [evalOp] at h
  split at h
  · rename_i k p k' q h1 h2
    rw [h1] at e1;rw [h2] at e2
    split at h
    · rename_i hk
      subst hk
      simp only [Option.some.injEq,Prod.mk.injEq] at h
      obtain ⟨rfl,rfl⟩:=h
      exact ⟨rfl,_,by simp [execOp,ho,resolve,invoke,builtin,rep_int e1,rep_int e2,Builtin.min_,Builtin.min2],.gr .int⟩
    · cases h
  · cases h
def okOpds (N:Nat):List Operand→List Opd→Bool
  | [],[]=>true
  | x::xs,y::ys=>okOpd N x y&&okOpds N xs ys
  | _,_=>false
theorem opds_rep (he:EnvR w fz mem ρ env a):∀{xs:List Operand} {ys:List Opd},okOpds a.tmps.size xs ys=true→xs.length=ys.length∧∀(j:Nat) (y:Opd),ys[j]?=some y→∃x,xs[j]?=some x∧Rep w fz mem ρ (ev env y) (a.eval x)
  | [],[],_=>⟨rfl,fun j y h=>by simp at h⟩
  | x::xs,y::ys,h=>by
    simp only [okOpds,Bool.and_eq_true] at h
    obtain ⟨h1,h2⟩:=opds_rep he h.2
    refine ⟨by simp [h1],fun j z hz=>?_⟩
    cases j with
    | zero=>simp at hz;subst hz;exact ⟨x,rfl,opd_rep he h.1⟩
    | succ j=>simp at hz;obtain ⟨u,h3,h4⟩:=h2 j z hz;exact ⟨u,by simpa using h3,h4⟩
  | [],_::_,h=>by simp [okOpds] at h
  | _::_,[],h=>by simp [okOpds] at h
theorem op_mkfn (he:EnvR w fz mem ρ env a) {f:Nat} {xs:Array Operand} {ys:List Opd} (ho:o.op=.makeFunc (.func f) #[] xs) (hx:okOpds a.tmps.size xs.toList ys=true):PureOut P o a w fz mem ρ (.fn f (ys.map (ev env))):=by
  obtain ⟨h1,h2⟩:=opds_rep he hx
  refine ⟨.func (.func f) #[] (xs.map a.eval),by simp [execOp,ho,Instr.makeFunc],.fn (by simpa using h1) (fun j c u hc hu=>?_)⟩
  rw [List.getElem?_map] at hc
  obtain ⟨y,hy,rfl⟩:=Option.map_eq_some_iff.1 hc
  obtain ⟨x,hx',h3⟩:=h2 j y hy
  have hu':(xs.map a.eval)[j]?=some (a.eval x):=by
    rw [Array.getElem?_map]
    have:xs[j]?=some x:=by simpa using hx'
    rw [this];rfl
  rw [hu'] at hu
  obtain rfl:=Option.some.inj hu
  exact h3
theorem bound_run (he:EnvR w fz mem ρ env a) {x:Option Operand} {x':Option Opd} (hx:match x,x' with|none,none=>True|some y,some y'=>okOpd a.tmps.size y y'=true|_,_=>False)
    {d most top r:Nat} (hle:most≤top) (h:bound x' (ev env) d most=some r) (code:BoundsCode) :
    (match x.map a.eval with|some v=>Instr.sliceBound v top code|none=>pure d).run P w=.ok r w:=by
  cases x with
  | none=>
    cases x' with
    | none=>simp only [bound,Option.some.injEq] at h;subst h;rfl
    | some _=>exact hx.elim
  | some y=>
    cases x' with
    | none=>exact hx.elim
    | some y'=>
      have e:=opd_rep he hx
      simp only [bound] at h
      split at h
      · rename_i k i hi
        rw [hi] at e
        split at h
        · rename_i hc
          simp only [Option.some.injEq] at h
          subst h
          have hc2:0≤i∧i≤(top:Int):=⟨hc.1,by omega⟩
          simp [rep_int e,Instr.sliceBound,asIntOf,hc2]
        · cases h
      · cases h
theorem bound_le {x':Option Opd} {d most r:Nat} (hd:d≤most) (h:bound x' (ev env) d most=some r):r≤most:=by
  unfold bound at h
  split at h
  · simp only [Option.some.injEq] at h;omega
  · split at h
    · split at h
      · rename_i hc;simp only [Option.some.injEq] at h;omega
      · cases h
    · cases h
def okOpt (N:Nat):Option Operand→Option Opd→Prop
  | none,none=>True
  | some y,some y'=>okOpd N y y'=true
  | _,_=>False
theorem bounds_run (he:EnvR w fz mem ρ env a) {lo hi:Option Operand} {lo' hi':Option Opd} (hlo:okOpt a.tmps.size lo lo') (hhi:okOpt a.tmps.size hi hi') (isSlice:Bool) {n cap h l:Nat} (hn:n≤cap)
    (h1:bound hi' (ev env) n n=some h) (h2:bound lo' (ev env) 0 h=some l):(Instr.sliceBounds isSlice n cap (lo.map a.eval) (hi.map a.eval) none).run P w=.ok (l,h,cap) w:=by
  unfold Instr.sliceBounds
  have e1:=bound_run (P:=P) (w:=w) he (x:=hi) (x':=hi') (by cases hi<;>cases hi'<;>exact hhi) hn h1 (if isSlice then .sliceAcap else .sliceAlen)
  have e2:=bound_run (P:=P) (w:=w) he (x:=lo) (x':=lo') (by cases lo<;>cases lo'<;>exact hlo) (Nat.le_refl h) h2 .sliceB
  cases hi<;>cases lo<;>simp only [Option.map_none,Option.map_some] at e1 e2 ⊢<;>simp_all
theorem sliceAt_run {t elem:TypeId} {i:TypeInfo} (ht:P.underlying t=some (.slice elem)) (hi:P.info? elem=some i) {A:Option Addr} {n cap h l:Nat} {lo hi':Option Value}
    (hb:(Instr.sliceBounds true n cap lo hi' none).run P w=.ok (l,h,cap) w) :
    (Instr.sliceAt t (.slice A n cap) lo hi' none).run P w=.ok (.slice (if cap=l then A else A.map (·.add (l*i.size))) (h - l) (cap - l)) w:=by
  simp [Instr.sliceAt,Instr.slice,run_underlying ht,hb,sizeOf,typeInfo,hi]
theorem op_scut (he:EnvR w fz mem ρ env a) {t:TypeId} {x:Operand} {x':Opd} {lo hi:Option Operand} {lo' hi':Option Opd} (ho:o.op=.slice t x lo hi none) (hx:okOpd a.tmps.size x x'=true)
    (hlo:okOpt a.tmps.size lo lo') (hhi:okOpt a.tmps.size hi hi') (hu:P.underlying t=some .string) {v:AV} {m:List AObj} (h:evalOp mem (ev env) (.scut x' lo' hi')=some (v,m)):m=mem∧PureOut P o a w fz mem ρ v:=by
  have e1:=opd_rep he hx
  simp only [evalOp] at h
  split at h
  · rename_i s hs
    rw [hs] at e1
    obtain ⟨hh,g1,h⟩:=Option.bind_eq_some_iff.1 h
    obtain ⟨l,g2,h⟩:=Option.bind_eq_some_iff.1 h
    simp only [Option.some.injEq,Prod.mk.injEq] at h
    obtain ⟨rfl,rfl⟩:=h
    have hb:=bounds_run (P:=P) (w:=w) he hlo hhi false (Nat.le_refl _) g1 g2
    exact ⟨rfl,_,by simp [execOp,ho,rep_str e1,Instr.sliceAt,Instr.slice,run_underlying hu,hb],.gr .str⟩
  · cases h
theorem op_cut (hm:Mem w fz mem ρ) (he:EnvR w fz mem ρ env a) {t e:TypeId} {i:TypeInfo} {x:Operand} {x':Opd} {lo hi:Option Operand} {lo' hi':Option Opd} {sz:Nat} (ho:o.op=.slice t x lo hi none) (hx:okOpd a.tmps.size x x'=true)
    (hlo:okOpt a.tmps.size lo lo') (hhi:okOpt a.tmps.size hi hi') (hu:P.underlying t=some (.slice e)) (hi1:P.info? e=some i) (hi2:i.size=sz)
    {v:AV} {m:List AObj} (h:evalOp mem (ev env) (.cut sz x' lo' hi')=some (v,m)):m=mem∧PureOut P o a w fz mem ρ v:=by
  subst hi2
  have e1:=opd_rep he hx
  simp only [evalOp] at h
  obtain ⟨r,hcut,hr⟩:=Option.map_eq_some_iff.1 h
  clear h
  simp only [Prod.mk.injEq] at hr
  obtain ⟨rfl,rfl⟩:=hr
  refine ⟨rfl,?_⟩
  have h:=hcut
  clear hcut
  unfold cutOp at h
  split at h
  · rename_i n sz' cs hs
    rw [hs] at e1
    split at h
    · rename_i hsz
      subst hsz
      obtain ⟨hh,g1,h⟩:=Option.bind_eq_some_iff.1 h
      obtain ⟨l,g2,h⟩:=Option.bind_eq_some_iff.1 h
      simp only [Option.some.injEq] at h
      subst h
      have hhn:=bound_le (Nat.le_refl _) g1
      have hlh:=bound_le (Nat.zero_le _) g2
      obtain ⟨e2,A,cap,e3,hc⟩:=rep_sl e1
      have hb:=bounds_run (P:=P) (w:=w) he hlo hhi true hc g1 g2
      have hrun:=(show (execOp a.eval o).run P w=.ok (.value (.slice (if cap=l then A else A.map (fun z=>z.add (l*i.size))) (hh - l) (cap - l))) w by
          simp only [execOp,ho,e3,Option.map_none,Sem.run_bind,sliceAt_run hu hi1 hb,Result.andThen_ok,Sem.run_pure])
      refine ⟨_,hrun,.gr ?_⟩
      rcases Nat.eq_zero_or_pos (hh - l) with h0|h0
      · rw [h0,Nat.zero_mul,List.take_zero];exact .sl0
      · rw [e3] at e2
        rcases rg_sl_inv e2 with ⟨rfl,_⟩|⟨b,q,cap',vs,hcase,k1,k2,k3,k4,k5,k6,k7,k8⟩
        · omega
        · simp only [Value.slice.injEq] at hcase
          obtain ⟨rfl,_,rfl⟩:=hcase
          rw [if_neg (by omega)]
          simp only [Option.map_some,addr_add]
          have hlen:l*i.size+(hh - l)*i.size≤cs.length:=by rw [k3,←Nat.add_mul];exact Nat.mul_le_mul_right _ (by omega)
          refine .sl (vs:=(vs.drop (l*i.size)).take ((hh - l)*i.size)) h0 (by omega) (by simp;omega) (by simp;omega) k5 (fun u hu=>k6 u (List.mem_of_mem_drop (List.mem_of_mem_take hu))) (fun j u hu=>?_) (fun j c u hc' hu=>?_)
          · rw [List.getElem?_take] at hu
            split at hu
            · rw [List.getElem?_drop] at hu;rw [Nat.add_assoc];exact k7 _ _ hu
            · cases hu
          · rw [List.getElem?_take] at hu hc'
            split at hu
            · rename_i hj
              rw [if_pos hj,List.getElem?_drop] at hc'
              rw [List.getElem?_drop] at hu
              exact k8 _ c u hc' hu
            · cases hu
    · cases h
  · rename_i n g hs
    rw [hs] at e1
    split at h
    · rename_i ob hob
      split at h
      · rename_i hc
        obtain ⟨hsz,hbox⟩:=hc
        obtain ⟨hh,g1,h⟩:=Option.bind_eq_some_iff.1 h
        obtain ⟨l,g2,h⟩:=Option.bind_eq_some_iff.1 h
        simp only [Option.some.injEq] at h
        subst h
        have hhn:=bound_le (Nat.le_refl _) g1
        have hlh:=bound_le (Nat.zero_le _) g2
        obtain ⟨A,cap,e3,hc,hjunk⟩:=row_rep hm e1 (show rowOf mem (.arr n g)=some (ob.n,ob.sz,ob.cs) by simp only [rowOf,hob,hbox,Bool.false_eq_true,if_false])
        clear hjunk
        have hb:=bounds_run (P:=P) (w:=w) he hlo hhi true hc g1 g2
        obtain ⟨k1,k2⟩:=geto_some hob
        obtain ⟨r1,r2⟩:=rep_arr e1 hob
        have hrun:=(show (execOp a.eval o).run P w=.ok (.value (.slice (if cap=l then A else A.map (fun z=>z.add (l*i.size))) (hh - l) (cap - l))) w by
            simp only [execOp,ho,e3,Option.map_none,Sem.run_bind,sliceAt_run hu hi1 hb,Result.andThen_ok,Sem.run_pure])
        refine ⟨_,hrun,.msl k1 (Nat.le_of_eq k2.symm) rfl (fun _=>⟨by omega,_,_,rfl,by omega,fun hne=>?_⟩)⟩
        obtain ⟨vs,_,_,_,_,_,_,h8⟩:=hm.rowAt k1 r1
        obtain ⟨b,cap',e4,_,_⟩:=h8 (by omega)
        rw [e3] at e4
        simp only [Value.slice.injEq] at e4
        obtain ⟨rfl,_,rfl⟩:=e4
        refine ⟨b,ob.n,cap,by rw [r1,e3],?_⟩
        rw [if_neg (by omega)]
        simp [addr_add,hsz]
      · cases h
    · cases h
  · rename_i n g off len hs
    rw [hs] at e1
    split at h
    · rename_i ob hob
      split at h
      · rename_i hc
        obtain ⟨hsz,hbox⟩:=hc
        obtain ⟨hh,g1,h⟩:=Option.bind_eq_some_iff.1 h
        obtain ⟨l,g2,h⟩:=Option.bind_eq_some_iff.1 h
        simp only [Option.some.injEq] at h
        subst h
        have hhn:=bound_le (Nat.le_refl _) g1
        have hlh:=bound_le (Nat.zero_le _) g2
        obtain ⟨r1,A,c',e3,hc,r4⟩:=rep_msl e1 hob
        have hb:=bounds_run (P:=P) (w:=w) he hlo hhi true hc g1 g2
        obtain ⟨k1,k2⟩:=geto_some hob
        have hrun:=(show (execOp a.eval o).run P w=.ok (.value (.slice (if c'=l then A else A.map (fun z=>z.add (l*i.size))) (hh - l) (c' - l))) w by
            simp only [execOp,ho,e3,Option.map_none,Sem.run_bind,sliceAt_run hu hi1 hb,Result.andThen_ok,Sem.run_pure])
        refine ⟨_,hrun,.msl k1 (Nat.le_of_eq k2.symm) rfl (fun _=>⟨by omega,_,_,rfl,by omega,fun hne=>?_⟩)⟩
        obtain ⟨b,q,cap,r5,rfl⟩:=r4 (by omega)
        refine ⟨b,q,cap,r5,?_⟩
        rw [if_neg (by omega)]
        simp [addr_add,hsz,Nat.add_mul]
      · cases h
    · cases h
  · cases h
end
end Go.V

namespace Go.V
open Go
def MemOut (P:Program) (o:Oper) (a:Act) (w:World) (fz:Nat→Prop) (mem:List AObj) (ρ:List Value) (v:AV) (m:List AObj):Prop:=
  ∃ u w' fz' ρ',((execOp a.eval o).run P w=.ok (.value u) w'∨((execOp a.eval o).run P w=.ok .skip w'∧u=undef))∧
    Ext w fz mem ρ w' fz' m ρ'∧Mem w' fz' m ρ'∧Rep w' fz' m ρ' v u
section
variable {P:Program} {w:World} {fz:Nat→Prop} {mem:List AObj} {ρ:List Value} {env:Env} {a:Act} {o:Oper}
theorem rep_nilsl {ty sz:Nat} {v:Value} (h:Rep w fz mem ρ (.nilsl ty sz) v):v=.slice none 0 0∧0<sz:=by
  cases h with|gr h=>cases h with|nilsl h=>exact ⟨rfl,h⟩
theorem pushNil (hm:Mem w fz mem ρ) (ty sz:Nat) (hsz:0<sz) :
    Ext w fz mem ρ w fz (mem++[⟨false,ty,sz,0,0,[],false⟩]) (ρ++[.slice none 0 0])∧Mem w fz (mem++[⟨false,ty,sz,0,0,[],false⟩]) (ρ++[.slice none 0 0])∧
    Rep w fz (mem++[⟨false,ty,sz,0,0,[],false⟩]) (ρ++[.slice none 0 0]) (.arr mem.length 0) (.slice none 0 0):=by
  obtain ⟨h1,h2⟩:=hm.push (Old.refl w) ⟨false,ty,sz,0,0,[],false⟩ (.slice none 0 0) rfl hsz (fun b hb=>by simp [Value.ownBlock] at hb)
    ⟨[],World.ownsRow_nil w 0 ty sz,rfl,fun u hu=>(by simp at hu),fun j c u hc=>(by simp at hc)⟩
  refine ⟨h1,h2,.arr (o:=⟨false,ty,sz,0,0,[],false⟩) (by simp) (Nat.le_refl _) rfl (fun _=>?_)⟩
  rw [←hm.len]
  simp
theorem pushE (hm:Mem w fz mem ρ) (b:Bool) (ty sz:Nat) (hsz:0<sz) :
    Ext w fz mem ρ w fz (mem++[⟨b,ty,sz,0,0,[],false⟩]) (ρ++[.slice none 0 0])∧Mem w fz (mem++[⟨b,ty,sz,0,0,[],false⟩]) (ρ++[.slice none 0 0]):=
  hm.push (Old.refl w) ⟨b,ty,sz,0,0,[],false⟩ (.slice none 0 0) rfl hsz (fun b hb=>by simp [Value.ownBlock] at hb)
    ⟨[],World.ownsRow_nil w 0 ty sz,rfl,fun u hu=>(by simp at hu),fun j c u hc=>(by simp at hc)⟩
theorem op_newnilB (hm:Mem w fz mem ρ) (he:EnvR w fz mem ρ env a) {x:Operand} {ty sz:Nat} (ho:o.op=.move x∨o.op=.assign x) (h:okOpd a.tmps.size x (.k (.nilsl ty sz))=true) :
    MemOut P o a w fz mem ρ (.arr mem.length 0) (mem++[⟨true,ty,sz,0,0,[],false⟩]):=by
  have e:=opd_rep he h
  simp only [ev] at e
  obtain ⟨h1,h2⟩:=rep_nilsl e
  obtain ⟨h3,h4⟩:=pushE hm true ty sz h2
  refine ⟨.slice none 0 0,w,fz,_,.inl (by rcases ho with ho|ho<;>simp [execOp,ho,h1]),h3,h4,.arr (o:=⟨true,ty,sz,0,0,[],false⟩) (by simp) (Nat.le_refl _) rfl (fun _=>?_)⟩
  rw [←hm.len]
  simp
theorem op_newnil (hm:Mem w fz mem ρ) (he:EnvR w fz mem ρ env a) {x:Operand} {ty sz:Nat} (ho:o.op=.move x∨o.op=.assign x) (h:okOpd a.tmps.size x (.k (.nilsl ty sz))=true) :
    MemOut P o a w fz mem ρ (.arr mem.length 0) (mem++[⟨false,ty,sz,0,0,[],false⟩]):=by
  have e:=opd_rep he h
  simp only [ev] at e
  obtain ⟨h1,h2⟩:=rep_nilsl e
  obtain ⟨h3,h4,h5⟩:=pushNil hm ty sz h2
  exact ⟨_,w,fz,_,.inl (by rcases ho with ho|ho<;>simp [execOp,ho,h1]),h3,h4,h5⟩
theorem adopt_spec:∀(cs:List AV) {mem:List AObj} {ρ:List Value},Mem w fz mem ρ→∀(vs:List Value),vs.length=cs.length→(∀(j:Nat) (c:AV) (u:Value),cs[j]?=some c→vs[j]?=some u→Rep w fz mem ρ c u)→
    ∃ ρ',Ext w fz mem ρ w fz (adopt cs mem).2 ρ'∧Mem w fz (adopt cs mem).2 ρ'∧(adopt cs mem).1.length=cs.length∧
      (∀(j:Nat) (c:AV) (u:Value),(adopt cs mem).1[j]?=some c→vs[j]?=some u→Rep w fz (adopt cs mem).2 ρ' c u)
  | [],mem,ρ,hm,vs,hl,hr=>⟨ρ,Ext.refl,hm,rfl,fun j c u hc=>by simp [adopt] at hc⟩
  | c::cs,mem,ρ,hm,vs,hl,hr=>by
    match vs,hl with
    | v::vs,hl=>
      have hl':vs.length=cs.length:=by simpa using hl
      by_cases hn:∃ty sz,c=.nilsl ty sz
      · obtain ⟨ty,sz,rfl⟩:=hn
        obtain ⟨h1,h2⟩:=rep_nilsl (hr 0 _ v rfl rfl)
        obtain ⟨h3,h4,h5⟩:=pushNil hm ty sz h2
        obtain ⟨ρ',g1,g2,g3,g4⟩:=adopt_spec cs h4 vs hl' (fun j c u hc hu=>(hr (j+1) c u (by simpa using hc) (by simpa using hu)).ext h3)
        refine ⟨ρ',h3.trans g1,g2,by simp only [adopt,List.length_cons,g3],fun j c u hc hu=>?_⟩
        cases j with
        | zero=>
          simp only [adopt,List.getElem?_cons_zero,Option.some.injEq] at hc hu
          subst hc;subst hu
          rw [h1]
          exact h5.ext g1
        | succ j=>simp only [adopt,List.getElem?_cons_succ] at hc hu;exact g4 j c u hc hu
      · obtain ⟨ρ',g1,g2,g3,g4⟩:=adopt_spec cs hm vs hl' (fun j c u hc hu=>hr (j+1) c u (by simpa using hc) (by simpa using hu))
        have ha:adopt (c::cs) mem=(c::(adopt cs mem).1,(adopt cs mem).2):=by
          cases c<;>first|rfl|exact absurd ⟨_,_,rfl⟩ hn
        rw [ha]
        refine ⟨ρ',g1,g2,by simp [g3],fun j d u hc hu=>?_⟩
        cases j with
        | zero=>
          simp only [List.getElem?_cons_zero,Option.some.injEq] at hc hu
          subst hc;subst hu
          exact (hr 0 _ _ rfl rfl).ext g1
        | succ j=>simp only [List.getElem?_cons_succ] at hc hu;exact g4 j d u hc hu
theorem newBox (hm:Mem w fz mem ρ) (ty:Nat) {cs:List AV} {vs:Array Value} (hpos:0<cs.length) (hl:vs.size=cs.length) (h1:∀u∈vs.toList,u.oneCell'=true) (hr:∀(j:Nat) (c:AV) (u:Value),cs[j]?=some c→vs[j]?=some u→Rep w fz mem ρ c u) :
    ∃ ρ',Ext w fz mem ρ (w.alloc (.cells vs ty)) fz ((adopt cs mem).2++[⟨true,ty,cs.length,0,1,(adopt cs mem).1,false⟩]) ρ'∧Mem (w.alloc (.cells vs ty)) fz ((adopt cs mem).2++[⟨true,ty,cs.length,0,1,(adopt cs mem).1,false⟩]) ρ'∧
      Rep (w.alloc (.cells vs ty)) fz ((adopt cs mem).2++[⟨true,ty,cs.length,0,1,(adopt cs mem).1,false⟩]) ρ' (.loc (adopt cs mem).2.length 0 0) (.pointer (some ⟨w.heap.size,0,none⟩)):=by
  obtain ⟨ρ1,g1,g2,g3,g4⟩:=adopt_spec cs hm vs.toList (by simpa using hl) (fun j c u hc hu=>hr j c u hc (by simpa using hu))
  obtain ⟨k1,k2⟩:=g2.push (Old.alloc w (.cells vs ty)) ⟨true,ty,cs.length,0,1,(adopt cs mem).1,false⟩ (.slice (some ⟨w.heap.size,0,none⟩) 1 1) rfl hpos (fun b hb=>by simp [Value.ownBlock] at hb;omega)
    ⟨vs.toList,World.ownsRow_lit w vs 1 (Nat.zero_le _) (by simp [maxLen]) (by simpa using hl),by simp [g3,hl],h1,fun j c u hc hu=>by simpa using g4 j c u hc hu⟩
  refine ⟨_,g1.trans k1,k2,.loc (o:=⟨true,ty,cs.length,0,1,(adopt cs mem).1,false⟩) (by simp) (Nat.le_refl _) rfl (fun _=>⟨w.heap.size,1,1,?_,rfl⟩)⟩
  rw [←g2.len]
  simp
def okCells:List Value→List AV→Bool
  | [],[]=>true
  | v::vs,c::cs=>okCell v c&&okCells vs cs
  | _,_=>false
theorem okCells_spec:∀{vs:List Value} {cs:List AV},okCells vs cs=true→vs.length=cs.length∧(∀u∈vs,u.oneCell'=true)∧∀(j:Nat) (c:AV) (u:Value),cs[j]?=some c→vs[j]?=some u→RG w fz c u
  | [],[],_=>⟨rfl,fun u hu=>(by simp at hu),fun j c u hc=>by simp at hc⟩
  | v::vs,c::cs,h=>by
    simp only [okCells,Bool.and_eq_true] at h
    obtain ⟨h1,h2,h3⟩:=okCells_spec h.2
    obtain ⟨h4,h5⟩:=okCell_rg (w:=w) (fz:=fz) h.1
    refine ⟨by simp [h1],fun u hu=>?_,fun j d u hd hu=>?_⟩
    · rcases List.mem_cons.1 hu with rfl|hu
      · exact h5
      · exact h2 u hu
    · cases j with
      | zero=>simp at hd hu;subst hd;subst hu;exact h4
      | succ j=>simp at hd hu;exact h3 j d u hd hu
  | [],_::_,h=>by simp [okCells] at h
  | _::_,[],h=>by simp [okCells] at h
theorem op_alloc (hm:Mem w fz mem ρ) {ty:TypeId} {cs:List AV} {i:TypeInfo} {z:Value} (ho:o.op=.alloc ty) (hi:P.info? ty=some i) (hz:i.zero=some z) (hc:okCells z.cells.toList cs=true) (hpos:0<cs.length)
    {v:AV} {m:List AObj} (h:evalOp mem (ev env) (.alloc ty cs)=some (v,m)):MemOut P o a w fz mem ρ v m:=by
  simp only [evalOp,Option.some.injEq,Prod.mk.injEq] at h
  obtain ⟨rfl,rfl⟩:=h
  obtain ⟨h1,h2,h3⟩:=okCells_spec (w:=w) (fz:=fz) hc
  obtain ⟨ρ',g1,g2,g3⟩:=newBox hm ty (vs:=z.cells) hpos (by simpa using h1) h2 (fun j c u hc hu=>.gr (h3 j c u hc (by simpa using hu)))
  refine ⟨_,_,fz,ρ',.inl ?_,g1,g2,g3⟩
  simp [execOp,ho,Instr.alloc,zeroValue,typeInfo,hi,hz,newVar,newRow]
theorem op_box (hm:Mem w fz mem ρ) (he:EnvR w fz mem ρ env a) {ty:TypeId} {n:Nat} {x:Operand} {x':Opd} (ho:o.op=.box ty x) (hx:okOpd a.tmps.size x x'=true) (hn:0<n)
    {v:AV} {m:List AObj} (h:evalOp mem (ev env) (.box ty n x')=some (v,m)):MemOut P o a w fz mem ρ v m:=by
  have e1:=opd_rep he hx
  simp only [evalOp] at h
  split at h
  · rename_i cs hcs
    split at h
    · rename_i hl
      subst hl
      simp only [Option.some.injEq,Prod.mk.injEq] at h
      obtain ⟨rfl,rfl⟩:=h
      obtain ⟨h1,h2,h3⟩:=rep_cells e1 hcs
      obtain ⟨ρ',g1,g2,g3⟩:=newBox hm ty hn h1 h2 h3
      exact ⟨_,_,fz,ρ',.inl (by simp [execOp,ho,Instr.box,newVar,newRow]),g1,g2,g3⟩
    · cases h
  · cases h
theorem fill_fold:∀(ds:List Value) (off i:Nat) (cells:Array Value),off+i+ds.length≤cells.size→
    ((ds.zipIdx i).foldl (fun cs (p:Value × Nat)=>cs.setIfInBounds (off+p.2) p.1) cells).toList=cells.toList.take (off+i)++ds++cells.toList.drop (off+i+ds.length)
  | [],off,i,cells,h=>by simp
  | d::ds,off,i,cells,h=>by
    simp only [List.zipIdx_cons,List.foldl_cons]
    rw [fill_fold ds off (i+1) _ (by simp at h ⊢;omega)]
    have hlt:off+i<cells.toList.length:=by simp at h ⊢;omega
    simp only [Array.toList_setIfInBounds,List.length_cons]
    rw [show off+(i+1)=off+i+1 from by omega]
    rw [List.take_set,List.drop_set]
    rw [if_pos (by omega)]
    rw [List.take_succ_eq_append_getElem hlt,List.set_append]
    simp only [List.length_take]
    rw [if_neg (by omega)]
    rw [show off+i - min (off+i) cells.toList.length=0 from by omega]
    simp only [List.set_cons_zero,List.append_assoc,List.cons_append,List.nil_append]
    rw [show off+i+1+ds.length=off+i+(ds.length+1) from by omega]
theorem fill_step (v:Value) (off:Nat) (cells:Array Value) (h:off+v.cells.size≤cells.size) :
    (v.cells.zipIdx.foldl (fun cs (x:Value × Nat)=>cs.setIfInBounds (off+x.2) x.1) cells).toList=cells.toList.take off++v.cells.toList++cells.toList.drop (off+v.cells.size):=by
  have:=fill_fold v.cells.toList off 0 cells (by simpa using h)
  simp only [Nat.add_zero,Array.length_toList] at this
  rw [←this,←Array.foldl_toList,Array.toList_zipIdx]
theorem fillIn_get {α:Type} {xs ds:List α} {i j:Nat} (h:i+ds.length≤xs.length):(xs.take i++ds++xs.drop (i+ds.length))[j]?=if j<i then xs[j]? else if j<i+ds.length then ds[j - i]? else xs[j]?:=by
  rw [List.append_assoc,List.getElem?_append]
  simp only [List.length_take,show min i xs.length=i from by omega]
  split
  · rw [List.getElem?_take];simp [*]
  · rw [List.getElem?_append]
    split
    · rw [if_pos (by omega)]
    · rw [if_neg (by omega),List.getElem?_drop]
      congr 1
      omega
def okPart (P:Program) (N:Nat) (fs:Array Field) (p:Nat × Operand) (q:Nat × Nat × Opd):Bool:=
  okOpd N p.2 q.2.2&&(match fs[p.1]? with
    | some f=>f.offset==q.1&&(match P.info? f.type with|some i=>i.size==q.2.1|none=>false)
    | none=>false)
def okParts (P:Program) (N:Nat) (fs:Array Field):List (Nat × Operand)→List (Nat × Nat × Opd)→Bool
  | [],[]=>true
  | p::ps,q::qs=>okPart P N fs p q&&okParts P N fs ps qs
  | _,_=>false
def placesOf (P:Program) (fs:Array Field):Array (Nat × Nat):=fs.map fun f=>(f.offset,P.cellsOf f.type)
def placeOf (f:Field):Sem (Nat × Nat):=do pure (f.offset,←sizeOf f.type)
theorem placeOf_run {f:Field} (hf:(P.info? f.type).isSome=true):(placeOf f).run P w=.ok (f.offset,P.cellsOf f.type) w:=by
  obtain ⟨i,hi⟩:=Option.isSome_iff_exists.1 hf
  simp [placeOf,sizeOf,typeInfo,hi,Program.cellsOf]
theorem placesL_run:∀(l:List Field),(l.all (fun (f:Field)=>(P.info? f.type).isSome)=true)→(l.mapM placeOf).run P w=.ok (l.map fun (f:Field)=>(f.offset,P.cellsOf f.type)) w
  | [],_=>rfl
  | f::l,h=>by
    simp only [List.all_cons,Bool.and_eq_true] at h
    simp only [List.mapM_cons,Sem.run_bind,placeOf_run h.1,placesL_run l h.2,Result.andThen_ok,Sem.run_pure,List.map_cons]
theorem places_run (fs:Array Field) (hf:fs.all (fun (f:Field)=>(P.info? f.type).isSome)=true):(fs.mapM placeOf).run P w=.ok (placesOf P fs) w:=by
  have:=placesL_run (P:=P) (w:=w) fs.toList (by rw [Array.all_toList];exact hf)
  rw [Array.mapM_eq_mapM_toList]
  simp only [Sem.run_map,this,Result.andThen_ok,placesOf]
  congr 1
  apply Array.toList_inj.1
  simp
theorem fill_spec (he:EnvR w fz mem ρ env a) {fs:Array Field} (hf:fs.all (fun f=>(P.info? f.type).isSome)=true):∀{ps:List (Nat × Operand)} {qs:List (Nat × Nat × Opd)} {cells:Array Value} {cs cs':List AV},
    okParts P a.tmps.size fs ps qs=true→cells.size=cs.length→(∀u∈cells.toList,u.oneCell'=true)→(∀(j:Nat) (c:AV) (u:Value),cs[j]?=some c→cells[j]?=some u→Rep w fz mem ρ c u)→fillAll qs (ev env) cs=some cs'→
    ∃cells':Array Value,Instr.fill ((placesOf P fs)[·]?) cells (ps.map fun p=>(p.1,a.eval p.2))=some cells'∧cells'.size=cs'.length∧(∀u∈cells'.toList,u.oneCell'=true)∧(∀(j:Nat) (c:AV) (u:Value),cs'[j]?=some c→cells'[j]?=some u→Rep w fz mem ρ c u)
  | [],[],cells,cs,cs',_,hl,h1,hr,h=>by
    simp only [fillAll,Option.some.injEq] at h
    subst h
    exact ⟨cells,rfl,hl,h1,hr⟩
  | (k,x)::ps,(off,n,y)::qs,cells,cs,cs',hp,hl,h1,hr,h=>by
    simp only [okParts,okPart,Bool.and_eq_true] at hp
    obtain ⟨⟨hx,hk⟩,hps⟩:=hp
    split at hk
    · rename_i f hfk
      simp only [Bool.and_eq_true,beq_iff_eq] at hk
      obtain ⟨rfl,hk⟩:=hk
      split at hk
      · rename_i i hi
        simp only [beq_iff_eq] at hk
        subst hk
        simp only [fillAll] at h
        split at h
        · rename_i ds hds
          split at h
          · rename_i hc
            obtain ⟨hdl,hle⟩:=hc
            obtain ⟨g1,g2,g3⟩:=rep_cells (opd_rep he hx) hds
            have hplace:(placesOf P fs)[k]?=some (f.offset,i.size):=by simp [placesOf,hfk,Program.cellsOf,hi]
            have hstep:=fill_step (a.eval x) f.offset cells (by rw [g1,hdl,hl];exact hle)
            have hsz:(a.eval x).cells.size=i.size:=by rw [g1,hdl]
            generalize hnew:(a.eval x).cells.zipIdx.foldl (fun cs (p:Value × Nat)=>cs.setIfInBounds (f.offset+p.2) p.1) cells=cells2 at hstep
            have hlen2:cells2.size=(fillIn cs f.offset ds).length:=by
              have:=congrArg List.length hstep
              simp only [Array.length_toList,List.length_append,List.length_take,List.length_drop] at this
              simp only [fillIn,List.length_append,List.length_take,List.length_drop]
              omega
            obtain ⟨cells',k1,k2,k3,k4⟩:=fill_spec (cells:=cells2) he hf hps hlen2 (fun u hu=>by
                rw [hstep] at hu
                rcases List.mem_append.1 hu with hu|hu
                · rcases List.mem_append.1 hu with hu|hu
                  · exact h1 u (List.mem_of_mem_take hu)
                  · exact g2 u hu
                · exact h1 u (List.mem_of_mem_drop hu))
              (fun j c u hc hu=>by
                have hu':cells2.toList[j]?=some u:=by simpa using hu
                rw [hstep,←Array.length_toList,fillIn_get (by simp;omega)] at hu'
                unfold fillIn at hc
                rw [fillIn_get (by omega)] at hc
                simp only [Array.length_toList] at hu'
                split at hu'
                · rename_i hj;rw [if_pos hj] at hc;exact hr j c u hc (by simpa using hu')
                · rename_i hj
                  rw [if_neg hj] at hc
                  split at hu'
                  · rename_i hj2;rw [if_pos (by omega)] at hc;exact g3 _ c u hc (by simpa using hu')
                  · rename_i hj2;rw [if_neg (by omega)] at hc;exact hr j c u hc (by simpa using hu')) h
            refine ⟨cells',?_,k2,k3,k4⟩
            simp only [List.map_cons,Instr.fill,hplace]
            rw [if_neg (by simp [hsz];omega)]
            rw [hnew]
            exact k1
          · cases h
        · cases h
      · cases hk
    · cases hk
  | [],_::_,_,_,_,hp,_,_,_,_=>by simp [okParts] at hp
  | _::_,[],_,_,_,hp,_,_,_,_=>by simp [okParts] at hp
theorem op_build (he:EnvR w fz mem ρ env a) {t:TypeId} {ps:Array (Nat × Operand)} {zero:List AV} {qs:List (Nat × Nat × Opd)} {fs:Array Field} {i:TypeInfo} {z:Value} (ho:o.op=.build t ps) (hu:P.underlying t=some (.struct fs))
    (hi:P.info? t=some i) (hz:i.zero=some z) (hc:okCells z.cells.toList zero=true) (hf:fs.all (fun f=>(P.info? f.type).isSome)=true) (hp:okParts P a.tmps.size fs ps.toList qs=true)
    {v:AV} {m:List AObj} (h:evalOp mem (ev env) (.build zero qs)=some (v,m)):m=mem∧PureOut P o a w fz mem ρ v:=by
  simp only [evalOp] at h
  obtain ⟨cs',hfa,hr⟩:=Option.map_eq_some_iff.1 h
  simp only [Prod.mk.injEq] at hr
  obtain ⟨rfl,rfl⟩:=hr
  obtain ⟨h1,h2,h3⟩:=okCells_spec (w:=w) (fz:=fz) hc
  obtain ⟨cells',k1,k2,k3,k4⟩:=fill_spec (P:=P) (cells:=z.cells) he hf hp (by simpa using h1) h2 (fun j c u hc hu=>.gr (h3 j c u hc (by simpa using hu))) hfa
  have hpl:(fs.mapM fun (f:Field)=>(do pure (f.offset,←sizeOf f.type):Sem (Nat × Nat))).run P w=.ok (placesOf P fs) w:=places_run fs hf
  refine ⟨rfl,.agg cells',?_,.agg k2 (fun j u hu=>k3 u (by simpa using Array.mem_of_getElem? hu)) k4⟩
  have hmap:(ps.map fun p=>(p.1,a.eval p.2)).toList=ps.toList.map fun p=>(p.1,a.eval p.2):=by simp
  simp only [execOp,ho,Instr.build,Sem.run_bind,zeroValue,typeInfo,run_program,hi,hz,Result.andThen_ok,Sem.run_pure,run_underlying hu,hpl,hmap,k1]
end
end Go.V

namespace Go.V
open Go
section
variable {P:Program} {w:World} {fz:Nat→Prop} {mem:List AObj} {ρ:List Value} {env:Env} {a:Act} {o:Oper}
theorem rg_splice {F:AV→Value→Prop} {cs ds:List AV} {xs us:List Value} {i:Nat} (hl:xs.length=cs.length) (hd:us.length=ds.length) (hle:i+ds.length≤cs.length)
    (h1:∀(j:Nat) (c:AV) (u:Value),cs[j]?=some c→xs[j]?=some u→F c u) (h2:∀(j:Nat) (c:AV) (u:Value),ds[j]?=some c→us[j]?=some u→F c u) :
    ∀(j:Nat) (c:AV) (u:Value),(fillIn cs i ds)[j]?=some c→(xs.take i++us++xs.drop (i+us.length))[j]?=some u→F c u:=by
  intro j c u hc hu
  unfold fillIn at hc
  rw [fillIn_get (by omega)] at hc hu
  split at hu
  · rename_i hj;rw [if_pos hj] at hc;exact h1 j c u hc hu
  · rename_i hj
    rw [if_neg hj] at hc
    split at hu
    · rename_i hj2;rw [if_pos (by omega)] at hc;exact h2 _ c u hc hu
    · rename_i hj2;rw [if_neg (by omega)] at hc;exact h1 j c u hc hu
theorem one_splice {xs us:List Value} {i:Nat} (h1:∀u∈xs,u.oneCell'=true) (h2:∀u∈us,u.oneCell'=true):∀u∈xs.take i++us++xs.drop (i+us.length),u.oneCell'=true:=by
  intro u hu
  rcases List.mem_append.1 hu with hu|hu
  · rcases List.mem_append.1 hu with hu|hu
    · exact h1 u (List.mem_of_mem_take hu)
    · exact h2 u hu
  · exact h1 u (List.mem_of_mem_drop hu)
theorem storeRow {ty sz n b cap i:Nat} {xs us:List Value} (h:w.ownsRow 0 ty sz (.slice (some ⟨b,0,none⟩) n cap) n xs) (hle:i+us.length≤xs.length) (h1:∀u∈us,u.oneCell'=true) :
    ∃w',(storeCells ⟨b,i,none⟩ us).run P w=.ok () w'∧w'.ownsRow 0 ty sz (.slice (some ⟨b,0,none⟩) n cap) n (xs.take i++us++xs.drop (i+us.length))∧w.grownBy w' (some b):=by
  rcases h.2 with ⟨h',_⟩|⟨g,cap',cur,h',hb,hg,hnc,hcm,hcs,htake⟩
  · cases h'
  · simp only [Value.slice.injEq,Option.some.injEq,Addr.mk.injEq,and_true,true_and] at h'
    obtain ⟨rfl,rfl⟩:=h'
    have hxl:xs.length=n*sz:=h.1
    have hcl:n*sz≤cur.size:=by rw [hcs];exact Nat.mul_le_mul_right _ hnc
    have hrun:=run_storeCells_at P b i ty us 0 cur w hg (by simp;omega) h1
    simp only [Nat.add_zero] at hrun
    refine ⟨_,hrun,⟨by simp;omega,.inr ⟨b,cap,_,rfl,hb,setRow_heap w b cur _ ty (0,0) hg,hnc,hcm,by simp;omega,?_⟩⟩,?_⟩
    · subst htake
      rw [List.take_append,List.take_append]
      simp only [List.length_take,List.length_append,Array.length_toList,List.take_take,List.drop_take]
      simp only [List.length_take,Array.length_toList] at hle
      rw [show min (n*sz) i=i from by omega,show n*sz - min i cur.size=n*sz - i from by omega,List.take_of_length_le (show us.length≤n*sz - i from by omega),
        show n*sz - (min i cur.size+us.length)=n*sz - (i+us.length) from by omega,show min i (n*sz)=i from by omega]
    · refine ⟨rfl,rfl,rfl,?_,fun k hk hne=>setRow_other w b k _ (fun e=>hne (by rw [e]))⟩
      simp [World.setRow]
theorem storeVar_run {t:TypeId} {i:TypeInfo} (hi:P.info? t=some i) {v:Value} (hs:v.cells.size=i.size) {A:Addr} {w':World} (h:(storeCells A v.cells.toList).run P w=.ok () w'):(storeVar t A v).run P w=.ok () w':=by
  simp only [storeVar,sizeOf,typeInfo,Sem.run_bind,run_program,Result.andThen_ok,hi,Sem.run_pure]
  rw [if_neg (by simp [hs])]
  simpa using h
theorem slice_of_own {ty sz n b q cap:Nat} {vs:List Value} (h:w.ownsRow 0 ty sz (.slice (some ⟨b,0,none⟩) q cap) n vs):q=n:=by
  rcases h.2 with ⟨h',_⟩|⟨g,cap',cur,h',_⟩
  · cases h'
  · simp only [Value.slice.injEq] at h';exact h'.2.1
theorem op_st (hm:Mem w fz mem ρ) (he:EnvR w fz mem ρ env a) {t:TypeId} {i:TypeInfo} {x y:Operand} {x' y':Opd} {n:Nat} (ho:o.op=.store t x y) (hx:okOpd a.tmps.size x x'=true) (hy:okOpd a.tmps.size y y'=true)
    (hi:P.info? t=some i) (hn:i.size=n) {v:AV} {m:List AObj} (h:evalOp mem (ev env) (.st n x' y')=some (v,m)):MemOut P o a w fz mem ρ v m:=by
  subst hn
  have e1:=opd_rep he hx
  have e2:=opd_rep he hy
  simp only [evalOp,storeOp] at h
  split at h
  · rename_i k g j hj
    rw [hj] at e1
    split at h
    · rename_i ob hob
      obtain ⟨b,q,cap,r1,r2⟩:=rep_loc e1 hob
      obtain ⟨k1,k2⟩:=geto_some hob
      split at h
      · rename_i ds hds
        split at h
        · rename_i hc
          obtain ⟨hdl,hle,hfr⟩:=hc
          obtain ⟨g1,g2,g3⟩:=rep_cells e2 hds
          obtain ⟨vs,h2,h3,h4,h5,h6,_,_⟩:=hm.rowAt k1 r1
          obtain rfl:=slice_of_own h2
          have hus:(a.eval y).cells.toList.length=ds.length:=by simpa using g1
          obtain ⟨w',s1,s2,s3⟩:=storeRow (P:=P) (i:=j) (us:=(a.eval y).cells.toList) h2 (by rw [hus,h3];omega) g2
          have hst:=storeVar_run (P:=P) hi (by rw [g1,hdl]) s1
          have hrun:(execOp a.eval o).run P w=.ok .skip w':=by simp [execOp,ho,r2,Instr.storeAt,Instr.sureAddr,hst]
          split at h
          · rename_i hbox
            simp only [Option.some.injEq,Prod.mk.injEq] at h
            obtain ⟨rfl,rfl⟩:=h
            obtain ⟨ρ1,a1,a2,a3,a4⟩:=adopt_spec ds hm (a.eval y).cells.toList hus (fun j c u hc hu=>g3 j c u hc (by simpa using hu))
            obtain ⟨ob1,b1,b2,b3,b4,b5⟩:=a1.mem k ob k1
            have hold:(adopt ds mem).2[k]?=some ob:=by
              have:∀(cs:List AV) (mem:List AObj),mem[k]?=some ob→(adopt cs mem).2[k]?=some ob:=by
                intro cs
                induction cs with
                | nil=>exact fun _ h=>h
                | cons c cs ih=>
                  intro mem hk
                  have hlt:=(List.getElem?_eq_some_iff.1 hk).1
                  cases c<;>simp only [adopt]<;>first|exact ih _ hk|exact ih _ (by rw [List.getElem?_append_left hlt];exact hk)
              exact this ds mem k1
            have hρ:ρ1[k]?=some (.slice (some ⟨b,0,none⟩) ob.n cap):=by
              rw [hold] at b1
              obtain rfl:=Option.some.inj b1
              rw [(b3 rfl).1];exact r1
            obtain ⟨vs1,d2,d3,d4,d5,d6,_,_⟩:=a2.rowAt hold hρ
            obtain ⟨w1,t1,t2,t3⟩:=storeRow (P:=P) (i:=j) (us:=(a.eval y).cells.toList) d2 (by rw [hus,d3];omega) g2
            rw [s1] at t1
            obtain rfl:w'=w1:=by injection t1
            obtain ⟨c1,c2⟩:=a2.write (o2:={ ob with cs:=fillIn ob.cs j (adopt ds mem).1 }) hold hρ t3 hfr hfr rfl rfl (Nat.le_refl _) (fun _=>⟨rfl,rfl⟩) (fun b hb=>.inl hb)
              ⟨_,t2,by simp [fillIn,a3];omega,one_splice d5 g2,fun j' c u hc hu=>by
                simp only [hbox,if_true]
                exact rg_splice (F:=fun c u=>Rep w fz (adopt ds mem).2 ρ1 c u) d3 (by rw [a3];exact hus) (by rw [a3];omega) (fun j c u hc hu=>by have:=d6 j c u hc hu;rwa [if_pos hbox] at this)
                  a4 j' c u hc hu⟩
            exact ⟨undef,w',fz,_,.inr ⟨hrun,rfl⟩,a1.trans c1,c2,.gr .any⟩
          · rename_i hbox
            split at h
            · rename_i ds' hds'
              split at h
              · cases h
              · rename_i hnot
                simp only [Option.some.injEq,Prod.mk.injEq] at h
                obtain ⟨rfl,rfl⟩:=h
                obtain ⟨f1,f2⟩:=hm.freeze (refsL mem 9 true ds)
                have hmem2:(freeze (refsL mem 9 true ds) mem)[k]?=some ob:=by
                  rw [freeze_get,k1]
                  simp only [Option.map_some]
                  rw [if_neg hnot]
                obtain ⟨p1,p2⟩:=(snap_rg (fz2:=frzOf fz ρ (refsL mem 9 true ds)) hm (fun b hb=>.inl hb) 9).2 true ds ds' hds' (fun n hn u b hu hb=>.inr ⟨n,hn,u,hu,hb⟩)
                obtain ⟨c1,c2⟩:=f2.write (o2:={ ob with cs:=fillIn ob.cs j ds' }) hmem2 r1 s3 hfr hfr rfl rfl (Nat.le_refl _) (fun _=>⟨rfl,rfl⟩) (fun b hb=>.inl hb)
                  ⟨_,s2,by simp [fillIn,p1];omega,one_splice h5 g2,fun j' c u hc hu=>by
                    simp only [hbox]
                    exact rg_splice (F:=fun c u=>RG w (frzOf fz ρ (refsL mem 9 true ds)) c u) h3 (by rw [p1];exact hus) (by rw [p1];omega)
                      (fun j c u hc hu=>by have:=h6 j c u hc hu;rw [if_neg hbox] at this;exact this.mono f1.fzblk f1.sub)
                      (fun j c' u hc hu=>p2 j c' u hc (fun c hc2=>by simpa using g3 j c u hc2 (by simpa using hu))) j' c u hc hu⟩
                exact ⟨undef,w',_,_,.inr ⟨hrun,rfl⟩,f1.trans c1,c2,.gr .any⟩
            · cases h
        · cases h
      · cases h
    · cases h
  · cases h
theorem flatten_rep_get {α:Type} (l:List α) (hl:0<l.length):∀(n j:Nat),j<n*l.length→(List.replicate n l).flatten[j]?=l[j % l.length]?
  | 0,j,h=>by omega
  | n+1,j,h=>by
    rw [List.replicate_succ,List.flatten_cons,List.getElem?_append]
    split
    · rename_i hj;rw [Nat.mod_eq_of_lt hj]
    · rename_i hj
      rw [flatten_rep_get l hl n (j - l.length) (by rw [Nat.add_mul,Nat.one_mul] at h;omega)]
      congr 1
      exact (Nat.mod_eq_sub_mod (by omega)).symm
theorem flatten_rep_length {α:Type} (l:List α) (n:Nat):(List.replicate n l).flatten.length=n*l.length:=by
  induction n with
  | zero=>simp
  | succ n ih=>rw [List.replicate_succ,List.flatten_cons,List.length_append,ih,Nat.add_mul];omega
theorem made_get {z:Array Value} (hz:0<z.size) {n j:Nat} (hj:j<n):(madeCells z n).toList[j]?=z.toList[j % z.size]?:=by
  have hm:j % z.size<z.size:=Nat.mod_lt _ hz
  simp [madeCells,hj,hm]
theorem newRowG (hm:Mem w fz mem ρ) {w':World} (hw:Old w w') (ty sz n:Nat) {cs:List AV} {v:Value} {vs:List Value} (hpos:0<sz) (hb:∀b,v.ownBlock=some b→w.heap.size≤b) (hrow:w'.ownsRow 0 ty sz v n vs)
    (hl:vs.length=cs.length) (h1:∀u∈vs,u.oneCell'=true) (hr:∀(j:Nat) (c:AV) (u:Value),cs[j]?=some c→vs[j]?=some u→RG w fz c u) (hv:v.oneCell'=true) :
    ∃ρ',Ext w fz mem ρ w' fz (mem++[⟨false,ty,sz,0,n,cs,false⟩]) ρ'∧Mem w' fz (mem++[⟨false,ty,sz,0,n,cs,false⟩]) ρ'∧Rep w' fz (mem++[⟨false,ty,sz,0,n,cs,false⟩]) ρ' (.arr mem.length 0) v:=by
  obtain ⟨k1,k2⟩:=hm.push hw ⟨false,ty,sz,0,n,cs,false⟩ v rfl hpos hb ⟨vs,hrow,hl,h1,fun j c u hc hu=>by simpa using hr j c u hc hu⟩
  refine ⟨_,k1,k2,.arr (o:=⟨false,ty,sz,0,n,cs,false⟩) (by simp) (Nat.le_refl _) hv (fun _=>?_)⟩
  rw [←hm.len]
  simp
theorem op_sta (hm:Mem w fz mem ρ) (he:EnvR w fz mem ρ env a) {t:TypeId} {i:TypeInfo} {x y:Operand} {x' y':Opd} {n:Nat} {av:List Nat} (ho:o.op=.store t x y) (hx:okOpd a.tmps.size x x'=true) (hy:okOpd a.tmps.size y y'=true)
    (hi:P.info? t=some i) (hn:i.size=n) {v:AV} {m:List AObj} (h:evalOp mem (ev env) (.sta av n x' y')=some (v,m)):MemOut P o a w fz mem ρ v m:=by
  simp only [evalOp] at h
  split at h
  · exact op_st hm he ho hx hy hi hn (by simpa only [evalOp] using h)
  · cases h
theorem op_mk (hm:Mem w fz mem ρ) (he:EnvR w fz mem ρ env a) {t ty:TypeId} {i:TypeInfo} {z:Value} {x y:Operand} {x':Opd} {bytes:Nat} {zero:List AV} (ho:o.op=.makeSlice t x y) (hx:okOpd a.tmps.size x x'=true) (hy:okOpd a.tmps.size y x'=true)
    (ht:P.underlying t=some (.slice ty)) (hi:P.info? ty=some i) (hz:i.zero=some z) (hb:i.bytes=bytes) (hs:i.size=zero.length) (hc:okCells z.cells.toList zero=true) (hpos:0<zero.length)
    {v:AV} {m:List AObj} (h:evalOp mem (ev env) (.mk ty bytes zero x')=some (v,m)):MemOut P o a w fz mem ρ v m:=by
  subst hb
  have e1:=opd_rep he hx
  have e2:=opd_rep he hy
  simp only [evalOp] at h
  split at h
  · rename_i k n hn
    rw [hn] at e1 e2
    split at h
    · rename_i hcond
      obtain ⟨h0,hbn,h63⟩:=hcond
      simp only [Option.some.injEq,Prod.mk.injEq] at h
      obtain ⟨rfl,rfl⟩:=h
      obtain ⟨c1,c2,c3⟩:=okCells_spec (w:=w) (fz:=fz) hc
      obtain ⟨q,rfl⟩:=Int.eq_ofNat_of_zero_le h0
      simp only [Int.toNat_natCast] at hbn ⊢
      have hb':(i.bytes:Int)*(q:Int)≤281474976710656:=by
        have h:((i.bytes*q:Nat):Int)≤281474976710656:=by omega
        rwa [Int.natCast_mul] at h
      have hrun:=run_make (P:=P) w t ty i z ht hi hz k k q q h0 (Int.le_refl _) hb' (by omega)
      simp only [Int.toNat_natCast] at hrun
      have hzl:z.cells.size=zero.length:=by simpa using c1
      have hrow:=World.ownsRow_lit (base:=0) (e:=ty) (size:=zero.length) w (madeCells z.cells (q*i.size)) q (Nat.zero_le _) (by simp only [maxLen];omega) (by rw [size_madeCells,hs])
      obtain ⟨ρ',g1,g2,g3⟩:=newRowG hm (Old.alloc w _) ty zero.length q (cs:=(List.replicate q zero).flatten) hpos (fun b hb=>by simp [Value.ownBlock] at hb;omega) hrow
        (by rw [Array.length_toList,size_madeCells,flatten_rep_length,hs])
        (fun u hu=>by
          obtain ⟨j,hj⟩:=List.mem_iff_getElem?.1 hu
          have hlt:j<q*i.size:=by have:=(List.getElem?_eq_some_iff.1 hj).1;simpa [size_madeCells] using this
          rw [made_get (by omega) hlt] at hj
          exact c2 u (List.mem_of_getElem? hj))
        (fun j c u hc' hu=>by
          have hlt:j<q*i.size:=by have:=(List.getElem?_eq_some_iff.1 hu).1;simpa [size_madeCells] using this
          rw [made_get (by omega) hlt,hzl] at hu
          rw [flatten_rep_get zero hpos q j (by rw [←hs];exact hlt)] at hc'
          exact c3 _ c u hc' hu) rfl
      exact ⟨_,_,fz,ρ',.inl (by simp only [execOp,ho,rep_int e1,rep_int e2,Sem.run_bind,hrun,Result.andThen_ok,Sem.run_pure]),g1,g2,g3⟩
    · cases h
  · cases h
theorem op_mk0 (hm:Mem w fz mem ρ) (he:EnvR w fz mem ρ env a) {t ty:TypeId} {i:TypeInfo} {z:Value} {x y:Operand} {y':Opd} {bytes sz:Nat} (ho:o.op=.makeSlice t x y) (hx:okOpd a.tmps.size x (.k (.int .i64 0))=true) (hy:okOpd a.tmps.size y y'=true)
    (ht:P.underlying t=some (.slice ty)) (hi:P.info? ty=some i) (hz:i.zero=some z) (hb:i.bytes=bytes) (hs:i.size=sz) (hpos:0<sz)
    {v:AV} {m:List AObj} (h:evalOp mem (ev env) (.mk0 ty sz bytes y')=some (v,m)):MemOut P o a w fz mem ρ v m:=by
  subst hb;subst hs
  have e1:=opd_rep he hx
  have e2:=opd_rep he hy
  simp only [ev] at e1
  simp only [evalOp] at h
  split at h
  · rename_i k n hn
    rw [hn] at e2
    split at h
    · rename_i hcond
      obtain ⟨h0,hbn,h63⟩:=hcond
      simp only [Option.some.injEq,Prod.mk.injEq] at h
      obtain ⟨rfl,rfl⟩:=h
      obtain ⟨q,rfl⟩:=Int.eq_ofNat_of_zero_le h0
      simp only [Int.toNat_natCast] at hbn ⊢
      have hb':(i.bytes:Int)*(q:Int)≤281474976710656:=by
        have h:((i.bytes*q:Nat):Int)≤281474976710656:=by omega
        rwa [Int.natCast_mul] at h
      have hrun:=run_make (P:=P) w t ty i z ht hi hz .i64 k 0 q (Int.le_refl _) h0 hb' (by omega)
      simp only [Int.toNat_natCast] at hrun
      have hrow:=World.ownsRow_made (base:=0) (e:=ty) (size:=i.size) w (madeCells z.cells (q*i.size)) q (Nat.zero_le _) (by simp only [maxLen];omega) (by rw [size_madeCells])
      obtain ⟨ρ',g1,g2,g3⟩:=newRowG hm (Old.alloc w _) ty i.size 0 (cs:=[]) hpos (fun b hb=>by simp [Value.ownBlock] at hb;omega) hrow rfl (fun u hu=>by simp at hu) (fun j c u hc=>by simp at hc) rfl
      exact ⟨_,_,fz,ρ',.inl (by simp only [execOp,ho,rep_int e1,rep_int e2,Sem.run_bind,hrun,Result.andThen_ok,Sem.run_pure];rfl),g1,g2,g3⟩
    · cases h
  · cases h
theorem append_run {t ty e:TypeId} {i:TypeInfo} {z:Value} (ht:P.underlying t=some (.slice e)) (hi:P.info? e=some i) (hz:i.zero=some z) (hzs:z.cells.size=i.size) (hsz:0<i.size) {v:Value} {n:Nat} {xs:List Value}
    (hown:w.ownsRow 0 e i.size v n xs) {A:Option Addr} {m c:Nat} {news:List Value} (hl:news.length=m*i.size) (hnews:m=0∨∃b q,A=some ⟨b,q,none⟩∧∀(j:Nat) (u:Value),news[j]?=some u→w.cell? ⟨b,q+j,none⟩=some u)
    (h1:∀u∈news,u.oneCell'=true) (hb:(n+m)*i.bytes≤140737488355328) (h63:n+m≤140737488355328) :
    ∃v' w',(Builtin.append_ #[t,t] ty #[v,.slice A m c]).run P w=.ok v' w'∧w'.ownsRow 0 e i.size v' (n+m) (xs++news)∧w.grownBy w' v.ownBlock∧(v'.ownBlock=v.ownBlock∨v'.ownBlock=some w.heap.size)∧v'.oneCell'=true:=by
  have hone:∀{w':World} {v':Value} {n':Nat} {ys:List Value},w'.ownsRow 0 e i.size v' n' ys→v'.oneCell'=true:=fun h=>by
    rcases h.2 with ⟨rfl,_⟩|⟨g,cap,cur,rfl,_⟩<;>rfl
  by_cases hA:∃ad,A=some ad
  · obtain ⟨ad,rfl⟩:=hA
    obtain ⟨v',w',g1,g2,g3,_,g5⟩:=run_append_own_at (P:=P) w 0 t ty e i z i.size i.bytes ht hi hz rfl rfl hzs hsz v n xs hown ad m c news hl (fun j u hu=>by
        rcases hnews with h0|⟨b,q,h2,h3⟩
        · subst h0
          have:news=[]:=List.eq_nil_of_length_eq_zero (by simpa using hl)
          subst this
          simp at hu
        · obtain rfl:=Option.some.inj h2
          rw [addr_add];exact h3 j u hu) h1 (by simp only [maxLen];omega) hb (Nat.zero_le _)
    exact ⟨v',w',g1,g2,g3,g5,hone g2⟩
  · have hm:m=0:=by
      rcases hnews with h0|⟨b,q,h2,_⟩
      · exact h0
      · exact absurd ⟨_,h2⟩ hA
    subst hm
    have hn:news=[]:=List.eq_nil_of_length_eq_zero (by simpa using hl)
    subst hn
    have hAn:A=none:=by cases A with|none=>rfl|some ad=>exact absurd ⟨ad,rfl⟩ hA
    subst hAn
    refine ⟨v,w,?_,by simpa using hown,World.grownBy.refl w _,.inl rfl,hone hown⟩
    rcases hown.2 with ⟨rfl,hn⟩|⟨g,cap,cur,rfl,_,_,hnc,_⟩
    · simp [Builtin.append_,run_underlying ht,sizeOf,typeInfo,hi,Builtin.lenOf,Builtin.firstCells]
    · simp [Builtin.append_,run_underlying ht,sizeOf,typeInfo,hi,Builtin.lenOf,Builtin.firstCells,hnc,storeCells]
theorem op_app (hm:Mem w fz mem ρ) (he:EnvR w fz mem ρ env a) {t e:TypeId} {i:TypeInfo} {z:Value} {x y:Operand} {x' y':Opd} {sz bytes:Nat} (ho:o.op=.call ⟨.builtin .append,#[x,y],#[t,t]⟩) (hx:okOpd a.tmps.size x x'=true) (hy:okOpd a.tmps.size y y'=true)
    (ht:P.underlying t=some (.slice e)) (hi:P.info? e=some i) (hz:i.zero=some z) (hzs:z.cells.size=i.size) (hs:i.size=sz) (hb:i.bytes=bytes) {v:AV} {m:List AObj} (h:evalOp mem (ev env) (.app e sz bytes x' y')=some (v,m)):MemOut P o a w fz mem ρ v m:=by
  subst hs;subst hb
  have e1:=opd_rep he hx
  have e2:=opd_rep he hy
  simp only [evalOp] at h
  split at h
  · rename_i mm sz' ds hrow
    split at h
    · rename_i hsz'
      subst hsz'
      split at h
      · rename_i k g hk
        rw [hk] at e1
        split at h
        · rename_i ob hob
          split at h
          · rename_i hc
            obtain ⟨hbox,hfr,hosz,hoty,hb1,hb2⟩:=hc
            simp only [Option.some.injEq,Prod.mk.injEq] at h
            obtain ⟨rfl,rfl⟩:=h
            obtain ⟨k1,k2⟩:=geto_some hob
            obtain ⟨r1,r2⟩:=rep_arr e1 hob
            obtain ⟨vs,h2,h3,h4,h5,h6,_,_⟩:=hm.rowAt k1 r1
            obtain ⟨A,cap,q1,q2,q3,q4⟩:=row_rep hm e2 hrow
            have hpos:=(hm.obj k ob _ k1 r1).pos
            have hex:∃us:List Value,us.length=ds.length∧(∀u∈us,u.oneCell'=true)∧(∀(j:Nat) (d:AV) (u:Value),ds[j]?=some d→us[j]?=some u→RG w fz d u)∧
                (mm=0∨∃b q,A=some ⟨b,q,none⟩∧∀(j:Nat) (u:Value),us[j]?=some u→w.cell? ⟨b,q+j,none⟩=some u):=by
              rcases q4 with h0|⟨b,q,us,z1,z2,z3,z4,z5⟩
              · subst h0
                have:ds=[]:=List.eq_nil_of_length_eq_zero (by rw [q3];simp)
                subst this
                exact ⟨[],rfl,fun u hu=>(by simp at hu),fun j d u hd=>(by simp at hd),.inl rfl⟩
              · exact ⟨us,z2,z3,z5,.inr ⟨b,q,z1,z4⟩⟩
            obtain ⟨us,u1,u2,u3,u4⟩:=hex
            rw [hoty,hosz] at h2
            obtain ⟨v',w',g1,g2,g3,g4,g5⟩:=append_run (P:=P) (ty:=o.type) (c:=cap) ht hi hz hzs (by rw [←hosz];exact hpos) h2 (news:=us) (by rw [u1,q3]) u4 u2 hb1 hb2
            obtain ⟨c1,c2⟩:=hm.write (o2:={ ob with g:=g+1,n:=ob.n+mm,cs:=ob.cs++ds }) k1 r1 g3 hfr hfr rfl rfl (by simp only [];omega) (fun hh=>absurd hh (by simp only [];omega))
              (fun b hb=>by
                rcases g4 with g4|g4
                · exact .inl (by rw [←g4];exact hb)
                · rw [g4] at hb;exact .inr (by have:=Option.some.inj hb;omega))
              ⟨vs++us,by simpa only [hoty,hosz] using g2,by simp [h3,u1],fun u hu=>by
                rcases List.mem_append.1 hu with hu|hu
                · exact h5 u hu
                · exact u2 u hu,fun j c u hc hu=>by
                simp only [hbox,Bool.false_eq_true,if_false]
                rw [List.getElem?_append] at hc hu
                split at hu
                · rename_i hj
                  rw [if_pos (by omega)] at hc
                  have:=h6 j c u hc hu
                  simpa only [hbox,Bool.false_eq_true,if_false] using this
                · rename_i hj
                  rw [if_neg (by omega)] at hc
                  rw [h3] at hu
                  exact u3 _ c u hc hu⟩
            have hlt:=(List.getElem?_eq_some_iff.1 k1).1
            refine ⟨v',w',fz,_,.inl ?_,c1,c2,.arr (o:={ ob with g:=g+1,n:=ob.n+mm,cs:=ob.cs++ds }) (by simp [hlt]) (Nat.le_refl _) g5 (fun _=>by simp [show k<ρ.length by rw [hm.len];exact hlt])⟩
            simp [execOp,ho,resolve,invoke,builtin,q1,g1]
          · cases h
        · cases h
      · cases h
    · cases h
  · cases h
def okSeq (N:Nat):Nat→List (Nat × Operand)→List Opd→Bool
  | _,[],[]=>true
  | k,p::ps,y::ys=>p.1==k&&okOpd N p.2 y&&okSeq N (k+1) ps ys
  | _,_,_=>false
theorem bsl_parts {fz2:Nat→Prop} (hm:Mem w fz mem ρ) (he:EnvR w fz mem ρ env a) (hsub:∀b,fz b→fz2 b) {sz:Nat}:∀(ps:List (Nat × Operand)) (ys:List Opd) (k:Nat) (css:List (List AV)),okSeq a.tmps.size k ps ys=true→
    ys.mapM (fun x=>(cellsOf (ev env x)).bind fun cs=>if cs.length=sz then snapL mem 9 true cs else none)=some css→
    (∀n∈ys.flatMap (fun x=>refsL mem 9 true ((cellsOf (ev env x)).getD [])),∀(u:Value) (b:Nat),ρ[n]?=some u→u.ownBlock=some b→fz2 b)→
    ∃ vs:List Value,vs.length=ys.length*sz∧vs.length=css.flatten.length∧(∀u∈vs,u.oneCell'=true)∧(∀(j:Nat) (c:AV) (u:Value),css.flatten[j]?=some c→vs[j]?=some u→RG w fz2 c u)∧
      ∀ (cells:Array Value),(k+ys.length)*sz≤cells.size→∃cells':Array Value,Instr.fill (fun i=>some (i*sz,sz)) cells (ps.map fun p=>(p.1,a.eval p.2))=some cells'∧cells'.size=cells.size∧
        cells'.toList=cells.toList.take (k*sz)++vs++cells.toList.drop ((k+ys.length)*sz)
  | [],[],k,css,_,h,_=>by
    simp only [List.mapM_nil,Option.pure_def,Option.some.injEq] at h
    subst h
    exact ⟨[],by simp,rfl,fun u hu=>(by simp at hu),fun j c u hc=>(by simp at hc),fun cells hc=>⟨cells,rfl,rfl,by simp⟩⟩
  | (i,x)::ps,y::ys,k,css,hp,h,hn=>by
    simp only [okSeq,Bool.and_eq_true,beq_iff_eq] at hp
    obtain ⟨⟨rfl,hx⟩,hps⟩:=hp
    rw [List.mapM_cons] at h
    cases hcy:cellsOf (ev env y) with
    | none=>simp [hcy] at h
    | some cs=>
      simp only [hcy,Option.bind_some] at h
      by_cases hsz:cs.length=sz
      · rw [if_pos hsz] at h
        cases hs:snapL mem 9 true cs with
        | none=>simp [hs] at h
        | some ds=>
          simp only [hs] at h
          cases hr:ys.mapM (fun x=>(cellsOf (ev env x)).bind fun cs=>if cs.length=sz then snapL mem 9 true cs else none) with
          | none=>simp [hr] at h
          | some css'=>
            simp [hr] at h
            subst h
            have hn1:∀n∈refsL mem 9 true cs,∀(u:Value) (b:Nat),ρ[n]?=some u→u.ownBlock=some b→fz2 b:=fun n hn'=>hn n (by
              rw [List.flatMap_cons,hcy];exact List.mem_append.2 (.inl hn'))
            have hn2:∀n∈ys.flatMap (fun x=>refsL mem 9 true ((cellsOf (ev env x)).getD [])),∀(u:Value) (b:Nat),ρ[n]?=some u→u.ownBlock=some b→fz2 b:=fun n hn'=>hn n (by
              rw [List.flatMap_cons];exact List.mem_append.2 (.inr hn'))
            obtain ⟨vs,h1,h2,h3,h4,h5⟩:=bsl_parts hm he hsub ps ys (i+1) css' hps hr hn2
            obtain ⟨g1,g2,g3⟩:=rep_cells (opd_rep he hx) hcy
            obtain ⟨p1,p2⟩:=(snap_rg (fz2:=fz2) hm hsub 9).2 true cs ds hs hn1
            have hul:(a.eval x).cells.toList.length=sz:=by simpa [hsz] using g1
            refine ⟨(a.eval x).cells.toList++vs,by rw [List.length_append,hul,h1,List.length_cons,Nat.add_mul];omega,by rw [List.flatten_cons,List.length_append,List.length_append,hul,p1,hsz,h2],fun u hu=>?_,fun j c u hc hu=>?_,fun cells hcells=>?_⟩
            · rcases List.mem_append.1 hu with hu|hu
              · exact g2 u hu
              · exact h3 u hu
            · rw [List.flatten_cons,List.getElem?_append] at hc
              rw [List.getElem?_append] at hu
              split at hu
              · rename_i hj
                rw [if_pos (by omega)] at hc
                exact p2 j c u hc (fun c' hc'=>by simpa using g3 j c' u hc' (by simpa using hu))
              · rename_i hj
                rw [if_neg (by omega)] at hc
                rw [hul] at hu
                rw [p1,hsz] at hc
                exact h4 _ c u hc hu
            · have hle:i*sz+sz≤cells.size:=by
                have:(i+1)*sz≤(i+(y::ys).length)*sz:=Nat.mul_le_mul_right _ (by simp)
                rw [Nat.add_mul,Nat.one_mul] at this
                omega
              have hstep:=fill_step (a.eval x) (i*sz) cells (by rw [g1,hsz];exact hle)
              generalize hnew:(a.eval x).cells.zipIdx.foldl (fun cs (p:Value × Nat)=>cs.setIfInBounds (i*sz+p.2) p.1) cells=cells2 at hstep
              have hlen2:cells2.size=cells.size:=by
                have:=congrArg List.length hstep
                simp only [Array.length_toList,List.length_append,List.length_take,List.length_drop] at this
                omega
              obtain ⟨cells',k1,k2,k3⟩:=h5 cells2 (by rw [hlen2];simpa [Nat.add_assoc,Nat.add_comm 1] using hcells)
              refine ⟨cells',?_,by rw [k2,hlen2],?_⟩
              · simp only [List.map_cons,Instr.fill]
                rw [if_neg (by simp [g1,hsz];omega),hnew]
                exact k1
              · rw [k3,hstep,g1,hsz]
                have e1:(i+1)*sz=i*sz+sz:=by rw [Nat.add_mul,Nat.one_mul]
                have e2:(i+1+ys.length)*sz=(i+(y::ys).length)*sz:=by rw [List.length_cons];congr 1;omega
                have e3:i*sz+sz≤(i+(y::ys).length)*sz:=by
                  rw [←e1];exact Nat.mul_le_mul_right _ (by simp)
                rw [e2,e1]
                have hl1:(cells.toList.take (i*sz)).length=i*sz:=by simp;omega
                have htk:(cells.toList.take (i*sz)++(a.eval x).cells.toList++cells.toList.drop (i*sz+sz)).take (i*sz+sz)=cells.toList.take (i*sz)++(a.eval x).cells.toList:=by
                  rw [List.take_left' (by rw [List.length_append,hl1,hul])]
                have hdr:(cells.toList.take (i*sz)++(a.eval x).cells.toList++cells.toList.drop (i*sz+sz)).drop ((i+(y::ys).length)*sz)=cells.toList.drop ((i+(y::ys).length)*sz):=by
                  rw [List.drop_append,List.drop_eq_nil_of_le (by rw [List.length_append,hl1,hul];exact e3),List.nil_append,List.length_append,hl1,hul,List.drop_drop]
                  congr 1
                  omega
                rw [htk,hdr]
                simp only [List.append_assoc]
      · rw [if_neg hsz] at h
        simp at h
  | [],_::_,_,_,hp,_,_=>by simp [okSeq] at hp
  | _::_,[],_,_,hp,_,_=>by simp [okSeq] at hp
theorem op_bsl (hm:Mem w fz mem ρ) (he:EnvR w fz mem ρ env a) {t ty:TypeId} {i:TypeInfo} {z:Value} {len sz:Nat} {ps:Array (Nat × Operand)} {ys:List Opd} (ho:o.op=.buildSlice t len ps) (hp:okSeq a.tmps.size 0 ps.toList ys=true) (hlen:ys.length=len)
    (ht:P.underlying t=some (.slice ty)) (hi:P.info? ty=some i) (hz:i.zero=some z) (hs:i.size=sz) (hpos:0<sz) (hmax:len*sz≤16777216)
    {v:AV} {m:List AObj} (h:evalOp mem (ev env) (.bsl ty sz ys)=some (v,m)):MemOut P o a w fz mem ρ v m:=by
  subst hs;subst hlen
  simp only [evalOp] at h
  split at h
  · rename_i css hcss
    simp only [Option.some.injEq,Prod.mk.injEq] at h
    obtain ⟨rfl,rfl⟩:=h
    obtain ⟨f1,f2⟩:=hm.freeze (ys.flatMap fun x=>refsL mem 9 true ((cellsOf (ev env x)).getD []))
    obtain ⟨vs,h1,h2,h3,h4,h5⟩:=bsl_parts (fz2:=frzOf fz ρ (ys.flatMap fun x=>refsL mem 9 true ((cellsOf (ev env x)).getD []))) hm he (fun b hb=>.inl hb) ps.toList ys 0 css hp hcss (fun n hn u b hu hb=>.inr ⟨n,hn,u,hu,hb⟩)
    have hbuild:∃cells':Array Value,cells'.toList=vs∧(Instr.buildSlice t ys.length (ps.map fun p=>(p.1,a.eval p.2))).run P w=.ok (.slice (some ⟨w.heap.size,0,none⟩) ys.length ys.length) (w.alloc (.cells cells' ty)):=by
      have hmap:(ps.map fun p=>(p.1,a.eval p.2)).toList=ps.toList.map fun p=>(p.1,a.eval p.2):=by simp
      by_cases h0:ys.length*i.size=0
      · obtain ⟨cells',k1,k2,k3⟩:=h5 ((Array.range (ys.length*i.size)).map ((#[]:Array Value)[· % (#[]:Array Value).size]!)) (by simp)
        refine ⟨cells',?_,?_⟩
        · rw [k3];simp
        · simp only [Instr.buildSlice,Sem.run_bind,run_underlying ht,Result.andThen_ok,sizeOf,typeInfo,run_program,hi,Sem.run_pure]
          rw [if_neg (by omega)]
          rw [if_pos h0]
          simp only [Sem.run_pure,Result.andThen_ok,hmap,k1,newRow,Sem.run_bind]
          simp
      · obtain ⟨cells',k1,k2,k3⟩:=h5 ((Array.range (ys.length*i.size)).map (z.cells[· % z.cells.size]!)) (by simp)
        refine ⟨cells',?_,?_⟩
        · rw [k3];simp
        · simp only [Instr.buildSlice,Sem.run_bind,run_underlying ht,Result.andThen_ok,sizeOf,typeInfo,run_program,hi,Sem.run_pure]
          rw [if_neg (by omega)]
          rw [if_neg h0]
          simp only [zeroValue,typeInfo,Sem.run_bind,run_program,Result.andThen_ok,hi,hz,Sem.run_pure,hmap,k1,newRow]
          simp
    obtain ⟨cells',k1,k2⟩:=hbuild
    have hrow:=World.ownsRow_lit (base:=0) (e:=ty) (size:=i.size) w cells' ys.length (Nat.zero_le _) (by
      have:ys.length≤ys.length*i.size:=Nat.le_mul_of_pos_right _ hpos
      simp only [maxLen];omega) (by rw [←Array.length_toList,k1,h1])
    rw [k1] at hrow
    obtain ⟨ρ',g1,g2,g3⟩:=newRowG f2 (Old.alloc w _) ty i.size ys.length (cs:=css.flatten) hpos (fun b hb=>by simp [Value.ownBlock] at hb;omega) hrow h2 h3 h4 rfl
    rw [freeze_length] at g3
    exact ⟨_,_,_,ρ',.inl (by simp only [execOp,ho,Sem.run_bind,k2,Result.andThen_ok,Sem.run_pure]),f1.trans g1,g2,g3⟩
  · cases h
theorem op_cpy (hm:Mem w fz mem ρ) (he:EnvR w fz mem ρ env a) {t e:TypeId} {i:TypeInfo} {x y:Operand} {x' y':Opd} {sz:Nat} {ts:Array TypeId} (ho:o.op=.call ⟨.builtin .copy,#[x,y],ts⟩) (h0:ts[0]?=some t) (hx:okOpd a.tmps.size x x'=true) (hy:okOpd a.tmps.size y y'=true)
    (ht:P.underlying t=some (.slice e)) (hi:P.info? e=some i) (hs:i.size=sz) {v:AV} {m:List AObj} (h:evalOp mem (ev env) (.cpy sz x' y')=some (v,m)):MemOut P o a w fz mem ρ v m:=by
  subst hs
  have e1:=opd_rep he hx
  have e2:=opd_rep he hy
  simp only [evalOp] at h
  split at h
  · rename_i mm sz' ds hrow
    split at h
    · rename_i hsz'
      subst hsz'
      split at h
      · rename_i k g hk
        rw [hk] at e1
        split at h
        · rename_i ob hob
          split at h
          · rename_i hc
            obtain ⟨hbox,hfr,hosz,hle⟩:=hc
            simp only [Option.some.injEq,Prod.mk.injEq] at h
            obtain ⟨rfl,rfl⟩:=h
            obtain ⟨k1,k2⟩:=geto_some hob
            obtain ⟨r1,r2⟩:=rep_arr e1 hob
            obtain ⟨vs,h2,h3,h4,h5,h6,h7,h8⟩:=hm.rowAt k1 r1
            obtain ⟨A,cap,q1,q2,q3,q4⟩:=row_rep hm e2 hrow
            have hlt:=(List.getElem?_eq_some_iff.1 k1).1
            have hltr:k<ρ.length:=by rw [hm.len];exact hlt
            rcases Nat.eq_zero_or_pos mm with hm0|hmpos
            · -- nothing to copy
              subst hm0
              have hds:ds=[]:=List.eq_nil_of_length_eq_zero (by rw [q3];simp)
              subst hds
              have hfill:fillIn ob.cs 0 []=ob.cs:=by simp [fillIn]
              have hset:mem.set k { ob with cs:=fillIn ob.cs 0 [] }=mem:=by
                rw [hfill]
                apply List.ext_getElem?
                intro j
                by_cases hj:k=j
                · subst hj;simp [hlt];have:=(List.getElem?_eq_some_iff.1 k1).2;exact this.symm
                · rw [List.getElem?_set_ne hj]
              rw [hset]
              refine ⟨.int .i64 0,w,fz,ρ,.inl ?_,Ext.refl,hm,.gr .int⟩
              obtain ⟨B,c2,hB⟩:∃B c2,a.eval x=.slice B ob.n c2:=by
                rcases Nat.eq_zero_or_pos ob.n with hn|hn
                · obtain ⟨A,cap,e⟩:=h7 hn;exact ⟨A,cap,by rw [e,hn]⟩
                · obtain ⟨b,cap,e,_⟩:=h8 hn;exact ⟨_,cap,e⟩
              cases A<;>cases B<;>simp [execOp,ho,resolve,invoke,builtin,hB,q1,Builtin.copy_,h0,run_underlying ht,Builtin.lenOf,sizeOf,typeInfo,hi,Builtin.firstCells,loadCells,loadCellsFrom,storeCells,goInt]
            · obtain ⟨b,q,us,z1,z2,z3,z4,z5⟩:=q4.resolve_left (by omega)
              obtain ⟨b2,c2,hB,hB2,_⟩:=h8 (by omega)
              rw [hB] at h2
              have hul:us.length=mm*i.size:=by rw [z2,q3]
              have hfit:0+us.length≤vs.length:=by
                rw [h3,h4,hosz,hul,Nat.zero_add];exact Nat.mul_le_mul_right _ hle
              obtain ⟨w',s1,s2,s3⟩:=storeRow (P:=P) (i:=0) (us:=us) h2 hfit z3
              have hfirst:(Builtin.firstCells i.size mm (.slice (some ⟨b,q,none⟩) mm cap)).run P w=.ok us.toArray w:=run_firstCells_some (P:=P) w i.size mm _ mm cap us hul (fun j u hu=>by rw [addr_add];exact z4 j u hu)
              obtain ⟨c1,c2⟩:=hm.write (w':=w') (o2:={ ob with cs:=fillIn ob.cs 0 ds }) k1 r1 (by rw [hB];exact s3) hfr hfr rfl rfl (Nat.le_refl _) (fun _=>⟨rfl,rfl⟩) (fun b hb=>.inl hb)
                ⟨_,by rw [hB];exact s2,by simp [fillIn];omega,one_splice h5 z3,fun j' c u hc hu=>by
                  simp only [hbox,Bool.false_eq_true,if_false]
                  exact rg_splice (F:=fun c u=>RG w fz c u) h3 z2 (by omega) (fun j c u hc hu=>by have:=h6 j c u hc hu;rwa [hbox] at this) z5 j' c u hc hu⟩
              refine ⟨.int .i64 mm,w',fz,_,.inl ?_,c1,c2,.gr .int⟩
              have hmin:Nat.min mm ob.n=mm:=Nat.min_eq_left hle
              simp [execOp,ho,resolve,invoke,builtin,hB,q1,z1,Builtin.copy_,h0,run_underlying ht,Builtin.lenOf,sizeOf,typeInfo,hi,hmin,hfirst,s1,goInt]
          · cases h
        · cases h
      · cases h
    · cases h
  · cases h
theorem op_s2b (hm:Mem w fz mem ρ) (he:EnvR w fz mem ρ env a) {s t e:TypeId} {d:TypeDesc} {x:Operand} {x':Opd} (ho:o.op=.convert s t x) (hx:okOpd a.tmps.size x x'=true) (hs:P.underlying s=some d) (ht:P.underlying t=some (.slice e)) (hb:P.underlying e=some (.int .u8))
    {v:AV} {m:List AObj} (h:evalOp mem (ev env) (.s2b x')=some (v,m)):MemOut P o a w fz mem ρ v m:=by
  have e1:=opd_rep he hx
  simp only [evalOp] at h
  split at h
  · rename_i str hstr
    rw [hstr] at e1
    simp only [Option.some.injEq,Prod.mk.injEq] at h
    obtain ⟨rfl,rfl⟩:=h
    have hrun:=Lib.run_convert_string_bytes (P:=P) w s t e str hs ht hb
    have hsz:=Lib.bytesWorld_size w e str
    have hext:Ext w fz mem ρ (Lib.bytesWorld w e str) (fun b=>fz b∨b=w.heap.size) mem ρ:=
      ⟨rfl,rfl,rfl,by omega,fun b hb _=>Lib.bytesWorld_at_old w e str b hb,fun b hb=>Lib.bytesWorld_at_old w e str b (hm.lt b hb),fun b hb=>.inl hb,
        fun b hb=>by rcases hb with hb|hb;exact .inl hb;exact .inr (.inl (by omega)),fun n o h=>⟨o,h,Nat.le_refl _,fun _=>⟨rfl,rfl⟩,rfl,rfl⟩,fun n v b h h'=>.inl ⟨n,v,h,h'⟩⟩
    refine ⟨.slice (some ⟨w.heap.size,0,none⟩) str.size (grownCap w str.size 0 e),_,fun b=>fz b∨b=w.heap.size,ρ,.inl (by simp only [execOp,ho,rep_str e1,Sem.run_bind,hrun,Result.andThen_ok,Sem.run_pure]),hext,⟨hm.len,fun n ob u hob hu=>?_,hm.apart,fun b hb=>?_⟩,.gr ?_⟩
    · obtain ⟨h1,⟨vs,h2,h3,h4,h5⟩,h6,h7⟩:=hm.obj n ob u hob hu
      refine ⟨h1,⟨vs,ownsRow_old (fun b hb=>Lib.bytesWorld_at_old w e str b hb) h2,h3,h4,fun j c x hc hx=>?_⟩,fun h b hb=>.inl (h6 h b hb),fun h b hb hf=>?_⟩
      · have:=h5 j c x hc hx
        split at this
        · rename_i hb;rw [if_pos hb];exact this.ext hext
        · rename_i hb;rw [if_neg hb];exact this.mono hext.fzblk hext.sub
      · rcases hf with hf|hf
        · exact h7 h b hb hf
        · have:=ownBlock_lt h2 hb;omega
    · rcases hb with hb|hb
      · have:=hm.lt b hb;omega
      · omega
    · have hl:(bytesAV str).length=str.size:=by simp only [bytesAV,List.length_map];rw [Array.length_toList];rfl
      rcases Nat.eq_zero_or_pos str.size with h0|h0
      · have:bytesAV str=[]:=List.eq_nil_of_length_eq_zero (by rw [hl,h0])
        rw [h0,this]
        exact .sl0
      · refine .sl (vs:=str.data.toList.map fun b=>.int .u8 b.toNat) h0 (grownCap_ge w str.size 0 e) (by omega) (by simp [bytesAV]) (.inr rfl) (fun u hu=>?_) (fun j u hu=>?_) (fun j c u hc hu=>?_)
        · obtain ⟨b,_,rfl⟩:=List.mem_map.1 hu;rfl
        · rw [List.getElem?_map] at hu
          obtain ⟨b,hb',rfl⟩:=Option.map_eq_some_iff.1 hu
          have hj:j<str.size:=by have:=(List.getElem?_eq_some_iff.1 hb').1;rw [Array.length_toList] at this;exact this
          rw [Nat.zero_add,Lib.bytesWorld_cell w e str j hj]
          simp [List.getD_eq_getElem?_getD,hb']
        · simp only [bytesAV] at hc
          rw [List.getElem?_map] at hc hu
          obtain ⟨b,hb',rfl⟩:=Option.map_eq_some_iff.1 hc
          rw [hb'] at hu
          simp only [Option.map_some,Option.some.injEq] at hu
          subst hu
          exact .int
  · cases h
theorem bytes_spec:∀{cs:List AV} {s:ByteArray},bytesOfAV cs=some s→∃ns:List Int,cs=ns.map (fun n=>AV.int .u8 n)∧s=strOfNums ns:=by
  intro cs s h
  unfold bytesOfAV at h
  obtain ⟨l,h1,rfl⟩:=Option.map_eq_some_iff.1 h
  have key:∀(cs:List AV) (l:List UInt8),cs.mapM byteOfAV=some l→∃ns:List Int,cs=ns.map (fun n=>AV.int .u8 n)∧l=ns.map fun n=>UInt8.ofNat n.toNat:=by
    intro cs
    induction cs with
    | nil=>intro l h;simp at h;subst h;exact ⟨[],rfl,rfl⟩
    | cons c cs ih=>
      intro l h
      rw [List.mapM_cons] at h
      cases hc:byteOfAV c with
      | none=>simp [hc] at h
      | some b=>
        cases hr:cs.mapM byteOfAV with
        | none=>simp [hc,hr] at h
        | some l'=>
          simp [hc,hr] at h
          subst h
          obtain ⟨ns,h2,h3⟩:=ih l' hr
          unfold byteOfAV at hc
          split at hc
          · rename_i n
            obtain rfl:=Option.some.inj hc
            exact ⟨n::ns,by rw [h2];rfl,by rw [h3];rfl⟩
          · cases hc
  obtain ⟨ns,h2,h3⟩:=key cs l h1
  exact ⟨ns,h2,by rw [h3];rfl⟩
theorem op_b2s (hm:Mem w fz mem ρ) (he:EnvR w fz mem ρ env a) {s t e:TypeId} {x:Operand} {x':Opd} (ho:o.op=.convert s t x) (hx:okOpd a.tmps.size x x'=true) (hs:P.underlying s=some (.slice e)) (ht:P.underlying t=some .string) (hb:P.underlying e=some (.int .u8))
    {v:AV} {m:List AObj} (h:evalOp mem (ev env) (.b2s x')=some (v,m)):m=mem∧PureOut P o a w fz mem ρ v:=by
  have e1:=opd_rep he hx
  simp only [evalOp] at h
  obtain ⟨⟨n,sz,cs⟩,hr,h⟩:=Option.bind_eq_some_iff.1 h
  simp only [] at h
  split at h
  · rename_i hsz
    subst hsz
    obtain ⟨str,hst,h⟩:=Option.map_eq_some_iff.1 h
    simp only [Prod.mk.injEq] at h
    obtain ⟨rfl,rfl⟩:=h
    obtain ⟨A,cap,h1,h2,h3,h4⟩:=row_rep hm e1 hr
    obtain ⟨ns,h5,h6⟩:=bytes_spec hst
    refine ⟨rfl,.string str,?_,.gr .str⟩
    have hrun:(convert s t (.slice A n cap)).run P w=.ok (.string str) w:=by
      rcases h4 with h0|⟨b,q,vs,z1,z2,z3,z4,z5⟩
      · subst h0
        have hcs:cs=[]:=List.eq_nil_of_length_eq_zero (by omega)
        rw [hcs] at h5
        have hns:ns=[]:=by cases ns with|nil=>rfl|cons _ _=>simp at h5
        subst hns
        cases A with
        | none=>rw [run_convert_bytes_nil w s e hs hb 0 cap t ht,h6];rfl
        | some ad=>
          rw [run_convert_bytes_string w s t e _ 0 cap hs hb ht,h6]
          simp [Conv.bytesToString,loadCells,loadCellsFrom]
          rfl
      · subst z1
        rw [h6]
        refine run_convert_bytes_arg w s e hs hb b q n cap ns (by have:=congrArg List.length h5;simp at this;omega) (fun i hi=>?_) t ht
        have hi2:i<vs.length:=by omega
        have hv:vs[i]?=some vs[i]:=by simp [hi2]
        have hc:cs[i]?=some (.int .u8 (ns.getD i 0)):=by
          rw [h5,List.getElem?_map]
          have:i<ns.length:=by have:=congrArg List.length h5;simp at this;omega
          simp [List.getD_eq_getElem?_getD,this]
        have hz:=z4 i _ hv
        have hrg:=z5 i _ _ hc hv
        rw [hz]
        generalize vs[i]=u at hrg
        cases hrg
        rfl
    simp only [execOp,ho,h1,Sem.run_bind,hrun,Result.andThen_ok,Sem.run_pure]
  · cases h
end
end Go.V
