/- Abstract values, a small intermediate form of the code, and what it does: all plain Lean, without the model's memory. -/
import Derived.OwnWalk
set_option linter.unusedVariables false
namespace Go.V
open Go

/-- Abstract values. 'sl', 'ptr': memory that is written no more, told as the list of its cells; 'arr', 'msl', 'loc': objects of the abstract memory. -/
inductive AV where
  | any
  | int (k : IntKind) (n : Int)
  | bool (b : Bool)
  | str (s : ByteArray)
  | sl (n sz : Nat) (cs : List AV)
  | ptr (cs : List AV) (i : Nat)
  | nilptr
  | nilsl (ty sz : Nat)
  | loc (n g i : Nat)
  | arr (n g : Nat)
  | msl (n g off len : Nat)
  | agg (cs : List AV)
  | tup (vs : List AV)
  | fn (f : Nat) (caps : List AV)
  deriving Inhabited

/-- An object: a box (its cells may lead to objects), or a row of ground cells. -/
structure AObj where
  box : Bool
  ty : Nat
  sz : Nat
  g : Nat
  n : Nat
  cs : List AV
  fr : Bool

/-- The temporaries, the last written first. -/
abbrev Env := List (Nat × AV)

structure St where
  env : Env
  mem : List AObj

inductive Opd where
  | t (n : Nat)
  | k (v : AV)

def getE : Env → Nat → AV
  | [], _ => .any
  | (m, v) :: r, n => if m = n then v else getE r n

def ev (env : Env) : Opd → AV
  | .t n => getE env n
  | .k v => v

def geto (mem : List AObj) (n g : Nat) : Option AObj :=
  match mem[n]? with
  | some o => if o.g = g then some o else none
  | none => none

def cellsOf : AV → Option (List AV)
  | .any => none
  | .tup _ => none
  | .agg cs => some cs
  | v => some [v]

inductive Bin where
  | add | sub | mul | quo | rem | and | or | xor | shl | shr | eq | ne | lt | le | gt | ge
  deriving DecidableEq

/-- The operations, with sizes written out. -/
inductive MOp where
  | bad
  | mov (x : Opd)
  | newnil (ty sz : Nat)
  | pick (c a b : Opd)
  | alloc (ty : Nat) (cs : List AV)
  | box (ty n : Nat) (x : Opd)
  | build (zero : List AV) (parts : List (Nat × Nat × Opd))
  | bsl (ty sz : Nat) (xs : List Opd)
  | ldf (agg : Bool) (n : Nat) (x : Opd)
  | ld (agg : Bool) (n : Nat) (x : Opd)
  | st (n : Nat) (a x : Opd)
  | sta (avoid : List Nat) (n : Nat) (a x : Opd)
  | nilchk (x : Opd)
  | bin (op : Bin) (x y : Opd)
  | binb (op : Bin) (x y : Opd)
  | binp (op : Bin) (x y : Opd)
  | bins (op : Bin) (sig : List Nat) (x y : Opd)
  | neg (x : Opd)
  | not (x : Opd)
  | conv (k : IntKind) (x : Opd)
  | mk (ty bytes : Nat) (zero : List AV) (x : Opd)
  | mk0 (ty sz bytes : Nat) (x : Opd)
  | s2b (x : Opd)
  | b2s (x : Opd)
  | cpy (sz : Nat) (d x : Opd)
  | cut (sz : Nat) (x : Opd) (lo hi : Option Opd)
  | faddr (off : Nat) (x : Opd)
  | fld (agg : Bool) (off n : Nat) (x : Opd)
  | iaddr (sz : Nat) (x i : Opd)
  | iaddrf (sz : Nat) (x i : Opd)
  | sidx (x i : Opd)
  | len (x : Opd)
  | lenf (x : Opd)
  | slen (x : Opd)
  | scut (x : Opd) (lo hi : Option Opd)
  | app (ty sz bytes : Nat) (s x : Opd)
  | ext (x : Opd) (i : Nat)
  | mx (x y : Opd)
  | mn (x y : Opd)
  | mkfn (f : Nat) (xs : List Opd)
  | callP (f : Nat) (xs : List Opd)
  | callR (f : Nat) (xs : List Opd)
  | callF (f : Nat) (xs : List Opd)
  | callO (f : Nat) (xs : List Opd)
  | callZ (f : Nat) (xs : List Opd)
  | callG (f : Nat) (xs : List Opd)
  | callM (f : Nat) (xs : List Opd)
  | callV (x : Opd) (xs : List Opd)

structure IOp where
  dst : Option Nat
  op : MOp
  g : Option (Nat × Bool)

inductive IR where
  | skip
  | ret
  | exit (id : Nat)
  | reg (perm : Option (List Nat)) (ops : List IOp)
  | seq (a b : IR)
  | cond (c : Opd) (a b : IR)
  | block (id : Nat) (a : IR)
  | loop (live : List Nat) (keep : Option (Nat × List Nat)) (a : IR)
  | lv (live : List Nat) (a : IR)

inductive Res where
  | t (n : Nat)
  | c (n : Nat) (agg : Bool) (k : Nat)

inductive Md where
  | pure | own | ref
  deriving DecidableEq

structure IFn where
  nparams : Nat
  ntmps : Nat
  body : IR
  res : List Res
  md : Md

/-! ### Freezing -/

mutual
/-- What an abstract value is, as ground memory. -/
def snap (mem : List AObj) : Nat → AV → Option AV
  | 0, _ => none
  | k + 1, .arr n g => match geto mem n g with
    | some o => (snapL mem k o.box o.cs).map fun cs => .sl o.n o.sz cs
    | none => none
  | k + 1, .msl n g off len => match geto mem n g with
    | some o => if o.box then none else some (.sl len o.sz ((o.cs.drop (off * o.sz)).take (len * o.sz)))
    | none => none
  | k + 1, .loc n g i => match geto mem n g with
    | some o => (snapL mem k o.box o.cs).map fun cs => .ptr cs i
    | none => none
  | k + 1, .agg cs => (snapL mem k true cs).map .agg
  | k + 1, .tup cs => (snapL mem k true cs).map .tup
  | k + 1, .fn f cs => (snapL mem k true cs).map (.fn f)
  | _ + 1, .nilsl _ sz => some (.sl 0 sz [])
  | _ + 1, v => some v
def snapL (mem : List AObj) : Nat → Bool → List AV → Option (List AV)
  | 0, _, _ => none
  | _ + 1, false, cs => some cs
  | k + 1, true, cs => cs.mapM (snap mem k)
end

mutual
/-- The objects to which it leads. -/
def refs (mem : List AObj) : Nat → AV → List Nat
  | 0, _ => []
  | k + 1, .arr n g => n :: (match geto mem n g with | some o => refsL mem k o.box o.cs | none => [])
  | _ + 1, .msl n _ _ _ => [n]
  | k + 1, .loc n g _ => n :: (match geto mem n g with | some o => refsL mem k o.box o.cs | none => [])
  | k + 1, .agg cs => refsL mem k true cs
  | k + 1, .tup cs => refsL mem k true cs
  | k + 1, .fn _ cs => refsL mem k true cs
  | _ + 1, _ => []
def refsL (mem : List AObj) : Nat → Bool → List AV → List Nat
  | 0, _, _ => []
  | _ + 1, false, _ => []
  | k + 1, true, cs => cs.flatMap (refs mem k)
end

def freeze (ns : List Nat) (mem : List AObj) : List AObj := mem.mapIdx fun i o => if ns.contains i then { o with fr := true } else o

/-- Nil slices that come into a box become empty objects. -/
def adopt : List AV → List AObj → List AV × List AObj
  | [], mem => ([], mem)
  | .nilsl ty sz :: cs, mem =>
    let r := adopt cs (mem ++ [⟨false, ty, sz, 0, 0, [], false⟩])
    (.arr mem.length 0 :: r.1, r.2)
  | c :: cs, mem =>
    let r := adopt cs mem
    (c :: r.1, r.2)

def scalar : AV → Bool
  | .int _ _ | .bool _ | .str _ => true
  | _ => false
def scalars : AV → Bool
  | .agg cs => cs.all scalar
  | .tup cs => cs.all fun | .agg ds => ds.all scalar | v => scalar v
  | v => scalar v

def ownish : AV → Bool
  | .arr _ _ => true
  | c => scalar c
def ownishR : AV → Bool
  | .tup vs => vs.all ownish
  | .loc _ _ _ => true
  | c => ownish c
/-- May an object of a callee's making be handed over? -/
def made (o : AObj) : Bool := !o.box || o.cs.all ownish

mutual
/-- Does it lead to objects below m alone? -/
def under (m : Nat) : AV → Bool
  | .arr n _ | .loc n _ _ | .msl n _ _ _ => decide (n < m)
  | .agg cs | .tup cs | .fn _ cs => underL m cs
  | _ => true
termination_by structural a => a
def underL (m : Nat) : List AV → Bool
  | [] => true
  | c :: cs => under m c && underL m cs
termination_by structural cs => cs
end

/-! ### Operations -/

def arith (op : Bin) (k : IntKind) (x y : Int) : Option AV :=
  match op with
  | .add => some (.int k (k.wrap (x + y)))
  | .sub => some (.int k (k.wrap (x - y)))
  | .mul => some (.int k (k.wrap (x * y)))
  | .quo => if y = 0 then none else some (.int k (k.wrap (x.tdiv y)))
  | .rem => if y = 0 then none else some (.int k (x.tmod y))
  | .and => some (.int k (k.wrap (BitVec.ofInt k.bits x &&& BitVec.ofInt k.bits y).toNat))
  | .or => some (.int k (k.wrap (BitVec.ofInt k.bits x ||| BitVec.ofInt k.bits y).toNat))
  | .xor => some (.int k (k.wrap (BitVec.ofInt k.bits x ^^^ BitVec.ofInt k.bits y).toNat))
  | .eq => some (.bool (x == y))
  | .ne => some (.bool (x != y))
  | .lt => some (.bool (x < y))
  | .le => some (.bool (x ≤ y))
  | .gt => some (.bool (x > y))
  | .ge => some (.bool (x ≥ y))
  | _ => none

def shiftOp (op : Bin) (k : IntKind) (x y : Int) : Option AV :=
  if y < 0 then none else
  match op with
  | .shl => some (.int k (k.wrap (x * 2 ^ (min y.toNat k.bits))))
  | .shr => some (.int k (x.fdiv (2 ^ (min y.toNat k.bits))))
  | _ => none

def strOp (op : Bin) (x y : ByteArray) : Option AV :=
  match op with
  | .add => if ((x.size + y.size : Nat) : Int) > IntKind.i64.max then none else some (.str (x ++ y))
  | .eq => some (.bool (x.toList == y.toList))
  | .ne => some (.bool !(x.toList == y.toList))
  | .lt => some (.bool (Op.bytesLess x.toList y.toList))
  | .le => some (.bool (Op.bytesLess x.toList y.toList || x.toList == y.toList))
  | .gt => some (.bool !(Op.bytesLess x.toList y.toList || x.toList == y.toList))
  | .ge => some (.bool !(Op.bytesLess x.toList y.toList))
  | _ => none

def scalEq : AV → AV → Option Bool
  | .int k a, .int k' b => if k = k' then some (a == b) else none
  | .bool a, .bool b => some (a == b)
  | .str a, .str b => some (a == b)
  | _, _ => none
def scalarsEq : List AV → List AV → Option Bool
  | [], [] => some true
  | a :: as, b :: bs => match scalEq a b with
    | some true => scalarsEq as bs
    | some false => some false
    | none => none
  | _, _ => none

def binV (op : Bin) : AV → AV → Option AV
  | .int k x, .int k' y => if op = .shl ∨ op = .shr then shiftOp op k x y else if k = k' then arith op k x y else none
  | .str a, .str b => strOp op a b
  | _, _ => none
def boolV (op : Bin) : AV → AV → Option AV
  | .bool a, .bool b => if op = .eq then some (.bool (a == b)) else if op = .ne then some (.bool (!(a == b))) else none
  | _, _ => none
def nilV (op : Bin) : AV → AV → Option AV
  | .nilptr, .nilptr => if op = .eq then some (.bool true) else if op = .ne then some (.bool (!true)) else none
  | .ptr _ _, .nilptr => if op = .eq then some (.bool false) else if op = .ne then some (.bool (!false)) else none
  | _, _ => none

/-- Two structs of scalars. -/
def kindOf : AV → Nat
  | .bool _ => 0
  | .int _ _ => 1
  | .str _ => 2
  | _ => 3
def structV (op : Bin) (sig : List Nat) : AV → AV → Option AV
  | .agg cs, .agg ds => if cs.map kindOf = sig ∧ ds.map kindOf = sig then (scalarsEq cs ds).bind fun r => if op = .eq then some (.bool r) else if op = .ne then some (.bool (!r)) else none else none
  | _, _ => none

/-- An address that is none's, or is. -/
def nilArg (mem : List AObj) : AV → AV
  | .loc n g _ => match geto mem n g with
    | some _ => .ptr [] 0
    | none => .any
  | v => v

def sub (agg : Bool) (n : Nat) (cs : List AV) (i : Nat) : Option AV :=
  if i + n ≤ cs.length then
    if agg then some (.agg ((cs.drop i).take n)) else if n = 1 then cs[i]? else none
  else none

def fillIn (cs : List AV) (i : Nat) (ds : List AV) : List AV := cs.take i ++ ds ++ cs.drop (i + ds.length)

def fillAll : List (Nat × Nat × Opd) → (Opd → AV) → List AV → Option (List AV)
  | [], _, cs => some cs
  | (off, n, x) :: ps, e, cs => match cellsOf (e x) with
    | some ds => if ds.length = n ∧ off + n ≤ cs.length then fillAll ps e (fillIn cs off ds) else none
    | none => none

def bytesAV (s : ByteArray) : List AV := s.data.toList.map fun b => .int .u8 b.toNat

def byteOfAV : AV → Option UInt8
  | .int .u8 n => some (UInt8.ofNat n.toNat)
  | _ => none
def bytesOfAV (cs : List AV) : Option ByteArray := (cs.mapM byteOfAV).map fun (l : List UInt8) => ⟨l.toArray⟩

/-- The elements of a row that is read whole: how many, of how many cells, the cells. -/
def rowOf (mem : List AObj) : AV → Option (Nat × Nat × List AV)
  | .sl n sz cs => some (n, sz, cs)
  | .nilsl _ sz => some (0, sz, [])
  | .arr n g => match geto mem n g with
    | some o => if o.box then none else some (o.n, o.sz, o.cs)
    | none => none
  | .msl n g off len => match geto mem n g with
    | some o => if o.box then none else some (len, o.sz, (o.cs.drop (off * o.sz)).take (len * o.sz))
    | none => none
  | _ => none

def bound (lo : Option Opd) (e : Opd → AV) (d : Nat) (most : Nat) : Option Nat :=
  match lo with
  | none => some d
  | some x => match e x with
    | .int _ i => if 0 ≤ i ∧ i ≤ most then some i.toNat else none
    | _ => none

def cutOp (mem : List AObj) (sz : Nat) (x : AV) (lo hi : Option Opd) (e : Opd → AV) : Option AV :=
  match x with
  | .sl n sz' cs => if sz = sz' then (bound hi e n n).bind fun h => (bound lo e 0 h).bind fun l => some (.sl (h - l) sz ((cs.drop (l * sz)).take ((h - l) * sz))) else none
  | .arr n g => match geto mem n g with
    | some o => if o.sz = sz ∧ o.box = false then (bound hi e o.n o.n).bind fun h => (bound lo e 0 h).bind fun l => some (.msl n g l (h - l)) else none
    | none => none
  | .msl n g off len => match geto mem n g with
    | some o => if o.sz = sz ∧ o.box = false then (bound hi e len len).bind fun h => (bound lo e 0 h).bind fun l => some (.msl n g (off + l) (h - l)) else none
    | none => none
  | _ => none

def storeOp (mem : List AObj) (n : Nat) (a x : AV) : Option (AV × List AObj) :=
  match a with
    | .loc m g i => match geto mem m g with
      | some o => match cellsOf x with
        | some cs => if cs.length = n ∧ i + n ≤ o.cs.length ∧ o.fr = false then
            if o.box then
              let r := adopt cs mem
              some (.any, r.2.set m { o with cs := fillIn o.cs i r.1 })
            else match snapL mem 9 true cs with
              | some ds => if (refsL mem 9 true cs).contains m then none else some (.any, (freeze (refsL mem 9 true cs) mem).set m { o with cs := fillIn o.cs i ds })
              | none => none
          else none
        | none => none
      | none => none
    | _ => none
/-- Do the two addresses lie in different objects? -/
def apartOf : AV → AV → Bool
  | .loc m _ _, .loc n _ _ => m != n
  | _, _ => false

/-- Operations that call nothing. -/
def evalOp (mem : List AObj) (e : Opd → AV) : MOp → Option (AV × List AObj)
  | .mov x => some (e x, mem)
  | .newnil ty sz => some (.arr mem.length 0, mem ++ [⟨false, ty, sz, 0, 0, [], false⟩])
  | .pick c a b => match e c with
    | .bool t => some (if t then e a else e b, mem)
    | _ => none
  | .alloc ty cs =>
    let r := adopt cs mem
    some (.loc r.2.length 0 0, r.2 ++ [⟨true, ty, cs.length, 0, 1, r.1, false⟩])
  | .box ty n x => match cellsOf (e x) with
    | some cs => if cs.length = n then
        let r := adopt cs mem
        some (.loc r.2.length 0 0, r.2 ++ [⟨true, ty, n, 0, 1, r.1, false⟩])
      else none
    | none => none
  | .build zero parts => (fillAll parts e zero).map fun cs => (.agg cs, mem)
  | .bsl ty sz xs => match xs.mapM (fun x => (cellsOf (e x)).bind fun cs => if cs.length = sz then snapL mem 9 true cs else none) with
    | some css => some (.arr mem.length 0, freeze (xs.flatMap fun x => refsL mem 9 true ((cellsOf (e x)).getD [])) mem ++ [⟨false, ty, sz, 0, xs.length, css.flatten, false⟩])
    | none => none
  | .ldf agg n x => match e x with
    | .ptr cs i => (sub agg n cs i).map fun v => (v, mem)
    | _ => none
  | .ld agg n x => match e x with
    | .ptr cs i => (sub agg n cs i).map fun v => (v, mem)
    | .loc m g i => match geto mem m g with
      | some o => (sub agg n o.cs i).map fun v => (v, mem)
      | none => none
    | _ => none
  | .st n a x => storeOp mem n (e a) (e x)
  | .sta avoid n a x => if avoid.all (fun t => apartOf (e (.t t)) (e a)) then storeOp mem n (e a) (e x) else none
  | .nilchk x => match e x with
    | .ptr cs i => some (.ptr cs i, mem)
    | .loc n g i => (geto mem n g).map fun _ => (.loc n g i, mem)
    | _ => none
  | .bin op x y => (binV op (e x) (e y)).map fun v => (v, mem)
  | .binb op x y => (boolV op (e x) (e y)).map fun v => (v, mem)
  | .binp op x y => (nilV op (nilArg mem (e x)) (e y)).map fun v => (v, mem)
  | .bins op n x y => (structV op n (e x) (e y)).map fun v => (v, mem)
  | .neg x => match e x with
    | .int k n => some (.int k (k.wrap (0 - n)), mem)
    | _ => none
  | .not x => match e x with
    | .bool b => some (.bool !b, mem)
    | _ => none
  | .conv k x => match e x with
    | .int _ n => some (.int k (k.wrap n), mem)
    | _ => none
  | .mk ty bytes zero x => match e x with
    | .int _ n => if 0 ≤ n ∧ bytes * n.toNat ≤ 140737488355328 ∧ n ≤ 140737488355328 then
        some (.arr mem.length 0, mem ++ [⟨false, ty, zero.length, 0, n.toNat, (List.replicate n.toNat zero).flatten, false⟩])
      else none
    | _ => none
  | .mk0 ty sz bytes x => match e x with
    | .int _ n => if 0 ≤ n ∧ bytes * n.toNat ≤ 140737488355328 ∧ n ≤ 140737488355328 then
        some (.arr mem.length 0, mem ++ [⟨false, ty, sz, 0, 0, [], false⟩])
      else none
    | _ => none
  | .s2b x => match e x with
    | .str s => some (.sl s.size 1 (bytesAV s), mem)
    | _ => none
  | .b2s x => (rowOf mem (e x)).bind fun r => if r.2.1 = 1 then (bytesOfAV r.2.2).map fun s => (.str s, mem) else none
  | .cpy sz d x => match rowOf mem (e x) with
    | some (m, sz', ds) => if sz' = sz then match e d with
        | .arr n g => match geto mem n g with
          | some o => if o.box = false ∧ o.fr = false ∧ o.sz = sz ∧ m ≤ o.n then
              some (.int .i64 m, mem.set n { o with cs := fillIn o.cs 0 ds })
            else none
          | none => none
        | _ => none
      else none
    | none => none
  | .cut sz x lo hi => (cutOp mem sz (e x) lo hi e).map fun v => (v, mem)
  | .faddr off x => match e x with
    | .ptr cs i => some (.ptr cs (i + off), mem)
    | .loc n g i => (geto mem n g).map fun _ => (.loc n g (i + off), mem)
    | _ => none
  | .fld agg off n x => match e x with
    | .agg cs => (sub agg n cs off).map fun v => (v, mem)
    | _ => none
  | .iaddr sz x i => match e i with
    | .int _ j => match e x with
      | .sl n sz' cs => if sz = sz' ∧ 0 ≤ j ∧ j < n then some (.ptr cs (j.toNat * sz), mem) else none
      | .arr n g => match geto mem n g with
        | some o => if sz = o.sz ∧ 0 ≤ j ∧ j < o.n then some (.loc n g (j.toNat * sz), mem) else none
        | none => none
      | .msl n g off len => match geto mem n g with
        | some o => if sz = o.sz ∧ 0 ≤ j ∧ j < len then some (.loc n g (off * sz + j.toNat * sz), mem) else none
        | none => none
      | _ => none
    | _ => none
  | .iaddrf sz x i => match e i with
    | .int _ j => match e x with
      | .sl n sz' cs => if sz = sz' ∧ 0 ≤ j ∧ j < n then some (.ptr cs (j.toNat * sz), mem) else none
      | _ => none
    | _ => none
  | .sidx x i => match e i with
    | .int _ j => match e x with
      | .str s => if 0 ≤ j then (s[j.toNat]?).map fun b => (.int .u8 b.toNat, mem) else none
      | _ => none
    | _ => none
  | .len x => (rowOf mem (e x)).map fun r => (.int .i64 r.1, mem)
  | .lenf x => match e x with
    | .sl n _ _ => some (.int .i64 n, mem)
    | _ => none
  | .slen x => match e x with
    | .str s => some (.int .i64 s.size, mem)
    | _ => none
  | .scut x lo hi => match e x with
    | .str s => (bound hi e s.size s.size).bind fun h => (bound lo e 0 h).bind fun l => some (.str (s.extract l h), mem)
    | _ => none
  | .app ty sz bytes s x => match rowOf mem (e x) with
    | some (m, sz', ds) => if sz' = sz then match e s with
        | .arr n g => match geto mem n g with
          | some o => if o.box = false ∧ o.fr = false ∧ o.sz = sz ∧ o.ty = ty ∧ (o.n + m) * bytes ≤ 140737488355328 ∧ o.n + m ≤ 140737488355328 then
              some (.arr n (g + 1), mem.set n { o with g := g + 1, n := o.n + m, cs := o.cs ++ ds })
            else none
          | none => none
        | _ => none
      else none
    | none => none
  | .ext x i => match e x with
    | .tup vs => (vs[i]?).map fun v => (v, mem)
    | _ => none
  | .mx x y => match e x, e y with
    | .int k a, .int k' b => if k = k' then some (.int k (if b > a then b else a), mem) else none
    | _, _ => none
  | .mn x y => match e x, e y with
    | .int k a, .int k' b => if k = k' then some (.int k (if b < a then b else a), mem) else none
    | _, _ => none
  | .mkfn f xs => some (.fn f (xs.map e), mem)
  | _ => none

/-- Calls: function, arguments, memory; result, memory. -/
abbrev CallRel := Nat → List AV → List AObj → AV → List AObj → Prop

def shiftV (d : Nat) : AV → AV
  | .arr n g => .arr (n + d) g
  | .loc n g i => .loc (n + d) g i
  | v => v
def shiftO (d : Nat) (o : AObj) : AObj := if o.box then { o with cs := o.cs.map (shiftV d) } else o
/-- A result of its own making comes into the caller's memory. -/
def shiftR (d : Nat) : AV → AV
  | .agg cs => .agg (cs.map (shiftV d))
  | .tup vs => .tup (vs.map fun | .agg cs => .agg (cs.map (shiftV d)) | v => shiftV d v)
  | v => shiftV d v

/-- What may be handed over as it is. -/
def plainArg : AV → Bool
  | .nilsl _ _ => true
  | c => scalar c

inductive OpR (C : CallRel) (mem : List AObj) (e : Opd → AV) : MOp → AV → List AObj → Prop
  | op {io v m} : evalOp mem e io = some (v, m) → OpR C mem e io v m
  | callP {f xs as r} : xs.mapM (fun x => snap [] 10 (e x)) = some as → C f as [] r [] → OpR C mem e (.callP f xs) r mem
  | callR {f xs as r} : xs.mapM (fun x => snap mem 10 (e x)) = some as → C f as [] r [] → scalars r = true → OpR C mem e (.callR f xs) r mem
  | callF {f xs as r} : xs.mapM (fun x => snap mem 10 (e x)) = some as → C f as [] r [] → OpR C mem e (.callF f xs) r (freeze (xs.flatMap fun x => refs mem 10 (e x)) mem)
  | callO {f xs as r m} : xs.mapM (fun x => snap mem 10 (e x)) = some as → C f as [] r m → (m.all made) = true → ownishR r = true →
      OpR C mem e (.callO f xs) (shiftR mem.length r) (freeze (xs.flatMap fun x => refs mem 10 (e x)) mem ++ m.map (shiftO mem.length))
  | callZ {f xs as r m r'} : xs.mapM (fun x => snap mem 10 (e x)) = some as → C f as [] r m → snap m 10 r = some r' →
      OpR C mem e (.callZ f xs) r' (freeze (xs.flatMap fun x => refs mem 10 (e x)) mem)
  | callG {f xs r m} : (xs.all fun x => plainArg (e x)) = true → C f (xs.map e) [] r m → (m.all made) = true → ownishR r = true → OpR C mem e (.callG f xs) (shiftR mem.length r) (mem ++ m.map (shiftO mem.length))
  | callM {f xs r m} : C f (xs.map e) mem r m → OpR C mem e (.callM f xs) r m
  | callV {x xs f caps as bs r} : e x = .fn f caps → xs.mapM (fun x => snap mem 10 (e x)) = some as → caps.mapM (fun c => snap mem 10 c) = some bs → C f (as ++ bs) [] r [] → scalars r = true →
      OpR C mem e (.callV x xs) r mem

def putE (env : Env) (d : Option Nat) (v : AV) : Env :=
  match d with
  | some d => (d, v) :: env
  | none => env

inductive StepR (C : CallRel) (s : St) (o : IOp) : St → Prop
  | go {v m} : (o.g = none ∨ ∃ t b, o.g = some (t, b) ∧ ev s.env (.t t) = .bool b) → OpR C s.mem (ev s.env) o.op v m → StepR C s o ⟨putE s.env o.dst v, m⟩
  | no {t b} : o.g = some (t, b) → (ev s.env (.t t) = .bool (!b) ∨ ev s.env (.t t) = .tup []) → StepR C s o ⟨putE s.env o.dst (.tup []), s.mem⟩

inductive RegR (C : CallRel) : List IOp → St → St → Prop
  | nil {s} : RegR C [] s s
  | cons {o os s s1 s2} : StepR C s o s1 → RegR C os s1 s2 → RegR C (o :: os) s s2

inductive X where
  | nrm
  | exit (id : Nat)
  | ret

/-- One slot at a loop's head. -/
def keepOne (mem : List AObj) (env : Env) (ts : List Nat) (n : Nat) : Option (Nat × AV) :=
  if ts.contains n then (snap mem 10 (getE env n)).map fun v => (n, v) else some (n, getE env n)
/-- At a loop's head: what is not read again is forgotten, objects from the number on too; what stands in the slots of the list is written no more. -/
def headOf (live : List Nat) (keep : Option (Nat × List Nat)) (s : St) : Option St :=
  match keep with
  | none => some ⟨live.map fun n => (n, getE s.env n), s.mem⟩
  | some (m, []) =>
    let env := live.map fun n => (n, getE s.env n)
    if env.all (fun p => under m p.2) && (s.mem.take m).all (fun o => !o.box || underL m o.cs) then some ⟨env, s.mem.take m⟩ else none
  | some (m, t :: ts) =>
    match live.mapM (keepOne s.mem s.env (t :: ts)) with
    | some env =>
      let mem := freeze ((t :: ts).flatMap fun n => refs s.mem 10 (getE s.env n)) s.mem
      if env.all (fun p => under m p.2) && (mem.take m).all (fun o => !o.box || underL m o.cs) then some ⟨env, mem.take m⟩ else none
    | none => none

inductive Exec (C : CallRel) : IR → St → X → St → Prop
  | skip {s} : Exec C .skip s .nrm s
  | ret {s} : Exec C .ret s .ret s
  | exit {id s} : Exec C (.exit id) s (.exit id) s
  | reg {d ops s s'} : RegR C ops s s' → Exec C (.reg d ops) s .nrm s'
  | seqN {a b s s1 x s2} : Exec C a s .nrm s1 → Exec C b s1 x s2 → Exec C (.seq a b) s x s2
  | seqX {a b s x s1} : Exec C a s x s1 → x ≠ .nrm → Exec C (.seq a b) s x s1
  | condT {c a b s x s1} : ev s.env c = .bool true → Exec C a s x s1 → Exec C (.cond c a b) s x s1
  | condF {c a b s x s1} : ev s.env c = .bool false → Exec C b s x s1 → Exec C (.cond c a b) s x s1
  | blockE {id a s s1} : Exec C a s (.exit id) s1 → Exec C (.block id a) s .nrm s1
  | blockX {id a s x s1} : Exec C a s x s1 → x ≠ .exit id → Exec C (.block id a) s x s1
  | lv {live a s x s1} : Exec C a ⟨live.map fun n => (n, getE s.env n), s.mem⟩ x s1 → Exec C (.lv live a) s x s1
  | loopN {live keep a s s0 s1 x s2} : headOf live keep s = some s0 → Exec C a s0 .nrm s1 → Exec C (.loop live keep a) s1 x s2 → Exec C (.loop live keep a) s x s2
  | loopX {live keep a s s0 x s1} : headOf live keep s = some s0 → Exec C a s0 x s1 → x ≠ .nrm → Exec C (.loop live keep a) s x s1

def resOf (s : St) : Res → Option AV
  | .t n => some (ev s.env (.t n))
  | .c n agg k => match ev s.env (.t n) with
    | .loc m g i => (geto s.mem m g).bind fun o => sub agg k o.cs i
    | _ => none
def resAll (s : St) (rs : List Res) : Option AV :=
  match rs with
  | [r] => resOf s r
  | rs => (rs.mapM (resOf s)).map .tup

/-- Rows of its own making among a result's parts, renumbered from 0. -/
def ownV (mem : List AObj) (a : AV) (acc : List AObj) (ns : List Nat) : Option (AV × List AObj × List Nat) :=
  match a with
  | .arr n g => match geto mem n g with
    | some o => if o.box = false ∧ o.fr = false ∧ ns.contains n = false then some (.arr acc.length 0, acc ++ [{ o with g := 0 }], n :: ns) else none
    | none => none
  | _ => if scalar a then some (a, acc, ns) else none
def ownL (mem : List AObj) : List AV → List AObj → List Nat → Option (List AV × List AObj × List Nat)
  | [], acc, ns => some ([], acc, ns)
  | a :: as, acc, ns => (ownV mem a acc ns).bind fun r => (ownL mem as r.2.1 r.2.2).map fun q => (r.1 :: q.1, q.2)
def ownOut (mem : List AObj) : AV → Option (AV × List AObj)
  | .tup vs => (ownL mem vs [] []).map fun r => (.tup r.1, r.2.1)
  | .loc n g i => match geto mem n g with
    | some o => if o.box = true ∧ o.fr = false then (ownL mem o.cs [] []).map fun r => (.loc r.2.1.length 0 i, r.2.1 ++ [{ o with g := 0, cs := r.1 }]) else none
    | none => none
  | v => (ownV mem v [] []).map fun r => (r.1, r.2.1)

def argsE : Nat → List AV → Env
  | _, [] => []
  | i, a :: as => (i, a) :: argsE (i + 1) as

/-- One call, out of a relation for the calls inside. -/
def CallOf (tab : Nat → Option IFn) (C : CallRel) : CallRel := fun f as mem r mem' =>
  ∃ fn s x rv, tab f = some fn ∧ as.length = fn.nparams ∧ as.length ≤ fn.ntmps ∧
    Exec C fn.body ⟨argsE 0 as, mem⟩ x s ∧ (x = .nrm ∨ x = .ret) ∧ resAll s fn.res = some rv ∧
    match fn.md with
    | .pure => mem = [] ∧ mem' = [] ∧ snap s.mem 10 rv = some r
    | .own => mem = [] ∧ ownOut s.mem rv = some (r, mem')
    | .ref => r = rv ∧ mem' = s.mem

def CallN (tab : Nat → Option IFn) (E : CallRel) : Nat → CallRel
  | 0 => E
  | n + 1 => fun f as mem r mem' => CallN tab E n f as mem r mem' ∨ CallOf tab (CallN tab E n) f as mem r mem'

/-- What calls do: E: functions whose contracts come from elsewhere. -/
def Call (tab : Nat → Option IFn) (E : CallRel) : CallRel := fun f as mem r mem' => ∃ n, CallN tab E n f as mem r mem'

end Go.V
