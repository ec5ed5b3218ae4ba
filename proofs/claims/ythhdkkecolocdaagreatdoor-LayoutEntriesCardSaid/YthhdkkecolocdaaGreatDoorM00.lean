/-
  Merged from AbsCore AbsComp AbsHeap AbsRel AbsVal AbsMem AbsOp1 AbsOp2 AbsOp3: The abstract machine: values by value, a small heap of mutable rows, code with its types resolved, and an interpreter with fuel. Plain definitions, over any program.
-/
import Derived.Calls
import Derived.Laws.World
import Derived.MapKept
import Derived.Laws.AppendOwn
import Derived.Laws.OwnMore
import Derived.Laws.Strings
import Derived.Laws.StructEq
import Derived.Laws.Slices
import Derived.Laws.Panics
set_option linter.unusedSimpArgs false
set_option linter.unusedVariables false
set_option linter.defProp false
set_option linter.constructorNameAsVariable false
/-
 The abstract machine: values by value, a small heap of mutable rows, code with its types resolved, and an interpreter with fuel. Plain definitions, over any program.
-/
namespace Go.Abs
inductive Tok where
 | none
 | nil
 | own (id sz:Nat)
 | full
 deriving DecidableEq,Inhabited
def Tok.sub:Tok→Tok
 | .nil => .nil
 | _ => .none
inductive AVal where
 | bool (b:Bool)
 | int (k:IntKind) (n:Int)
 | str (s:List UInt8)
 | sl (xs:List AVal) (t:Tok)
 | nilptr
 | ptr (id off:Nat)
 | rp (cs:List AVal)
 | ref (id off len sz:Nat)
 | fn (f:Nat) (cap:List AVal)
 | nilfn
 | nilif
 | agg (cs:List AVal)
 | tup (vs:List AVal)
 | mp (id:Nat)
 | nilmp
 | yld (id:Nat)
 | bad
 deriving Inhabited
def AVal.cells:AVal→List AVal
 | .agg cs=>cs
 | v=>[v]
def AVal.one:AVal→Bool
 | .agg _ | .tup _ | .bad | .rp _=>false
 | _=>true
def flat (xs:List AVal):List AVal:=xs.flatMap AVal.cells
def mk (ag:Bool) (cs:List AVal):Option AVal :=
 if ag then some (.agg cs) else match cs with
  | [c]=>some c
  | _=>none
inductive SK where
 | int (k:IntKind)
 | str
 | bool
 deriving DecidableEq,Inhabited
inductive KD where
 | int (k:IntKind)
 | str
 | bool
 | stk (ks:List SK)
 | other
 deriving DecidableEq,Inhabited
inductive AExit where
 | normal
 | exit (id:Nat)
 | ret
 deriving DecidableEq,Inhabited
inductive LSt where
 | ready
 | busy
 | done (e:AExit)
 deriving DecidableEq,Inhabited
inductive Obj where
 | row (mu:Bool) (sz:Nat) (ag:Bool) (cs:List AVal)
 | tok (ty:Nat)
 | map (kd:KD) (clock:Nat) (es:List (Nat×AVal×AVal))
 | lrec (st:LSt) (fid k:Nat) (slots:List Nat) (vs:List AVal)
 | iter (m:Option Nat) (since:Nat) (seen:List Nat) (last:Nat)
 deriving Inhabited
inductive HT where
 | leaf
 | node (v:Option Obj) (l r:HT)
 deriving Inhabited
def HT.get:HT→Nat→Option Obj
 | .leaf,_=>none
 | .node v l r,n=>if n=0 then v else if n % 2=1 then l.get ((n - 1) / 2) else r.get ((n - 1) / 2)
def HT.ins:Nat→HT→Nat→Option Obj→HT
 | 0,t,_,_=>t
 | f+1,.leaf,n,o=>if n=0 then .node o .leaf .leaf else if n % 2=1 then .node none (HT.ins f .leaf ((n - 1) / 2) o) .leaf else .node none .leaf (HT.ins f .leaf ((n - 1) / 2) o)
 | f+1,.node v l r,n,o=>if n=0 then .node o l r else if n % 2=1 then .node v (HT.ins f l ((n - 1) / 2) o) r else .node v l (HT.ins f r ((n - 1) / 2) o)
structure Heap where
 next:Nat
 t:HT
 deriving Inhabited
def Heap.empty:Heap:=⟨0,.leaf⟩
def Heap.get (h:Heap) (id:Nat):Option Obj:=if id<h.next then h.t.get id else none
def Heap.push (h:Heap) (o:Obj):Heap:=⟨h.next+1,HT.ins (h.next+1) h.t h.next (some o)⟩
def Heap.put (h:Heap) (id:Nat) (o:Option Obj):Heap:=if id<h.next then ⟨h.next,HT.ins (id+1) h.t id o⟩ else h
inductive Opd where
 | v (i:Nat)
 | t (k:Nat)
 | c (x:AVal)
 deriving Inhabited
inductive CK where
 | int
 | bool
 | str
 deriving DecidableEq,Inhabited
inductive BK where
 | arith
 | bool
 | struct (ks:List CK)
 | ptr
 | sl
 | fn
 | mp
 deriving DecidableEq,Inhabited
inductive XOp where
 | mkmap (kd:KD)
 | mlook (kd:KD) (z:AVal) (ok:Bool)
 | mput (kd:KD)
 | mentry (kd:KD) (z:AVal)
 | mestore
 | mkown (ty bytes sz:Nat)
 | mdel (kd:KD)
 | mlen
 | s2b (row:Bool)
 | b2s
 | aslice (n sz:Nat) (ag lo hi:Bool)
 | s2ap (n sz:Nat)
 | slice30 (sz:Nat)
 | elit
 | afresh (ty bytes sz:Nat) (ag:Bool)
 | mrange
 | mnext
 | mstep
 | mlook0 (n:Nat) (k:SK) (z:AVal) (ok:Bool)
 deriving Inhabited
inductive AOp where
 | x (op:XOp) (args:List Opd)
 | mov (x:Opd)
 | pick (c a b:Opd)
 | alloc (ty sz:Nat) (ag:Bool) (z:List AVal)
 | box (sz:Nat) (ag:Bool) (x:Opd)
 | build (z:List AVal) (ps:List (Nat×Nat×Opd))
 | lit (mode ty n sz:Nat) (ag:Bool) (z:List AVal) (ps:List (Nat×Opd))
 | load (n:Nat) (ag:Bool) (x:Opd)
 | store (n:Nat) (a x:Opd)
 | nilc (x:Opd)
 | bin (op:BinOp) (bk:BK) (x y:Opd)
 | un (op:UnOp) (x:Opd)
 | toInt (k:IntKind) (x:Opd)
 | idstr (x:Opd)
 | clo (f:Nat) (cap:List Opd)
 | mksl (bytes sz:Nat) (ag:Bool) (z:List AVal) (l c:Opd)
 | slice (sz:Nat) (x:Opd) (lo hi:Option Opd)
 | sslice (x:Opd) (lo hi:Option Opd)
 | faddr (off:Nat) (x:Opd)
 | iaddr (sz:Nat) (x i:Opd)
 | aaddr (n sz:Nat) (x i:Opd)
 | field (off n:Nat) (ag:Bool) (x:Opd)
 | sidx (x i:Opd)
 | aidx (len n:Nat) (ag:Bool) (x i:Opd)
 | len (x:Opd)
 | slen (x:Opd)
 | append (arr:Bool) (ty bytes sz:Nat) (ag:Bool) (x y:Opd)
 | copy (sz:Nat) (x y:Opd)
 | mnx (mx:Bool) (x y:Opd)
 | ext (x:Opd) (i:Nat)
 | call (f:Opd) (args:List Opd)
 | pcall (f:Nat) (args:List Opd)
 | gcall (f:Nat) (args:List Opd)
 | vcall (f:Opd) (args:List Opd)
 deriving Inhabited
inductive ADst where
 | no
 | tmp
 | var (i:Nat)
 deriving DecidableEq,Inhabited
structure AOper where
 dst:ADst
 op:AOp
 guard:Option (Opd×Bool)
 deriving Inhabited
inductive ACode where
 | skip
 | ops (l:List AOper)
 | seq (a b:ACode)
 | cond (c:Opd) (a b:ACode)
 | block (id:Nat) (c:ACode)
 | loop (c:ACode)
 | exit (id:Nat)
 | ret
 | rfunc (fid k:Nat) (slots:List Nat) (f:Opd)
 | alts (ls:List (List AOper))
 | altp (rs:List (List Nat)) (ls:List (List AOper))
 | refuse
 deriving Inhabited
inductive ResV where
 | v (i:Nat)
 | c (i sz:Nat) (ag:Bool)
 deriving Inhabited
structure ALoop where
 ps:List (Option Nat)
 assign:ACode
 body:ACode
 deriving Inhabited
structure AFunc where
 slots:List Nat
 body:ACode
 results:List ResV
 loops:List ALoop:=[]
 deriving Inhabited
inductive AEnt where
 | comp (f:AFunc)
 | hand (s:List AVal→Heap→Option (AVal×Heap))
 deriving Inhabited
mutual
def strip:AVal→Option AVal
 | .sl xs (.own _ _)=>some (.sl xs .none)
 | .sl xs .full=>some (.sl xs .none)
 | .sl xs t=>some (.sl xs t)
 | .agg cs=>(stripL cs).map .agg
 | .tup cs=>(stripL cs).map .tup
 | .fn f cap=>(stripL cap).map (.fn f)
 | .ptr _ _ | .rp _ | .ref _ _ _ _ | .mp _ | .yld _ | .bad=>none
 | x=>some x
def stripL:List AVal→Option (List AVal)
 | []=>some []
 | x::xs=>match strip x,stripL xs with
   | some y,some ys=>some (y::ys)
   | _,_=>none
end
def chunk (sz:Nat) (ag:Bool):Nat→List AVal→Option (List AVal)
 | 0,_=>some []
 | n+1,cs=>match mk ag (cs.take sz),chunk sz ag n (cs.drop sz) with
   | some x,some xs=>if x.cells.length=sz then some (x::xs) else none
   | _,_=>none
def readRef (h:Heap) (id off len sz:Nat):Option (List AVal) :=
 match h.get id with
 | some (.row _ s ag cs) =>
   if (s=sz∨sz=1)∧off+len*sz≤cs.length then
    match stripL cs with
    | some cs=>chunk sz (ag && decide (s=sz)) len (cs.drop off)
    | none=>none
   else none
 | _=>none
mutual
def purify (h:Heap):AVal→Option AVal
 | .ref id off len sz=>(readRef h id off len sz).map (.sl · .none)
 | .sl xs (.own _ _)=>some (.sl xs .none)
 | .sl xs .full=>some (.sl xs .none)
 | .sl xs t=>some (.sl xs t)
 | .agg cs=>(purifyL h cs).map .agg
 | .tup cs=>(purifyL h cs).map .tup
 | .fn f cap=>(purifyL h cap).map (.fn f)
 | .ptr _ _ | .rp _ | .mp _ | .yld _ | .bad=>none
 | x=>some x
def purifyL (h:Heap):List AVal→Option (List AVal)
 | []=>some []
 | x::xs=>match purify h x,purifyL h xs with
   | some y,some ys=>some (y::ys)
   | _,_=>none
end
def borrow (h:Heap):AVal→Option AVal
 | .ptr id off=>match h.get id with
   | some (.row _ _ _ cs)=>(stripL (cs.drop off)).map .rp
   | _=>none
 | x=>purify h x
def borrowL (h:Heap):List AVal→Option (List AVal)
 | []=>some []
 | x::xs=>match borrow h x,borrowL h xs with
   | some y,some ys=>some (y::ys)
   | _,_=>none
mutual
def refIds:AVal→List Nat
 | .ref id _ _ _=>[id]
 | .agg cs | .tup cs | .fn _ cs=>refIdsL cs
 | _=>[]
def refIdsL:List AVal→List Nat
 | []=>[]
 | x::xs=>refIds x++refIdsL xs
end
mutual
def scal:AVal→Bool
 | .bool _ | .int _ _ | .str _ | .nilptr | .nilfn | .nilif | .nilmp=>true
 | .sl xs t=>xs.isEmpty && decide (t = .nil)
 | .agg cs | .tup cs=>scalL cs
 | .fn _ _ | .ptr _ _ | .rp _ | .ref _ _ _ _ | .mp _ | .yld _ | .bad=>false
def scalL:List AVal→Bool
 | []=>true
 | x::xs=>scal x && scalL xs
end
def freeze (h:Heap):List Nat→Option Heap
 | []=>some h
 | id::ids=>match h.get id with
   | some (.row _ s ag cs)=>freeze (h.put id (some (.row false s ag cs))) ids
   | _=>none
def setCells (cs:List AVal):Nat→List AVal→List AVal
 | _,[]=>cs
 | i,x::xs=>setCells (cs.set i x) (i+1) xs
def fillA (cells:List AVal):List (Nat×Nat×AVal)→Option (List AVal)
 | []=>some cells
 | (off,n,v)::rest=>if v.cells.length=n∧off+n≤cells.length∧v.cells.all AVal.one then fillA (setCells cells off v.cells) rest else none
def typed (ty:Nat):Nat:=1000000+ty
def small (sz:Nat):Bool:=decide (sz<1000000)
def repl (n:Nat) (z:List AVal):List AVal:=(List.replicate n z).flatten
def bytesLt:List UInt8→List UInt8→Bool
 | _,[]=>false
 | [],_::_=>true
 | a::x,b::y=>a<b || (a == b && bytesLt x y)
def cellEq:CK→AVal→AVal→Option Bool
 | .bool,.bool a,.bool b=>some (a == b)
 | .int,.int k a,.int k' b=>if k=k' then some (a == b) else none
 | .str,.str a,.str b=>some (a == b)
 | _,_,_=>none
def cellsEq:List CK→List AVal→List AVal→Option Bool
 | [],[],[]=>some true
 | k::ks,x::xs,y::ys=>match cellEq k x y with
   | some true=>cellsEq ks xs ys
   | some false=>some false
   | none=>none
 | _,_,_=>none
def ptrEq:AVal→AVal→Option Bool
 | .nilptr,.nilptr=>some true
 | .nilptr,.ptr _ _ | .ptr _ _,.nilptr=>some false
 | .nilptr,.rp _ | .rp _,.nilptr=>some false
 | _,_=>none
def fnEq:AVal→AVal→Option Bool
 | .nilfn,.nilfn=>some true
 | .fn _ _,.nilfn | .nilfn,.fn _ _=>some false
 | _,_=>none
def slEq:AVal→AVal→Option Bool
 | .sl _ .nil,.sl [] .nil=>some true
 | .sl _ (.own _ _),.sl [] .nil=>some false
 | .sl (_::_) .none,.sl [] .nil=>some false
 | .ref _ _ _ _,.sl [] .nil=>some false
 | _,_=>none
def intBin (op:BinOp) (k:IntKind) (a b:Int):Option AVal :=
 match op with
 | .add=>some (.int k (k.wrap (a+b)))
 | .sub=>some (.int k (k.wrap (a - b)))
 | .mul=>some (.int k (k.wrap (a*b)))
 | .quo=>if b=0 then none else some (.int k (k.wrap (a.tdiv b)))
 | .rem=>if b=0 then none else some (.int k (a.tmod b))
 | .and=>some (.int k (k.wrap (BitVec.ofInt k.bits a &&& BitVec.ofInt k.bits b).toNat))
 | .or=>some (.int k (k.wrap (BitVec.ofInt k.bits a ||| BitVec.ofInt k.bits b).toNat))
 | .xor=>some (.int k (k.wrap (BitVec.ofInt k.bits a ^^^ BitVec.ofInt k.bits b).toNat))
 | .andNot=>some (.int k (k.wrap (BitVec.ofInt k.bits a &&& ~~~BitVec.ofInt k.bits b).toNat))
 | .eql=>some (.bool (a == b))
 | .neq=>some (.bool (a != b))
 | .lss=>some (.bool (decide (a<b)))
 | .leq=>some (.bool (decide (a≤b)))
 | .gtr=>some (.bool (decide (a > b)))
 | .geq=>some (.bool (decide (a≥b)))
 | .shl | .shr=>none
def shiftA (op:BinOp) (k:IntKind) (a b:Int):Option AVal :=
 if b<0 then none else match op with
  | .shl=>some (.int k (k.wrap (a*2 ^ (min b.toNat k.bits))))
  | .shr=>some (.int k (a.fdiv (2 ^ (min b.toNat k.bits))))
  | _=>none
def strBin (op:BinOp) (a b:List UInt8):Option AVal :=
 match op with
 | .add=>if a.length+b.length≤9223372036854775807 then some (.str (a++b)) else none
 | .eql=>some (.bool (a == b))
 | .neq=>some (.bool (!(a == b)))
 | .lss=>some (.bool (bytesLt a b))
 | .leq=>some (.bool (bytesLt a b || a == b))
 | .gtr=>some (.bool (!(bytesLt a b || a == b)))
 | .geq=>some (.bool (!bytesLt a b))
 | _=>none
def cmpA (op:BinOp) (r:Option Bool):Option AVal :=
 match op with
 | .eql=>r.map .bool
 | .neq=>r.map (fun b => .bool (!b))
 | _=>none
def mpEq:AVal→AVal→Option Bool
 | .nilmp,.nilmp=>some true
 | .nilmp,.mp _ | .mp _,.nilmp=>some false
 | _,_=>none
def binA (op:BinOp) (bk:BK) (x y:AVal):Option AVal :=
 match bk,x,y with
 | .arith,.int k a,.int k' b =>
   if op = .shl∨op = .shr then shiftA op k a b
   else if k=k' then intBin op k a b else none
 | .arith,.str a,.str b=>strBin op a b
 | .bool,.bool a,.bool b=>cmpA op (some (a == b))
 | .struct ks,.agg xs,.agg ys=>cmpA op (cellsEq ks xs ys)
 | .ptr,x,y=>cmpA op (ptrEq x y)
 | .sl,x,y=>cmpA op (slEq x y)
 | .fn,x,y=>cmpA op (fnEq x y)
 | .mp,x,y=>cmpA op (mpEq x y)
 | _,_,_=>none
def unA (op:UnOp) (x:AVal):Option AVal :=
 match op,x with
 | .neg,.int k n=>some (.int k (k.wrap (0 - n)))
 | .xor,.int k n=>some (.int k (k.wrap (BitVec.ofInt k.bits (if k.signed then -1 else k.max) ^^^ BitVec.ofInt k.bits n).toNat))
 | .not,.bool b=>some (.bool !b)
 | _,_=>none
def boundA (x:Option AVal) (dflt y:Nat):Option Nat :=
 match x with
 | none=>some dflt
 | some (.int _ i)=>if 0≤i∧i≤y then some i.toNat else none
 | _=>none
def ssliceA (x:AVal) (lo hi:Option AVal):Option AVal :=
 match x with
 | .str s=>match boundA hi s.length s.length with
   | some h=>match boundA lo 0 h with
     | some l=>some (.str ((s.drop l).take (h - l)))
     | none=>none
   | none=>none
 | _=>none
def sliceA (sz:Nat) (x:AVal) (lo hi:Option AVal):Option AVal :=
 match x with
 | .sl xs t=>match boundA hi xs.length xs.length with
   | some h=>match boundA lo 0 h with
     | some l=>if (∀ x,xs.head?=some x→x.cells.length=sz)∧(t = .nil→xs=[]) then some (.sl ((xs.drop l).take (h - l)) t.sub) else none
     | none=>none
   | none=>none
 | .ref id off len s=>match boundA hi len len with
   | some h=>match boundA lo 0 h with
     | some l=>if s=sz then some (.ref id (off+l*sz) (h - l) sz) else none
     | none=>none
   | none=>none
 | _=>none
def elemsA (h:Heap) (sz:Nat):AVal→Option (List AVal)
 | .sl ys _=>if ∀ y,ys.head?=some y→y.cells.length=sz then some (flat ys) else none
 | .ref id off len s=>if s=sz then (match h.get id with
   | some (.row _ _ _ cs)=>if off+len*sz≤cs.length then some ((cs.drop off).take (len*sz)) else none
   | _=>none) else none
 | .str s=>if sz=1 then some (s.map fun b => .int .u8 b.toNat) else none
 | _=>none
def lenA:AVal→Option Nat
 | .sl xs _=>some xs.length
 | .ref _ _ len _=>some len
 | .str s=>some s.length
 | _=>none
def roomOk (need bytes:Nat):Bool:=decide (need≤9223372036854775807) && decide ((4*need+1024)*bytes≤281474976710656)
def appendA (arr:Bool) (ty bytes sz:Nat) (ag:Bool) (x y:AVal) (h:Heap):Option (AVal×Heap) :=
 match lenA y,elemsA h sz y with
 | some m,some news =>
   if m=0 then (match x with
    | .sl _ _ | .ref _ _ _ _=>some (x,h)
    | _=>none)
   else match x with
   | .sl xs t =>
     if !(roomOk (xs.length+m) bytes && decide (0<sz) && small sz) then none else
     if arr then (match t with
      | .nil | .full=>if xs=[] then some (.ref h.next 0 m sz,h.push (.row true sz ag news)) else none
      | _=>none)
     else match stripL news with
      | none=>none
      | some news=>match chunk sz ag m news with
        | none=>none
        | some ys=>match t with
          | .nil | .full=>if xs=[] then some (.sl ys (.own h.next sz),h.push (.tok ty)) else none
          | .own id s=>(match h.get id with
            | some (.tok ty')=>if s=sz∧ty'=ty then some (.sl (xs++ys) (.own h.next sz),(h.put id none).push (.tok ty)) else none
            | _=>none)
          | .none=>none
   | .ref id off len s =>
     match h.get id with
     | some (.row true s' ag' cs) =>
       if arr=true∧s=sz∧s'=sz∧off=0∧cs.length=len*sz∧roomOk (len+m) bytes∧0<sz∧small sz then some (.ref h.next 0 (len+m) sz,(h.put id none).push (.row true sz ag' (cs++news))) else none
     | _=>none
   | _=>none
 | _,_=>none
def loadA (n:Nat) (ag:Bool) (x:AVal) (h:Heap):Option AVal :=
 match x with
 | .ptr id off=>match h.get id with
   | some (.row _ _ _ cs)=>if off+n≤cs.length then mk ag ((cs.drop off).take n) else none
   | _=>none
 | .rp cs=>if n≤cs.length then mk ag (cs.take n) else none
 | _=>none
def storeA (n:Nat) (a x:AVal) (h:Heap):Option Heap :=
 match a with
 | .ptr id off=>match h.get id with
   | some (.row true s ag cs)=>if x.cells.length=n∧off+n≤cs.length∧x.cells.all AVal.one then some (h.put id (some (.row true s ag (setCells cs off x.cells)))) else none
   | _=>none
 | _=>none
def copyA (sz:Nat) (x y:AVal) (h:Heap):Option (AVal×Heap) :=
 match lenA y,elemsA h sz y with
 | some m,some news =>
   match x with
   | .ref id off len s=>match h.get id with
     | some (.row true s' ag cs) =>
       let n:=min m len
       if s=sz∧off+len*sz≤cs.length∧news.all AVal.one then some (.int .i64 n,h.put id (some (.row true s' ag (setCells cs off (news.take (n*sz)))))) else none
     | _=>none
   | .sl [] _=>some (.int .i64 0,h)
   | _=>none
 | _,_=>none
def skEq:SK→AVal→AVal→Bool
 | .int _,.int _ x,.int _ y=>x == y
 | .str,.str x,.str y=>x == y
 | .bool,.bool x,.bool y=>x == y
 | _,_,_=>false
def sksEq:List SK→List AVal→List AVal→Bool
 | [],[],[]=>true
 | k::ks,x::xs,y::ys=>skEq k x y && sksEq ks xs ys
 | _,_,_=>false
def isSK:SK→AVal→Bool
 | .int k,.int a _=>decide (a=k)
 | .str,.str _=>true
 | .bool,.bool _=>true
 | _,_=>false
def isSKs:List SK→List AVal→Bool
 | [],[]=>true
 | k::ks,x::xs=>isSK k x && isSKs ks xs
 | _,_=>false
def keyEq:KD→AVal→AVal→Bool
 | .stk ks,.agg xs,.agg ys=>sksEq ks xs ys
 | .int _,.int _ x,.int _ y=>x == y
 | .str,.str x,.str y=>x == y
 | .bool,.bool x,.bool y=>x == y
 | _,_,_=>false
def isKey:KD→AVal→Bool
 | .stk ks,.agg xs=>isSKs ks xs
 | .int k,.int a _=>decide (a=k)
 | .str,.str _=>true
 | .bool,.bool _=>true
 | _,_=>false
def findE (kd:KD) (k:AVal):List (Nat×AVal×AVal)→Nat→Option (Nat×AVal)
 | [],_=>none
 | e::es,i=>if keyEq kd k e.2.1 then some (i,e.2.2) else findE kd k es (i+1)
def mput (kd:KD) (k v:AVal) (clock:Nat) (es:List (Nat×AVal×AVal)):Nat×List (Nat×AVal×AVal) :=
 match findE kd k es 0 with
 | some (i,_)=>(clock,es.modify i fun e=>(e.1,k,v))
 | none=>(clock+1,es++[(clock,k,v)])
def bytesL:List AVal→Option (List UInt8)
 | []=>some []
 | .int .u8 n::xs=>(bytesL xs).map (UInt8.ofNat n.toNat::·)
 | _=>none
def plain (v:AVal):Bool:=v.cells.all AVal.one
def flatv:AVal→Bool
 | .bool _ | .int _ _ | .str _ | .nilptr | .nilfn | .nilif | .nilmp=>true
 | _=>false
def u8cell:AVal→Bool
 | .int .u8 n=>decide (0≤n) && decide (n<256)
 | _=>false
def bytesA (h:Heap):AVal→Option (List AVal)
 | .str _=>none
 | x=>elemsA h 1 x
def leftE (seen:List Nat) (es:List (Nat×AVal×AVal)):List (Nat×AVal×AVal):=es.filter fun e=>!seen.contains e.1
def oldE (since last:Nat) (es:List (Nat×AVal×AVal)):Bool:=es.all (fun e=>decide (e.1<since)) && decide (since≤last)
def evalX (op:XOp) (xs:List AVal) (h:Heap):Option (AVal×Heap) :=
 match op,xs with
 | .mkmap kd,[]=>some (.mp h.next,h.push (.map kd 0 []))
 | .mkmap kd,[n]=>match n with
   | .int _ _=>some (.mp h.next,h.push (.map kd 0 []))
   | _=>none
 | .mkown ty bytes sz,[l,c]=>match l,c with
   | .int _ a,.int _ b=>if a=0∧0≤b∧b<9223372036854775808∧bytes*b≤281474976710656∧0<sz then some (.sl [] (.own h.next sz),h.push (.tok ty)) else none
   | _,_=>none
 | .mentry kd z,[m,k] =>
   if isKey kd k then (match m with
   | .mp id=>match h.get id with
     | some (.map kd' clock es)=>if kd'=kd∧plain z=true then (match findE kd k es 0 with
       | some (i,v)=>some (.tup [v,.int .i64 (((es[i]?).map fun e=>(e.1:Int)).getD 0)],h.put id (some (.map kd clock (es.modify i fun e=>(e.1,k,e.2.2)))))
       | none=>some (.tup [z,.int .i64 (clock:Int)],h.put id (some (.map kd (clock+1) (es++[(clock,k,z)]))))) else none
     | _=>none
   | _=>none) else none
 | .mestore,[m,s,v]=>match m,s with
   | .mp id,.int _ b=>match h.get id with
     | some (.map kd clock es)=>if plain v=true then (match es.findIdx? (fun e=>(e.1:Int) == b) with
       | some i=>some (.tup [],h.put id (some (.map kd clock (es.modify i fun e=>(e.1,e.2.1,v)))))
       | none=>none) else none
     | _=>none
   | _,_=>none
 | .mlook kd z ok,[m,k] =>
   if isKey kd k then (match m with
   | .nilmp=>some (if ok then .tup [z,.bool false] else z,h)
   | .mp id=>match h.get id with
     | some (.map kd' _ es)=>if kd'=kd then (match findE kd k es 0 with
       | some (_,v)=>some (if ok then .tup [v,.bool true] else v,h)
       | none=>some (if ok then .tup [z,.bool false] else z,h)) else none
     | _=>none
   | _=>none) else none
 | .mput kd,[m,k,v] =>
   if isKey kd k then (match m with
   | .mp id=>match h.get id with
     | some (.map kd' clock es)=>if kd'=kd∧plain v=true then some (.tup [],h.put id (some (.map kd (mput kd k v clock es).1 (mput kd k v clock es).2))) else none
     | _=>none
   | _=>none) else none
 | .mdel kd,[m,k] =>
   if isKey kd k then (match m with
   | .nilmp=>some (.tup [],h)
   | .mp id=>match h.get id with
     | some (.map kd' clock es)=>if kd'=kd then (match findE kd k es 0 with
       | some (i,_)=>some (.tup [],h.put id (some (.map kd clock (es.eraseIdx i))))
       | none=>some (.tup [],h.put id (some (.map kd clock es)))) else none
     | _=>none
   | _=>none) else none
 | .mlen,[m] =>
   match m with
   | .nilmp=>some (.int .i64 0,h)
   | .mp id=>match h.get id with
     | some (.map _ _ es)=>some (.int .i64 es.length,h)
     | _=>none
   | _=>none
 | .s2b row,[x] =>
   match x with
   | .str s=>if s.length≤1000000 then
     (if row then some (.ref h.next 0 s.length 1,h.push (.row true 1 false (s.map fun b => .int .u8 b.toNat)))
     else some (.sl (s.map fun b => .int .u8 b.toNat) .none,h)) else none
   | _=>none
 | .b2s,[x] =>
   match bytesA h x with
   | some cs=>if cs.all u8cell then (bytesL cs).map fun s=>(.str s,h) else none
   | none=>none
 | .aslice n sz ag lo hi,x::bs =>
   match boundA (if hi then (if lo then bs.tail.head? else bs.head?) else none) n n with
   | some b=>match boundA (if lo then bs.head? else none) 0 b with
     | some a=>match x with
       | .ptr id off=>match h.get id with
         | some (.row _ _ _ cs)=>if off+n*sz≤cs.length∧0<sz then some (.ref id (off+a*sz) (b - a) sz,h) else none
         | _=>none
       | .rp cs=>if n*sz≤cs.length∧0<sz∧cs.all flatv then (chunk sz ag (b - a) (cs.drop (a*sz))).map fun xs=>(.sl xs .none,h) else none
       | _=>none
     | none=>none
   | none=>none
 | .s2ap n sz,[x] =>
   match x with
   | .ref id off len s=>if s=sz∧n≤len∧0<n then some (.ptr id off,h) else none
   | .sl xs _=>if n≤xs.length∧0<n∧(∀ y,xs.head?=some y→y.cells.length=sz) then some (.rp ((flat xs).take (n*sz)),h) else none
   | _=>none
 | .elit,[]=>some (.sl [] .full,h)
 | .afresh ty bytes sz ag,[x,y] =>
   match x with
   | .sl [] .nil=>appendA true ty bytes sz ag x y h
   | .sl [] .full=>appendA true ty bytes sz ag x y h
   | _=>none
 | .slice30 sz,[x,a,b] =>
   match a,b with
   | .int _ 0,.int _ 0=>match x with
     | .sl _ t=>some (.sl [] (if t = .nil then .nil else .full),h)
     | .ref _ _ _ _=>some (.sl [] .full,h)
     | _=>none
   | _,_=>none
 | .mlook0 n sk z ok,[m,k] =>
   match k with
   | .agg xs=>if xs.length=n∧xs.all (isSK sk)=true then (match m with
     | .nilmp=>some (if ok then .tup [z,.bool false] else z,h)
     | .mp id=>match h.get id with
       | some (.map _ _ [])=>some (if ok then .tup [z,.bool false] else z,h)
       | _=>none
     | _=>none) else none
   | _=>none
 | .mrange,[x] =>
   match x with
   | .nilmp=>some (.ptr h.next 0,h.push (.iter none 0 [] 0))
   | .mp id=>match h.get id with
     | some (.map _ clock _)=>some (.ptr h.next 0,h.push (.iter (some id) clock [] clock))
     | _=>none
   | _=>none
 | .mnext,[x] =>
   match x with
   | .ptr r 0=>match h.get r with
     | some (.iter none _ _ _)=>some (.tup [.bool false],h)
     | some (.iter (some id) since seen last)=>match h.get id with
       | some (.map _ clock es)=>if oldE since last es then (match leftE seen es with
         | []=>some (.tup [.bool false],h)
         | [e]=>some (.tup [.bool true,e.2.1,e.2.2],h.put r (some (.iter (some id) since (seen++[e.1]) clock)))
         | _=>none) else none
       | _=>none
     | _=>none
   | _=>none
 | .mstep,[x] =>
   match x with
   | .ptr r 0=>match h.get r with
     | some (.iter (some id) _ seen last)=>match h.get id with
       | some (.map _ clock es)=>if clock=last then (match seen.getLast? with
         | some b=>match es.find? (fun e=>e.1 == b) with
           | some e=>some (.tup [e.2.1,e.2.2],h)
           | none=>none
         | none=>none) else none
       | _=>none
     | _=>none
   | _=>none
 | _,_=>none
def evalA (op:AOp) (ev:Opd→AVal) (h:Heap):Option (AVal×Heap) :=
 match op with
 | .x op args=>evalX op (args.map ev) h
 | .mov x=>some (ev x,h)
 | .pick c a b=>match ev c with
   | .bool t=>some (if t then ev a else ev b,h)
   | _=>none
 | .alloc ty sz ag z=>if z.length=sz∧z.all AVal.one then some (.ptr h.next 0,h.push (.row true (typed ty) ag z)) else none
 | .box sz ag x=>if (ev x).cells.length=sz∧(ev x).cells.all AVal.one then some (.ptr h.next 0,h.push (.row true 0 ag (ev x).cells)) else none
 | .build z ps=>(fillA z (ps.map fun p=>(p.1,p.2.1,ev p.2.2))).map fun cs=>(.agg cs,h)
 | .lit mode ty n sz ag z ps =>
   match fillA (repl n z) (ps.map fun p=>(p.1*sz,sz,ev p.2)) with
   | some cs =>
     if !(decide (z.length=sz) && z.all AVal.one && decide (n*sz≤16777216) && small sz) then none else
     if mode=2 then some (.ref h.next 0 n sz,h.push (.row true sz ag cs))
     else if mode=3 then (match purifyL h cs,freeze h (refIdsL cs) with
      | some cs,some h=>match chunk sz ag n cs with
        | none=>none
        | some xs=>some (.sl xs .none,h)
      | _,_=>none)
     else match stripL cs with
      | none=>none
      | some cs=>match chunk sz ag n cs with
        | none=>none
        | some xs=>if mode=1 then some (.sl xs (.own h.next sz),h.push (.tok ty)) else some (.sl xs .none,h)
   | none=>none
 | .load n ag x=>(loadA n ag (ev x) h).map (·,h)
 | .store n a x=>(storeA n (ev a) (ev x) h).map (.tup [],·)
 | .nilc x=>match ev x with
   | .ptr i o=>some (.ptr i o,h)
   | .rp cs=>some (.rp cs,h)
   | .fn f c=>some (.fn f c,h)
   | _=>none
 | .bin op bk x y=>(binA op bk (ev x) (ev y)).map (·,h)
 | .un op x=>(unA op (ev x)).map (·,h)
 | .toInt k x=>match ev x with
   | .int _ n=>some (.int k (k.wrap n),h)
   | _=>none
 | .idstr x=>match ev x with
   | .str s=>some (.str s,h)
   | _=>none
 | .clo f cap=>some (.fn f (cap.map ev),h)
 | .mksl bytes sz ag z l c=>match ev l,ev c with
   | .int _ a,.int _ b=>if 0≤a∧a≤b∧b<9223372036854775808∧bytes*b≤281474976710656∧z.length=sz∧z.all AVal.one∧small sz then some (.ref h.next 0 a.toNat sz,h.push (.row true sz ag (repl a.toNat z))) else none
   | _,_=>none
 | .slice sz x lo hi=>(sliceA sz (ev x) (lo.map ev) (hi.map ev)).map (·,h)
 | .sslice x lo hi=>(ssliceA (ev x) (lo.map ev) (hi.map ev)).map (·,h)
 | .faddr off x=>match ev x with
   | .ptr i o=>some (.ptr i (o+off),h)
   | .rp cs=>some (.rp (cs.drop off),h)
   | _=>none
 | .iaddr sz x i=>match ev x,ev i with
   | .sl xs _,.int _ n=>if 0≤n∧n<xs.length then (match xs[n.toNat]? with
     | some y=>if y.cells.length=sz then some (.rp y.cells,h) else none
     | none=>none) else none
   | .ref id off len s,.int _ n=>if 0≤n∧n<len∧s=sz then some (.ptr id (off+n.toNat*sz),h) else none
   | _,_=>none
 | .aaddr len sz x i=>match ev x,ev i with
   | .ptr id off,.int _ n=>if 0≤n∧n<len then some (.ptr id (off+n.toNat*sz),h) else none
   | .rp cs,.int _ n=>if 0≤n∧n<len then some (.rp (cs.drop (n.toNat*sz)),h) else none
   | _,_=>none
 | .field off n ag x=>match ev x with
   | .agg cs=>if off+n≤cs.length then (mk ag ((cs.drop off).take n)).map (·,h) else none
   | _=>none
 | .sidx x i=>match ev x,ev i with
   | .str s,.int _ n=>if 0≤n then (match s[n.toNat]? with
     | some b=>some (.int .u8 b.toNat,h)
     | none=>none) else none
   | _,_=>none
 | .aidx len n ag x i=>match ev x,ev i with
   | .agg cs,.int _ j=>if 0≤j∧j<len∧j.toNat*n+n≤cs.length then (mk ag ((cs.drop (j.toNat*n)).take n)).map (·,h) else none
   | _,_=>none
 | .len x=>match ev x with
   | .sl xs _=>some (.int .i64 xs.length,h)
   | .ref _ _ n _=>some (.int .i64 n,h)
   | _=>none
 | .slen x=>match ev x with
   | .str s=>some (.int .i64 s.length,h)
   | _=>none
 | .append arr ty bytes sz ag x y=>appendA arr ty bytes sz ag (ev x) (ev y) h
 | .copy sz x y=>copyA sz (ev x) (ev y) h
 | .mnx mx x y=>match ev x,ev y with
   | .int k a,.int _ b=>some (.int k (if mx then (if a<b then b else a) else (if b<a then b else a)),h)
   | _,_=>none
 | .ext x i=>match ev x with
   | .tup vs=>(vs[i]?).map (·,h)
   | _=>none
 | .call _ _ | .pcall _ _ | .gcall _ _ | .vcall _ _=>none
abbrev CallF:=Bool→Nat→List AVal→Heap→Option (AVal×Heap)
def evOpd (vs ts:List AVal):Opd→AVal
 | .v i=>(vs[i]?).getD .bad
 | .t k=>(ts[k]?).getD .bad
 | .c x=>x
mutual
def AVal.beq:AVal→AVal→Bool
 | .bool a,.bool b=>a == b
 | .int k a,.int k' b=>decide (k=k') && a == b
 | .str a,.str b=>a == b
 | .sl xs t,.sl ys t'=>AVal.beqL xs ys && decide (t=t')
 | .nilptr,.nilptr=>true
 | .ptr a b,.ptr c d=>a == c && b == d
 | .rp xs,.rp ys=>AVal.beqL xs ys
 | .ref a b c d,.ref e f g h=>a == e && b == f && c == g && d == h
 | .fn f xs,.fn g ys=>f == g && AVal.beqL xs ys
 | .nilfn,.nilfn=>true
 | .nilif,.nilif=>true
 | .agg xs,.agg ys=>AVal.beqL xs ys
 | .tup xs,.tup ys=>AVal.beqL xs ys
 | .mp a,.mp b=>a == b
 | .nilmp,.nilmp=>true
 | .yld a,.yld b=>a == b
 | .bad,.bad=>true
 | _,_=>false
def AVal.beqL:List AVal→List AVal→Bool
 | [],[]=>true
 | x::xs,y::ys=>AVal.beq x y && AVal.beqL xs ys
 | _,_=>false
end
def beqEs:List (Nat×AVal×AVal)→List (Nat×AVal×AVal)→Bool
 | [],[]=>true
 | x::xs,y::ys=>x.1 == y.1 && AVal.beq x.2.1 y.2.1 && AVal.beq x.2.2 y.2.2 && beqEs xs ys
 | _,_=>false
def Obj.beq:Obj→Obj→Bool
 | .row m s a xs,.row m' s' a' ys=>m == m' && s == s' && a == a' && AVal.beqL xs ys
 | .tok a,.tok b=>a == b
 | .map k c es,.map k' c' es'=>decide (k=k') && c == c' && beqEs es es'
 | .iter m s l k,.iter m' s' l' k'=>decide (m=m') && s == s' && l == l' && k == k'
 | .lrec st f k sl vs,.lrec st' f' k' sl' vs'=>decide (st=st') && f == f' && k == k' && sl == sl' && AVal.beqL vs vs'
 | _,_=>false
def beqO:Option Obj→Option Obj→Bool
 | none,none=>true
 | some a,some b=>a.beq b
 | _,_=>false
def extB (h h':Heap):Bool:=decide (h.next≤h'.next) && (List.range h.next).all fun id=>beqO (h'.get id) (h.get id)
def execA (cf:CallF) (op:AOp) (ev:Opd→AVal) (h:Heap):Option (AVal×Heap) :=
 match op with
 | .call f args=>match ev f with
   | .fn g cap=>cf false g (args.map ev++cap) h
   | .yld id=>cf true id (args.map ev) h
   | _=>none
 | .gcall g args=>match cf false g (args.map ev) h with
   | some (r,h')=>if extB h h' then some (r,h') else none
   | none=>none
 | .vcall f args=>match ev f with
   | .fn g cap=>match borrowL h (args.map ev++cap) with
     | some asx=>(match cf false g asx Heap.empty with
       | some (r,_)=>if scal r then some (r,h) else none
       | none=>none)
     | none=>none
   | _=>none
 | .pcall f args=>match stripL (args.map ev) with
   | some asx=>(match cf false f asx Heap.empty with
     | some (r,h')=>(purify h' r).map (·,h)
     | none=>none)
   | none=>match purifyL h (args.map ev) with
     | some asx=>(match cf false f asx Heap.empty with
       | some (r,_)=>if scal r then some (r,h) else none
       | none=>none)
     | none=>none
 | op=>evalA op ev h
structure St where
 vs:List AVal
 ts:List AVal
 h:Heap
 deriving Inhabited
def St.put (s:St) (k:Nat) (d:ADst) (r:AVal) (h:Heap):St :=
 match d with
 | .no=>⟨s.vs,s.ts,h⟩
 | .tmp=>⟨s.vs,s.ts.set k r,h⟩
 | .var i=>⟨s.vs.set i r,s.ts,h⟩
def wantA (ev:Opd→AVal):Option (Opd×Bool)→Option Bool
 | none=>some true
 | some (x,b)=>match ev x with
   | .bool c=>some (c == b)
   | .tup []=>some false
   | _=>none
def stepA (cf:CallF) (o:AOper) (k:Nat) (s:St):Option St :=
 match wantA (evOpd s.vs s.ts) o.guard with
 | none=>none
 | some false=>some (s.put k o.dst (.tup []) s.h)
 | some true=>match execA cf o.op (evOpd s.vs s.ts) s.h with
   | some (r,h)=>some (s.put k o.dst r h)
   | none=>none
def foldA (cf:CallF):List AOper→Nat→St→Option St
 | [],_,s=>some s
 | o::l,k,s=>match stepA cf o k s with
   | some s=>foldA cf l (k+1) s
   | none=>none
inductive Task where
 | code (c:ACode) (vs:List AVal) (h:Heap)
 | call (f:Nat) (args:List AVal) (h:Heap)
 | yield (id:Nat) (args:List AVal) (h:Heap)
inductive Res where
 | code (e:AExit) (vs:List AVal) (h:Heap)
 | val (r:AVal) (h:Heap)
def Res.asVal:Res→Option (AVal×Heap)
 | .val r h=>some (r,h)
 | _=>none
def rvA (vs:List AVal) (h:Heap):ResV→Option AVal
 | .v i=>some ((vs[i]?).getD .bad)
 | .c i sz ag=>loadA sz ag ((vs[i]?).getD .bad) h
def rvsA (vs:List AVal) (h:Heap):List ResV→Option (List AVal)
 | []=>some []
 | r::rs=>match rvA vs h r,rvsA vs h rs with
   | some x,some xs=>some (x::xs)
   | _,_=>none
def resultsA (rs:List ResV) (vs:List AVal) (h:Heap):Option AVal :=
 match rs with
 | [r]=>rvA vs h r
 | rs=>(rvsA vs h rs).map .tup
def setPs:List (Option Nat)→List AVal→List AVal→List AVal
 | some i::ps,x::xs,vs=>setPs ps xs (vs.set i x)
 | none::ps,_::xs,vs=>setPs ps xs vs
 | _,_,vs=>vs
def HT.beq:HT→HT→Bool
 | .leaf,.leaf=>true
 | .node v l r,.node v' l' r'=>beqO v v' && HT.beq l l' && HT.beq r r'
 | _,_=>false
def heapBeq (a b:Heap):Bool:=a.next == b.next && HT.beq a.t b.t
def altsA (cf:CallF) (vs:List AVal) (h:Heap):List (List AOper)→Option (List AVal×Heap)
 | []=>none
 | l::ls=>match foldA cf l 0 ⟨vs,List.replicate l.length .bad,h⟩ with
   | none=>none
   | some s=>match ls with
     | []=>some (s.vs,s.h)
     | _::_=>match altsA cf vs h ls with
       | some r=>if AVal.beqL s.vs r.1 && heapBeq s.h r.2 then some r else none
       | none=>none
def Tok.ren (p:Nat→Nat):Tok→Tok
 | .own id s => .own (p id) s
 | t=>t
mutual
def AVal.ren (p:Nat→Nat):AVal→AVal
 | .sl xs t => .sl xs (t.ren p)
 | .ptr id off => .ptr (p id) off
 | .rp cs => .rp (AVal.renL p cs)
 | .ref id off len sz => .ref (p id) off len sz
 | .fn f cap => .fn f (AVal.renL p cap)
 | .agg cs => .agg (AVal.renL p cs)
 | .tup cs => .tup (AVal.renL p cs)
 | .mp id => .mp (p id)
 | .yld id => .yld (p id)
 | x=>x
def AVal.renL (p:Nat→Nat):List AVal→List AVal
 | []=>[]
 | x::xs=>AVal.ren p x::AVal.renL p xs
end
def Obj.ren (p:Nat→Nat):Obj→Obj
 | .row mu sz ag cs => .row mu sz ag (AVal.renL p cs)
 | .tok ty => .tok ty
 | .map kd clock es => .map kd clock (es.map fun e=>(e.1,AVal.ren p e.2.1,AVal.ren p e.2.2))
 | .lrec st fid k slots vs => .lrec st fid k slots (AVal.renL p vs)
 | .iter m since seen last => .iter (m.map p) since seen last
def foldN (cf:CallF):List AOper→Nat→St→Option (St×List Nat)
 | [],_,s=>some (s,[])
 | o::l,k,s=>match stepA cf o k s with
   | some s1=>match foldN cf l (k+1) s1 with
     | some (t,ns)=>some (t,s.h.next::ns)
     | none=>none
   | none=>none
def lensOf:List Nat→Nat→List Nat
 | [],_=>[]
 | [a],n=>[n - a]
 | a::b::l,n=>(b - a)::lensOf (b::l) n
def lookS:List (Nat×Nat)→Nat→Nat
 | [],_=>0
 | (k,v)::l,x=>if k=x then v else lookS l x
def blks (r0 n0 r n:List Nat) (e0:Nat):List (Nat×Nat×Nat) :=
 ((r0.zip (n0.zip (lensOf n0 e0))).filter fun x=>decide (0<x.2.2)).map fun x=>(x.2.1,lookS (r.zip n) x.1,x.2.2)
def mapB (bs:List (Nat×Nat×Nat)) (i:Nat):Nat :=
 match bs.find? fun b=>decide (b.1≤i) && decide (i<b.1+b.2.2) with
 | some b=>b.2.1+(i - b.1)
 | none=>i
def mapP (lo n:Nat) (bs:List (Nat×Nat×Nat)) (i:Nat):Nat:=if lo≤i∧i<n then mapB bs i else i
def sameRen (lo:Nat) (bs:List (Nat×Nat×Nat)) (s0 s:St):Bool :=
 s.h.next == s0.h.next && decide (lo≤s0.h.next) && AVal.beqL (AVal.renL (mapP lo s0.h.next bs) s0.vs) s.vs &&
 ((List.range lo).all fun i=>beqO (s.h.get i) ((s0.h.get i).map (Obj.ren (mapP lo s0.h.next bs)))) &&
 (List.range (s0.h.next - lo)).all fun t =>
  let j:=mapP lo s0.h.next bs (lo+t)
  decide (lo≤j) && decide (j<s0.h.next) && mapB (bs.map fun b=>(b.2.1,b.1,b.2.2)) j == lo+t && beqO (s.h.get j) ((s0.h.get (lo+t)).map (Obj.ren (mapP lo s0.h.next bs)))
def altpC (cf:CallF) (vs:List AVal) (h:Heap) (r0 n0:List Nat) (s0:St):List (List Nat)→List (List AOper)→Bool
 | [],[]=>true
 | r::rs,l::ls=>match foldN cf l 0 ⟨vs,List.replicate l.length .bad,h⟩ with
   | none=>false
   | some (s,n)=>sameRen h.next (blks r0 n0 r n s0.h.next) s0 s && altpC cf vs h r0 n0 s0 rs ls
 | _,_=>false
def altpA (cf:CallF) (vs:List AVal) (h:Heap):List (List Nat)→List (List AOper)→Option (List AVal×Heap)
 | r0::rs,l0::ls=>match foldN cf l0 0 ⟨vs,List.replicate l0.length .bad,h⟩ with
   | none=>none
   | some (s0,n0)=>if altpC cf vs h r0 n0 s0 rs ls then some (s0.vs,s0.h) else none
 | _,_=>none
def run (F:Nat→Option AEnt):Nat→Task→Option Res
 | 0,_=>none
 | n+1,.call f args h =>
   match F f with
   | none=>none
   | some (.hand s)=>(s args h).map fun p => .val p.1 p.2
   | some (.comp fn) =>
     match run F n (.code fn.body (fn.slots.map fun s=>(args[s]?).getD (.tup [])) h) with
     | some (.code .normal vs h')=>(resultsA fn.results vs h').map (.val · h')
     | some (.code .ret vs h')=>(resultsA fn.results vs h').map (.val · h')
     | _=>none
 | n+1,.yield id args h =>
   match h.get id with
   | some (.lrec .ready fid k slots vs) =>
     match F fid with
     | some (.comp fn) =>
       match fn.loops[k]? with
       | some L =>
         if slots=fn.slots∧args.length=L.ps.length then
          match run F n (.code L.assign (setPs L.ps args vs) h) with
          | some (.code .normal vs2 h2) =>
            match h2.get id with
            | some (.lrec .ready fid2 k2 slots2 vs3) =>
              match run F n (.code L.body vs2 (h2.put id (some (.lrec .busy fid2 k2 slots2 vs3)))) with
              | some (.code e _ h3) =>
                match h3.get id with
                | some (.lrec .busy fid3 k3 slots3 vs4) =>
                  match e with
                  | .normal=>some (.val (.bool true) (h3.put id (some (.lrec .ready fid3 k3 slots3 vs4))))
                  | e=>some (.val (.bool false) (h3.put id (some (.lrec (.done e) fid3 k3 slots3 vs4))))
                | _=>none
              | _=>none
            | _=>none
          | _=>none
         else none
       | none=>none
     | _=>none
   | _=>none
 | n+1,.code c vs h =>
   match c with
   | .skip=>some (.code .normal vs h)
   | .ops l =>
     match foldA (fun b f args h=>(run F n (if b then .yield f args h else .call f args h)).bind Res.asVal) l 0 ⟨vs,List.replicate l.length .bad,h⟩ with
     | some s=>some (.code .normal s.vs s.h)
     | none=>none
   | .seq a b =>
     match run F n (.code a vs h) with
     | some (.code .normal vs h)=>run F n (.code b vs h)
     | r=>r
   | .cond x a b =>
     match evOpd vs [] x with
     | .bool true=>run F n (.code a vs h)
     | .bool false=>run F n (.code b vs h)
     | _=>none
   | .block id c =>
     match run F n (.code c vs h) with
     | some (.code (.exit i) vs h)=>if i=id then some (.code .normal vs h) else some (.code (.exit i) vs h)
     | r=>r
   | .loop c =>
     match run F n (.code c vs h) with
     | some (.code .normal vs h)=>run F n (.code (.loop c) vs h)
     | r=>r
   | .exit id=>some (.code (.exit id) vs h)
   | .ret=>some (.code .ret vs h)
   | .rfunc fid k slots f =>
     match evOpd vs [] f with
     | .fn g cap =>
       match run F n (.call g (.yld h.next::cap) (h.push (.lrec .ready fid k slots vs))) with
       | some (.val _ h2) =>
         match h2.get h.next with
         | some (.lrec .ready _ _ _ _)=>some (.code .normal vs (h2.put h.next none))
         | some (.lrec (.done e) _ _ _ _)=>some (.code e vs (h2.put h.next none))
         | _=>none
       | _=>none
     | _=>none
   | .alts ls =>
     match altsA (fun b f args h=>(run F n (if b then .yield f args h else .call f args h)).bind Res.asVal) vs h ls with
     | some r=>some (.code .normal r.1 r.2)
     | none=>none
   | .altp rs ls =>
     match altpA (fun b f args h=>(run F n (if b then .yield f args h else .call f args h)).bind Res.asVal) vs h rs ls with
     | some r=>some (.code .normal r.1 r.2)
     | none=>none
   | .refuse=>none
def oT (o:AOp):AOper:=⟨.tmp,o,.none⟩
def oN (o:AOp):AOper:=⟨.no,o,.none⟩
def oV (i:Nat) (o:AOp):AOper:=⟨.var i,o,.none⟩
def oG (k:Nat) (b:Bool) (o:AOp):AOper:=⟨.tmp,o,some (.t k,b)⟩
def oW (i k:Nat) (b:Bool) (o:AOp):AOper:=⟨.var i,o,some (.t k,b)⟩
def z6:AVal := .int .i64 0
def nS:AVal := .sl [] .nil
def k6 (n:Int):Opd := .c (.int .i64 n)
def i6 (n:Int):AVal := .int .i64 n
def tN:AVal := .tup []
def mv (n:Nat):AOper:=oT (.mov (.v n))
def mt (n:Nat):AOper:=oT (.mov (.t n))
def vt (a b:Nat):AOper:=oV a (.mov (.t b))
def vv (a b:Nat):AOper:=oV a (.mov (.v b))
def lV (n k:Nat):AOper:=oT (.load n true (.v k))
def lU (n k:Nat):AOper:=oT (.load n false (.v k))
def lT (n k:Nat):AOper:=oT (.load n true (.t k))
def lS (n k:Nat):AOper:=oT (.load n false (.t k))
def sV (n a b:Nat):AOper:=oN (.store n (.v a) (.t b))
def sT (n a b:Nat):AOper:=oN (.store n (.t a) (.t b))
def fV (n k:Nat):AOper:=oT (.faddr n (.v k))
def fT (n k:Nat):AOper:=oT (.faddr n (.t k))
def iT (n a b:Nat):AOper:=oT (.iaddr n (.t a) (.t b))
def eT (a b:Nat):AOper:=oT (.ext (.t a) b)
theorem uA {a b:Prop} (x:a) (y:b):a∧b:=⟨x,y⟩
def uT:=uA oT.eq_1 (uA oN.eq_1 (uA oV.eq_1 (uA oG.eq_1 (uA oW.eq_1 (uA z6.eq_1 (uA nS.eq_1 (uA k6.eq_1 (uA mv.eq_1 (uA mt.eq_1 (uA vt.eq_1 (uA vv.eq_1 (uA lV.eq_1 (uA lU.eq_1 (uA lT.eq_1 (uA lS.eq_1 (uA sV.eq_1 (uA sT.eq_1 (uA fV.eq_1 (uA fT.eq_1 (uA iT.eq_1 eT.eq_1))))))))))))))))))))
end Go.Abs

namespace Go.Abs
structure Hints where
 arr:Nat→Nat→Bool
 own:Nat→Nat→Bool
 frz:Nat→Nat→Bool
 iso:Nat→Bool
 grow:Nat→Bool
 ord:Nat→Nat→List Nat
 chk:Nat→Bool:=fun _=>false
 glob:Nat→Option (List AVal):=fun _=>none
 alt:Nat→Nat→Option (List (Nat×Nat)×List (List Nat)):=fun _ _=>none
def isAggD:TypeDesc→Bool
 | .struct _ | .array _ _=>true
 | _=>false
def constCell:Value→Option AVal
 | .bool b=>some (.bool b)
 | .int k n=>some (.int k n)
 | .string s=>some (.str s.data.toList)
 | .pointer none=>some .nilptr
 | .slice none 0 0=>some (.sl [] .nil)
 | .map none=>some .nilmp
 | .nilFunc=>some .nilfn
 | .nilIface=>some .nilif
 | _=>none
def constCells:List Value→Option (List AVal)
 | []=>some []
 | v::vs=>match constCell v,constCells vs with
   | some x,some xs=>some (x::xs)
   | _,_=>none
def constA:Value→Option AVal
 | .agg cs=>(constCells cs.toList).map .agg
 | v=>constCell v
section
variable (P:Program)
def tAgg (t:TypeId):Option Bool:=(P.underlying t).map isAggD
def tSize (t:TypeId):Option Nat:=(P.info? t).map (·.size)
def tBytes (t:TypeId):Option Nat:=(P.info? t).map (·.bytes)
def tZero (t:TypeId):Option (List AVal) :=
 match P.info? t with
 | some i=>match i.zero with
   | some z=>constCells z.cells.toList
   | none=>none
 | none=>none
def tElem (t:TypeId):Option TypeId :=
 match P.underlying t with
 | some (.slice e)=>some e
 | _=>none
def fieldKs:List Field→Nat→Option (List CK)
 | [],_=>some []
 | f::fs,i=>if f.name ≠ "_"∧f.offset=i then
   (match P.underlying f.type,fieldKs fs (i+1) with
   | some (.int _),some ks=>some (.int::ks)
   | some .bool,some ks=>some (.bool::ks)
   | some .string,some ks=>some (.str::ks)
   | _,_=>none) else none
def structKs (t:TypeId):Option (List CK) :=
 match P.underlying t with
 | some (.struct fs)=>if P.stoodInHeld t=false∧P.eqGuardType P.depth t=false then fieldKs P fs.toList 0 else none
 | _=>none
def fieldKN (sub:TypeId→Option (List CK)):List Field→Nat→Option (List CK)
 | [],_=>some []
 | f::fs,i=>if f.name ≠ "_"∧f.offset=i then
   (match sub f.type with
   | some ks=>(fieldKN sub fs (i+ks.length)).map (ks++·)
   | none=>match P.underlying f.type,fieldKN sub fs (i+1) with
     | some (.int _),some ks=>some (.int::ks)
     | some .bool,some ks=>some (.bool::ks)
     | some .string,some ks=>some (.str::ks)
     | _,_=>none) else none
def structKO (sub:TypeId→Option (List CK)) (t:TypeId):Option (List CK) :=
 match P.underlying t with
 | some (.struct fs)=>if P.stoodInHeld t=false∧P.eqGuardType P.depth t=false then (match fieldKN P sub fs.toList 0 with
   | some ks=>if tSize P t=some ks.length then some ks else none
   | none=>none) else none
 | _=>none
def structKN (t:TypeId):Option (List CK):=structKO P (structKO P (structKO P fun _=>none)) t
def arrKs (t:TypeId):Option (List CK) :=
 match P.underlying t with
 | some (.array n e)=>if P.eqGuardType P.depth t=false then (match P.underlying e,tSize P e with
   | some (.int _),some 1=>some (List.replicate n .int)
   | some .bool,some 1=>some (List.replicate n .bool)
   | some .string,some 1=>some (List.replicate n .str)
   | _,_=>none) else none
 | _=>none
def fieldSKs:List Field→Option (List SK)
 | []=>some []
 | f::fs=>match P.underlying f.type,fieldSKs fs with
   | some (.int k),some ks=>some (.int k::ks)
   | some .bool,some ks=>some (.bool::ks)
   | some .string,some ks=>some (.str::ks)
   | _,_=>none
def keyD (t:TypeId):Option KD :=
 match P.underlying t with
 | some (.struct fs)=>match structKs P t,fieldSKs P fs.toList with
   | some _,some ks=>some (.stk ks)
   | _,_=>some .other
 | some (.int k)=>some (.int k)
 | some .string=>some .str
 | some .bool=>some .bool
 | some (.array _ _)=>some .other
 | _=>none
def arrD (t:TypeId):Option (Nat×SK) :=
 match P.underlying t with
 | some (.array n e)=>match P.underlying e,tSize P e with
   | some (.int k),some 1=>some (n,.int k)
   | some .string,some 1=>some (n,.str)
   | some .bool,some 1=>some (n,.bool)
   | _,_=>none
 | _=>none
def tZeroA (t:TypeId):Option AVal :=
 match P.info? t with
 | some i=>match i.zero with
   | some z=>constA z
   | none=>none
 | none=>none
def look (l:List Nat) (t:Nat):Option Nat:=go l t 0
where go:List Nat→Nat→Nat→Option Nat
 | [],_,_=>none
 | x::xs,t,i=>if x=t then some i else go xs t (i+1)
def lookT (ops:List Oper) (k t:Nat):Option Nat:=go ops 0 none
where go:List Oper→Nat→Option Nat→Option Nat
 | [],_,r=>r
 | o::os,i,r=>if i<k then go os (i+1) (if o.dst=some t then some i else r) else r
def compOpd (glob:Nat→Option (List AVal)) (slots:List Nat) (ops:List Oper) (k:Nat):Operand→Option Opd
 | .tmp t=>match look slots t with
   | some i=>some (.v i)
   | none=>(lookT ops k t).map .t
 | .const v=>(constA v).map .c
 | .func f=>some (.c (.fn f []))
 | .global g=>(glob g).map fun cs => .c (.rp cs)
def optL {α β:Type} (f:α→Option β):List α→Option (List β)
 | []=>some []
 | x::xs=>match f x,optL f xs with
   | some y,some ys=>some (y::ys)
   | _,_=>none
def optO {α β:Type} (f:α→Option β):Option α→Option (Option β)
 | none=>some none
 | some x=>(f x).map some
variable (H:Hints) (fid:Nat)
def compBuiltin (c:Operand→Option Opd) (dst:Nat) (b:Builtin) (args:List Operand) (ts:List TypeId):Option AOp :=
 match b,args,ts with
 | .len,[x],[t]=>match P.underlying t,c x with
   | some (.slice _),some x=>some (.len x)
   | some .string,some x=>some (.slen x)
   | some (.map _ _),some x=>some (.x .mlen [x])
   | _,_=>none
 | .delete,[m,k],t::_=>match P.underlying t,c m,c k with
   | some (.map kt _),some m,some k=>(keyD P kt).map fun kd => .x (.mdel kd) [m,k]
   | _,_,_=>none
 | .append,[x,y],[t,u]=>match P.underlying t,P.underlying u,c x,c y with
   | some (.slice e),some u,some x,some y=>match u,tBytes P e,tSize P e,tAgg P e,tZero P e with
     | .slice _,some b,some s,some a,some z=>if z.length=s then some (if H.own fid dst then .x (.afresh e b s a) [x,y] else .append (H.arr fid dst) e b s a x y) else none
     | .string,some b,some s,some a,some z=>if z.length=s then some (if H.own fid dst then .x (.afresh e b s a) [x,y] else .append (H.arr fid dst) e b s a x y) else none
     | _,_,_,_,_=>none
   | _,_,_,_=>none
 | .copy,[x,y],[t,_]=>match P.underlying t,c x,c y with
   | some (.slice e),some x,some y=>(tSize P e).map fun s => .copy s x y
   | _,_,_=>none
 | .min,[x,y],_=>match c x,c y with
   | some x,some y=>some (.mnx false x y)
   | _,_=>none
 | .max,[x,y],_=>match c x,c y with
   | some x,some y=>some (.mnx true x y)
   | _,_=>none
 | _,_,_=>none
def compCall (c:Operand→Option Opd) (dst:Nat) (k:Call):Option AOp :=
 match k.callee with
 | .builtin b=>compBuiltin P H fid c dst b k.args.toList k.argTypes.toList
 | .value f=>match f,optL c k.args.toList with
   | .func g,some asx=>if H.iso g then some (.pcall g asx) else if H.chk g then some (.gcall g asx) else some (.call (.c (.fn g [])) asx)
   | f,some asx=>(c f).map fun f=>if H.own fid dst then .vcall f asx else .call f asx
   | _,none=>none
 | .invoke _ _=>none
def compParts (c:Operand→Option Opd) (ps:List (Nat×Operand)):Option (List (Nat×Opd)) :=
 optL (fun p=>(c p.2).map fun x=>(p.1,x)) ps
def place (fs:Array Field) (i:Nat):Option (Nat×Nat) :=
 match fs[i]? with
 | some f=>(tSize P f.type).map fun n=>(f.offset,n)
 | none=>none
def compOp (c:Operand→Option Opd) (dst:Nat) (op:Op):Option AOp :=
 match op with
 | .move x | .assign x=>(c x).map .mov
 | .pick x y z=>match c x,c y,c z with
   | some x,some y,some z=>some (.pick x y z)
   | _,_,_=>none
 | .alloc t=>match tSize P t,tAgg P t,tZero P t with
   | some s,some a,some z=>some (.alloc t s a z)
   | _,_,_=>none
 | .box t x=>match tSize P t,tAgg P t,c x with
   | some s,some a,some x=>some (.box s a x)
   | _,_,_=>none
 | .build t ps=>match P.underlying t,tZero P t,compParts c ps.toList with
   | some (.struct fs),some z,some ps=>if fs.toList.all (fun f=>(tSize P f.type).isSome) then (optL (fun p:Nat×Opd=>(place P fs p.1).map fun q=>(q.1,q.2,p.2)) ps).map (.build z ·) else none
   | some (.array _ e),some z,some ps=>(tSize P e).map fun s => .build z (ps.map fun p=>(p.1*s,s,p.2))
   | _,_,_=>none
 | .buildSlice t len ps=>match tElem P t,compParts c ps.toList with
   | some e,some ps=>match tSize P e,tAgg P e,tZero P e with
     | some s,some a,some z=>if len=0 && ps.isEmpty && decide (z.length=s) && !H.arr fid dst && !H.own fid dst && !H.frz fid dst then some (.x .elit []) else some (.lit (if H.arr fid dst then 2 else if H.own fid dst then 1 else if H.frz fid dst then 3 else 0) e len s a z ps)
     | _,_,_=>none
   | _,_=>none
 | .load t x=>match tSize P t,tAgg P t,c x with
   | some s,some a,some x=>some (.load s a x)
   | _,_,_=>none
 | .store t x y=>match tSize P t,c x,c y with
   | some s,some x,some y=>some (.store s x y)
   | _,_,_=>none
 | .nilCheck x=>(c x).map .nilc
 | .binOp op t x y _=>match P.underlying t,c x,c y with
   | some (.int _),some x,some y=>some (.bin op .arith x y)
   | some .string,some x,some y=>some (.bin op .arith x y)
   | some .bool,some x,some y=>some (.bin op .bool x y)
   | some (.struct _),some x,some y=>(structKN P t).map fun ks => .bin op (.struct ks) x y
   | some (.array _ _),some x,some y=>(arrKs P t).map fun ks => .bin op (.struct ks) x y
   | some (.pointer _),some x,some y=>some (.bin op .ptr x y)
   | some (.slice _),some x,some y=>some (.bin op .sl x y)
   | some (.func _ _ _),some x,some y=>some (.bin op .fn x y)
   | some (.map _ _),some x,some y=>some (.bin op .mp x y)
   | _,_,_=>none
 | .unOp op _ x=>(c x).map (.un op ·)
 | .convert s d x=>match P.underlying s,P.underlying d,c x with
   | some (.int _),some (.int k),some x=>some (.toInt k x)
   | some .string,some .string,some x=>some (.idstr x)
   | some .string,some (.slice e),some x=>match P.underlying e,tSize P e with
     | some (.int .u8),some 1=>some (.x (.s2b (H.arr fid dst)) [x])
     | _,_=>none
   | some (.slice e),some .string,some x=>match P.underlying e with
     | some (.int .u8)=>some (.x .b2s [x])
     | _=>none
   | _,_,_=>none
 | .makeMap t r=>match P.underlying t,r with
   | some (.map kt _),none=>(keyD P kt).map fun kd => .x (.mkmap kd) []
   | some (.map kt _),some n=>match c n,keyD P kt with
     | some n,some kd=>some (.x (.mkmap kd) [n])
     | _,_=>none
   | _,_=>none
 | .mapEntry t m k=>match P.underlying t,c m,c k with
   | some (.map kt e),some m,some k=>match keyD P kt,tZeroA P e with
     | some kd,some z=>some (.x (.mentry kd z) [m,k])
     | _,_=>none
   | _,_,_=>none
 | .entryStore _ m s v=>match c m,c s,c v with
   | some m,some s,some v=>some (.x .mestore [m,s,v])
   | _,_,_=>none
 | .range t x=>match P.underlying t,c x with
   | some (.map _ _),some x=>some (.x .mrange [x])
   | _,_=>none
 | .next it isString=>if isString then none else (c it).map fun x => .x .mnext [x]
 | .entry it=>(c it).map fun x => .x .mstep [x]
 | .lookup t m k ok=>match P.underlying t,c m,c k with
   | some (.map kt e),some m,some k=>match arrD P kt,tZeroA P e with
     | some (n,sk),some z=>some (.x (.mlook0 n sk z ok) [m,k])
     | none,some z=>(keyD P kt).map fun kd => .x (.mlook kd z ok) [m,k]
     | _,none=>none
   | _,_,_=>none
 | .mapUpdate t m k v=>match P.underlying t,c m,c k,c v with
   | some (.map kt _),some m,some k,some v=>(keyD P kt).map fun kd => .x (.mput kd) [m,k,v]
   | _,_,_,_=>none
 | .insert t m k v=>match P.underlying t,c m,c k,c v with
   | some (.map kt _),some m,some k,some v=>(keyD P kt).map fun kd => .x (.mput kd) [m,k,v]
   | _,_,_,_=>none
 | .sliceToArrayPointer t x=>match P.underlying t,c x with
   | some (.array n e),some x=>(tSize P e).map fun s => .x (.s2ap n s) [x]
   | _,_=>none
 | .slice t x none (some hi) (some mx)=>match P.underlying t,c x,c hi,c mx with
   | some (.slice e),some x,some hi,some mx=>(tSize P e).map fun s => .x (.slice30 s) [x,hi,mx]
   | _,_,_,_=>none
 | .makeFunc (.func f) first cap=>if first.size=0 then (optL c cap.toList).map (.clo f ·) else none
 | .makeSlice t l m=>match tElem P t,c l,c m with
   | some e,some l,some m=>match tBytes P e,tSize P e,tAgg P e,tZero P e with
     | some b,some s,some a,some z=>some (if H.own fid dst then .x (.mkown e b s) [l,m] else .mksl b s a z l m)
     | _,_,_,_=>none
   | _,_,_=>none
 | .slice t x lo hi none=>match P.underlying t,c x,optO c lo,optO c hi with
   | some (.slice e),some x,some lo,some hi=>(tSize P e).map fun s => .slice s x lo hi
   | some .string,some x,some lo,some hi=>some (.sslice x lo hi)
   | some (.array n e),some x,some lo,some hi=>match tSize P e,tAgg P e with
     | some s,some ag=>some (.x (.aslice n s ag lo.isSome hi.isSome) (x::(lo.toList++hi.toList)))
     | _,_=>none
   | _,_,_,_=>none
 | .fieldAddr t x i=>match P.underlying t,c x with
   | some (.struct fs),some x=>match fs[i]? with
     | some f=>match tSize P f.type with
       | some n=>if n=0 then none else some (.faddr f.offset x)
       | none=>none
     | none=>none
   | _,_=>none
 | .indexAddr t x i=>match P.underlying t,c x,c i with
   | some (.slice e),some x,some i=>(tSize P e).map fun s => .iaddr s x i
   | some (.array n e),some x,some i=>(tSize P e).map fun s => .aaddr n s x i
   | _,_,_=>none
 | .field t x i=>match P.underlying t,c x with
   | some (.struct fs),some x=>match fs[i]? with
     | some f=>match tSize P f.type,tAgg P f.type with
       | some s,some a=>some (.field f.offset s a x)
       | _,_=>none
     | none=>none
   | _,_=>none
 | .index t x i=>match P.underlying t,c x,c i with
   | some .string,some x,some i=>some (.sidx x i)
   | some (.array n e),some x,some i=>match tSize P e,tAgg P e with
     | some s,some a=>some (.aidx n s a x i)
     | _,_=>none
   | _,_,_=>none
 | .extract x i=>(c x).map (.ext · i)
 | .call k=>compCall P H fid c dst k
 | _=>none
def compDst (slots:List Nat):Option Tmp→ADst
 | none => .no
 | some t=>match look slots t with
   | some i => .var i
   | none => .tmp
def compGuard (slots:List Nat) (ops:List Oper) (k:Nat):Option (Nat×Bool)→Option (Option (Opd×Bool))
 | none=>some none
 | some (j,b)=>match ops[j]? with
   | some o=>match o.dst with
     | some t=>if j<k then (match look slots t with
       | some i=>some (some (.v i,b))
       | none=>some (some (.t j,b))) else none
     | none=>none
   | none=>none
def compOper (slots:List Nat) (ops:List Oper) (k:Nat) (o:Oper):Option AOper :=
 match compOp P H fid (compOpd H.glob slots ops k) (o.dst.getD 0) o.op,compGuard slots ops k o.guard with
 | some op,some g=>some ⟨compDst slots o.dst,op,g⟩
 | _,_=>none
def compOpers (slots:List Nat) (ops:List Oper):List Oper→Nat→Option (List AOper)
 | [],_=>some []
 | o::os,k=>match compOper P H fid slots ops k o,compOpers slots ops os (k+1) with
   | some a,some asx=>some (a::asx)
   | _,_=>none
def dstsOk (nt:Nat) (slots:List Nat) (ops:List Oper):Bool :=
 ops.all (fun o=>match o.dst with
  | some t=>decide (t<nt)
  | none=>true) &&
 decide ((ops.filterMap fun o=>match o.dst with
  | some t=>if (look slots t).isSome then none else some t
  | none=>none).Nodup)
def opdsOf:AOp→List Opd
 | .x _ args=>args
 | .mov x | .box _ _ x | .load _ _ x | .nilc x | .un _ x | .toInt _ x | .idstr x | .faddr _ x | .field _ _ _ x | .len x | .slen x | .ext x _=>[x]
 | .pick a b c=>[a,b,c]
 | .alloc _ _ _ _=>[]
 | .build _ ps=>ps.map fun p=>p.2.2
 | .lit _ _ _ _ _ _ ps=>ps.map fun p=>p.2
 | .store _ a x=>[a,x]
 | .bin _ _ x y | .iaddr _ x y | .aaddr _ _ x y | .sidx x y | .aidx _ _ _ x y | .append _ _ _ _ _ x y | .copy _ x y | .mnx _ x y | .mksl _ _ _ _ x y=>[x,y]
 | .clo _ cap=>cap
 | .slice _ x lo hi | .sslice x lo hi=>x::(lo.toList++hi.toList)
 | .call f args=>f::args
 | .pcall _ args=>args
 | .gcall _ args=>args
 | .vcall f args=>f::args
inductive Cls where
 | n|r|a|t|g|w|l|m
 deriving DecidableEq
def clsX:XOp→Cls
 | .mlook .. | .mlook0 .. | .mlen | .b2s | .aslice .. => .r
 | .mkmap _ => .a
 | .s2b row=>if row then .a else .n
 | .s2ap .. | .slice30 .. | .elit => .n
 | .afresh .. => .g
 | .mput _ => .m
 | _ => .w
def clsOf:AOp→Cls
 | .x op _=>clsX op
 | .load .. => .l
 | .alloc .. | .box .. | .mksl .. => .a
 | .lit mode ..=>if mode=0 then .n else if mode=1 then .a else if mode=2 then .a else .w
 | .pcall .. => .r
 | .vcall .. => .r
 | .gcall .. => .g
 | .append arr _ _ _ _ _ _=>if arr then .w else .t
 | .call f _=>match f with
   | .c (.fn g [])=>if H.grow g then .g else .w
   | _ => .w
 | .store .. | .copy .. => .w
 | _ => .n
def heapConf:Cls→Cls→Bool
 | .n,_|_,.n=>false
 | .r,.r | .r,.l | .l,.r | .l,.l=>false
 | .r,.a | .l,.a=>false
 | .r,.t | .l,.t=>false
 | .r,.g | .l,.g=>false
 | .t,.r | .t,.l=>false
 | .l,.m=>false
 | _,_=>true
def readsOf (o:AOper):List Opd:=(match o.guard with
 | some (x,_)=>[x]
 | none=>[])++opdsOf o.op
def readsV (o:AOper) (i:Nat):Bool:=(readsOf o).any fun | .v j=>decide (j=i)|_=>false
def readsT (o:AOper) (k:Nat):Bool:=(readsOf o).any fun | .t j=>decide (j=k)|_=>false
def conf (i:Nat) (a:AOper) (j:Nat) (b:AOper):Bool :=
 readsT b i || readsT a j || heapConf (clsOf H a.op) (clsOf H b.op) ||
 (match a.dst with | .var x=>readsV b x|_=>false) || (match b.dst with | .var x=>readsV a x|_=>false) ||
 (match a.dst,b.dst with | .var x,.var y=>decide (x=y)|_,_=>false)
def uniq:List Nat→List Nat
 | []=>[]
 | x::xs=>let r:=uniq xs;if r.elem x then r else x::r
def befs:List Oper→List (List Nat)→List (List Nat)
 | [],acc=>acc
 | o::os,acc=>befs os (acc++[uniq (o.after.toList.flatMap fun e=>if Region.binds .any e then e.on::((acc[e.on]?).getD []) else [])])
def edgesOk:List Oper→Nat→Bool
 | [],_=>true
 | o::os,k=>o.after.toList.all (fun e=>!Region.binds .any e || decide (e.on<k)) && edgesOk os (k+1)
def pairsOk (bs:List (List Nat)) (asx:List AOper):Bool :=
 (List.range asx.length).all fun j=>(List.range j).all fun i =>
  match asx[i]?,asx[j]? with
  | some a,some b=>!conf H i a j b || ((bs[j]?).getD []).contains i
  | _,_=>true
def drawOk (ops:List Oper) (asx:List AOper):Bool:=edgesOk ops 0 && pairsOk H (befs ops []) asx
def mapOp (f:Opd→Opd):AOp→AOp
 | .x op args => .x op (args.map f)
 | .mov x => .mov (f x)
 | .pick a b c => .pick (f a) (f b) (f c)
 | .alloc ty sz ag z => .alloc ty sz ag z
 | .box sz ag x => .box sz ag (f x)
 | .build z ps => .build z (ps.map fun p=>(p.1,p.2.1,f p.2.2))
 | .lit mode ty n sz ag z ps => .lit mode ty n sz ag z (ps.map fun p=>(p.1,f p.2))
 | .load n ag x => .load n ag (f x)
 | .store n a x => .store n (f a) (f x)
 | .nilc x => .nilc (f x)
 | .bin op bk x y => .bin op bk (f x) (f y)
 | .un op x => .un op (f x)
 | .toInt k x => .toInt k (f x)
 | .idstr x => .idstr (f x)
 | .clo g cap => .clo g (cap.map f)
 | .mksl b sz ag z l c => .mksl b sz ag z (f l) (f c)
 | .slice sz x lo hi => .slice sz (f x) (lo.map f) (hi.map f)
 | .sslice x lo hi => .sslice (f x) (lo.map f) (hi.map f)
 | .faddr off x => .faddr off (f x)
 | .iaddr sz x i => .iaddr sz (f x) (f i)
 | .aaddr n sz x i => .aaddr n sz (f x) (f i)
 | .field off n ag x => .field off n ag (f x)
 | .sidx x i => .sidx (f x) (f i)
 | .aidx l n ag x i => .aidx l n ag (f x) (f i)
 | .len x => .len (f x)
 | .slen x => .slen (f x)
 | .append arr ty b sz ag x y => .append arr ty b sz ag (f x) (f y)
 | .copy sz x y => .copy sz (f x) (f y)
 | .mnx mx x y => .mnx mx (f x) (f y)
 | .ext x i => .ext (f x) i
 | .call g args => .call (f g) (args.map f)
 | .pcall g args => .pcall g (args.map f)
 | .gcall g args => .gcall g (args.map f)
 | .vcall g args => .vcall (f g) (args.map f)
def placeOf:List Nat→Nat→Nat
 | [],_=>0
 | x::xs,k=>if x=k then 0 else placeOf xs k+1
def renO (ord:List Nat):Opd→Opd
 | .t k => .t (placeOf ord k)
 | x=>x
def renOper (ord:List Nat) (o:AOper):AOper:=⟨o.dst,mapOp (renO ord) o.op,o.guard.map fun p=>(renO ord p.1,p.2)⟩
def renOpers (ord:List Nat) (l:List AOper):List Nat→Option (List AOper)
 | []=>some []
 | k::ks=>match l[k]?,renOpers ord l ks with
   | some o,some r=>some (renOper ord o::r)
   | _,_=>none
def permOk (ord:List Nat) (n:Nat):Bool:=decide (ord.length=n) && (List.range n).all (fun k=>ord.elem k) && decide ord.Nodup
def pairsOkO (bs:List (List Nat)) (asx:List AOper):List Nat→Bool
 | []=>true
 | i::rest=>rest.all (fun j=>match asx[i]?,asx[j]? with
   | some a,some b=>!conf H i a j b || ((bs[j]?).getD []).contains i
   | _,_=>true) && pairsOkO bs asx rest
def drawOkO (ops:List Oper) (asx:List AOper) (ord:List Nat):Bool:=edgesOk ops 0 && permOk ord asx.length && pairsOkO H (befs ops []) asx ord
end
def reqs (H:Hints) (bs:List (List Nat)) (asx:List AOper):List Nat→List (Nat×Nat)
 | []=>[]
 | i::rest=>(rest.filter fun j=>match asx[i]?,asx[j]? with
   | some a,some b=>conf H i a j b && !((bs[j]?).getD []).contains i
   | _,_=>false).map (fun j=>(i,j))++reqs H bs asx rest
def allAssign:List (Nat×Nat)→List (Nat×Nat)→(List (Nat×Nat)→Bool)→Bool
 | [],acc,k=>k acc
 | (i,j)::ps,acc,k=>allAssign ps ((i,j)::acc) k && allAssign ps ((j,i)::acc) k
def repsOk (H:Hints) (ops:List Oper) (asx:List AOper) (pairs:List (Nat×Nat)) (reps:List (List Nat)):Bool :=
 edgesOk ops 0 && pairs.all (fun p=>decide (p.1<asx.length) && decide (p.2<asx.length) && decide (p.1≠p.2)) && reps.all (fun r=>permOk r asx.length) &&
 (let bs:=befs ops [];let rq:=reps.map fun r=>reqs H bs asx r;allAssign pairs [] fun os=>(os.any fun e=>os.any fun f=>e.2 == f.1 && (((bs[e.1]?).getD []).contains f.2 || f.2 == e.1 || os.any fun g=>f.2 == g.1 && (((bs[e.1]?).getD []).contains g.2 || g.2 == e.1))) || rq.any fun q=>q.all fun p=>os.contains p || os.any fun e=>e.2 == p.2 && ((bs[e.1]?).getD []).contains p.1)
def renAll (l:List AOper):List (List Nat)→Option (List (List AOper))
 | []=>some []
 | r::rs=>match renOpers r l r,renAll l rs with
   | some a,some b=>some (a::b)
   | _,_=>none
section
variable (P:Program)
variable (H:Hints) (fid:Nat)
def nLoops:Code→Nat
 | .seq a b | .cond _ a b=>nLoops a+nLoops b
 | .block _ c | .loop c | .scope c=>nLoops c
 | .rangeFunc _ _ a b=>1+nLoops a+nLoops b
 | _=>0
def compCode (nt:Nat) (slots:List Nat) (top:Bool) (k:Nat):Code→ACode
 | .skip => .skip
 | .region id ops draw=>match compOpers P H fid slots ops.toList ops.toList 0 with
   | some l=>if dstsOk nt slots ops.toList then (if !draw || drawOk H ops.toList l then .ops l
     else if drawOkO H ops.toList l (H.ord fid id) then (match renOpers (H.ord fid id) l (H.ord fid id) with
      | some r => .ops r
      | none => .refuse) else (match H.alt fid id with
      | some (pairs,reps)=>if draw && !reps.isEmpty && repsOk H ops.toList l pairs reps then (match renAll l reps with
        | some ls=>if H.own fid (1000000+id) then .altp reps ls else .alts ls
        | none => .refuse) else .refuse
      | none => .refuse)) else .refuse
   | none => .refuse
 | .seq a b => .seq (compCode nt slots top k a) (compCode nt slots top (k+nLoops a) b)
 | .cond c a b=>match compOpd H.glob slots [] 0 c with
   | some x => .cond x (compCode nt slots top k a) (compCode nt slots top (k+nLoops a) b)
   | none => .refuse
 | .block id c => .block id (compCode nt slots top k c)
 | .loop c => .loop (compCode nt slots top k c)
 | .rangeFunc f _ _ _=>match compOpd H.glob slots [] 0 f with
   | some x=>if top then .rfunc fid k slots x else .refuse
   | none => .refuse
 | .exit id => .exit id
 | .ret => .ret
 | .label _ => .skip
 | .scope c => .seq .skip (compCode nt slots top k c)
 | _ => .refuse
def loopsM:Code→List (Array Tmp×Code×Code)
 | .seq a b | .cond _ a b=>loopsM a++loopsM b
 | .block _ c | .loop c | .scope c=>loopsM c
 | .rangeFunc _ ps a b=>(ps,a,b)::(loopsM a++loopsM b)
 | _=>[]
def compLoops (nt:Nat) (slots:List Nat) (k:Nat):Code→List ALoop
 | .seq a b | .cond _ a b=>compLoops nt slots k a++compLoops nt slots (k+nLoops a) b
 | .block _ c | .loop c | .scope c=>compLoops nt slots k c
 | .rangeFunc _ ps a b=>⟨ps.toList.map (look slots),compCode P H fid nt slots true (k+1) a,compCode P H fid nt slots true (k+1+nLoops a) b⟩::(compLoops nt slots (k+1) a++compLoops nt slots (k+1+nLoops a) b)
 | _=>[]
def insertS (x:Nat):List Nat→List Nat
 | []=>[x]
 | y::ys=>if x<y then x::y::ys else if x=y then y::ys else y::insertS x ys
def opdTmps (xs:List Operand):List Nat:=xs.filterMap fun | .tmp t=>some t|_=>none
def regReads:List Oper→List Oper→Nat→List Nat→List Nat
 | _,[],_,acc=>acc
 | ops,o::os,k,acc=>regReads ops os (k+1) ((opdTmps o.op.operands.toList).foldl (fun acc t=>if (lookT ops k t).isSome then acc else insertS t acc) acc)
def codeReads:Code→List Nat→List Nat
 | .region _ ops _,acc=>regReads ops.toList ops.toList 0 acc
 | .seq a b,acc=>codeReads b (codeReads a acc)
 | .cond c a b,acc=>codeReads b (codeReads a ((opdTmps [c]).foldl (fun acc t=>insertS t acc) acc))
 | .block _ c,acc | .loop c,acc | .scope c,acc=>codeReads c acc
 | .rangeFunc f _ a b,acc=>codeReads b (codeReads a ((opdTmps [f]).foldl (fun acc t=>insertS t acc) acc))
 | _,acc=>acc
def resTmps:List ResultVar→List Nat
 | []=>[]
 | .tmp t::r=>t::resTmps r
 | .cell t _::r=>t::resTmps r
def resRVs (P:Program) (slots:List Nat):List ResultVar→Option (List ResV)
 | []=>some []
 | .tmp t::r=>match look slots t,resRVs P slots r with
   | some i,some rs=>some (.v i::rs)
   | _,_=>none
 | .cell t ty::r=>match look slots t,resRVs P slots r,tSize P ty,tAgg P ty with
   | some i,some rs,some s,some a=>some (.c i s a::rs)
   | _,_,_,_=>none
def compFunc:Option AFunc :=
 match P.funcs[fid]? with
 | none=>none
 | some fn=>match fn.body with
   | some c =>
     let slots:=codeReads c ((resTmps fn.results.toList).foldl (fun acc t=>insertS t acc) [])
     match resRVs P slots fn.results.toList with
     | some ris=>if !(fn.name == "runtime.NumGoroutine") && decide slots.Nodup && slots.all (fun s=>decide (s<fn.ntmps)) then some ⟨slots,compCode P H fid fn.ntmps slots true 0 c,ris,compLoops P H fid fn.ntmps slots 0 c⟩ else none
     | none=>none
   | _=>none
end
end Go.Abs

namespace Go.Abs
theorem Heap.get_lt {h:Heap} {id:Nat} {o:Obj} (e:h.get id=some o):id<h.next:=by
 unfold Heap.get at e;split at e
 ·assumption
 ·simp at e
theorem HT.get_ins_same:∀ (f:Nat) (t:HT) (n:Nat) (o:Option Obj),n<f→(HT.ins f t n o).get n=o
 | 0,_,_,_,h=>by omega
 | f+1,.leaf,n,o,h=>by
   by_cases h0:n=0
   ·subst h0;simp [HT.ins,HT.get]
   ·by_cases h1:n % 2=1
    ·simp only [HT.ins,if_neg h0,if_pos h1,HT.get]
     exact HT.get_ins_same f _ _ o (by omega)
    ·simp only [HT.ins,if_neg h0,if_neg h1,HT.get]
     exact HT.get_ins_same f _ _ o (by omega)
 | f+1,.node v l r,n,o,h=>by
   by_cases h0:n=0
   ·subst h0;simp [HT.ins,HT.get]
   ·by_cases h1:n % 2=1
    ·simp only [HT.ins,if_neg h0,if_pos h1,HT.get]
     exact HT.get_ins_same f _ _ o (by omega)
    ·simp only [HT.ins,if_neg h0,if_neg h1,HT.get]
     exact HT.get_ins_same f _ _ o (by omega)
theorem HT.get_ins_ne:∀ (f:Nat) (t:HT) (n m:Nat) (o:Option Obj),m≠n→(HT.ins f t n o).get m=t.get m
 | 0,_,_,_,_,_=>rfl
 | f+1,.leaf,n,m,o,h=>by
   have key:∀ a b:Nat,a≠b→(HT.ins f .leaf b o).get a=none:=fun a b q=>HT.get_ins_ne f .leaf b a o q
   by_cases h0:n=0
   ·subst h0;simp [HT.ins,HT.get,h]
   ·by_cases h1:n % 2=1
    ·simp only [HT.ins,if_neg h0,if_pos h1,HT.get]
     by_cases m0:m=0
     ·simp [m0]
     ·by_cases m1:m % 2=1
      ·rw [if_neg m0,if_pos m1];exact key _ _ (by omega)
      ·rw [if_neg m0,if_neg m1]
    ·simp only [HT.ins,if_neg h0,if_neg h1,HT.get]
     by_cases m0:m=0
     ·simp [m0]
     ·by_cases m1:m % 2=1
      ·rw [if_neg m0,if_pos m1]
      ·rw [if_neg m0,if_neg m1];exact key _ _ (by omega)
 | f+1,.node v l r,n,m,o,h=>by
   by_cases h0:n=0
   ·subst h0;simp [HT.ins,HT.get,h]
   ·by_cases h1:n % 2=1
    ·simp only [HT.ins,if_neg h0,if_pos h1,HT.get]
     by_cases m0:m=0
     ·simp [m0]
     ·by_cases m1:m % 2=1
      ·rw [if_neg m0,if_pos m1,if_neg m0,if_pos m1];exact HT.get_ins_ne f _ _ _ o (by omega)
      ·rw [if_neg m0,if_neg m1,if_neg m0,if_neg m1]
    ·simp only [HT.ins,if_neg h0,if_neg h1,HT.get]
     by_cases m0:m=0
     ·simp [m0]
     ·by_cases m1:m % 2=1
      ·rw [if_neg m0,if_pos m1,if_neg m0,if_pos m1]
      ·rw [if_neg m0,if_neg m1,if_neg m0,if_neg m1];exact HT.get_ins_ne f _ _ _ o (by omega)
theorem HT.ins_ins:∀ (f:Nat) (t:HT) (n:Nat) (a b:Option Obj),HT.ins f (HT.ins f t n a) n b=HT.ins f t n b
 | 0,_,_,_,_=>rfl
 | f+1,t,n,a,b=>by
   cases t<;>by_cases h0:n=0
   ·subst h0;simp [HT.ins]
   ·by_cases h1:n % 2=1
    ·simp only [HT.ins,if_neg h0,if_pos h1,HT.ins_ins f]
    ·simp only [HT.ins,if_neg h0,if_neg h1,HT.ins_ins f]
   ·subst h0;simp [HT.ins]
   ·by_cases h1:n % 2=1
    ·simp only [HT.ins,if_neg h0,if_pos h1,HT.ins_ins f]
    ·simp only [HT.ins,if_neg h0,if_neg h1,HT.ins_ins f]
theorem HT.ins_comm:∀ (f g:Nat) (t:HT) (n m:Nat) (a b:Option Obj),n≠m→HT.ins f (HT.ins g t n a) m b=HT.ins g (HT.ins f t m b) n a
 | 0,_,_,_,_,_,_,_=>rfl
 | _+1,0,_,_,_,_,_,_=>rfl
 | f+1,g+1,t,n,m,a,b,h=>by
   have ih:=fun (t:HT) (n' m':Nat) (q:n'≠m')=>HT.ins_comm f g t n' m' a b q
   by_cases n0:n=0
   ·subst n0
    have m0:¬ m=0:=fun e=>h e.symm
    cases t<;>by_cases m1:m % 2=1<;>simp [HT.ins,m0,m1]
   ·by_cases m0:m=0
    ·subst m0
     cases t<;>by_cases n1:n % 2=1<;>simp [HT.ins,n0,n1]
    ·cases t<;>by_cases n1:n % 2=1<;>by_cases m1:m % 2=1<;>simp only [HT.ins,n0,m0,n1,m1,↓reduceIte]<;>first|done|rfl|rw [ih _ _ _ (by omega)]
theorem Heap.get_push (h:Heap) (o:Obj):(h.push o).get h.next=some o:=by
 show (if h.next<h.next+1 then (HT.ins (h.next+1) h.t h.next (some o)).get h.next else none)=some o
 rw [if_pos (Nat.lt_succ_self _)]
 exact HT.get_ins_same _ _ _ _ (by omega)
theorem Heap.get_push_old {h:Heap} (o:Obj) {id:Nat} (hid:id<h.next):(h.push o).get id=h.get id:=by
 show (if id<h.next+1 then (HT.ins (h.next+1) h.t h.next (some o)).get id else none)=(if id<h.next then h.t.get id else none)
 rw [if_pos (by omega),if_pos hid]
 exact HT.get_ins_ne _ _ _ _ _ (by omega)
theorem Heap.get_push_some {h:Heap} {o o':Obj} {id:Nat} (e:(h.push o).get id=some o'):(id=h.next∧o'=o)∨(id<h.next∧h.get id=some o'):=by
 have hl:=Heap.get_lt e
 simp only [Heap.push] at hl
 by_cases hid:id<h.next
 ·exact .inr ⟨hid,by rwa [Heap.get_push_old _ hid] at e⟩
 ·obtain rfl:id=h.next:=by omega
  rw [Heap.get_push] at e
  exact .inl ⟨rfl,(Option.some.inj e).symm⟩
@[simp] theorem Heap.next_push (h:Heap) (o:Obj):(h.push o).next=h.next+1:=rfl
@[simp] theorem Heap.next_put (h:Heap) (id:Nat) (o:Option Obj):(h.put id o).next=h.next:=by unfold Heap.put;split<;>rfl
theorem Heap.get_put_lt {h:Heap} {id:Nat} (o:Option Obj) (hl:id<h.next):(h.put id o).get id=o:=by
 unfold Heap.put
 rw [if_pos hl]
 show (if id<h.next then (HT.ins (id+1) h.t id o).get id else none)=o
 rw [if_pos hl]
 exact HT.get_ins_same _ _ _ _ (by omega)
theorem Heap.get_put {h:Heap} {id:Nat} {o1:Obj} (o:Option Obj) (e:h.get id=some o1):(h.put id o).get id=o:=Heap.get_put_lt o (Heap.get_lt e)
theorem Heap.get_put_other {h:Heap} {id j:Nat} (o:Option Obj) (hne:j≠id):(h.put id o).get j=h.get j:=by
 unfold Heap.put
 split
 ·simp only [Heap.get]
  split
  ·exact HT.get_ins_ne _ _ _ _ _ hne
  ·rfl
 ·rfl
theorem Heap.put_push_lt (h:Heap) {id:Nat} (hid:id<h.next) (o:Option Obj) (ob:Obj):(h.push ob).put id o=(h.put id o).push ob:=by
 have e:h.put id o=⟨h.next,HT.ins (id+1) h.t id o⟩:=by unfold Heap.put;rw [if_pos hid]
 rw [e]
 show (if id<h.next+1 then (⟨h.next+1,HT.ins (id+1) (HT.ins (h.next+1) h.t h.next (some ob)) id o⟩:Heap) else h.push ob)=⟨h.next+1,HT.ins (h.next+1) (HT.ins (id+1) h.t id o) h.next (some ob)⟩
 rw [if_pos (by omega),HT.ins_comm _ _ _ _ _ _ _ (by omega)]
end Go.Abs

namespace Go.Abs
structure Env where
 glob:Nat→Option (List AVal)
 site:Nat→Nat→Option (Nat×Array Tmp×Code×Code)
structure Ghost where
 n:Nat
 loc:Nat→Nat
 tip:Nat→Nat
 lim:Nat→Option Nat
 env:Env
def stab (G:Ghost) (b k:Nat):Prop:=∀ m,G.lim b=some m→k<m
inductive VRel (w:World) (G:Ghost):Value→AVal→Prop
 | bool (b:Bool):VRel w G (.bool b) (.bool b)
 | int (k:IntKind) (n:Int):VRel w G (.int k n) (.int k n)
 | str (s:ByteArray):VRel w G (.string s) (.str s.data.toList)
 | nilptr:VRel w G (.pointer none) .nilptr
 | ptr (id off:Nat) (h:id<G.n):VRel w G (.pointer (some ⟨G.loc id,off,none⟩)) (.ptr id off)
 | rp (b off:Nat) (cs:List AVal) (u:Nat→Value) (h1:∀ k c,cs[k]?=some c→w.cell? ⟨b,off+k,none⟩=some (u k))
   (h2:∀ k c,cs[k]?=some c→VRel w G (u k) c) (h3:∀ k,k<cs.length→stab G b (off+k)) (h4:∀ c∈cs,c.one=true) :
   VRel w G (.pointer (some ⟨b,off,none⟩)) (.rp cs)
 | nilsl (t:Tok) (ht:t = .nil∨t = .none∨t = .full):VRel w G (.slice none 0 0) (.sl [] t)
 | emp (a:Addr) (t:Tok) (ht:t = .none∨t = .full):VRel w G (.slice (some a) 0 0) (.sl [] t)
 | sl (b off cap sz:Nat) (xs:List AVal) (t:Tok) (u:Nat→Value) (h0:∀ x∈xs,x.cells.length=sz)
   (h1:∀ k c,(flat xs)[k]?=some c→w.cell? ⟨b,off+k,none⟩=some (u k))
   (h2:∀ k c,(flat xs)[k]?=some c→VRel w G (u k) c) (h3:∀ k,k<(flat xs).length→stab G b (off+k)) (h4:∀ c∈flat xs,c.one=true)
   (h5:∀ c∈flat xs,strip c=some c) (hc:xs.length≤cap) (hn:t ≠ .nil∧(t = .full→cap=0))
   (ho:∀ id s,t = .own id s→s=sz∧off=0∧id<G.n∧G.loc id=b∧G.tip id=off+xs.length*sz∧∃ e n,w.shape? b=some (e,n)∧off+cap*sz≤n) :
   VRel w G (.slice (some ⟨b,off,none⟩) xs.length cap) (.sl xs t)
 | ref (id off len sz cap:Nat) (h:id<G.n) (hc:len≤cap) (hs:∃ e n,w.shape? (G.loc id)=some (e,n)∧off+cap*sz≤n) :
   VRel w G (.slice (some ⟨G.loc id,off,none⟩) len cap) (.ref id off len sz)
 | ref0 (id off sz b bo:Nat) (h:id<G.n):VRel w G (.slice (some ⟨b,bo,none⟩) 0 0) (.ref id off 0 sz)
 | fn (f:Nat) (cs:Array Value) (asx:List AVal) (hl:cs.size=asx.length) (h:∀ (k:Nat) (c:Value) (a:AVal),cs[k]?=some c→asx[k]?=some a→VRel w G c a) :
   VRel w G (.func (.func f) #[] cs) (.fn f asx)
 | nilfn:VRel w G .nilFunc .nilfn
 | nilif:VRel w G .nilIface .nilif
 | mp (id:Nat) (h:id<G.n):VRel w G (.map (some (G.loc id))) (.mp id)
 | nilmp:VRel w G (.map none) .nilmp
 | yld (id:Nat) (h:id<G.n):VRel w G (.func (.yield (G.loc id)) #[] #[]) (.yld id)
 | agg (cs:Array Value) (asx:List AVal) (hl:cs.size=asx.length) (h:∀ (k:Nat) (c:Value) (a:AVal),cs[k]?=some c→asx[k]?=some a→VRel w G c a) (h4:∀ c∈asx,c.one=true) :
   VRel w G (.agg cs) (.agg asx)
 | tup (cs:Array Value) (asx:List AVal) (hl:cs.size=asx.length) (h:∀ (k:Nat) (c:Value) (a:AVal),cs[k]?=some c→asx[k]?=some a→VRel w G c a) :
   VRel w G (.tuple cs) (.tup asx)
 | bad (v:Value):VRel w G v .bad
def fzr (w:World) (b:Nat):Nat×Nat:=match w.heap[b]? with
 | some (.cells _ _ f)=>f
 | _=>(0,0)
theorem fzr_frozen {w:World} {b k:Nat} (h:(fzr w b).2≤k):w.frozen? ⟨b,k,none⟩=false:=by
 simp only [fzr] at h
 simp only [World.frozen?]
 split
 ·rename_i c e lo hi he
  rw [he] at h
  simp only [Bool.and_eq_false_iff,decide_eq_false_iff_not]
  exact .inr (by simpa using h)
 ·rfl
def jumpOf:AExit→Code
 | .normal => .skip
 | .exit id => .exit id
 | .ret => .ret
def stOk:LSt→LoopState→Option Code→Prop
 | .ready,s,p=>s = .ready∧p=none
 | .busy,s,_=>s = .busy
 | .done e,s,p=>s = .done∧p=some (jumpOf e)∧e ≠ .normal
def OkObj (w:World) (G:Ghost) (id:Nat):Obj→Prop
 | .row mu sz _ cs=>G.lim (G.loc id)=(if mu then some 0 else none)∧(∀ k c,cs[k]?=some c→∃ u,w.cell? ⟨G.loc id,k,none⟩=some u∧VRel w G u c) ∧
   (∀ c∈cs,c.one=true)∧((∃ e n,w.shape? (G.loc id)=some (e,n)∧cs.length≤n∧∀ T,sz=typed T→e=T∧n=cs.length))∧(mu=true→∀ k e n,w.shape? (G.loc id)=some (e,n)→k<n→w.frozen? ⟨G.loc id,k,none⟩=false)
 | .tok ty=>G.lim (G.loc id)=some (G.tip id)∧(∃ n,w.shape? (G.loc id)=some (ty,n)∧G.tip id≤n) ∧
   (fzr w (G.loc id)).2≤G.tip id
 | .map kd clock es=>∃ entries,w.heap[G.loc id]?=some (.map entries clock)∧entries.size=es.length∧(∀ (k:Nat) e x,entries[k]?=some e→es[k]?=some x→e.born=x.1∧VRel w G e.key x.2.1∧VRel w G e.val x.2.2) ∧
   (∀ x∈es,isKey kd x.2.1=true∧plain x.2.2=true)∧MapKept.Stamped entries clock
 | .lrec st fid k slots vs=>∃ (r:Loop) (nt:Nat),w.heap[G.loc id]?=some (.loop r)∧G.env.site fid k=some (nt,r.params,r.assign,r.body)∧stOk st r.state r.pending∧vs.length=slots.length ∧
   (∀ (i s:Nat) (x:AVal),slots[i]?=some s→vs[i]?=some x→VRel w G (r.tmps.getD s undef) x)∧nt≤r.tmps.size
 | .iter m since seen last=>w.heap[G.loc id]?=some (.mapIter (m.map G.loc) since seen.toArray last)∧∀ i,m=some i→i<G.n
structure HRel (w:World) (G:Ghost) (h:Heap):Prop where
 n_eq:G.n=h.next
 lt:∀ id o,h.get id=some o→G.loc id<w.heap.size
 obj:∀ id o,h.get id=some o→OkObj w G id o
 inj:∀ i j oi oj,h.get i=some oi→h.get j=some oj→G.loc i=G.loc j→i=j
 glob:∀ g cs,G.env.glob g=some cs→VRel w G (.pointer (some ⟨g,0,none⟩)) (.rp cs)∧∀ c∈cs,strip c=some c
def owned (G:Ghost) (h:Heap) (b:Nat):Prop:=∃ id o,h.get id=some o∧G.loc id=b
structure Ext (w:World) (G:Ghost) (h:Heap) (w':World) (G':Ghost) (h':Heap):Prop where
 os:w'.os=w.os
 tape:w'.tape=w.tape
 out:w'.output=w.output
 size:w.heap.size≤w'.heap.size
 keep:∀ b,b<w.heap.size→¬ owned G h b→w'.heap[b]?=w.heap[b]?∧G'.lim b=G.lim b
 stable:∀ b k,b<w.heap.size→stab G b k→w'.cell? ⟨b,k,none⟩=w.cell? ⟨b,k,none⟩∧stab G' b k
 shape:∀ b,b<w.heap.size→w'.shape? b=w.shape? b
 n_le:G.n≤G'.n
 ids:∀ id,id<G.n→G'.loc id=G.loc id∧G'.tip id=G.tip id
 fresh:∀ b,b<w.heap.size→owned G' h' b→owned G h b
 env:G'.env=G.env
 loops:∀ (b:Nat) (r:Loop),w.heap[b]?=some (Go.Obj.loop r)→∃ r':Loop,w'.heap[b]?=some (Go.Obj.loop r')
theorem Ext.refl (w:World) (G:Ghost) (h:Heap):Ext w G h w G h :=
 ⟨rfl,rfl,rfl,Nat.le_refl _,fun _ _ _=>⟨rfl,rfl⟩,fun _ _ _ hs=>⟨rfl,hs⟩,fun _ _=>rfl,Nat.le_refl _,fun _ _=>⟨rfl,rfl⟩,fun _ _ h=>h,rfl,fun _ r h=>⟨r,h⟩⟩
theorem Ext.trans {w G h w1 G1 h1 w2 G2 h2} (a:Ext w G h w1 G1 h1) (b:Ext w1 G1 h1 w2 G2 h2):Ext w G h w2 G2 h2 where
 os:=b.os.trans a.os
 tape:=b.tape.trans a.tape
 out:=b.out.trans a.out
 size:=Nat.le_trans a.size b.size
 keep:=fun k hk hn=>by
  have h1:=a.keep k hk hn
  have h2:=b.keep k (Nat.lt_of_lt_of_le hk a.size) (fun h=>hn (a.fresh k hk h))
  exact ⟨h2.1.trans h1.1,h2.2.trans h1.2⟩
 stable:=fun c k hc hs=>by
  have h1:=a.stable c k hc hs
  have h2:=b.stable c k (Nat.lt_of_lt_of_le hc a.size) h1.2
  exact ⟨h2.1.trans h1.1,h2.2⟩
 shape:=fun c hc=>(b.shape c (Nat.lt_of_lt_of_le hc a.size)).trans (a.shape c hc)
 n_le:=Nat.le_trans a.n_le b.n_le
 ids:=fun id hid=>by
  have h1:=a.ids id hid
  have h2:=b.ids id (Nat.lt_of_lt_of_le hid a.n_le)
  exact ⟨h2.1.trans h1.1,h2.2.trans h1.2⟩
 fresh:=fun c hc ho=>a.fresh c hc (b.fresh c (Nat.lt_of_lt_of_le hc a.size) ho)
 env:=b.env.trans a.env
 loops:=fun c r h=>by obtain ⟨r1,h1⟩:=a.loops c r h;exact b.loops c r1 h1
theorem cell_lt {w:World} {b k:Nat} {v:Value} (h:w.cell? ⟨b,k,none⟩=some v):b<w.heap.size:=by
 rcases Nat.lt_or_ge b w.heap.size with h'|h'
 ·exact h'
 ·simp [World.cell?,Array.getElem?_eq_none h'] at h
theorem shape_lt {w:World} {b:Nat} {v:TypeId×Nat} (h:w.shape? b=some v):b<w.heap.size:=by
 rcases Nat.lt_or_ge b w.heap.size with h'|h'
 ·exact h'
 ·simp [World.shape?,Array.getElem?_eq_none h'] at h
structure ExtV (w:World) (G:Ghost) (w':World) (G':Ghost):Prop where
 stable:∀ b k,b<w.heap.size→stab G b k→w'.cell? ⟨b,k,none⟩=w.cell? ⟨b,k,none⟩∧stab G' b k
 shape:∀ b,b<w.heap.size→w'.shape? b=w.shape? b
 n_le:G.n≤G'.n
 ids:∀ id,id<G.n→G'.loc id=G.loc id∧G'.tip id=G.tip id
 env:G'.env=G.env
theorem Ext.v {w G h w' G' h'} (x:Ext w G h w' G' h'):ExtV w G w' G':=⟨x.stable,x.shape,x.n_le,x.ids,x.env⟩
theorem VRel.monoV {w G w' G'} (x:ExtV w G w' G') {v:Value} {a:AVal} (r:VRel w G v a):VRel w' G' v a:=by
 induction r with
 | bool b=>exact .bool b
 | int k n=>exact .int k n
 | str s=>exact .str s
 | nilptr=>exact .nilptr
 | ptr id off hid=>rw [←(x.ids id hid).1];exact .ptr id off (Nat.lt_of_lt_of_le hid x.n_le)
 | rp b off cs u h1 h2 h3 h4 ih =>
   refine .rp b off cs u (fun k c hk=>?_) (fun k c hk=>ih k c hk) (fun k hk=>?_) h4
   ·have hc:=h1 k c hk
    rw [(x.stable b (off+k) (cell_lt hc) (h3 k (List.getElem?_eq_some_iff.1 hk).1)).1];exact hc
   ·obtain ⟨c,hc⟩:∃ c,cs[k]?=some c:=⟨_,List.getElem?_eq_getElem hk⟩
    exact (x.stable b (off+k) (cell_lt (h1 k c hc)) (h3 k hk)).2
 | nilsl t ht=>exact .nilsl t ht
 | emp a t ht=>exact .emp a t ht
 | sl b off cap sz xs t u h0 h1 h2 h3 h4 h5 hc hn ho ih =>
   refine .sl b off cap sz xs t u h0 (fun k c hk=>?_) (fun k c hk=>ih k c hk) (fun k hk=>?_) h4 h5 hc hn (fun id s hs=>?_)
   ·have hc:=h1 k c hk
    rw [(x.stable b (off+k) (cell_lt hc) (h3 k (List.getElem?_eq_some_iff.1 hk).1)).1];exact hc
   ·obtain ⟨c,hc⟩:∃ c,(flat xs)[k]?=some c:=⟨_,List.getElem?_eq_getElem hk⟩
    exact (x.stable b (off+k) (cell_lt (h1 k c hc)) (h3 k hk)).2
   ·obtain ⟨e1,e0,e2,e3,e4,e,n,e5,e6⟩:=ho id s hs
    have hi:=x.ids id e2
    exact ⟨e1,e0,Nat.lt_of_lt_of_le e2 x.n_le,hi.1.trans e3,hi.2.trans e4,e,n,(x.shape b (shape_lt e5)).trans e5,e6⟩
 | ref id off len sz cap hid hc hs =>
   obtain ⟨e,n,h1,h2⟩:=hs
   rw [←(x.ids id hid).1] at h1 ⊢
   refine .ref id off len sz cap (Nat.lt_of_lt_of_le hid x.n_le) hc ⟨e,n,?_,h2⟩
   rw [x.shape _ (shape_lt h1)];exact h1
 | ref0 id off sz b bo hid=>exact .ref0 id off sz b bo (Nat.lt_of_lt_of_le hid x.n_le)
 | fn f cs asx hl _ ih=>exact .fn f cs asx hl ih
 | nilfn=>exact .nilfn
 | nilif=>exact .nilif
 | mp id hid=>rw [←(x.ids id hid).1];exact .mp id (Nat.lt_of_lt_of_le hid x.n_le)
 | nilmp=>exact .nilmp
 | yld id hid=>rw [←(x.ids id hid).1];exact .yld id (Nat.lt_of_lt_of_le hid x.n_le)
 | agg cs asx hl _ h4 ih=>exact .agg cs asx hl ih h4
 | tup cs asx hl _ ih=>exact .tup cs asx hl ih
 | bad v=>exact .bad v
theorem VRel.mono {w G h w' G' h'} (x:Ext w G h w' G' h') {v:Value} {a:AVal} (r:VRel w G v a):VRel w' G' v a:=r.monoV x.v
theorem Heap.get_empty (id:Nat):Heap.empty.get id=none:=by simp [Heap.get,Heap.empty]
theorem OkObj.monoV {w G w' G'} (x:ExtV w G w' G') {id:Nat} {o:Obj} (hid:id<G.n) (hlt:G.loc id<w.heap.size)
  (hkeep:w'.heap[G.loc id]?=w.heap[G.loc id]?) (hlim:G'.lim (G.loc id)=G.lim (G.loc id)) (r:OkObj w G id o):OkObj w' G' id o:=by
 have hi:=x.ids id hid
 have hcell:∀ k,w'.cell? ⟨G.loc id,k,none⟩=w.cell? ⟨G.loc id,k,none⟩:=fun k=>by simp [World.cell?,hkeep]
 have hfr:∀ k,w'.frozen? ⟨G.loc id,k,none⟩=w.frozen? ⟨G.loc id,k,none⟩:=fun k=>by simp [World.frozen?,hkeep]
 have hsh:w'.shape? (G.loc id)=w.shape? (G.loc id):=x.shape _ hlt
 cases o with
 | row mu sz ag cs =>
   obtain ⟨h1,h2,h3,h4,h5⟩:=r
   unfold OkObj
   simp only [hi.1,hlim,hcell,hfr,hsh]
   exact ⟨h1,fun k c hk=>(h2 k c hk).imp fun u hu=>⟨hu.1,hu.2.monoV x⟩,h3,h4,h5⟩
 | tok =>
   obtain ⟨h1,h2,h3⟩:=r
   unfold OkObj
   simp only [hi.1,hi.2,hlim,hsh]
   exact ⟨h1,h2,by simpa [fzr,hkeep] using h3⟩
 | map kd clock es =>
   obtain ⟨entries,h1,h2,h3,h4,h5⟩:=r
   unfold OkObj
   rw [hi.1,hkeep]
   exact ⟨entries,h1,h2,fun k e y he hy=>by obtain ⟨q1,q2,q3⟩:=h3 k e y he hy;exact ⟨q1,q2.monoV x,q3.monoV x⟩,h4,h5⟩
 | lrec st fid k slots vs =>
   obtain ⟨lr,nt,h1,h3,h4,h5,h6,h7⟩:=r
   unfold OkObj
   rw [hi.1,hkeep,x.env]
   exact ⟨lr,nt,h1,h3,h4,h5,fun i s y q1 q2=>(h6 i s y q1 q2).monoV x,h7⟩
 | iter m since seen last =>
   obtain ⟨h1,h2⟩:=r
   have e:m.map G'.loc=m.map G.loc:=by
    cases m with
    | none=>rfl
    | some i=>simp only [Option.map_some];rw [(x.ids i (h2 i rfl)).1]
   show w'.heap[G'.loc id]?=some (.mapIter (m.map G'.loc) since seen.toArray last)∧∀ i,m=some i→i<G'.n
   rw [hi.1,hkeep,e]
   exact ⟨h1,fun i q=>Nat.lt_of_lt_of_le (h2 i q) x.n_le⟩
theorem OkObj.mono {w G h w' G' h'} (x:Ext w G h w' G' h') {id:Nat} {o:Obj} (hid:id<G.n) (hlt:G.loc id<w.heap.size)
  (hkeep:w'.heap[G.loc id]?=w.heap[G.loc id]?) (hlim:G'.lim (G.loc id)=G.lim (G.loc id)) (r:OkObj w G id o):OkObj w' G' id o:=OkObj.monoV x.v hid hlt hkeep hlim r
theorem Ext.drew {w G h w' G' h'} (x:Ext w.drew G h w' G' h'):Ext w G h w' G' h':=⟨x.os,x.tape,x.out,x.size,x.keep,x.stable,x.shape,x.n_le,x.ids,x.fresh,x.env,x.loops⟩
theorem VRel.of_heap {w w':World} {G:Ghost} (e:w'.heap=w.heap∧w'.os=w.os∧w'.tape=w.tape∧w'.output=w.output) {v:Value} {a:AVal} (r:VRel w G v a):VRel w' G v a:=by
 have x:Ext w G Heap.empty w' G Heap.empty:=⟨e.2.1,e.2.2.1,e.2.2.2,by rw [e.1];exact Nat.le_refl _,fun _ _ _=>⟨by rw [e.1],rfl⟩,fun _ _ _ hs=>⟨by simp [World.cell?,e.1],hs⟩,fun _ _=>by simp [World.shape?,e.1],Nat.le_refl _,fun _ _=>⟨rfl,rfl⟩,fun _ _ h=>h,rfl,fun b r h=>⟨r,by rw [e.1];exact h⟩⟩
 exact r.mono x
theorem Ext.of_heap {w w':World} {G:Ghost} {h:Heap} (e:w'.heap=w.heap∧w'.os=w.os∧w'.tape=w.tape∧w'.output=w.output):Ext w G h w' G h :=
 ⟨e.2.1,e.2.2.1,e.2.2.2,by rw [e.1];exact Nat.le_refl _,fun _ _ _=>⟨by rw [e.1],rfl⟩,fun _ _ _ hs=>⟨by simp [World.cell?,e.1],hs⟩,fun _ _=>by simp [World.shape?,e.1],Nat.le_refl _,fun _ _=>⟨rfl,rfl⟩,fun _ _ h=>h,rfl,fun b r h=>⟨r,by rw [e.1];exact h⟩⟩
theorem OkObj.of_heap {w w':World} {G:Ghost} (e:w'.heap=w.heap∧w'.os=w.os∧w'.tape=w.tape∧w'.output=w.output) {id:Nat} {o:Obj} (r:OkObj w G id o):OkObj w' G id o:=by
 have hcell:∀ a,w'.cell? a=w.cell? a:=fun k=>by simp [World.cell?,e.1]
 have hfr:∀ a,w'.frozen? a=w.frozen? a:=fun k=>by simp [World.frozen?,e.1]
 have hsh:∀ b,w'.shape? b=w.shape? b:=fun b=>by simp [World.shape?,e.1]
 cases o with
 | row mu sz ag cs =>
   obtain ⟨h1,h2,h3,h4,h5⟩:=r
   unfold OkObj
   simp only [hcell,hfr,hsh]
   exact ⟨h1,fun k c hk=>(h2 k c hk).imp fun u hu=>⟨hu.1,hu.2.of_heap e⟩,h3,h4,h5⟩
 | tok=>unfold OkObj;simp only [hsh,fzr,e.1];exact r
 | map kd clock es =>
   obtain ⟨entries,h1,h2,h3,h4,h5⟩:=r
   unfold OkObj
   rw [e.1]
   exact ⟨entries,h1,h2,fun k e' y he hy=>by obtain ⟨q1,q2,q3⟩:=h3 k e' y he hy;exact ⟨q1,q2.of_heap e,q3.of_heap e⟩,h4,h5⟩
 | lrec st fid k slots vs =>
   obtain ⟨lr,nt,h1,h3,h4,h5,h6,h7⟩:=r
   unfold OkObj
   rw [e.1]
   exact ⟨lr,nt,h1,h3,h4,h5,fun i s y q1 q2=>(h6 i s y q1 q2).of_heap e,h7⟩
 | iter m since seen last =>
   show w'.heap[G.loc id]?=some (.mapIter (m.map G.loc) since seen.toArray last)∧∀ i,m=some i→i<G.n
   rw [e.1]
   exact r
theorem HRel.of_heap {w w':World} {G:Ghost} {h:Heap} (e:w'.heap=w.heap∧w'.os=w.os∧w'.tape=w.tape∧w'.output=w.output) (H:HRel w G h):HRel w' G h :=
 ⟨H.n_eq,fun id o ho=>by rw [e.1];exact H.lt id o ho,fun id o ho=>(H.obj id o ho).of_heap e,H.inj,fun g cs hg=>⟨(H.glob g cs hg).1.of_heap e,(H.glob g cs hg).2⟩⟩
def Ghost.new (G:Ghost) (b tip:Nat) (lim:Option Nat):Ghost :=
 { n:=G.n+1,loc:=fun i=>if i=G.n then b else G.loc i,tip:=fun i=>if i=G.n then tip else G.tip i,lim:=fun c=>if c=b then lim else G.lim c,env:=G.env }
theorem heap_push_old (w:World) (o:Go.Obj) {b:Nat} (h:b<w.heap.size):(w.alloc o).heap[b]?=w.heap[b]?:=by
 show (w.heap.push o)[b]?=_
 rw [Array.getElem?_push];simp [Nat.ne_of_lt h]
theorem Ext.alloc_obj {w:World} {G:Ghost} {h:Heap} (H:HRel w G h) (c:Array Value) (e:TypeId) (tip:Nat) (lim:Option Nat) (o:Obj) :
  Ext w G h (w.alloc (.cells c e)) (G.new w.heap.size tip lim) (h.push o) where
 os:=rfl
 tape:=rfl
 out:=rfl
 size:=by simp
 keep:=fun b hb _=>⟨heap_push_old _ _ hb,by simp [Ghost.new,Nat.ne_of_lt hb]⟩
 stable:=fun b k hb hs=>⟨World.cell?_alloc_lt _ _ _ hb,by unfold stab Ghost.new;simp [Nat.ne_of_lt hb];exact hs⟩
 shape:=fun b hb=>by simp [World.shape?,heap_push_old _ _ hb]
 n_le:=by simp [Ghost.new]
 ids:=fun id hid=>by simp [Ghost.new,Nat.ne_of_lt hid]
 fresh:=fun b hb ho=>by
  obtain ⟨id,o',ho',rfl⟩:=ho
  rcases Heap.get_push_some ho' with ⟨rfl,_⟩|⟨hid,ho''⟩
  ·simp [Ghost.new,H.n_eq] at hb
  ·refine ⟨id,o',ho'',?_⟩
   simp [Ghost.new,H.n_eq,Nat.ne_of_lt hid]
 env:=rfl
 loops:=fun b r h=>⟨r,by rw [heap_push_old _ _ (Array.getElem?_eq_some_iff.1 h).1];exact h⟩
theorem HRel.alloc_obj {w:World} {G:Ghost} {h:Heap} (H:HRel w G h) (c:Array Value) (e:TypeId) (tip:Nat) (lim:Option Nat) (o:Obj)
  (ho:OkObj (w.alloc (.cells c e)) (G.new w.heap.size tip lim) G.n o):HRel (w.alloc (.cells c e)) (G.new w.heap.size tip lim) (h.push o) where
 n_eq:=by simp [Ghost.new,H.n_eq]
 lt:=fun id o' h'=>by
  rcases Heap.get_push_some h' with ⟨rfl,_⟩|⟨hid,h''⟩
  ·simp [Ghost.new,H.n_eq]
  ·have:=H.lt id o' h''
   simp [Ghost.new,H.n_eq,Nat.ne_of_lt hid];omega
 obj:=fun id o' h'=>by
  rcases Heap.get_push_some h' with ⟨rfl,rfl⟩|⟨hid,h''⟩
  ·rw [←H.n_eq];exact ho
  ·have hlt:=H.lt id o' h''
   exact OkObj.mono (Ext.alloc_obj H c e tip lim o) (by rw [H.n_eq];exact hid) hlt (heap_push_old _ _ hlt) (by simp [Ghost.new,Nat.ne_of_lt hlt]) (H.obj id o' h'')
 inj:=fun i j oi oj hi hj he=>by
  rcases Heap.get_push_some hi with ⟨rfl,_⟩|⟨hi',hi''⟩<;>rcases Heap.get_push_some hj with ⟨rfl,_⟩|⟨hj',hj''⟩
  ·rfl
  ·have:=H.lt j oj hj''
   simp [Ghost.new,H.n_eq,Nat.ne_of_lt hj'] at he;omega
  ·have:=H.lt i oi hi''
   simp [Ghost.new,H.n_eq,Nat.ne_of_lt hi'] at he;omega
  ·simp only [Ghost.new,H.n_eq,Nat.ne_of_lt hi',Nat.ne_of_lt hj',if_false] at he
   exact H.inj i j oi oj hi'' hj'' he
 glob:=fun g cs hg=>⟨(H.glob g cs hg).1.mono (Ext.alloc_obj H c e tip lim o),(H.glob g cs hg).2⟩
theorem Ext.alloc_free {w:World} {G:Ghost} {h:Heap} (c:Array Value) (e:TypeId) (fz:Nat×Nat:=(0,0)) :
  Ext w G h (w.alloc (.cells c e fz)) { G with lim:=fun b=>if b=w.heap.size then none else G.lim b } h where
 os:=rfl
 tape:=rfl
 out:=rfl
 size:=by simp
 keep:=fun b hb _=>⟨heap_push_old _ _ hb,by simp [Nat.ne_of_lt hb]⟩
 stable:=fun b k hb hs=>⟨World.cell?_alloc_lt _ _ _ hb,by unfold stab;simp [Nat.ne_of_lt hb];exact hs⟩
 shape:=fun b hb=>by simp [World.shape?,heap_push_old _ _ hb]
 n_le:=Nat.le_refl _
 ids:=fun id hid=>⟨rfl,rfl⟩
 fresh:=fun b hb ho=>ho
 env:=rfl
 loops:=fun b r h=>⟨r,by rw [heap_push_old _ _ (Array.getElem?_eq_some_iff.1 h).1];exact h⟩
theorem HRel.alloc_free {w:World} {G:Ghost} {h:Heap} (H:HRel w G h) (c:Array Value) (e:TypeId) (fz:Nat×Nat:=(0,0)) :
  HRel (w.alloc (.cells c e fz)) { G with lim:=fun b=>if b=w.heap.size then none else G.lim b } h where
 n_eq:=H.n_eq
 lt:=fun id o h'=>by have:=H.lt id o h';simp;omega
 obj:=fun id o h'=>by
  have hlt:=H.lt id o h'
  exact OkObj.mono (Ext.alloc_free (h:=h) c e fz) (by rw [H.n_eq];exact Heap.get_lt h') hlt (heap_push_old _ _ hlt) (by simp [Nat.ne_of_lt hlt]) (H.obj id o h')
 inj:=H.inj
 glob:=fun g cs hg=>⟨(H.glob g cs hg).1.mono (Ext.alloc_free (h:=h) c e fz),(H.glob g cs hg).2⟩
structure Turned (w:World) (G:Ghost) (b:Nat) (w':World) (lim:Option Nat):Prop where
 os:w'.os=w.os
 tape:w'.tape=w.tape
 out:w'.output=w.output
 size:w'.heap.size=w.heap.size
 other:∀ c,c≠b→w'.heap[c]?=w.heap[c]?
 shape:w'.shape? b=w.shape? b
 cells:∀ k,stab G b k→w'.cell? ⟨b,k,none⟩=w.cell? ⟨b,k,none⟩
 up:∀ k,stab G b k→∀ m,lim=some m→k<m
 loop:∀ r:Loop,w.heap[b]?=some (Go.Obj.loop r)→∃ r':Loop,w'.heap[b]?=some (Go.Obj.loop r')
theorem Turned.loops {w w':World} {G:Ghost} {b:Nat} {lim:Option Nat} (t:Turned w G b w' lim):∀ (c:Nat) (r:Loop),w.heap[c]?=some (Go.Obj.loop r)→∃ r':Loop,w'.heap[c]?=some (Go.Obj.loop r'):=fun c r h=>by
 by_cases e:c=b
 ·subst e;exact t.loop r h
 ·exact ⟨r,by rw [t.other c e];exact h⟩
theorem Turned.of_shape {w w':World} {G:Ghost} {b:Nat} {lim:Option Nat} (hs:∃ x,w.shape? b=some x) (os:w'.os=w.os) (tape:w'.tape=w.tape) (out:w'.output=w.output) (size:w'.heap.size=w.heap.size) (other:∀ c,c≠b→w'.heap[c]?=w.heap[c]?)
  (shape:w'.shape? b=w.shape? b) (cells:∀ k,stab G b k→w'.cell? ⟨b,k,none⟩=w.cell? ⟨b,k,none⟩) (up:∀ k,stab G b k→∀ m,lim=some m→k<m):Turned w G b w' lim :=
 ⟨os,tape,out,size,other,shape,cells,up,fun r h=>by obtain ⟨x,hx⟩:=hs;simp [World.shape?,h] at hx⟩
theorem Turned.same {w:World} {G:Ghost} {b:Nat} {lim:Option Nat} (up:∀ k,stab G b k→∀ m,lim=some m→k<m):Turned w G b w lim :=
 ⟨rfl,rfl,rfl,rfl,fun _ _=>rfl,rfl,fun _ _=>rfl,up,fun r h=>⟨r,h⟩⟩
def Ghost.at (G:Ghost) (b:Nat) (lim:Option Nat):Ghost:={ G with lim:=fun c=>if c=b then lim else G.lim c }
theorem Ext.update {w w':World} {G:Ghost} {h:Heap} {id:Nat} {o0:Obj} {lim:Option Nat} (hid:h.get id=some o0)
  (t:Turned w G (G.loc id) w' lim) (o1:Option Obj):Ext w G h w' (G.at (G.loc id) lim) (h.put id o1) where
 os:=t.os
 tape:=t.tape
 out:=t.out
 size:=Nat.le_of_eq t.size.symm
 keep:=fun b _ hn=>by
  have hne:b≠G.loc id:=fun e=>hn ⟨id,o0,hid,e.symm⟩
  exact ⟨t.other b hne,by simp [Ghost.at,hne]⟩
 stable:=fun b k _ hs=>by
  by_cases e:b=G.loc id
  ·subst e;exact ⟨t.cells k hs,by unfold stab Ghost.at;simp;exact t.up k hs⟩
  ·exact ⟨by simp [World.cell?,t.other b e],by unfold stab Ghost.at;simp [e];exact hs⟩
 shape:=fun b _=>by
  by_cases e:b=G.loc id
  ·subst e;exact t.shape
  ·simp [World.shape?,t.other b e]
 n_le:=Nat.le_refl _
 ids:=fun _ _=>⟨rfl,rfl⟩
 fresh:=fun b _ ho=>by
  obtain ⟨j,o,hj,rfl⟩:=ho
  by_cases e:j=id
  ·subst e;exact ⟨j,o0,hid,rfl⟩
  ·rw [Heap.get_put_other _ e] at hj;exact ⟨j,o,hj,rfl⟩
 env:=rfl
 loops:=t.loops
theorem HRel.update {w w':World} {G:Ghost} {h:Heap} (H:HRel w G h) {id:Nat} {o0:Obj} {lim:Option Nat} (hid:h.get id=some o0)
  (t:Turned w G (G.loc id) w' lim) (o1:Option Obj) (ho:∀ o,o1=some o→OkObj w' (G.at (G.loc id) lim) id o) :
  HRel w' (G.at (G.loc id) lim) (h.put id o1) where
 n_eq:=by simp [Ghost.at,H.n_eq]
 lt:=fun j o hj=>by
  rw [t.size]
  by_cases e:j=id
  ·subst e;exact H.lt j o0 hid
  ·rw [Heap.get_put_other _ e] at hj;exact H.lt j o hj
 obj:=fun j o hj=>by
  by_cases e:j=id
  ·subst e;rw [Heap.get_put _ hid] at hj;exact ho o hj
  ·have hj':=hj
   rw [Heap.get_put_other _ e] at hj'
   have hne:G.loc j≠G.loc id:=fun e'=>e (H.inj j id o o0 hj' hid e')
   exact OkObj.mono (Ext.update hid t o1) (by rw [H.n_eq];exact Heap.get_lt hj') (H.lt j o hj') (t.other _ hne) (by simp [Ghost.at,hne]) (H.obj j o hj')
 inj:=fun i j oi oj hi hj he=>by
  by_cases ei:i=id
  ·by_cases ej:j=id
   ·rw [ei,ej]
   ·subst ei;rw [Heap.get_put_other _ ej] at hj;exact H.inj i j o0 oj hid hj he
  ·rw [Heap.get_put_other _ ei] at hi
   by_cases ej:j=id
   ·subst ej;exact H.inj i j oi o0 hi hid he
   ·rw [Heap.get_put_other _ ej] at hj;exact H.inj i j oi oj hi hj he
 glob:=fun g cs hg=>⟨(H.glob g cs hg).1.mono (Ext.update hid t o1),(H.glob g cs hg).2⟩
theorem Ext.replace {w w':World} {G:Ghost} {h:Heap} (H:HRel w G h) {id:Nat} {o0:Obj} {lim:Option Nat} (hid:h.get id=some o0)
  (t:Turned w G (G.loc id) w' lim) (tip:Nat) (o:Obj):Ext w G h w' (G.new (G.loc id) tip lim) ((h.put id none).push o) where
 os:=t.os
 tape:=t.tape
 out:=t.out
 size:=Nat.le_of_eq t.size.symm
 keep:=fun b _ hn=>by
  have hne:b≠G.loc id:=fun e=>hn ⟨id,o0,hid,e.symm⟩
  exact ⟨t.other b hne,by simp [Ghost.new,hne]⟩
 stable:=fun b k _ hs=>by
  by_cases e:b=G.loc id
  ·subst e;exact ⟨t.cells k hs,by unfold stab Ghost.new;simp;exact t.up k hs⟩
  ·exact ⟨by simp [World.cell?,t.other b e],by unfold stab Ghost.new;simp [e];exact hs⟩
 shape:=fun b _=>by
  by_cases e:b=G.loc id
  ·subst e;exact t.shape
  ·simp [World.shape?,t.other b e]
 n_le:=by simp [Ghost.new]
 ids:=fun j hj=>by simp [Ghost.new,Nat.ne_of_lt hj]
 fresh:=fun b _ ho=>by
  obtain ⟨j,o',hj,rfl⟩:=ho
  rcases Heap.get_push_some hj with ⟨rfl,_⟩|⟨hj1,hj2⟩
  ·exact ⟨id,o0,hid,by simp [Ghost.new,H.n_eq]⟩
  ·rw [Heap.next_put] at hj1
   by_cases e:j=id
   ·subst e;rw [Heap.get_put _ hid] at hj2;simp at hj2
   ·rw [Heap.get_put_other _ e] at hj2;exact ⟨j,o',hj2,by simp [Ghost.new,H.n_eq,Nat.ne_of_lt hj1]⟩
 env:=rfl
 loops:=t.loops
theorem HRel.replace {w w':World} {G:Ghost} {h:Heap} (H:HRel w G h) {id:Nat} {o0:Obj} {lim:Option Nat} (hid:h.get id=some o0)
  (t:Turned w G (G.loc id) w' lim) (tip:Nat) (o:Obj) (ho:OkObj w' (G.new (G.loc id) tip lim) G.n o) :
  HRel w' (G.new (G.loc id) tip lim) ((h.put id none).push o):=by
 have key:∀ j oj,((h.put id none).push o).get j=some oj→(j=h.next∧oj=o)∨(j≠id∧j<h.next∧h.get j=some oj):=by
  intro j oj hj
  rcases Heap.get_push_some hj with ⟨h1,h2⟩|⟨hj1,hj2⟩
  ·rw [Heap.next_put] at h1;exact .inl ⟨h1,h2⟩
  ·rw [Heap.next_put] at hj1
   by_cases e:j=id
   ·subst e;rw [Heap.get_put _ hid] at hj2;simp at hj2
   ·rw [Heap.get_put_other _ e] at hj2;exact .inr ⟨e,hj1,hj2⟩
 refine ⟨by simp [Ghost.new,H.n_eq],fun j oj hj=>?_,fun j oj hj=>?_,fun i j oi oj hi hj he=>?_,fun g cs hg=>⟨(H.glob g cs hg).1.mono (Ext.replace H hid t tip o),(H.glob g cs hg).2⟩⟩
 ·rw [t.size]
  rcases key j oj hj with ⟨rfl,_⟩|⟨_,hj1,hj2⟩
  ·simp [Ghost.new,H.n_eq];exact H.lt id o0 hid
  ·simp [Ghost.new,H.n_eq,Nat.ne_of_lt hj1];exact H.lt j oj hj2
 ·rcases key j oj hj with ⟨rfl,rfl⟩|⟨hne,hj1,hj2⟩
  ·rw [←H.n_eq];exact ho
  ·have hl:G.loc j≠G.loc id:=fun e'=>hne (H.inj j id oj o0 hj2 hid e')
   exact OkObj.mono (Ext.replace H hid t tip o) (by rw [H.n_eq];exact hj1) (H.lt j oj hj2) (t.other _ hl) (by simp [Ghost.new,hl]) (H.obj j oj hj2)
 ·rcases key i oi hi with ⟨rfl,_⟩|⟨hni,hi1,hi2⟩<;>rcases key j oj hj with ⟨rfl,_⟩|⟨hnj,hj1,hj2⟩
  ·rfl
  ·simp only [Ghost.new,H.n_eq,if_true,Nat.ne_of_lt hj1,if_false] at he
   exact absurd (H.inj id j o0 oj hid hj2 he).symm hnj
  ·simp only [Ghost.new,H.n_eq,if_true,Nat.ne_of_lt hi1,if_false] at he
   exact absurd (H.inj i id oi o0 hi2 hid he) hni
  ·simp only [Ghost.new,H.n_eq,Nat.ne_of_lt hi1,Nat.ne_of_lt hj1,if_false] at he
   exact H.inj i j oi oj hi2 hj2 he
end Go.Abs

namespace Go.Abs
theorem stripL_ok {xs ys:List AVal} (h:stripL xs=some ys):xs.length=ys.length∧∀ (k:Nat) (x:AVal),xs[k]?=some x→∃ y,ys[k]?=some y∧strip x=some y:=by
 induction xs generalizing ys with
 | nil=>simp [stripL] at h;subst h;simp
 | cons x xs ih =>
   simp only [stripL] at h
   split at h
   ·rename_i y ys' h1 h2
    obtain rfl:=Option.some.inj h
    obtain ⟨e1,e2⟩:=ih h2
    refine ⟨by simp [e1],fun k x' hk=>?_⟩
    cases k with
    | zero=>simp at hk;subst hk;exact ⟨y,by simp,h1⟩
    | succ k=>simpa using e2 k x' (by simpa using hk)
   ·simp at h
theorem purifyL_ok {h:Heap} {xs ys:List AVal} (e:purifyL h xs=some ys):xs.length=ys.length∧∀ (k:Nat) (x:AVal),xs[k]?=some x→∃ y,ys[k]?=some y∧purify h x=some y:=by
 induction xs generalizing ys with
 | nil=>simp [purifyL] at e;subst e;simp
 | cons x xs ih =>
   simp only [purifyL] at e
   split at e
   ·rename_i y ys' h1 h2
    obtain rfl:=Option.some.inj e
    obtain ⟨e1,e2⟩:=ih h2
    refine ⟨by simp [e1],fun k x' hk=>?_⟩
    cases k with
    | zero=>simp at hk;subst hk;exact ⟨y,by simp,h1⟩
    | succ k=>simpa using e2 k x' (by simpa using hk)
   ·simp at e
theorem refIdsL_mem {cs:List AVal} {k:Nat} {a:AVal} (h:cs[k]?=some a) {id:Nat} (hid:id∈refIds a):id∈refIdsL cs:=by
 induction cs generalizing k with
 | nil=>simp at h
 | cons x xs ih =>
   simp only [refIdsL,List.mem_append]
   cases k with
   | zero=>simp at h;subst h;exact .inl hid
   | succ k=>exact .inr (ih (by simpa using h))
theorem one_cells {c:AVal} (h:c.one=true):c.cells=[c]:=by cases c<;>simp_all [AVal.one,AVal.cells]
theorem strip_one {x y:AVal} (h:strip x=some y) (ho:x.one=true):y.one=true:=by
 cases x with
 | sl xs t=>cases t<;>simp [strip] at h<;>subst h<;>rfl
 | fn f cap=>simp [strip] at h;obtain ⟨_,_,rfl⟩:=h;rfl
 | agg cs=>simp [AVal.one] at ho
 | tup cs=>simp [AVal.one] at ho
 | bad=>simp [AVal.one] at ho
 | rp cs=>simp [AVal.one] at ho
 | ptr _ _=>simp [strip] at h
 | ref _ _ _ _=>simp [strip] at h
 | mp _=>simp [strip] at h
 | yld _=>simp [strip] at h
 | _=>simp [strip] at h;subst h;rfl
theorem purify_one {h:Heap} {x y:AVal} (e:purify h x=some y) (ho:x.one=true):y.one=true:=by
 cases x with
 | sl xs t=>cases t<;>simp [purify] at e<;>subst e<;>rfl
 | fn f cap=>simp [purify] at e;obtain ⟨_,_,rfl⟩:=e;rfl
 | agg cs=>simp [AVal.one] at ho
 | tup cs=>simp [AVal.one] at ho
 | bad=>simp [AVal.one] at ho
 | rp cs=>simp [AVal.one] at ho
 | ptr _ _=>simp [purify] at e
 | mp _=>simp [purify] at e
 | yld _=>simp [purify] at e
 | ref _ _ _ _=>simp [purify] at e;obtain ⟨_,_,rfl⟩:=e;rfl
 | _=>simp [purify] at e;subst e;rfl
theorem mem_get {α:Type} {l:List α} {x:α} (h:x∈l):∃ k:Nat,l[k]?=some x:=List.mem_iff_getElem?.1 h
theorem stripL_one {xs ys:List AVal} (h:stripL xs=some ys) (ho:∀ x∈xs,x.one=true):∀ y∈ys,y.one=true:=by
 intro y hy
 obtain ⟨k,hk⟩:=mem_get hy
 obtain ⟨e1,e2⟩:=stripL_ok h
 obtain ⟨x,hx⟩:∃ x,xs[k]?=some x:=⟨_,List.getElem?_eq_getElem (by rw [e1];exact (List.getElem?_eq_some_iff.1 hk).1)⟩
 obtain ⟨y',hy',hs⟩:=e2 k x hx
 rw [hk] at hy';obtain rfl:=Option.some.inj hy'
 exact strip_one hs (ho x (List.mem_of_getElem? hx))
theorem purifyL_one {h:Heap} {xs ys:List AVal} (e:purifyL h xs=some ys) (ho:∀ x∈xs,x.one=true):∀ y∈ys,y.one=true:=by
 intro y hy
 obtain ⟨k,hk⟩:=mem_get hy
 obtain ⟨e1,e2⟩:=purifyL_ok e
 obtain ⟨x,hx⟩:∃ x,xs[k]?=some x:=⟨_,List.getElem?_eq_getElem (by rw [e1];exact (List.getElem?_eq_some_iff.1 hk).1)⟩
 obtain ⟨y',hy',hs⟩:=e2 k x hx
 rw [hk] at hy';obtain rfl:=Option.some.inj hy'
 exact purify_one hs (ho x (List.mem_of_getElem? hx))
theorem back_get {α:Type} {xs ys:List α} {R:α→α→Prop} (h:xs.length=ys.length∧∀ (k:Nat) (x:α),xs[k]?=some x→∃ y,ys[k]?=some y∧R x y) {k:Nat} {y:α}
  (hk:ys[k]?=some y):∃ x,xs[k]?=some x∧R x y:=by
 obtain ⟨e1,e2⟩:=h
 obtain ⟨x,hx⟩:∃ x,xs[k]?=some x:=⟨_,List.getElem?_eq_getElem (by rw [e1];exact (List.getElem?_eq_some_iff.1 hk).1)⟩
 obtain ⟨y',hy',hs⟩:=e2 k x hx
 rw [hk] at hy';obtain rfl:=Option.some.inj hy'
 exact ⟨x,hx,hs⟩
theorem VRel.strip_to {w:World} {G G2:Ghost} (hs:∀ b k,stab G b k→stab G2 b k) {v:Value} {x:AVal} (r:VRel w G v x) :
  ∀ {y:AVal},strip x=some y→VRel w G2 v y:=by
 induction r with
 | bool b=>intro y h;simp [strip] at h;subst h;exact .bool b
 | int k n=>intro y h;simp [strip] at h;subst h;exact .int k n
 | str s=>intro y h;simp [strip] at h;subst h;exact .str s
 | nilptr=>intro y h;simp [strip] at h;subst h;exact .nilptr
 | ptr id off _=>intro y h;simp [strip] at h
 | rp=>intro y h;simp [strip] at h
 | nilsl t ht=>intro y h;rcases ht with rfl|rfl|rfl<;>simp [strip] at h<;>subst h<;>exact .nilsl _ (by simp)
 | emp a t ht=>intro y h;rcases ht with rfl|rfl<;>simp [strip] at h<;>subst h<;>exact .emp _ _ (by simp)
 | mp=>intro y h;simp [strip] at h
 | yld=>intro y h;simp [strip] at h
 | nilmp=>intro y h;simp [strip] at h;subst h;exact .nilmp
 | sl b off cap sz xs t u h0 h1 h2 h3 h4 h5 hc hn ho ih =>
   intro y h
   have e:y = .sl xs .none:=by
    cases t with
    | none=>simp [strip] at h;exact h.symm
    | nil=>exact absurd rfl hn.1
    | own a b=>simp [strip] at h;exact h.symm
    | full=>simp [strip] at h;exact h.symm
   subst e
   exact .sl b off cap sz xs .none u h0 h1 (fun k c hk=>ih k c hk (h5 c (List.mem_of_getElem? hk))) (fun k hk=>hs _ _ (h3 k hk)) h4 h5 hc (by simp) (fun _ _ hh=>by simp at hh)
 | ref=>intro y h;simp [strip] at h
 | ref0=>intro y h;simp [strip] at h
 | fn f cs asx hl _ ih =>
   intro y h;simp [strip] at h
   obtain ⟨as',h',rfl⟩:=h
   have hk:=stripL_ok h'
   refine .fn f cs as' (hl.trans hk.1) fun k c a hc ha=>?_
   obtain ⟨x,hx,hx'⟩:=back_get hk ha
   exact ih k c x hc hx hx'
 | nilfn=>intro y h;simp [strip] at h;subst h;exact .nilfn
 | nilif=>intro y h;simp [strip] at h;subst h;exact .nilif
 | agg cs asx hl _ h4 ih =>
   intro y h;simp [strip] at h
   obtain ⟨as',h',rfl⟩:=h
   have hk:=stripL_ok h'
   refine .agg cs as' (hl.trans hk.1) (fun k c a hc ha=>?_) (stripL_one h' h4)
   obtain ⟨x,hx,hx'⟩:=back_get hk ha
   exact ih k c x hc hx hx'
 | tup cs asx hl _ ih =>
   intro y h;simp [strip] at h
   obtain ⟨as',h',rfl⟩:=h
   have hk:=stripL_ok h'
   refine .tup cs as' (hl.trans hk.1) fun k c a hc ha=>?_
   obtain ⟨x,hx,hx'⟩:=back_get hk ha
   exact ih k c x hc hx hx'
 | bad v=>intro y h;simp [strip] at h
theorem stripL_of_all {xs:List AVal} (h:∀ x∈xs,strip x=some x):stripL xs=some xs:=by
 induction xs with
 | nil=>rfl
 | cons x xs ih=>simp [stripL,h x (by simp),ih (fun y hy=>h y (by simp [hy]))]
theorem VRel.purify_strip {w:World} {G:Ghost} {h:Heap} {v:Value} {x:AVal} (r:VRel w G v x):∀ {y:AVal},purify h x=some y→strip y=some y:=by
 have key:∀ {asx as':List AVal} {cs:Array Value},cs.size=asx.length→(∀ (k:Nat) (c:Value) (a:AVal),cs[k]?=some c→asx[k]?=some a→∀ {y},purify h a=some y→strip y=some y) →
   purifyL h asx=some as'→stripL as'=some as':=by
  intro asx as' cs hl ih h'
  have hk:=purifyL_ok h'
  refine stripL_of_all fun y hy=>?_
  obtain ⟨k,hk'⟩:=mem_get hy
  obtain ⟨x,hx,hx'⟩:=back_get hk hk'
  obtain ⟨c,hc⟩:∃ c,cs[k]?=some c:=⟨_,Array.getElem?_eq_getElem (by rw [hl];exact (List.getElem?_eq_some_iff.1 hx).1)⟩
  exact ih k c x hc hx hx'
 induction r with
 | ptr=>intro y e;simp [purify] at e
 | rp=>intro y e;simp [purify] at e
 | nilsl t ht=>intro y e;rcases ht with rfl|rfl|rfl<;>simp [purify] at e<;>subst e<;>rfl
 | emp a t ht=>intro y e;rcases ht with rfl|rfl<;>simp [purify] at e<;>subst e<;>rfl
 | mp=>intro y e;simp [purify] at e
 | yld=>intro y e;simp [purify] at e
 | sl b off cap sz xs t=>intro y e;cases t<;>simp [purify] at e<;>subst e<;>rfl
 | ref id off len sz=>intro y e;simp [purify] at e;obtain ⟨_,_,rfl⟩:=e;rfl
 | ref0 id off sz=>intro y e;simp [purify] at e;obtain ⟨_,_,rfl⟩:=e;rfl
 | fn f cs asx hl _ ih=>intro y e;simp [purify] at e;obtain ⟨as',h',rfl⟩:=e;simp [strip,key hl ih h']
 | agg cs asx hl _ h4 ih=>intro y e;simp [purify] at e;obtain ⟨as',h',rfl⟩:=e;simp [strip,key hl ih h']
 | tup cs asx hl _ ih=>intro y e;simp [purify] at e;obtain ⟨as',h',rfl⟩:=e;simp [strip,key hl ih h']
 | bad=>intro y e;simp [purify] at e
 | _=>intro y e;simp [purify] at e;subst e;rfl
theorem VRel.strip_strip {w:World} {G:Ghost} {v:Value} {x:AVal} (r:VRel w G v x):∀ {y:AVal},strip x=some y→strip y=some y:=by
 have key:∀ {asx as':List AVal} {cs:Array Value},cs.size=asx.length→(∀ (k:Nat) (c:Value) (a:AVal),cs[k]?=some c→asx[k]?=some a→∀ {y},strip a=some y→strip y=some y) →
   stripL asx=some as'→stripL as'=some as':=by
  intro asx as' cs hl ih h'
  have hk:=stripL_ok h'
  refine stripL_of_all fun y hy=>?_
  obtain ⟨k,hk'⟩:=mem_get hy
  obtain ⟨x,hx,hx'⟩:=back_get hk hk'
  obtain ⟨c,hc⟩:∃ c,cs[k]?=some c:=⟨_,Array.getElem?_eq_getElem (by rw [hl];exact (List.getElem?_eq_some_iff.1 hx).1)⟩
  exact ih k c x hc hx hx'
 induction r with
 | ptr=>intro y e;simp [strip] at e
 | rp=>intro y e;simp [strip] at e
 | nilsl t ht=>intro y e;rcases ht with rfl|rfl|rfl<;>simp [strip] at e<;>subst e<;>rfl
 | emp a t ht=>intro y e;rcases ht with rfl|rfl<;>simp [strip] at e<;>subst e<;>rfl
 | mp=>intro y e;simp [strip] at e
 | yld=>intro y e;simp [strip] at e
 | sl b off cap sz xs t=>intro y e;cases t<;>simp [strip] at e<;>subst e<;>rfl
 | ref id off len sz=>intro y e;simp [strip] at e
 | ref0 id off sz=>intro y e;simp [strip] at e
 | fn f cs asx hl _ ih=>intro y e;simp [strip] at e;obtain ⟨as',h',rfl⟩:=e;simp [strip,key hl ih h']
 | agg cs asx hl _ h4 ih=>intro y e;simp [strip] at e;obtain ⟨as',h',rfl⟩:=e;simp [strip,key hl ih h']
 | tup cs asx hl _ ih=>intro y e;simp [strip] at e;obtain ⟨as',h',rfl⟩:=e;simp [strip,key hl ih h']
 | bad=>intro y e;simp [strip] at e
 | _=>intro y e;simp [strip] at e;subst e;rfl
theorem chunk_ok {sz:Nat} {ag:Bool}:∀ {n:Nat} {cs xs:List AVal},chunk sz ag n cs=some xs→(∀ c∈cs,c.one=true)→xs.length=n∧flat xs=cs.take (n*sz)∧(∀ x∈xs,x.cells.length=sz)∧n*sz≤cs.length
 | 0,cs,xs,h,_=>by simp [chunk] at h;subst h;simp [flat]
 | n+1,cs,xs,h,ho=>by
   simp only [chunk] at h
   split at h
   ·rename_i x xs' h1 h2
    split at h
    ·rename_i hx
     obtain rfl:=Option.some.inj h
     obtain ⟨e1,e2,e3,e4⟩:=chunk_ok h2 (fun c hc=>ho c (List.mem_of_mem_drop hc))
     have hcells:x.cells=cs.take sz:=by
      cases ag with
      | true=>simp [mk] at h1;subst h1;rfl
      | false =>
        simp only [mk,Bool.false_eq_true,if_false] at h1
        split at h1
        ·rename_i c hc
         obtain rfl:=Option.some.inj h1
         rw [hc]
         exact one_cells (ho c (List.mem_of_mem_take (by rw [hc];simp)))
        ·simp at h1
     have hlen:sz≤cs.length:=by rw [hcells] at hx;simp at hx;omega
     refine ⟨by simp [e1],?_,?_,?_⟩
     ·have:flat (x::xs')=x.cells++flat xs':=by simp [flat]
      rw [this,hcells,e2,Nat.succ_mul,Nat.add_comm,List.take_add]
     ·intro y hy
      rcases List.mem_cons.1 hy with rfl|hy
      ·exact hx
      ·exact e3 y hy
     ·simp at e4;rw [Nat.succ_mul];omega
    ·simp at h
   ·simp at h
theorem flat_len {sz:Nat} {xs:List AVal} (h:∀ x∈xs,x.cells.length=sz):(flat xs).length=xs.length*sz:=by
 induction xs with
 | nil=>simp [flat]
 | cons x xs ih =>
   have:flat (x::xs)=x.cells++flat xs:=by simp [flat]
   rw [this,List.length_append,h x (by simp),ih (fun y hy=>h y (by simp [hy])),List.length_cons,Nat.succ_mul,Nat.add_comm]
theorem flat_append (xs ys:List AVal):flat (xs++ys)=flat xs++flat ys:=by simp [flat]
theorem flat_get {sz:Nat} {xs:List AVal} (h:∀ x∈xs,x.cells.length=sz) {i j:Nat} {x:AVal} (hi:xs[i]?=some x) (hj:j<sz):(flat xs)[i*sz+j]?=x.cells[j]?:=by
 induction xs generalizing i with
 | nil=>simp at hi
 | cons y ys ih =>
   have e:flat (y::ys)=y.cells++flat ys:=by simp [flat]
   have hy:=h y (by simp)
   rw [e]
   cases i with
   | zero =>
     simp at hi;subst hi
     rw [List.getElem?_append_left (by rw [hy];omega)];simp
   | succ i =>
     rw [Nat.succ_mul,List.getElem?_append_right (by rw [hy];omega),hy,show i*sz+sz+j - sz=i*sz+j by omega]
     exact ih (fun z hz=>h z (by simp [hz])) (by simpa using hi)
theorem readRef_ok {w:World} {G G2:Ghost} {h:Heap} (H:HRel w G h) (hs:∀ b k,stab G b k→stab G2 b k) {id off len sz cap:Nat} {xs:List AVal}
  (e:readRef h id off len sz=some xs) (hst:∀ k,stab G2 (G.loc id) k) (hc:len≤cap):VRel w G2 (.slice (some ⟨G.loc id,off,none⟩) len cap) (.sl xs .none):=by
 unfold readRef at e
 split at e
 ·rename_i mu s ag cs hg
  split at e
  ·rename_i hb
   split at e
   ·rename_i cs' hstrip
    obtain ⟨_,h2,h3,h4,_⟩:=H.obj id _ hg
    have hk:=stripL_ok hstrip
    have h3':=stripL_one hstrip h3
    obtain ⟨c1,c2,c3,c4⟩:=chunk_ok e (fun c hc=>h3' c (List.mem_of_mem_drop hc))
    have hflat:∀ (k:Nat) (c:AVal),(flat xs)[k]?=some c→cs'[off+k]?=some c:=by
     intro k c hk'
     rw [c2,List.getElem?_take] at hk'
     split at hk'
     ·rwa [List.getElem?_drop] at hk'
     ·simp at hk'
    have hu:∀ (k:Nat) (c:AVal),(flat xs)[k]?=some c→∃ u,w.cell? ⟨G.loc id,off+k,none⟩=some u∧VRel w G2 u c:=by
     intro k c hk'
     obtain ⟨x,hx,hx'⟩:=back_get hk (hflat k c hk')
     obtain ⟨u,hu1,hu2⟩:=h2 _ x hx
     exact ⟨u,hu1,hu2.strip_to hs hx'⟩
    subst c1
    refine .sl (G.loc id) off cap sz xs .none (fun k=>(w.cell? ⟨G.loc id,off+k,none⟩).getD (.bool false)) c3 (fun k c hk'=>?_) (fun k c hk'=>?_) (fun k _=>hst _) (fun c hc'=>?_) (fun c hc'=>?_) hc (by simp) (fun _ _ hh=>by simp at hh)
    ·obtain ⟨u,hu1,_⟩:=hu k c hk'
     simp [hu1]
    ·obtain ⟨u,hu1,hu2⟩:=hu k c hk'
     simp only [hu1,Option.getD_some];exact hu2
    ·obtain ⟨k,hk'⟩:=mem_get hc'
     exact h3' c (List.mem_of_getElem? (hflat k c hk'))
    ·obtain ⟨k,hk'⟩:=mem_get hc'
     obtain ⟨x,hx,hx'⟩:=back_get hk (hflat k c hk')
     obtain ⟨u,_,hu2⟩:=h2 _ x hx
     exact hu2.strip_strip hx'
   ·simp at e
  ·simp at e
 ·simp at e
theorem vrel_sl0 {w:World} {G:Ghost} (b bo:Nat):VRel w G (.slice (some ⟨b,bo,none⟩) 0 0) (.sl [] .none) :=
 .sl b bo 0 0 [] .none (fun _ => .bool false) (by simp) (by simp [flat]) (by simp [flat]) (by simp [flat]) (by simp [flat]) (by simp [flat]) (by simp) (by simp) (by simp)
theorem VRel.purify_to {w:World} {G G2:Ghost} {h:Heap} (H:HRel w G h) (hs:∀ b k,stab G b k→stab G2 b k) {v:Value} {x:AVal} (r:VRel w G v x) :
  (∀ id∈refIds x,∀ k,stab G2 (G.loc id) k)→∀ {y:AVal},purify h x=some y→VRel w G2 v y:=by
 induction r with
 | bool b=>intro _ y e;simp [purify] at e;subst e;exact .bool b
 | int k n=>intro _ y e;simp [purify] at e;subst e;exact .int k n
 | str s=>intro _ y e;simp [purify] at e;subst e;exact .str s
 | nilptr=>intro _ y e;simp [purify] at e;subst e;exact .nilptr
 | ptr id off _=>intro _ y e;simp [purify] at e
 | rp=>intro _ y e;simp [purify] at e
 | nilsl t ht=>intro _ y e;rcases ht with rfl|rfl|rfl<;>simp [purify] at e<;>subst e<;>exact .nilsl _ (by simp)
 | emp a t ht=>intro _ y e;rcases ht with rfl|rfl<;>simp [purify] at e<;>subst e<;>exact .emp _ _ (by simp)
 | mp=>intro _ y e;simp [purify] at e
 | yld=>intro _ y e;simp [purify] at e
 | nilmp=>intro _ y e;simp [purify] at e;subst e;exact .nilmp
 | sl b off cap sz xs t u h0 h1 h2 h3 h4 h5 hc hn ho ih =>
   intro _ y e
   have e:y = .sl xs .none:=by
    cases t with
    | none=>simp [purify] at e;exact e.symm
    | nil=>exact absurd rfl hn.1
    | own a b=>simp [purify] at e;exact e.symm
    | full=>simp [purify] at e;exact e.symm
   subst e
   exact .sl b off cap sz xs .none u h0 h1 (fun k c hk=>(h2 k c hk).strip_to hs (h5 c (List.mem_of_getElem? hk))) (fun k hk=>hs _ _ (h3 k hk)) h4 h5 hc (by simp) (fun _ _ hh=>by simp at hh)
 | ref id off len sz cap hid hc hsz =>
   intro hst y e
   simp [purify] at e
   obtain ⟨xs,hx,rfl⟩:=e
   exact readRef_ok H hs hx (hst id (by simp [refIds])) hc
 | ref0 id off sz b bo hid =>
   intro hst y e
   simp [purify] at e
   obtain ⟨xs,hx,rfl⟩:=e
   have hxs:xs=[]:=by
    unfold readRef at hx
    split at hx
    ·split at hx
     ·split at hx
      ·simp [chunk] at hx;exact hx
      ·simp at hx
     ·simp at hx
    ·simp at hx
   subst hxs
   exact vrel_sl0 b bo
 | fn f cs asx hl _ ih =>
   intro hst y e;simp [purify] at e
   obtain ⟨as',h',rfl⟩:=e
   have hk:=purifyL_ok h'
   refine .fn f cs as' (hl.trans hk.1) fun k c a hc ha=>?_
   obtain ⟨x,hx,hx'⟩:=back_get hk ha
   exact ih k c x hc hx (fun id hid=>hst id (by simp only [refIds];exact refIdsL_mem hx hid)) hx'
 | nilfn=>intro _ y e;simp [purify] at e;subst e;exact .nilfn
 | nilif=>intro _ y e;simp [purify] at e;subst e;exact .nilif
 | agg cs asx hl _ h4 ih =>
   intro hst y e;simp [purify] at e
   obtain ⟨as',h',rfl⟩:=e
   have hk:=purifyL_ok h'
   refine .agg cs as' (hl.trans hk.1) (fun k c a hc ha=>?_) (purifyL_one h' h4)
   obtain ⟨x,hx,hx'⟩:=back_get hk ha
   exact ih k c x hc hx (fun id hid=>hst id (by simp only [refIds];exact refIdsL_mem hx hid)) hx'
 | tup cs asx hl _ ih =>
   intro hst y e;simp [purify] at e
   obtain ⟨as',h',rfl⟩:=e
   have hk:=purifyL_ok h'
   refine .tup cs as' (hl.trans hk.1) fun k c a hc ha=>?_
   obtain ⟨x,hx,hx'⟩:=back_get hk ha
   exact ih k c x hc hx (fun id hid=>hst id (by simp only [refIds];exact refIdsL_mem hx hid)) hx'
 | bad v=>intro _ y e;simp [purify] at e
theorem borrowL_ok {h:Heap} {xs ys:List AVal} (e:borrowL h xs=some ys):xs.length=ys.length∧∀ (k:Nat) (x:AVal),xs[k]?=some x→∃ y,ys[k]?=some y∧borrow h x=some y:=by
 induction xs generalizing ys with
 | nil=>simp [borrowL] at e;subst e;simp
 | cons x xs ih =>
   simp only [borrowL] at e
   split at e
   ·rename_i y ys' h1 h2
    obtain rfl:=Option.some.inj e
    obtain ⟨e1,e2⟩:=ih h2
    refine ⟨by simp [e1],fun k x' hk=>?_⟩
    cases k with
    | zero=>simp at hk;subst hk;exact ⟨y,by simp,h1⟩
    | succ k=>simpa using e2 k x' (by simpa using hk)
   ·simp at e
theorem VRel.borrow_to {w:World} {G G2:Ghost} {h:Heap} (H:HRel w G h) (hs:∀ b k,stab G2 b k) {v:Value} {x y:AVal} (r:VRel w G v x) (e:borrow h x=some y):VRel w G2 v y:=by
 cases x<;>try exact r.purify_to H (fun b k _=>hs b k) (fun _ _ k=>hs _ k) e
 rename_i id off
 simp only [borrow] at e
 split at e
 ·rename_i mu sz ag cs hg
  simp only [Option.map_eq_some_iff] at e
  obtain ⟨cs',h',rfl⟩:=e
  cases r with
  | ptr _ _ hid =>
    obtain ⟨h1,h2,h3,_⟩:=H.obj id _ hg
    have hk:=stripL_ok h'
    have hc:∀ (k:Nat) (c:AVal),cs'[k]?=some c→∃ u,w.cell? ⟨G.loc id,off+k,none⟩=some u∧VRel w G2 u c:=by
     intro k c hc
     obtain ⟨x,hx,hx'⟩:=back_get hk hc
     rw [List.getElem?_drop] at hx
     obtain ⟨u,hu1,hu2⟩:=h2 _ x hx
     exact ⟨u,hu1,hu2.strip_to (fun b k _=>hs b k) hx'⟩
    refine .rp (G.loc id) off cs' (fun k=>(w.cell? ⟨G.loc id,off+k,none⟩).getD (.bool false)) (fun k c hk'=>?_) (fun k c hk'=>?_) (fun k _=>hs _ _) (fun c hc'=>?_)
    ·obtain ⟨u,hu1,_⟩:=hc k c hk'
     simp [hu1]
    ·obtain ⟨u,hu1,hu2⟩:=hc k c hk'
     simp only [hu1,Option.getD_some];exact hu2
    ·obtain ⟨k,hk'⟩:=mem_get hc'
     obtain ⟨x,hx,hx'⟩:=back_get hk hk'
     rw [List.getElem?_drop] at hx
     exact strip_one hx' (h3 x (List.mem_of_getElem? hx))
 ·simp at e
end Go.Abs

namespace Go.Abs
theorem VRel.one {w:World} {G:Ghost} {v:Value} {c:AVal} (r:VRel w G v c) (h:c.one=true):v.oneCell'=true∧v.cells=#[v]:=by
 cases r<;>first
  | (simp [AVal.one] at h;done)
  | exact ⟨rfl,rfl⟩
def CellsAt (w:World) (G:Ghost) (b off:Nat) (cs:List AVal):Prop:=∀ (k:Nat) (c:AVal),cs[k]?=some c→∃ u,w.cell? ⟨b,off+k,none⟩=some u∧VRel w G u c
theorem CellsAt.drop {w:World} {G:Ghost} {b off:Nat} {cs:List AVal} (h:CellsAt w G b off cs) (n:Nat):CellsAt w G b (off+n) (cs.drop n):=by
 intro k c hk
 rw [List.getElem?_drop] at hk
 have:=h _ c hk
 rwa [←Nat.add_assoc] at this
theorem CellsAt.take {w:World} {G:Ghost} {b off:Nat} {cs:List AVal} (h:CellsAt w G b off cs) (n:Nat):CellsAt w G b off (cs.take n):=by
 intro k c hk
 rw [List.getElem?_take] at hk
 split at hk
 ·exact h k c hk
 ·simp at hk
theorem CellsAt.vals {w:World} {G:Ghost} {b off:Nat} {cs:List AVal} (h:CellsAt w G b off cs) :
  ∃ vs:List Value,vs.length=cs.length∧(∀ j v,vs[j]?=some v→w.cell? ⟨b,off+j,none⟩=some v)∧(∀ (k:Nat) (v:Value) (c:AVal),vs[k]?=some v→cs[k]?=some c→VRel w G v c):=by
 induction cs generalizing off with
 | nil=>exact ⟨[],rfl,by simp,by simp⟩
 | cons c cs ih =>
   obtain ⟨u,hu1,hu2⟩:=h 0 c rfl
   obtain ⟨vs,e1,e2,e3⟩:=ih (off:=off+1) (by simpa using h.drop 1)
   refine ⟨u::vs,by simp [e1],fun j v hj=>?_,fun k v c' hv hc=>?_⟩
   ·cases j with
    | zero=>simp at hj;subst hj;simpa using hu1
    | succ j=>have:=e2 j v (by simpa using hj);rw [←this];congr 2;omega
   ·cases k with
    | zero=>simp at hv hc;subst hv;subst hc;exact hu2
    | succ k=>exact e3 k v c' (by simpa using hv) (by simpa using hc)
section
variable {P:Program}
theorem tSize_some {t:TypeId} {n:Nat} (h:tSize P t=some n):∃ i,P.info? t=some i∧i.size=n:=by
 simpa [tSize] using h
theorem run_sizeOf' {t:TypeId} {n:Nat} (h:tSize P t=some n) (w:World):(sizeOf t).run P w = .ok n w:=by
 obtain ⟨i,hi,rfl⟩:=tSize_some h
 simp [sizeOf,typeInfo,hi]
theorem run_isAgg' {t:TypeId} {a:Bool} (h:tAgg P t=some a) (w:World):(isAgg t).run P w = .ok a w:=by
 simp only [tAgg,Option.map_eq_some_iff] at h
 obtain ⟨d,hd,rfl⟩:=h
 simp only [isAgg,Sem.run_bind,run_underlying hd,Result.andThen_ok]
 cases d<;>rfl
theorem run_zeroValue' {t:TypeId} {i:TypeInfo} {z:Value} (h:P.info? t=some i) (hz:i.zero=some z) (w:World):(zeroValue t).run P w = .ok z w:=by
 simp [zeroValue,typeInfo,h,hz]
theorem load_cells {w:World} {G:Ghost} {b off n:Nat} {ag:Bool} {t:TypeId} {cs:List AVal} {r:AVal} (h:CellsAt w G b off cs) (ho:∀ c∈cs,c.one=true) (hn:n≤cs.length)
  (hs:tSize P t=some n) (ha:tAgg P t=some ag) (hm:mk ag (cs.take n)=some r):∃ v,(loadVar t ⟨b,off,none⟩).run P w = .ok v w∧VRel w G v r:=by
 obtain ⟨vs,e1,e2,e3⟩:=(h.take n).vals
 have hl:vs.length=n:=by rw [e1,List.length_take];omega
 cases ag with
 | true =>
   simp [mk] at hm;subst hm
   refine ⟨.agg vs.toArray,?_,.agg _ _ (by simp [e1]) (fun k c a hc ha=>e3 k c a (by simpa using hc) ha) (fun c hc=>ho c (List.mem_of_mem_take hc))⟩
   have hlc:=run_loadCells_list (P:=P) w ⟨b,off,none⟩ vs (fun j v hj=>by rw [Addr.add_lit];exact e2 j v hj)
   rw [hl] at hlc
   simp [loadVar,run_isAgg' ha,run_sizeOf' hs,hlc]
 | false =>
   simp only [mk,Bool.false_eq_true,if_false] at hm
   split at hm
   ·rename_i c hc
    obtain rfl:=Option.some.inj hm
    have h0:(cs.take n)[0]?=some c:=by rw [hc];rfl
    obtain ⟨u,hu1,hu2⟩:=(h.take n) 0 c h0
    refine ⟨u,?_,hu2⟩
    simp only [Nat.add_zero] at hu1
    simp [loadVar,run_isAgg' ha,hu1]
   ·simp at hm
structure Wrote (w:World) (b off:Nat) (vs:List Value) (w':World):Prop where
 os:w'.os=w.os
 tape:w'.tape=w.tape
 out:w'.output=w.output
 size:w'.heap.size=w.heap.size
 other:∀ c,c≠b→w'.heap[c]?=w.heap[c]?
 shape:w'.shape? b=w.shape? b
 frozen:∀ k,w'.frozen? ⟨b,k,none⟩=w.frozen? ⟨b,k,none⟩
 fz:fzr w' b=fzr w b
 cell:∀ k,w'.cell? ⟨b,k,none⟩=if off≤k∧k<off+vs.length then vs[k - off]? else w.cell? ⟨b,k,none⟩
theorem setCell_wrote {w:World} {b off:Nat} {v u:Value} (h:w.cell? ⟨b,off,none⟩=some u):Wrote w b off [v] (w.setCell ⟨b,off,none⟩ v) where
 os:=rfl
 tape:=rfl
 out:=rfl
 size:=by simp
 other:=fun c hc=>heap_setCell_other w _ c v hc
 shape:=by
  simp only [World.shape?,World.setCell,Array.getElem?_modify,↓reduceIte]
  cases w.heap[b]? with
  | none=>rfl
  | some o=>cases o<;>simp
 frozen:=fun k=>by
  simp only [World.frozen?,World.setCell,Array.getElem?_modify,↓reduceIte]
  cases w.heap[b]? with
  | none=>rfl
  | some o=>cases o<;>simp
 fz:=by
  simp only [fzr,World.setCell,Array.getElem?_modify,↓reduceIte]
  cases w.heap[b]? with
  | none=>rfl
  | some o=>cases o<;>simp
 cell:=fun k=>by
  by_cases e:k=off
  ·subst e
   rw [World.cell?_setCell_same (h:=h)];simp
  ·rw [World.cell?_setCell_other (h:=by simp;omega),if_neg (by simp;omega)]
theorem Wrote.trans {w w1 w2:World} {b off:Nat} {v:Value} {vs:List Value} (h1:Wrote w b off [v] w1) (h2:Wrote w1 b (off+1) vs w2):Wrote w b off (v::vs) w2 where
 os:=h2.os.trans h1.os
 tape:=h2.tape.trans h1.tape
 out:=h2.out.trans h1.out
 size:=h2.size.trans h1.size
 other:=fun c hc=>(h2.other c hc).trans (h1.other c hc)
 shape:=h2.shape.trans h1.shape
 frozen:=fun k=>(h2.frozen k).trans (h1.frozen k)
 fz:=h2.fz.trans h1.fz
 cell:=fun k=>by
  rw [h2.cell,h1.cell]
  simp only [List.length_cons,List.length_nil]
  by_cases e:k=off
  ·subst e
   rw [if_neg (by omega),if_pos (by omega),if_pos (by omega)];simp
  ·by_cases e2:off+1≤k∧k<off+1+vs.length
   ·rw [if_pos e2,if_pos (by omega),show k - off=(k - (off+1))+1 by omega,List.getElem?_cons_succ]
   ·rw [if_neg e2,if_neg (by omega),if_neg (by omega)]
theorem run_storeCells_ex (b o:Nat):∀ (vs:List Value) (i:Nat) (w:World),(∀ j,j<vs.length→(∃ u,w.cell? ⟨b,o+i+j,none⟩=some u)∧w.frozen? ⟨b,o+i+j,none⟩=false) →
  (∀ v∈vs,v.oneCell'=true)→∃ w',(storeCells ⟨b,o,none⟩ vs i).run P w = .ok () w'∧Wrote w b (o+i) vs w'
 | [],i,w,_,_=>⟨w,rfl,rfl,rfl,rfl,rfl,fun _ _=>rfl,rfl,fun _=>rfl,rfl,fun k=>by simp;intro h1 h2;omega⟩
 | v::vs,i,w,h,h1=>by
   obtain ⟨⟨u,hu⟩,hf⟩:=h 0 (by simp)
   simp only [Nat.add_zero] at hu hf
   have hw:=setCell_wrote (v:=v) hu
   obtain ⟨w',hr,hw'⟩:=run_storeCells_ex b o vs (i+1) (w.setCell ⟨b,o+i,none⟩ v) (fun j hj=>by
    have hj':=h (j+1) (by simp;omega)
    rw [show o+(i+1)+j=o+i+(j+1) by omega,hw.cell,hw.frozen,if_neg (by simp<;>omega)]
    exact hj') (fun x hx=>h1 x (by simp [hx]))
   refine ⟨w',?_,hw.trans (by rw [show o+i+1=o+(i+1) by omega];exact hw')⟩
   simp only [storeCells,Sem.run_bind,Addr.add_lit,run_store P w _ v _ (h1 v (by simp)),hu,hf,Bool.false_eq_true,if_false,Result.andThen_ok]
   exact hr
end
end Go.Abs

namespace Go.Abs
def OpRes (P:Program) (o:Oper) (a:Act) (w:World) (G:Ghost) (h:Heap) (r:AVal) (h':Heap):Prop :=
 ∃ v w' G',((execOp a.eval o).run P w = .ok (.value v) w'∨((execOp a.eval o).run P w = .ok .skip w'∧v=undef))∧Ext w G h w' G' h'∧HRel w' G' h'∧VRel w' G' v r
section
variable {P:Program} {o:Oper} {a:Act} {w:World} {G:Ghost} {h:Heap}
theorem OpRes.same (H:HRel w G h) {v:Value} {r:AVal} (e:(execOp a.eval o).run P w = .ok (.value v) w) (hv:VRel w G v r):OpRes P o a w G h r h :=
 ⟨v,w,G,.inl e,Ext.refl _ _ _,H,hv⟩
def Ops (a:Act) (w:World) (G:Ghost) (c:Operand→Option Opd) (ev:Opd→AVal):Prop:=∀ x y,c x=some y→VRel w G (a.eval x) (ev y)
theorem constCell_ok {v:Value} {x:AVal} (e:constCell v=some x):VRel w G v x∧x.one=true:=by
 unfold constCell at e
 split at e<;>first
  | (simp at e;done)
  | (obtain rfl:=Option.some.inj e;exact ⟨by constructor;first|done|simp,rfl⟩)
theorem constCells_ok:∀ {vs:List Value} {xs:List AVal},constCells vs=some xs→vs.length=xs.length∧(∀ x∈xs,x.one=true)∧∀ (k:Nat) (v:Value) (x:AVal),vs[k]?=some v→xs[k]?=some x→VRel w G v x
 | [],xs,e=>by simp [constCells] at e;subst e;simp
 | v::vs,xs,e=>by
   simp only [constCells] at e
   split at e
   ·rename_i x xs' h1 h2
    obtain rfl:=Option.some.inj e
    obtain ⟨e1,e2,e3⟩:=constCells_ok h2
    have hx:=constCell_ok (w:=w) (G:=G) h1
    refine ⟨by simp [e1],fun y hy=>?_,fun k u y hu hy=>?_⟩
    ·rcases List.mem_cons.1 hy with rfl|hy
     ·exact hx.2
     ·exact e2 y hy
    ·cases k with
     | zero=>simp at hu hy;subst hu;subst hy;exact hx.1
     | succ k=>exact e3 k u y (by simpa using hu) (by simpa using hy)
   ·simp at e
theorem constA_ok {v:Value} {x:AVal} (e:constA v=some x):VRel w G v x:=by
 unfold constA at e
 split at e
 ·rename_i cs
  simp at e
  obtain ⟨xs,hx,rfl⟩:=e
  obtain ⟨e1,e2,e3⟩:=constCells_ok (w:=w) (G:=G) hx
  exact .agg cs xs (by simpa using e1) (fun k c a hc ha=>e3 k c a (by simpa using hc) ha) e2
 ·exact (constCell_ok e).1
theorem tZero_ok {t:TypeId} {z:List AVal} (e:tZero P t=some z):∃ i v,P.info? t=some i∧i.zero=some v∧v.cells.size=z.length∧(∀ x∈z,x.one=true) ∧
  ∀ (w:World) (G:Ghost) (k:Nat) (u:Value) (x:AVal),v.cells[k]?=some u→z[k]?=some x→VRel w G u x:=by
 unfold tZero at e
 split at e
 ·rename_i i hi
  split at e
  ·rename_i v hv
   obtain ⟨e1,e2,_⟩:=constCells_ok (w:=default) (G:=⟨0,fun _=>0,fun _=>0,fun _=>none,⟨fun _=>none,fun _ _=>none⟩⟩) e
   refine ⟨i,v,hi,hv,by simpa using e1,e2,fun w G k u x hu hx=>?_⟩
   exact (constCells_ok (w:=w) (G:=G) e).2.2 k u x (by simpa using hu) hx
  ·simp at e
 ·simp at e
variable {c:Operand→Option Opd} {ev:Opd→AVal} {r:AVal} {h':Heap}
theorem op_pick (H:HRel w G h) (hc:Ops a w G c ev) {x y z:Operand} {x' y' z':Opd} (hx:c x=some x') (hy:c y=some y') (hz:c z=some z') (hop:o.op = .pick x y z)
  (e:evalA (.pick x' y' z') ev h=some (r,h')):OpRes P o a w G h r h':=by
 have rx:=hc _ _ hx
 simp only [evalA] at e
 split at e
 ·rename_i b hb
  rw [hb] at rx
  generalize hv:a.eval x=v at rx
  cases rx
  simp at e
  obtain ⟨rfl,rfl⟩:=e
  refine OpRes.same H (v:=if b then a.eval y else a.eval z) ?_ ?_
  ·simp [execOp,hop,hv,asBool]
  ·cases b
   ·simpa using hc _ _ hz
   ·simpa using hc _ _ hy
 ·simp at e
theorem op_mov (H:HRel w G h) (hc:Ops a w G c ev) {x:Operand} {x':Opd} (hx:c x=some x') (hop:o.op = .move x∨o.op = .assign x)
  (e:evalA (.mov x') ev h=some (r,h')):OpRes P o a w G h r h':=by
 simp only [evalA,Option.some.injEq,Prod.mk.injEq] at e
 obtain ⟨rfl,rfl⟩:=e
 refine OpRes.same H (v:=a.eval x) ?_ (hc _ _ hx)
 rcases hop with hop|hop<;>simp [execOp,hop]
theorem op_load (H:HRel w G h) (hc:Ops a w G c ev) {x:Operand} {x':Opd} {t:TypeId} {n:Nat} {ag:Bool} (hx:c x=some x') (hs:tSize P t=some n) (ha:tAgg P t=some ag) (hop:o.op = .load t x)
  (e:evalA (.load n ag x') ev h=some (r,h')):OpRes P o a w G h r h':=by
 have rx:=hc _ _ hx
 simp only [evalA,Option.map_eq_some_iff,Prod.mk.injEq] at e
 obtain ⟨r',e,rfl,rfl⟩:=e
 unfold loadA at e
 split at e
 ·rename_i id off hb
  rw [hb] at rx
  generalize hv:a.eval x=v at rx
  cases rx with
  | ptr _ _ hid =>
    split at e
    ·rename_i mu sz ag' cs hg
     split at e
     ·rename_i hn
      obtain ⟨_,h2,h3,_,_⟩:=H.obj id _ hg
      have hC:CellsAt w G (G.loc id) 0 cs:=fun k c hk=>by simpa using h2 k c hk
      have hC':=hC.drop off
      rw [Nat.zero_add] at hC'
      obtain ⟨v,hr,hv'⟩:=load_cells (P:=P) (t:=t) hC' (fun c hc'=>h3 c (List.mem_of_mem_drop hc')) (by simp;omega) hs ha e
      exact OpRes.same H (by simp [execOp,hop,hv,Instr.loadAt,Instr.sureAddr,hr]) hv'
     ·simp at e
    ·simp at e
 ·rename_i cs hb
  rw [hb] at rx
  generalize hv:a.eval x=v at rx
  cases rx with
  | rp b off _ u h1 h2 h3 h4 =>
    split at e
    ·rename_i hn
     have hC:CellsAt w G b off cs:=fun k c hk=>⟨u k,h1 k c hk,h2 k c hk⟩
     obtain ⟨v,hr,hv'⟩:=load_cells (P:=P) (t:=t) hC h4 hn hs ha e
     exact OpRes.same H (by simp [execOp,hop,hv,Instr.loadAt,Instr.sureAddr,hr]) hv'
    ·simp at e
 ·simp at e
theorem op_nilc (H:HRel w G h) (hc:Ops a w G c ev) {x:Operand} {x':Opd} (hx:c x=some x') (hop:o.op = .nilCheck x)
  (e:evalA (.nilc x') ev h=some (r,h')):OpRes P o a w G h r h':=by
 have rx:=hc _ _ hx
 simp only [evalA] at e
 split at e
 ·rename_i i f hb
  rw [hb] at rx;generalize hv:a.eval x=v at rx
  simp at e;obtain ⟨rfl,rfl⟩:=e
  have rx':=rx
  cases rx
  exact OpRes.same H (by simp [execOp,hop,hv]) rx'
 ·rename_i cs hb
  rw [hb] at rx;generalize hv:a.eval x=v at rx
  simp at e;obtain ⟨rfl,rfl⟩:=e
  have rx':=rx
  cases rx
  exact OpRes.same H (by simp [execOp,hop,hv]) rx'
 ·rename_i f cs hb
  rw [hb] at rx;generalize hv:a.eval x=v at rx
  simp at e;obtain ⟨rfl,rfl⟩:=e
  have rx':=rx
  cases rx
  exact OpRes.same H (by simp [execOp,hop,hv]) rx'
 ·simp at e
theorem op_toInt (H:HRel w G h) (hc:Ops a w G c ev) {x:Operand} {x':Opd} {s d:TypeId} {k0 k:IntKind} (hx:c x=some x') (hs:P.underlying s=some (.int k0)) (hd:P.underlying d=some (.int k)) (hop:o.op = .convert s d x)
  (e:evalA (.toInt k x') ev h=some (r,h')):OpRes P o a w G h r h':=by
 have rx:=hc _ _ hx
 simp only [evalA] at e
 split at e
 ·rename_i k1 n hb
  rw [hb] at rx;generalize hv:a.eval x=v at rx
  simp at e;obtain ⟨rfl,rfl⟩:=e
  cases rx
  exact OpRes.same H (by simp [execOp,hop,hv,convert,run_underlying hs,run_underlying hd,Conv.intToInt]) (.int _ _)
 ·simp at e
theorem op_idstr (H:HRel w G h) (hc:Ops a w G c ev) {x:Operand} {x':Opd} {s d:TypeId} (hx:c x=some x') (hs:P.underlying s=some .string) (hd:P.underlying d=some .string) (hop:o.op = .convert s d x)
  (e:evalA (.idstr x') ev h=some (r,h')):OpRes P o a w G h r h':=by
 have rx:=hc _ _ hx
 simp only [evalA] at e
 split at e
 ·rename_i l hl
  simp at e;obtain ⟨rfl,rfl⟩:=e
  have rx':=rx
  rw [hl] at rx rx'
  generalize hv:a.eval x=v at rx rx'
  cases rx
  exact OpRes.same H (by simp [execOp,hop,hv,convert,run_underlying hs,run_underlying hd]) rx'
 ·simp at e
theorem op_ext (H:HRel w G h) (hc:Ops a w G c ev) {x:Operand} {x':Opd} {i:Nat} (hx:c x=some x') (hop:o.op = .extract x i)
  (e:evalA (.ext x' i) ev h=some (r,h')):OpRes P o a w G h r h':=by
 have rx:=hc _ _ hx
 simp only [evalA] at e
 split at e
 ·rename_i vs hb
  rw [hb] at rx;generalize hv:a.eval x=v at rx
  simp at e;obtain ⟨_,hi,rfl,rfl⟩:=e
  cases rx with
  | tup cs _ hl hh =>
    obtain ⟨u,hu⟩:∃ u,cs[i]?=some u:=⟨_,Array.getElem?_eq_getElem (by rw [hl];exact (List.getElem?_eq_some_iff.1 hi).1)⟩
    exact OpRes.same H (by simp [execOp,hop,hv,Instr.extract,hu]) (hh i u _ hu hi)
 ·simp at e
theorem op_faddr (H:HRel w G h) (hc:Ops a w G c ev) {x:Operand} {x':Opd} {t:TypeId} {fs:Array Field} {i n:Nat} {f:Field} (hx:c x=some x') (ht:P.underlying t=some (.struct fs)) (hf:fs[i]?=some f)
  (hs:tSize P f.type=some n) (hn:n≠0) (hop:o.op = .fieldAddr t x i) (e:evalA (.faddr f.offset x') ev h=some (r,h')):OpRes P o a w G h r h':=by
 have rx:=hc _ _ hx
 simp only [evalA] at e
 split at e
 ·rename_i j off hb
  rw [hb] at rx;generalize hv:a.eval x=v at rx
  simp at e;obtain ⟨rfl,rfl⟩:=e
  cases rx with
  | ptr _ _ hid=>exact OpRes.same H (by simp [execOp,hop,hv,Instr.fieldAt,run_underlying ht,hf,Instr.sureAddr,fieldPlace,run_sizeOf' hs,hn,Addr.add_lit]) (.ptr _ _ hid)
 ·rename_i cs hb
  rw [hb] at rx;generalize hv:a.eval x=v at rx
  simp at e;obtain ⟨rfl,rfl⟩:=e
  cases rx with
  | rp b off _ u h1 h2 h3 h4 =>
    refine OpRes.same H (by simp [execOp,hop,hv,Instr.fieldAt,run_underlying ht,hf,Instr.sureAddr,fieldPlace,run_sizeOf' hs,hn,Addr.add_lit]) (.rp b (off+f.offset) (cs.drop f.offset) (fun k=>u (f.offset+k)) (fun k c hk=>?_) (fun k c hk=>?_) (fun k hk=>?_) (fun c hc'=>h4 c (List.mem_of_mem_drop hc')))
    ·rw [List.getElem?_drop] at hk;rw [Nat.add_assoc];exact h1 _ c hk
    ·rw [List.getElem?_drop] at hk;exact h2 _ c hk
    ·simp at hk;rw [Nat.add_assoc];exact h3 _ (by omega)
 ·simp at e
end
end Go.Abs

namespace Go.Abs
section
variable {P:Program} {o:Oper} {a:Act} {w:World} {G:Ghost} {h:Heap} {c:Operand→Option Opd} {ev:Opd→AVal} {r:AVal} {h':Heap}
theorem bytesLt_eq:∀ (a b:List UInt8),bytesLt a b=Op.bytesLess a b
 | _,[]=>by simp [bytesLt,Op.bytesLess]
 | [],_::_=>by simp [bytesLt,Op.bytesLess]
 | a::x,b::y=>by simp [bytesLt,Op.bytesLess,bytesLt_eq x y]
theorem intBin_ok {op:BinOp} {k:IntKind} {x y:Int} {r:AVal} (t:TypeId) (e:(match op with
   | .shl | .shr=>shiftA op k x y
   | _=>intBin op k x y)=some r):∃ v,(binOp op t (.int k x) (.int k y)).run P w = .ok v w∧VRel w G v r:=by
 cases op<;>simp only [shiftA,intBin] at e<;>first
  | (split at e
     ·simp at e
     ·rename_i hy
      obtain rfl:=Option.some.inj e
      refine ⟨_,?_,VRel.int _ _⟩
      simp [binOp,Op.shift,Op.intDiv,hy])
  | (obtain rfl:=Option.some.inj e
     first
      | exact ⟨_,by simp [binOp,Op.intArith,Op.intBits,Op.intCmp],VRel.int _ _⟩
      | exact ⟨_,by simp [binOp,Op.intArith,Op.intBits,Op.intCmp],VRel.bool _⟩)
theorem shift_ok {op:BinOp} {k k':IntKind} {x y:Int} {r:AVal} (t:TypeId) (ho:op = .shl∨op = .shr) (e:shiftA op k x y=some r):∃ v,(binOp op t (.int k x) (.int k' y)).run P w = .ok v w∧VRel w G v r:=by
 rcases ho with rfl|rfl<;>(
  simp only [shiftA] at e
  split at e
  ·simp at e
  ·rename_i hy
   obtain rfl:=Option.some.inj e
   exact ⟨_,by simp [binOp,Op.shift,hy],VRel.int _ _⟩)
theorem strBin_ok {op:BinOp} {x y:ByteArray} {r:AVal} (t:TypeId) (e:strBin op x.data.toList y.data.toList=some r):∃ v,(binOp op t (.string x) (.string y)).run P w = .ok v w∧VRel w G v r:=by
 have hb:∀ s:ByteArray,s.toList=s.data.toList:=ByteArray.toList_eq
 cases op<;>simp only [strBin] at e
 case add =>
  split at e
  ·rename_i hl
   obtain rfl:=Option.some.inj e
   have hl':x.size+y.size≤9223372036854775807:=hl
   refine ⟨.string (x++y),?_,?_⟩
   ·have:¬ (IntKind.i64.max<((x.size+y.size:Nat):Int)):=by
     have:IntKind.i64.max=9223372036854775807:=by decide
     omega
    simp only [binOp,Op.stringOp,gt_iff_lt,if_neg this];rfl
   ·have hv:=VRel.str (w:=w) (G:=G) (x++y)
    rwa [show (x++y).data.toList=x.data.toList++y.data.toList by simp [ByteArray.data_append]] at hv
  ·simp at e
 all_goals first
  | (simp at e;done)
  | (obtain rfl:=Option.some.inj e
     exact ⟨_,by simp only [binOp,Op.stringOp,hb,bytesLt_eq];rfl,VRel.bool _⟩)
theorem op_un (H:HRel w G h) (hc:Ops a w G c ev) {op:UnOp} {t:TypeId} {x:Operand} {x':Opd} (hx:c x=some x') (hop:o.op = .unOp op t x)
  (e:evalA (.un op x') ev h=some (r,h')):OpRes P o a w G h r h':=by
 have rx:=hc _ _ hx
 simp only [evalA,Option.map_eq_some_iff,Prod.mk.injEq] at e
 obtain ⟨r',e,rfl,rfl⟩:=e
 unfold unA at e
 split at e<;>first
  | (simp at e;done)
  | (rename_i hb
     rw [hb] at rx;generalize hv:a.eval x=v at rx
     obtain rfl:=Option.some.inj e
     cases rx
     first
      | exact OpRes.same H (by simp [execOp,hop,hv,Op.unary,Op.intArith,Op.intBits]) (VRel.int _ _)
      | exact OpRes.same H (by simp [execOp,hop,hv,Op.unary,Op.intArith,Op.intBits]) (VRel.bool _))
theorem op_mnx (H:HRel w G h) (hc:Ops a w G c ev) {mx:Bool} {x y:Operand} {x' y':Opd} {ts:Array TypeId} (hx:c x=some x') (hy:c y=some y') (hop:o.op = .call { callee := .builtin (if mx then .max else .min),args:=#[x,y],argTypes:=ts })
  (e:evalA (.mnx mx x' y') ev h=some (r,h')):OpRes P o a w G h r h':=by
 have rx:=hc _ _ hx
 have ry:=hc _ _ hy
 simp only [evalA] at e
 split at e
 ·rename_i k n k' m hb hb'
  rw [hb] at rx;generalize hv:a.eval x=v at rx
  rw [hb'] at ry;generalize hv':a.eval y=v' at ry
  simp at e;obtain ⟨rfl,rfl⟩:=e
  cases rx
  cases ry
  cases mx
  ·exact OpRes.same H (by simp [execOp,hop,hv,hv',resolve,invoke,builtin,run_min_int2]) (.int _ _)
  ·exact OpRes.same H (by simp [execOp,hop,hv,hv',resolve,invoke,builtin,run_max_int2]) (.int _ _)
 ·simp at e
theorem op_len (H:HRel w G h) (hc:Ops a w G c ev) {x:Operand} {x':Opd} {t el:TypeId} (hx:c x=some x') (ht:P.underlying t=some (.slice el))
  (hop:o.op = .call { callee := .builtin .len,args:=#[x],argTypes:=#[t] })
  (e:evalA (.len x') ev h=some (r,h')):OpRes P o a w G h r h':=by
 have rx:=hc _ _ hx
 simp only [evalA] at e
 split at e
 ·rename_i xs tk hb
  rw [hb] at rx;generalize hv:a.eval x=v at rx
  simp at e;obtain ⟨rfl,rfl⟩:=e
  cases rx<;>exact OpRes.same H (by simp [execOp,hop,hv,resolve,invoke,builtin,Builtin.len_,run_underlying ht,goInt];try rfl) (.int _ _)
 ·rename_i id off n sz hb
  rw [hb] at rx;generalize hv:a.eval x=v at rx
  simp at e;obtain ⟨rfl,rfl⟩:=e
  cases rx<;>exact OpRes.same H (by simp [execOp,hop,hv,resolve,invoke,builtin,Builtin.len_,run_underlying ht,goInt];try rfl) (.int _ _)
 ·simp at e
theorem op_slen (H:HRel w G h) (hc:Ops a w G c ev) {x:Operand} {x':Opd} {t:TypeId} (hx:c x=some x') (ht:P.underlying t=some .string)
  (hop:o.op = .call { callee := .builtin .len,args:=#[x],argTypes:=#[t] })
  (e:evalA (.slen x') ev h=some (r,h')):OpRes P o a w G h r h':=by
 have rx:=hc _ _ hx
 simp only [evalA] at e
 split at e
 ·rename_i s hb
  rw [hb] at rx;generalize hv:a.eval x=v at rx
  simp at e;obtain ⟨rfl,rfl⟩:=e
  cases rx;exact OpRes.same H (by simp [execOp,hop,hv,resolve,invoke,builtin,Builtin.len_,run_underlying ht,goInt];try rfl) (.int _ _)
 ·simp at e
theorem run_part {t:TypeId} {xs:Array Value} {off:Nat} {v:Value} (ha:tAgg P t=some false) (hv:xs[off]?=some v) (w:World):(part t xs off).run P w = .ok v w:=by
 simp [part,run_isAgg' ha,hv]
theorem bytes_beq (a b:ByteArray):(a.data.toList == b.data.toList)=(a == b):=by
 rw [beq_toListBytes,ByteArray.toList_eq,ByteArray.toList_eq]
theorem cellEq_ok {t:TypeId} {x y:AVal} {u v:Value} {k:CK} {q:Bool} (hk:match k with
   | .int=>∃ kk,P.underlying t=some (.int kk)
   | .bool=>P.underlying t=some .bool
   | .str=>P.underlying t=some .string) (hu:VRel w G u x) (hv:VRel w G v y) (e:cellEq k x y=some q) (d:Nat):(Op.equalIn (d+1) t u v).run P w = .ok q w:=by
 unfold cellEq at e
 split at e
 ·obtain rfl:=Option.some.inj e
  cases hu;cases hv
  exact run_equalIn_bool' w d _ _ _ hk
 ·obtain ⟨kk,hk⟩:=hk
  split at e
  ·rename_i hkk
   obtain rfl:=Option.some.inj e
   subst hkk
   cases hu;cases hv
   exact run_equalIn_int w d t _ _ _ _ hk
  ·simp at e
 ·obtain rfl:=Option.some.inj e
  cases hu;cases hv
  rw [run_equalIn_string w d _ _ _ hk,ByteArray.toList_eq,ByteArray.toList_eq]
 ·simp at e
theorem eqFields_ok:∀ {fs:List Field} {i:Nat} {ks:List CK} {asx bs:List AVal} {xs ys:Array Value} {b:Bool},fieldKs P fs i=some ks→cellsEq ks asx bs=some b →
  (∀ (k:Nat) (x:AVal),asx[k]?=some x→∃ v,xs[i+k]?=some v∧VRel w G v x)→(∀ (k:Nat) (x:AVal),bs[k]?=some x→∃ v,ys[i+k]?=some v∧VRel w G v x) →
  (Op.eqFields 9999 xs ys fs).run P w = .ok b w
 | [],i,ks,asx,bs,xs,ys,b,hf,h3,_,_=>by
   simp [fieldKs] at hf;subst hf
   unfold cellsEq at h3
   split at h3
   ·simp at h3;subst h3;simp [Op.eqFields]
   ·simp_all
   ·simp at h3
 | f::fs,i,ks,asx,bs,xs,ys,b,hf,h3,hx,hy=>by
   simp only [fieldKs] at hf
   split at hf
   ·rename_i hn
    obtain ⟨n1,n2⟩:=hn
    have key:∃ k ks',ks=k::ks'∧fieldKs P fs (i+1)=some ks'∧tAgg P f.type=some false∧(match k with
      | .int=>∃ kk,P.underlying f.type=some (.int kk)
      | .bool=>P.underlying f.type=some .bool
      | .str=>P.underlying f.type=some .string):=by
     split at hf
     ·rename_i h1 h2;obtain rfl:=Option.some.inj hf;exact ⟨_,_,rfl,h2,by simp [tAgg,h1,isAggD],_,h1⟩
     ·rename_i h1 h2;obtain rfl:=Option.some.inj hf;exact ⟨_,_,rfl,h2,by simp [tAgg,h1,isAggD],h1⟩
     ·rename_i h1 h2;obtain rfl:=Option.some.inj hf;exact ⟨_,_,rfl,h2,by simp [tAgg,h1,isAggD],h1⟩
     ·simp at hf
    obtain ⟨k,ks',rfl,hks,hag,hkind⟩:=key
    match asx,bs with
    | [],_=>simp [cellsEq] at h3
    | _::_,[]=>simp [cellsEq] at h3
    | x::asx,y::bs =>
      obtain ⟨u,hu1,hu2⟩:=hx 0 x rfl
      obtain ⟨v,hv1,hv2⟩:=hy 0 y rfl
      have ih:∀ {b},cellsEq ks' asx bs=some b→(Op.eqFields 9999 xs ys fs).run P w = .ok b w:=fun hb =>
       eqFields_ok (i:=i+1) hks hb
        (fun k z hz=>by have:=hx (k+1) z (by simpa using hz);rwa [show i+(k+1)=i+1+k by omega] at this)
        (fun k z hz=>by have:=hy (k+1) z (by simpa using hz);rwa [show i+(k+1)=i+1+k by omega] at this)
      have hoff:f.offset=i+0:=n2
      simp only [Op.eqFields,Sem.run_bind,Sem.run_ite,n1,ne_eq,not_false_eq_true,if_true,hoff,run_part hag hu1,run_part hag hv1,Result.andThen_ok]
      simp only [cellsEq] at h3
      split at h3
      ·rename_i hq;rw [cellEq_ok hkind hu2 hv2 hq 9998];simpa using ih h3
      ·rename_i hq;rw [cellEq_ok hkind hu2 hv2 hq 9998];simp at h3;subst h3;simp
      ·simp at h3
   ·simp at hf
theorem run_partA {t:TypeId} {xs:Array Value} {off n:Nat} (ha:tAgg P t=some true) (hs:tSize P t=some n) (w:World):(part t xs off).run P w = .ok (.agg (xs.extract off (off+n))) w:=by
 simp [part,run_isAgg' ha,run_sizeOf' hs]
theorem cellsEq_append:∀ {k0 k1:List CK} {asx bs:List AVal} {b:Bool},cellsEq (k0++k1) asx bs=some b →
  ∃ q,cellsEq k0 (asx.take k0.length) (bs.take k0.length)=some q∧(q=true→cellsEq k1 (asx.drop k0.length) (bs.drop k0.length)=some b)∧(q=false→b=false)
 | [],k1,asx,bs,b,h=>⟨true,by simp [cellsEq],fun _=>by simpa using h,by simp⟩
 | k::k0,k1,[],bs,b,h=>by simp [cellsEq] at h
 | k::k0,k1,_::_,[],b,h=>by simp [cellsEq] at h
 | k::k0,k1,x::asx,y::bs,b,h=>by
   simp only [List.cons_append,cellsEq] at h
   split at h
   ·rename_i hq
    obtain ⟨q,e1,e2,e3⟩:=cellsEq_append h
    exact ⟨q,by simp [cellsEq,hq,e1],by simpa using e2,e3⟩
   ·rename_i hq
    simp at h
    exact ⟨false,by simp [cellsEq,hq],by simp,fun _=>h⟩
   ·simp at h
def SubOk (P:Program) (w:World) (G:Ghost) (d:Nat) (sub:TypeId→Option (List CK)):Prop :=
 ∀ t ks,sub t=some ks→tAgg P t=some true∧tSize P t=some ks.length∧∀ (d':Nat) (xs ys:Array Value) (asx bs:List AVal) (q:Bool),d≤d'→cellsEq ks asx bs=some q →
   (∀ (k:Nat) (x:AVal),asx[k]?=some x→∃ v,xs[k]?=some v∧VRel w G v x)→(∀ (k:Nat) (x:AVal),bs[k]?=some x→∃ v,ys[k]?=some v∧VRel w G v x)→(Op.equalIn (d'+1) t (.agg xs) (.agg ys)).run P w = .ok q w
theorem subOk_none:SubOk P w G 0 (fun _=>none):=fun t ks h=>by simp at h
theorem eqFieldsN_ok {sub:TypeId→Option (List CK)} {d d':Nat} (hd:d≤d') (hsub:SubOk P w G d sub):∀ {fs:List Field} {i:Nat} {ks:List CK} {asx bs:List AVal} {xs ys:Array Value} {b:Bool},fieldKN P sub fs i=some ks→cellsEq ks asx bs=some b →
  (∀ (k:Nat) (x:AVal),asx[k]?=some x→∃ v,xs[i+k]?=some v∧VRel w G v x)→(∀ (k:Nat) (x:AVal),bs[k]?=some x→∃ v,ys[i+k]?=some v∧VRel w G v x) →
  (Op.eqFields (d'+1) xs ys fs).run P w = .ok b w
 | [],i,ks,asx,bs,xs,ys,b,hf,h3,_,_=>by
   simp [fieldKN] at hf;subst hf
   unfold cellsEq at h3
   split at h3
   ·simp at h3;subst h3;simp [Op.eqFields]
   ·simp_all
   ·simp at h3
 | f::fs,i,ks,asx,bs,xs,ys,b,hf,h3,hx,hy=>by
   simp only [fieldKN] at hf
   split at hf
   ·rename_i hn
    obtain ⟨n1,n2⟩:=hn
    split at hf
    ·rename_i k0 hk0
     simp only [Option.map_eq_some_iff] at hf
     obtain ⟨k1,hk1,rfl⟩:=hf
     obtain ⟨s1,s2,s3⟩:=hsub _ _ hk0
     obtain ⟨q,e1,e2,e3⟩:=cellsEq_append h3
     have hin:∀ {zs:Array Value} {zz:List AVal},(∀ (k:Nat) (x:AVal),zz[k]?=some x→∃ v,zs[i+k]?=some v∧VRel w G v x)→∀ (k:Nat) (x:AVal),(zz.take k0.length)[k]?=some x→∃ v,(zs.extract i (i+k0.length))[k]?=some v∧VRel w G v x:=by
      intro zs zz hz k x hk
      have hlt:k<k0.length:=by
       have:=(List.getElem?_eq_some_iff.1 hk).1
       rw [List.length_take] at this;omega
      rw [List.getElem?_take_of_lt hlt] at hk
      obtain ⟨v,hv1,hv2⟩:=hz k x hk
      have hb:=(Array.getElem?_eq_some_iff.1 hv1).1
      refine ⟨v,?_,hv2⟩
      rw [Array.getElem?_extract,if_pos (by omega)]
      exact hv1
     have heq:=s3 d' (xs.extract i (i+k0.length)) (ys.extract i (i+k0.length)) _ _ q hd e1 (hin hx) (hin hy)
     have hoff:f.offset=i:=n2
     simp only [Op.eqFields,Sem.run_bind,Sem.run_ite,n1,ne_eq,not_false_eq_true,if_true,hoff,run_partA s1 s2,Result.andThen_ok,heq]
     cases q with
     | true =>
       have ih:=eqFieldsN_ok hd hsub hk1 (e2 rfl)
        (fun k z hz=>by rw [List.getElem?_drop] at hz;have:=hx (k0.length+k) z hz;rwa [show i+(k0.length+k)=i+k0.length+k by omega] at this)
        (fun k z hz=>by rw [List.getElem?_drop] at hz;have:=hy (k0.length+k) z hz;rwa [show i+(k0.length+k)=i+k0.length+k by omega] at this)
       simpa using ih
     | false =>
       rw [e3 rfl];simp
    ·have key:∃ k ks',ks=k::ks'∧fieldKN P sub fs (i+1)=some ks'∧tAgg P f.type=some false∧(match k with
       | .int=>∃ kk,P.underlying f.type=some (.int kk)
       | .bool=>P.underlying f.type=some .bool
       | .str=>P.underlying f.type=some .string):=by
      split at hf
      ·rename_i h1 h2;obtain rfl:=Option.some.inj hf;exact ⟨_,_,rfl,h2,by simp [tAgg,h1,isAggD],_,h1⟩
      ·rename_i h1 h2;obtain rfl:=Option.some.inj hf;exact ⟨_,_,rfl,h2,by simp [tAgg,h1,isAggD],h1⟩
      ·rename_i h1 h2;obtain rfl:=Option.some.inj hf;exact ⟨_,_,rfl,h2,by simp [tAgg,h1,isAggD],h1⟩
      ·simp at hf
     obtain ⟨k,ks',rfl,hks,hag,hkind⟩:=key
     match asx,bs with
     | [],_=>simp [cellsEq] at h3
     | _::_,[]=>simp [cellsEq] at h3
     | x::asx,y::bs =>
       obtain ⟨u,hu1,hu2⟩:=hx 0 x rfl
       obtain ⟨v,hv1,hv2⟩:=hy 0 y rfl
       have ih:∀ {b},cellsEq ks' asx bs=some b→(Op.eqFields (d'+1) xs ys fs).run P w = .ok b w:=fun hb =>
        eqFieldsN_ok (i:=i+1) hd hsub hks hb
         (fun k z hz=>by have:=hx (k+1) z (by simpa using hz);rwa [show i+(k+1)=i+1+k by omega] at this)
         (fun k z hz=>by have:=hy (k+1) z (by simpa using hz);rwa [show i+(k+1)=i+1+k by omega] at this)
       have hoff:f.offset=i+0:=n2
       simp only [Op.eqFields,Sem.run_bind,Sem.run_ite,n1,ne_eq,not_false_eq_true,if_true,hoff,run_part hag hu1,run_part hag hv1,Result.andThen_ok]
       simp only [cellsEq] at h3
       split at h3
       ·rename_i hq;rw [cellEq_ok hkind hu2 hv2 hq d'];simpa using ih h3
       ·rename_i hq;rw [cellEq_ok hkind hu2 hv2 hq d'];simp at h3;subst h3;simp
       ·simp at h3
   ·simp at hf
theorem fieldsOf_struct {t:TypeId} {fs:Array Field} (ht:P.underlying t=some (.struct fs)):P.underlying t=some (.struct (P.fieldsOf t))∧P.fieldsOf t=fs:=by
 have:P.fieldsOf t=fs:=by simp [Program.fieldsOf,ht]
 exact ⟨by rw [this];exact ht,this⟩
theorem subOk_next {d:Nat} {sub:TypeId→Option (List CK)} (hsub:SubOk P w G d sub):SubOk P w G (d+1) (structKO P sub):=by
 intro t ks h
 unfold structKO at h
 split at h
 ·rename_i fs hfs
  split at h
  ·rename_i hh
   split at h
   ·rename_i ks' hks
    split at h
    ·rename_i hsz
     obtain rfl:=Option.some.inj h
     obtain ⟨e1,e2⟩:=fieldsOf_struct hfs
     refine ⟨by simp [tAgg,hfs,isAggD],hsz,fun d' xs ys asx bs q hd hq hx hy=>?_⟩
     obtain ⟨d2,rfl⟩:∃ d2,d'=d2+1:=⟨d' - 1,by omega⟩
     rw [run_equalIn_struct w (d2+1) t xs ys e1 hh.1,e2]
     exact eqFieldsN_ok (by omega) hsub hks hq (fun k x hk=>by simpa using hx k x hk) (fun k x hk=>by simpa using hy k x hk)
    ·simp at h
   ·simp at h
  ·simp at h
 ·simp at h
theorem run_cmp {op:BinOp} {t:TypeId} {u v:Value} {q:Bool} {r:AVal} (hne:∀ (q:Bool),(binOp .eql t u v).run P w=((Op.equalIn 10000 t u v).run P w).andThen (fun b w' => .ok (.bool b) w') ∧
   (binOp .neq t u v).run P w=((Op.equalIn 10000 t u v).run P w).andThen (fun b w' => .ok (.bool (!b)) w'))
  (he:(Op.equalIn 10000 t u v).run P w = .ok q w) (e:cmpA op (some q)=some r):(op = .eql∨op = .neq)∧∃ b,r = .bool b∧(binOp op t u v).run P w = .ok (.bool b) w:=by
 cases op<;>simp [cmpA] at e
 ·subst e;exact ⟨.inl rfl,q,rfl,by rw [(hne q).1,he];rfl⟩
 ·subst e;exact ⟨.inr rfl,!q,rfl,by rw [(hne q).2,he];rfl⟩
theorem eqGuard_arith (op:BinOp) (t:TypeId) (x y:Operand) (u v:Value) (h1:u.oneCell'=true) (h2:u ≠ .nilIface):(eqGuard op t x y u v).run P w = .ok () w:=by
 cases u<;>first
  | (simp [Value.oneCell'] at h1;done)
  | exact absurd rfl h2
  | (cases op<;>simp [eqGuard])
def plainV:Value→Bool
 | .pointer _ | .slice _ _ _ | .func _ _ _ | .nilFunc | .bool _ | .map _=>true
 | _=>false
theorem nil_fin {op:BinOp} {t:TypeId} {x y:Operand} {u v:Value} {q:Bool} {r':AVal} (hp:plainV u=true) (he:(Op.equalIn 10000 t u v).run P w = .ok q w) (e:cmpA op (some q)=some r') :
  ∃ z,(eqGuard op t x y u v).run P w = .ok () w∧(binOp op t u v).run P w = .ok z w∧VRel w G z r':=by
 obtain ⟨_,b,rfl,h2⟩:=run_cmp (P:=P) (w:=w) (t:=t) (u:=u) (v:=v) (fun _=>by
  cases u<;>first
   | (simp [plainV] at hp;done)
   | exact ⟨by simp [binOp,Op.equal,Op.maxDepth],by simp [binOp,Op.equal,Op.maxDepth]⟩) he e
 refine ⟨_,eqGuard_arith op t x y u v ?_ ?_,h2,.bool b⟩
 ·cases u<;>first
   | rfl
   | (simp [plainV] at hp;done)
 ·intro hn;subst hn;simp [plainV] at hp
theorem eqIn_ptr {t el:TypeId} (hbk:P.underlying t=some (.pointer el)) (d:Nat) {u v:Option Addr} (h:u=none∨v=none):(Op.equalIn (d+1) t (.pointer u) (.pointer v)).run P w = .ok (u.isNone && v.isNone) w:=by
 cases u<;>cases v<;>simp [Op.equalIn,run_underlying hbk] at * 
theorem eqIn_mp {t k el:TypeId} (hbk:P.underlying t=some (.map k el)) (d:Nat) {u v:Option Nat} (h:u=none∨v=none):(Op.equalIn (d+1) t (.map u) (.map v)).run P w = .ok (u.isNone && v.isNone) w:=by
 cases u<;>cases v<;>simp [Op.equalIn,run_underlying hbk] at *
theorem eqIn_sl {t el:TypeId} (hbk:P.underlying t=some (.slice el)) (d:Nat) (u:Option Addr) (l k:Nat):(Op.equalIn (d+1) t (.slice u l k) (.slice none 0 0)).run P w = .ok u.isNone w:=by
 cases u<;>simp [Op.equalIn,run_underlying hbk]
theorem eqIn_fn {t:TypeId} {a b:Array TypeId} {vr:Bool} (hbk:P.underlying t=some (.func a b vr)) (d:Nat):(Op.equalIn (d+1) t .nilFunc .nilFunc).run P w = .ok true w ∧
  (∀ f x y,(Op.equalIn (d+1) t .nilFunc (.func f x y)).run P w = .ok false w)∧(∀ f x y,(Op.equalIn (d+1) t (.func f x y) .nilFunc).run P w = .ok false w):=by
 refine ⟨?_,fun f x y=>?_,fun f x y=>?_⟩<;>simp [Op.equalIn,run_underlying hbk]
theorem eqArr_ok {t el:TypeId} {k:CK} {n d:Nat} (hag:tAgg P el=some false) (he:∀ {u v:Value} {x y:AVal} {q:Bool},VRel w G u x→VRel w G v y→cellEq k x y=some q→(Op.equalIn d el u v).run P w = .ok q w)
  (hu:P.underlying t=some (.array n el)) (hs:tSize P el=some 1) {xs ys:Array Value} {asx bs:List AVal} {q:Bool} (h:cellsEq (List.replicate n k) asx bs=some q)
  (hx:∀ (j:Nat) (x:AVal),asx[j]?=some x→∃ v,xs[j]?=some v∧VRel w G v x) (hy:∀ (j:Nat) (x:AVal),bs[j]?=some x→∃ v,ys[j]?=some v∧VRel w G v x) :
  (Op.equalIn (d+1) t (.agg xs) (.agg ys)).run P w = .ok q w:=by
 simp only [Op.equalIn,Sem.run_bind,run_underlying hu,Result.andThen_ok,run_sizeOf' hs,Std.Legacy.Range.forIn_eq_forIn_range',Std.Legacy.Range.size,Nat.sub_zero,Nat.add_one_sub_one,Nat.div_one]
 have hx':∀ (j:Nat) (x:AVal),asx[j]?=some x→∃ v,xs[0+j]?=some v∧VRel w G v x:=fun j x hj=>by simpa using hx j x hj
 have hy':∀ (j:Nat) (x:AVal),bs[j]?=some x→∃ v,ys[0+j]?=some v∧VRel w G v x:=fun j x hj=>by simpa using hy j x hj
 clear hx hy hu
 generalize (0:Nat)=i at hx' hy' ⊢
 induction n generalizing i asx bs with
 | zero =>
   unfold cellsEq at h
   split at h
   ·simp at h;subst h;simp
   ·simp_all
   ·simp at h
 | succ m ih =>
   match asx,bs with
   | [],_=>simp [cellsEq,List.replicate_succ] at h
   | _::_,[]=>simp [cellsEq,List.replicate_succ] at h
   | x::asx,y::bs =>
     obtain ⟨u,hu1,hu2⟩:=hx' 0 x rfl
     obtain ⟨v,hv1,hv2⟩:=hy' 0 y rfl
     rw [Nat.add_zero] at hu1 hv1
     simp only [List.replicate_succ,cellsEq] at h
     have p1:(part el xs (i*1)).run P w = .ok u w:=by rw [Nat.mul_one];exact run_part hag hu1 w
     have p2:(part el ys (i*1)).run P w = .ok v w:=by rw [Nat.mul_one];exact run_part hag hv1 w
     rw [List.range'_succ]
     split at h
     ·rename_i hq
      have hee:=he hu2 hv2 hq
      have ih':=ih (asx:=asx) (bs:=bs) h (i+1) (fun j z hz=>by have:=hx' (j+1) z (by simpa using hz);rwa [show i+(j+1)=i+1+j by omega] at this)
       (fun j z hz=>by have:=hy' (j+1) z (by simpa using hz);rwa [show i+(j+1)=i+1+j by omega] at this)
      simp only [List.forIn_cons,Sem.run_bind,p1,p2,hee,Result.andThen_ok,Bool.not_true,Bool.false_eq_true,if_false,Sem.run_pure] at ih' ⊢
      exact ih'
     ·rename_i hq
      have hee:=he hu2 hv2 hq
      simp at h;subst h
      simp only [List.forIn_cons,Sem.run_bind,p1,p2,hee,Result.andThen_ok,Bool.not_false,if_true,Sem.run_pure]
     ·simp at h
theorem op_bin (H:HRel w G h) (hc:Ops a w G c ev) {op:BinOp} {t yt:TypeId} {x y:Operand} {x' y':Opd} {bk:BK} (hx:c x=some x') (hy:c y=some y')
  (hbk:match bk with
   | .arith=>True
   | .bool=>P.underlying t=some .bool
   | .struct ks=>structKN P t=some ks∨arrKs P t=some ks
   | .ptr=>∃ e,P.underlying t=some (.pointer e)
   | .sl=>∃ e,P.underlying t=some (.slice e)
   | .fn=>∃ a b v,P.underlying t=some (.func a b v)
   | .mp=>∃ a b,P.underlying t=some (.map a b)) (hop:o.op = .binOp op t x y yt)
  (e:evalA (.bin op bk x' y') ev h=some (r,h')):OpRes P o a w G h r h':=by
 have rx:=hc _ _ hx
 have ry:=hc _ _ hy
 simp only [evalA,Option.map_eq_some_iff,Prod.mk.injEq] at e
 obtain ⟨r',e,rfl,rfl⟩:=e
 generalize hv:a.eval x=u at rx
 generalize hv':a.eval y=v at ry
 suffices hs:∃ z,(eqGuard op t x y u v).run P w = .ok () w∧(binOp op t u v).run P w = .ok z w∧VRel w G z r' by
  obtain ⟨z,h1,h2,h3⟩:=hs
  exact OpRes.same H (by simp [execOp,hop,hv,hv',h1,h2]) h3
 unfold binA at e
 split at e
 ·rename_i k n k' m hb hb'
  rw [hb] at rx;rw [hb'] at ry
  cases rx;cases ry
  split at e
  ·rename_i ho
   obtain ⟨z,h1,h2⟩:=shift_ok (P:=P) (w:=w) (G:=G) (k':=k') t ho e
   exact ⟨z,eqGuard_arith _ _ _ _ _ _ rfl (by simp),h1,h2⟩
  ·rename_i ho
   split at e
   ·rename_i hk
    subst hk
    obtain ⟨z,h1,h2⟩:=intBin_ok (P:=P) (w:=w) (G:=G) (op:=op) (k:=k) (x:=n) (y:=m) (r:=r') t (by
     cases op<;>first
      | exact e
      | simp at ho)
    exact ⟨z,eqGuard_arith _ _ _ _ _ _ rfl (by simp),h1,h2⟩
   ·simp at e
 ·rename_i l m hb hb'
  rw [hb] at rx;rw [hb'] at ry
  cases rx;cases ry
  obtain ⟨z,h1,h2⟩:=strBin_ok (P:=P) (w:=w) (G:=G) t e
  exact ⟨z,eqGuard_arith _ _ _ _ _ _ rfl (by simp),h1,h2⟩
 ·rename_i l m hb hb'
  rw [hb] at rx;rw [hb'] at ry
  cases rx;cases ry
  exact nil_fin rfl (run_equalIn_bool' w 9999 t l m hbk) e
 ·rename_i ks xs ys hb hb'
  rw [hb] at rx;rw [hb'] at ry
  cases hq:cellsEq ks xs ys with
  | none=>rw [hq] at e;cases op<;>simp [cmpA] at e
  | some q =>
    rw [hq] at e
    rcases hbk with hbk|hbk
    ·simp only [structKN,structKO] at hbk
     split at hbk
     ·rename_i fs hfs
      split at hbk
      ·rename_i hh
       have hbk:fieldKN P (structKO P (structKO P fun _=>none)) fs.toList 0=some ks:=by
        split at hbk
        ·rename_i ks' hks'
         split at hbk
         ·rw [←Option.some.inj hbk];exact hks'
         ·simp at hbk
        ·simp at hbk
       obtain ⟨e1,e2⟩:=fieldsOf_struct hfs
       cases rx with
       | agg asx _ hl hr h4 =>
         cases ry with
         | agg bs _ hl' hr' h4' =>
           have hE:=eqFieldsN_ok (P:=P) (w:=w) (G:=G) (xs:=asx) (ys:=bs) (d:=2) (d':=9998) (by omega) (subOk_next (subOk_next subOk_none)) hbk hq (fun k z hz=>by
             obtain ⟨u,hu⟩:∃ u,asx[k]?=some u:=⟨_,Array.getElem?_eq_getElem (by rw [hl];exact (List.getElem?_eq_some_iff.1 hz).1)⟩
             exact ⟨u,by simpa using hu,hr k u z hu hz⟩) (fun k z hz=>by
             obtain ⟨u,hu⟩:∃ u,bs[k]?=some u:=⟨_,Array.getElem?_eq_getElem (by rw [hl'];exact (List.getElem?_eq_some_iff.1 hz).1)⟩
             exact ⟨u,by simpa using hu,hr' k u z hu hz⟩)
           have hE':(Op.equalIn 10000 t (.agg asx) (.agg bs)).run P w = .ok q w:=by
            rw [run_equalIn_struct w 9999 t asx bs e1 hh.1,e2];exact hE
           obtain ⟨ho,b,rfl,h2⟩:=run_cmp (P:=P) (w:=w) (t:=t) (u := .agg asx) (v := .agg bs) (fun _=>⟨run_eql_struct w t asx bs,run_neq_struct w t asx bs⟩) hE' e
           exact ⟨_,run_eqGuard_agg w op t x y asx bs hh.2,h2,.bool b⟩
      ·simp at hbk
     ·simp at hbk
    ·unfold arrKs at hbk
     split at hbk
     ·rename_i n el hu
      split at hbk
      ·rename_i hg
       cases rx with
       | agg asx _ hl hr h4 =>
         cases ry with
         | agg bs _ hl' hr' h4' =>
           have hE':(Op.equalIn 10000 t (.agg asx) (.agg bs)).run P w = .ok q w:=by
            have hx':∀ (j:Nat) (x:AVal),xs[j]?=some x→∃ v,asx[0+j]?=some v∧VRel w G v x:=fun j z hz=>by
             obtain ⟨u,hu⟩:∃ u,asx[j]?=some u:=⟨_,Array.getElem?_eq_getElem (by rw [hl];exact (List.getElem?_eq_some_iff.1 hz).1)⟩
             exact ⟨u,by simpa using hu,hr j u z hu hz⟩
            have hy':∀ (j:Nat) (x:AVal),ys[j]?=some x→∃ v,bs[0+j]?=some v∧VRel w G v x:=fun j z hz=>by
             obtain ⟨u,hu⟩:∃ u,bs[j]?=some u:=⟨_,Array.getElem?_eq_getElem (by rw [hl'];exact (List.getElem?_eq_some_iff.1 hz).1)⟩
             exact ⟨u,by simpa using hu,hr' j u z hu hz⟩
            obtain ⟨k,hk1,hk2,hk3⟩:∃ k:CK,ks=List.replicate n k∧tSize P el=some 1∧(match k with
              | .int=>∃ kk,P.underlying el=some (.int kk)
              | .bool=>P.underlying el=some .bool
              | .str=>P.underlying el=some .string):=by
             split at hbk
             ·rename_i h1 h2;exact ⟨.int,(Option.some.inj hbk).symm,h2,_,h1⟩
             ·rename_i h1 h2;exact ⟨.bool,(Option.some.inj hbk).symm,h2,h1⟩
             ·rename_i h1 h2;exact ⟨.str,(Option.some.inj hbk).symm,h2,h1⟩
             ·simp at hbk
            subst hk1
            have hag:tAgg P el=some false:=by
             cases k
             ·obtain ⟨kk,hk⟩:=hk3;simp [tAgg,hk,isAggD]
             ·simp only at hk3;simp [tAgg,hk3,isAggD]
             ·simp only at hk3;simp [tAgg,hk3,isAggD]
            exact eqArr_ok (P:=P) (w:=w) (G:=G) (d:=9999) hag (fun h1 h2 h3=>cellEq_ok hk3 h1 h2 h3 9998) hu hk2 hq (fun j x hj=>by simpa using hx' j x hj) (fun j x hj=>by simpa using hy' j x hj)
           obtain ⟨ho,b,rfl,h2⟩:=run_cmp (P:=P) (w:=w) (t:=t) (u := .agg asx) (v := .agg bs) (fun _=>⟨run_eql_struct w t asx bs,run_neq_struct w t asx bs⟩) hE' e
           exact ⟨_,run_eqGuard_agg w op t x y asx bs hg,h2,.bool b⟩
      ·simp at hbk
     ·simp at hbk
 ·obtain ⟨el,hbk⟩:=hbk
  unfold ptrEq at e
  split at e<;>first
   | (rename_i hb hb'
      rw [hb] at rx;rw [hb'] at ry
      cases rx<;>cases ry<;>exact nil_fin rfl (eqIn_ptr hbk 9999 (by simp)) e)
   | (cases op<;>simp [cmpA] at e;done)
 ·obtain ⟨el,hbk⟩:=hbk
  unfold slEq at e
  split at e<;>first
   | (rename_i hb hb'
      rw [hb] at rx;rw [hb'] at ry
      cases rx<;>cases ry<;>first
       | exact nil_fin rfl (eqIn_sl hbk 9999 _ _ _) e
       | (simp at *;done))
   | (cases op<;>simp [cmpA] at e;done)
 ·obtain ⟨el,el2,el3,hbk⟩:=hbk
  unfold fnEq at e
  split at e<;>first
   | (rename_i hb hb'
      rw [hb] at rx;rw [hb'] at ry
      cases rx<;>cases ry<;>first
       | exact nil_fin rfl (eqIn_fn hbk 9999).1 e
       | exact nil_fin rfl ((eqIn_fn hbk 9999).2.1 _ _ _) e
       | exact nil_fin rfl ((eqIn_fn hbk 9999).2.2 _ _ _) e)
   | (cases op<;>simp [cmpA] at e;done)
 ·obtain ⟨el,el2,hbk⟩:=hbk
  unfold mpEq at e
  split at e<;>first
   | (rename_i hb hb'
      rw [hb] at rx;rw [hb'] at ry
      cases rx<;>cases ry<;>exact nil_fin rfl (eqIn_mp hbk 9999 (by simp)) e)
   | (cases op<;>simp [cmpA] at e;done)
 ·simp at e
end
end Go.Abs

namespace Go.Abs
section
variable {P:Program} {o:Oper} {a:Act} {w:World} {G:Ghost} {h:Heap} {c:Operand→Option Opd} {ev:Opd→AVal} {r:AVal} {h':Heap}
theorem op_iaddr (H:HRel w G h) (hc:Ops a w G c ev) {x i:Operand} {x' i':Opd} {t el:TypeId} {sz:Nat} (hx:c x=some x') (hi:c i=some i') (ht:P.underlying t=some (.slice el)) (hs:tSize P el=some sz)
  (hop:o.op = .indexAddr t x i) (e:evalA (.iaddr sz x' i') ev h=some (r,h')):OpRes P o a w G h r h':=by
 have rx:=hc _ _ hx
 have ri:=hc _ _ hi
 simp only [evalA] at e
 split at e
 ·rename_i xs tk k n hb hb'
  rw [hb] at rx;rw [hb'] at ri
  generalize hv:a.eval x=v at rx
  generalize hv':a.eval i=v' at ri
  split at e
  ·rename_i hn
   split at e
   ·rename_i y hy
    split at e
    ·rename_i hsz
     simp at e;obtain ⟨rfl,rfl⟩:=e
     cases ri
     cases rx with
     | nilsl=>simp at hn;omega
     | emp=>simp at hn;omega
     | sl b off cap sz0 _ _ u h0 h1 h2 h3 h4 h5 hcp hnn ho =>
       have:sz0=sz:=by rw [←h0 y (List.mem_of_getElem? hy)];exact hsz
       subst this
       have hlt:n.toNat<xs.length:=by omega
       have hget:∀ (j:Nat) (cc:AVal),y.cells[j]?=some cc→(flat xs)[n.toNat*sz0+j]?=some cc:=fun j cc hj=>by
        rw [flat_get h0 hy (by rw [←hsz];exact (List.getElem?_eq_some_iff.1 hj).1)];exact hj
       refine OpRes.same H (v := .pointer (some ⟨b,off+n.toNat*sz0,none⟩)) ?_ (.rp b (off+n.toNat*sz0) y.cells (fun j=>u (n.toNat*sz0+j)) (fun j cc hj=>?_) (fun j cc hj=>h2 _ cc (hget j cc hj)) (fun j hj=>?_) (fun cc hcc=>?_))
       ·simp [execOp,hop,hv,hv',Instr.indexAt,asIntOf,run_underlying ht,hn,run_sizeOf' hs,Addr.add_lit]
       ·rw [Nat.add_assoc];exact h1 _ cc (hget j cc hj)
       ·rw [Nat.add_assoc];refine h3 _ ?_
        have hj':=hget j _ (List.getElem?_eq_getElem hj)
        exact (List.getElem?_eq_some_iff.1 hj').1
       ·obtain ⟨j,hj⟩:=mem_get hcc
        exact h4 cc (List.mem_of_getElem? (hget j cc hj))
    ·simp at e
   ·simp at e
  ·simp at e
 ·rename_i id off len s k n hb hb'
  rw [hb] at rx;rw [hb'] at ri
  generalize hv:a.eval x=v at rx
  generalize hv':a.eval i=v' at ri
  split at e
  ·rename_i hn
   obtain ⟨hn1,hn2,rfl⟩:=hn
   simp at e;obtain ⟨rfl,rfl⟩:=e
   cases ri
   cases rx with
   | ref0=>simp at hn2;omega
   | ref _ _ _ _ cap hid hcp hsh =>
     exact OpRes.same H (by simp [execOp,hop,hv,hv',Instr.indexAt,asIntOf,run_underlying ht,hn1,hn2,run_sizeOf' hs,Addr.add_lit]) (.ptr _ _ hid)
  ·simp at e
 ·simp at e
theorem op_aaddr (H:HRel w G h) (hc:Ops a w G c ev) {x i:Operand} {x' i':Opd} {t el:TypeId} {n sz:Nat} (hx:c x=some x') (hi:c i=some i') (ht:P.underlying t=some (.array n el)) (hs:tSize P el=some sz)
  (hop:o.op = .indexAddr t x i) (e:evalA (.aaddr n sz x' i') ev h=some (r,h')):OpRes P o a w G h r h':=by
 have rx:=hc _ _ hx
 have ri:=hc _ _ hi
 simp only [evalA] at e
 split at e
 ·rename_i id off k m hb hb'
  rw [hb] at rx;rw [hb'] at ri
  generalize hv:a.eval x=v at rx
  generalize hv':a.eval i=v' at ri
  split at e
  ·rename_i hn
   simp at e;obtain ⟨rfl,rfl⟩:=e
   cases ri
   cases rx with
   | ptr _ _ hid=>exact OpRes.same H (by simp [execOp,hop,hv,hv',Instr.indexAt,asIntOf,run_underlying ht,hn,run_sizeOf' hs,Addr.add_lit,Instr.sureAddr]) (.ptr _ _ hid)
  ·simp at e
 ·rename_i cs k m hb hb'
  rw [hb] at rx;rw [hb'] at ri
  generalize hv:a.eval x=v at rx
  generalize hv':a.eval i=v' at ri
  split at e
  ·rename_i hn
   simp at e;obtain ⟨rfl,rfl⟩:=e
   cases ri
   cases rx with
   | rp b off _ u h1 h2 h3 h4 =>
     refine OpRes.same H (by simp [execOp,hop,hv,hv',Instr.indexAt,asIntOf,run_underlying ht,hn,run_sizeOf' hs,Addr.add_lit,Instr.sureAddr]) (.rp b (off+m.toNat*sz) (cs.drop (m.toNat*sz)) (fun k=>u (m.toNat*sz+k)) (fun k c hk=>?_) (fun k c hk=>?_) (fun k hk=>?_) (fun c hc'=>h4 c (List.mem_of_mem_drop hc')))
     ·rw [List.getElem?_drop] at hk;rw [Nat.add_assoc];exact h1 _ c hk
     ·rw [List.getElem?_drop] at hk;exact h2 _ c hk
     ·simp at hk;rw [Nat.add_assoc];exact h3 _ (by omega)
  ·simp at e
 ·simp at e
theorem part_ok {t:TypeId} {n off:Nat} {ag:Bool} {cs:Array Value} {asx:List AVal} {r:AVal} (hs:tSize P t=some n) (ha:tAgg P t=some ag) (hl:cs.size=asx.length)
  (hh:∀ (k:Nat) (c:Value) (a:AVal),cs[k]?=some c→asx[k]?=some a→VRel w G c a) (h4:∀ c∈asx,c.one=true) (hn:off+n≤asx.length) (hm:mk ag ((asx.drop off).take n)=some r) :
  ∃ v,(part t cs off).run P w = .ok v w∧VRel w G v r:=by
 cases ag with
 | true =>
   simp [mk] at hm;subst hm
   refine ⟨.agg (cs.extract off (off+n)),by simp [part,run_isAgg' ha,run_sizeOf' hs],.agg _ _ (by simp;omega) (fun k c a hc ha=>?_) (fun c hc=>h4 c (List.mem_of_mem_drop (List.mem_of_mem_take hc)))⟩
   rw [List.getElem?_take] at ha
   split at ha
   ·rw [List.getElem?_drop] at ha
    refine hh (off+k) c a ?_ ha
    rw [Array.getElem?_extract] at hc
    split at hc
    ·exact hc
    ·simp at hc
   ·simp at ha
 | false =>
   simp only [mk,Bool.false_eq_true,if_false] at hm
   split at hm
   ·rename_i c hc
    obtain rfl:=Option.some.inj hm
    have h0:((asx.drop off).take n)[0]?=some c:=by rw [hc];rfl
    rw [List.getElem?_take] at h0
    split at h0
    ·rw [List.getElem?_drop,Nat.add_zero] at h0
     obtain ⟨u,hu⟩:∃ u,cs[off]?=some u:=⟨_,Array.getElem?_eq_getElem (by rw [hl];exact (List.getElem?_eq_some_iff.1 h0).1)⟩
     exact ⟨u,run_part ha hu w,hh off u c hu h0⟩
    ·simp at h0
   ·simp at hm
theorem op_field (H:HRel w G h) (hc:Ops a w G c ev) {x:Operand} {x':Opd} {t:TypeId} {fs:Array Field} {i n:Nat} {f:Field} {ag:Bool} (hx:c x=some x') (ht:P.underlying t=some (.struct fs)) (hf:fs[i]?=some f)
  (hs:tSize P f.type=some n) (ha:tAgg P f.type=some ag) (hop:o.op = .field t x i) (e:evalA (.field f.offset n ag x') ev h=some (r,h')):OpRes P o a w G h r h':=by
 have rx:=hc _ _ hx
 simp only [evalA] at e
 split at e
 ·rename_i cs hb
  rw [hb] at rx;generalize hv:a.eval x=v at rx
  split at e
  ·rename_i hn
   simp only [Option.map_eq_some_iff,Prod.mk.injEq] at e
   obtain ⟨r',e,rfl,rfl⟩:=e
   cases rx with
   | agg asx _ hl hh h4 =>
     obtain ⟨v,hr,hv'⟩:=part_ok (P:=P) hs ha hl hh h4 hn e
     exact OpRes.same H (by simp [execOp,hop,hv,Instr.field,run_underlying ht,hf,asAgg,hr]) hv'
  ·simp at e
 ·simp at e
theorem op_aidx (H:HRel w G h) (hc:Ops a w G c ev) {x i:Operand} {x' i':Opd} {t el:TypeId} {len n:Nat} {ag:Bool} (hx:c x=some x') (hi:c i=some i') (ht:P.underlying t=some (.array len el))
  (hs:tSize P el=some n) (ha:tAgg P el=some ag) (hop:o.op = .index t x i) (e:evalA (.aidx len n ag x' i') ev h=some (r,h')):OpRes P o a w G h r h':=by
 have rx:=hc _ _ hx
 have ri:=hc _ _ hi
 simp only [evalA] at e
 split at e
 ·rename_i cs k m hb hb'
  rw [hb] at rx;rw [hb'] at ri
  generalize hv:a.eval x=v at rx
  generalize hv':a.eval i=v' at ri
  split at e
  ·rename_i hn
   obtain ⟨hn1,hn2,hn3⟩:=hn
   simp only [Option.map_eq_some_iff,Prod.mk.injEq] at e
   obtain ⟨r',e,rfl,rfl⟩:=e
   cases ri
   cases rx with
   | agg asx _ hl hh h4 =>
     obtain ⟨v,hr,hv''⟩:=part_ok (P:=P) hs ha hl hh h4 hn3 e
     exact OpRes.same H (by simp [execOp,hop,hv,hv',Instr.index,asIntOf,run_underlying ht,hn1,hn2,run_sizeOf' hs,hr]) hv''
  ·simp at e
 ·simp at e
theorem op_sidx (H:HRel w G h) (hc:Ops a w G c ev) {x i:Operand} {x' i':Opd} {t:TypeId} (hx:c x=some x') (hi:c i=some i') (ht:P.underlying t=some .string)
  (hop:o.op = .index t x i) (e:evalA (.sidx x' i') ev h=some (r,h')):OpRes P o a w G h r h':=by
 have rx:=hc _ _ hx
 have ri:=hc _ _ hi
 simp only [evalA] at e
 split at e
 ·rename_i s k m hb hb'
  rw [hb] at rx;rw [hb'] at ri
  generalize hv:a.eval x=v at rx
  generalize hv':a.eval i=v' at ri
  split at e
  ·rename_i hm
   split at e
   ·rename_i b hbb
    simp at e;obtain ⟨rfl,rfl⟩:=e
    cases ri
    cases rx with
    | str s =>
      have hlt:m.toNat<s.size:=(List.getElem?_eq_some_iff.1 hbb).1
      have hidx:0≤m∧m<s.size:=⟨hm,by omega⟩
      have hb2:s[m.toNat]=b:=by
       have:=(List.getElem?_eq_some_iff.1 hbb).2
       exact this
      refine OpRes.same H (v := .int .u8 b.toNat) ?_ (.int _ _)
      simp only [execOp,hop,hv,hv',Sem.run_bind,run_index_string w t s k m ht,dif_pos hidx,Result.andThen_ok,Sem.run_pure,hb2]
   ·simp at e
  ·simp at e
 ·simp at e
theorem bounds_ok {isSlice:Bool} {len cap y d:Nat} {lo hi:Option Value} {lo' hi':Option AVal} (hlo:match lo,lo' with
   | none,none=>True
   | some v,some x=>VRel w G v x
   | _,_=>False) (hhi:match hi,hi' with
   | none,none=>True
   | some v,some x=>VRel w G v x
   | _,_=>False) (hcap:len≤cap) {hh l:Nat} (e1:boundA hi' len len=some hh) (e2:boundA lo' 0 hh=some l) :
  (Instr.sliceBounds isSlice len cap lo hi none).run P w = .ok (l,hh,cap) w∧l≤hh∧hh≤len:=by
 have b:∀ {x:Option AVal} {v:Value} {d y z:Nat} {cap:Nat} {code:BoundsCode},VRel w G v (x.getD .bad)→x.isSome→boundA x d y=some z→y≤cap→(Instr.sliceBound v cap code).run P w = .ok z w∧z≤y:=by
  intro x v d y z cap code hv hsome e hy
  cases x with
  | none=>simp at hsome
  | some x =>
    simp only [Option.getD_some] at hv
    unfold boundA at e
    split at e
    ·simp_all
    ·rename_i k i heq
     obtain rfl:=Option.some.inj heq
     split at e
     ·rename_i hi
      obtain rfl:=Option.some.inj e
      cases hv
      exact ⟨run_sliceBound w k i cap code hi.1 (by omega),by omega⟩
     ·simp at e
    ·simp at e
 have hH:∃ code,(match hi with
   | some v=>Instr.sliceBound v cap code
   | none=>pure len).run P w = .ok hh w∧hh≤len∧code=(if isSlice then BoundsCode.sliceAcap else .sliceAlen):=by
  refine ⟨_,?_,?_,rfl⟩
  ·cases hi with
   | none=>cases hi' with
     | none=>simp [boundA] at e1;subst e1;rfl
     | some x=>simp at hhi
   | some v=>cases hi' with
     | none=>simp at hhi
     | some x=>exact (b (x:=some x) (by simpa using hhi) rfl e1 hcap).1
  ·cases hi' with
   | none=>simp [boundA] at e1;omega
   | some x=>cases hi with
     | none=>simp at hhi
     | some v=>exact (b (x:=some x) (code := .index) (by simpa using hhi) rfl e1 (Nat.le_refl _)).2
 obtain ⟨code,hr,hle,rfl⟩:=hH
 have hL:(match lo with
   | some v=>Instr.sliceBound v hh .sliceB
   | none=>pure 0).run P w = .ok l w∧l≤hh:=by
  cases lo with
  | none=>cases lo' with
    | none=>simp [boundA] at e2;subst e2;exact ⟨rfl,by omega⟩
    | some x=>simp at hlo
  | some v=>cases lo' with
    | none=>simp at hlo
    | some x=>exact b (x:=some x) (by simpa using hlo) rfl e2 (Nat.le_refl _)
 refine ⟨?_,hL.2,hle⟩
 unfold Instr.sliceBounds
 cases hi<;>cases lo<;>simp_all
theorem optO_ok (hc:Ops a w G c ev) {x:Option Operand} {x':Option Opd} (hx:optO c x=some x'):match x.map a.eval,x'.map ev with
   | none,none=>True
   | some v,some y=>VRel w G v y
   | _,_=>False:=by
 cases x with
 | none=>simp [optO] at hx;subst hx;trivial
 | some x =>
   simp only [optO,Option.map_eq_some_iff] at hx
   obtain ⟨y,hy,rfl⟩:=hx
   exact hc _ _ hy
theorem op_sslice (H:HRel w G h) (hc:Ops a w G c ev) {x:Operand} {x':Opd} {lo hi:Option Operand} {lo' hi':Option Opd} {t:TypeId} (hx:c x=some x') (hlo:optO c lo=some lo') (hhi:optO c hi=some hi')
  (ht:P.underlying t=some .string) (hop:o.op = .slice t x lo hi none) (e:evalA (.sslice x' lo' hi') ev h=some (r,h')):OpRes P o a w G h r h':=by
 have rx:=hc _ _ hx
 simp only [evalA,Option.map_eq_some_iff,Prod.mk.injEq] at e
 obtain ⟨r',e,rfl,rfl⟩:=e
 unfold ssliceA at e
 split at e
 ·rename_i s hb
  rw [hb] at rx;generalize hv:a.eval x=v at rx
  split at e
  ·rename_i hh eh
   split at e
   ·rename_i l el
    obtain rfl:=Option.some.inj e
    cases rx with
    | str s =>
      have hsz:s.data.toList.length=s.size:=rfl
      rw [hsz] at eh
      obtain ⟨hb1,hb2,hb3⟩:=bounds_ok (P:=P) (w:=w) (G:=G) (isSlice:=false) (cap:=s.size) (y:=0) (d:=0) (optO_ok hc hlo) (optO_ok hc hhi) (Nat.le_refl _) eh el
      refine OpRes.same H (v := .string (s.extract l hh)) (by simp [execOp,hop,hv,Instr.sliceAt,Instr.slice,run_underlying ht,hb1]) ?_
      have:=VRel.str (w:=w) (G:=G) (s.extract l hh)
      rwa [show (s.extract l hh).data.toList=(s.data.toList.drop l).take (hh - l) by
       rw [ByteArray.data_extract,Array.toList_extract,List.extract_eq_take_drop]] at this
   ·simp at e
  ·simp at e
 ·simp at e
theorem flat_drop_take {sz:Nat} {xs:List AVal} (h0:∀ x∈xs,x.cells.length=sz) (l n:Nat):flat ((xs.drop l).take n)=((flat xs).drop (l*sz)).take (n*sz):=by
 induction xs generalizing l n with
 | nil=>simp [flat]
 | cons x xs ih =>
   have e:flat (x::xs)=x.cells++flat xs:=by simp [flat]
   have hx:=h0 x (by simp)
   have h0':∀ x∈xs,x.cells.length=sz:=fun y hy=>h0 y (by simp [hy])
   cases l with
   | zero =>
     cases n with
     | zero=>simp [flat]
     | succ n =>
       have e2:flat (x::(xs.take n))=x.cells++flat (xs.take n):=by simp [flat]
       have:=ih h0' 0 n
       simp only [List.drop_zero,Nat.zero_mul] at this ⊢
       rw [List.take_succ_cons,e2,e,this,Nat.succ_mul,Nat.add_comm,←hx,List.take_length_add_append]
   | succ l =>
     rw [List.drop_succ_cons,ih h0' l n,e,Nat.succ_mul,Nat.add_comm,←hx,List.drop_length_add_append]
theorem op_slice (H:HRel w G h) (hc:Ops a w G c ev) {x:Operand} {x':Opd} {lo hi:Option Operand} {lo' hi':Option Opd} {t el:TypeId} {sz:Nat} (hx:c x=some x') (hlo:optO c lo=some lo') (hhi:optO c hi=some hi')
  (ht:P.underlying t=some (.slice el)) (hs:tSize P el=some sz) (hop:o.op = .slice t x lo hi none) (e:evalA (.slice sz x' lo' hi') ev h=some (r,h')):OpRes P o a w G h r h':=by
 have rx:=hc _ _ hx
 simp only [evalA,Option.map_eq_some_iff,Prod.mk.injEq] at e
 obtain ⟨r',e,rfl,rfl⟩:=e
 unfold sliceA at e
 split at e
 ·rename_i xs tk hb
  rw [hb] at rx;generalize hv:a.eval x=v at rx
  split at e
  ·rename_i hh eh
   split at e
   ·rename_i l elo
    split at e
    ·rename_i hcond
     obtain rfl:=Option.some.inj e
     cases rx with
     | nilsl _ htk =>
       obtain ⟨hb1,hb2,hb3⟩:=bounds_ok (P:=P) (w:=w) (G:=G) (isSlice:=true) (cap:=0) (y:=0) (d:=0) (optO_ok hc hlo) (optO_ok hc hhi) (Nat.le_refl _) eh elo
       have hl0:l=0:=by simp at hb3;omega
       have hh0:hh=0:=by simp at hb3;omega
       subst hl0;subst hh0
       refine OpRes.same H (v := .slice none 0 0) (by simp [execOp,hop,hv,Instr.sliceAt,Instr.slice,run_underlying ht,hb1,run_sizeOf' hs]) ?_
       rcases htk with rfl|rfl|rfl
       ·exact VRel.nilsl (w:=w) (G:=G) .nil (by simp)
       ·exact VRel.nilsl (w:=w) (G:=G) .none (by simp)
       ·exact VRel.nilsl (w:=w) (G:=G) .none (by simp)
     | emp ad _ htk =>
       obtain ⟨hb1,hb2,hb3⟩:=bounds_ok (P:=P) (w:=w) (G:=G) (isSlice:=true) (cap:=0) (y:=0) (d:=0) (optO_ok hc hlo) (optO_ok hc hhi) (Nat.le_refl _) eh elo
       have hl0:l=0:=by simp at hb3;omega
       have hh0:hh=0:=by simp at hb3;omega
       subst hl0;subst hh0
       refine OpRes.same H (v := .slice (some ad) 0 0) (by simp [execOp,hop,hv,Instr.sliceAt,Instr.slice,run_underlying ht,hb1,run_sizeOf' hs]) ?_
       rcases htk with rfl|rfl
       ·exact VRel.emp (w:=w) (G:=G) ad .none (by simp)
       ·exact VRel.emp (w:=w) (G:=G) ad .none (by simp)
     | sl b off cap sz0 _ _ u h0 h1 h2 h3 h4 h5 hcp hnn ho =>
       obtain ⟨hb1,hb2,hb3⟩:=bounds_ok (P:=P) (w:=w) (G:=G) (isSlice:=true) (cap:=cap) (y:=0) (d:=0) (optO_ok hc hlo) (optO_ok hc hhi) hcp eh elo
       have htk:tk.sub = .none:=by cases tk<;>first|rfl|exact absurd rfl hnn.1
       rw [htk]
       have hlen:((xs.drop l).take (hh - l)).length=hh - l:=by simp;omega
       have hrun:(execOp a.eval o).run P w = .ok (.value (.slice (if cap=l then some ⟨b,off,none⟩ else some ⟨b,off+l*sz,none⟩) (hh - l) (cap - l))) w:=by
        simp [execOp,hop,hv,Instr.sliceAt,Instr.slice,run_underlying ht,hb1,run_sizeOf' hs,Addr.add_lit]
       by_cases hcl:cap=l
       ·have hz:hh - l=0:=by omega
        rw [hz,List.take_zero]
        rw [if_pos hcl,hz,show cap - l=0 by omega] at hrun
        exact OpRes.same H hrun (vrel_sl0 b off)
       ·rw [if_neg hcl] at hrun
        by_cases hz:hh - l=0
        ·rw [hz,List.take_zero]
         rw [hz] at hrun
         exact OpRes.same H hrun (.sl b _ (cap - l) 0 [] .none (fun _ => .bool false) (by simp) (by simp [flat]) (by simp [flat]) (by simp [flat]) (by simp [flat]) (by simp [flat]) (by simp) (by simp) (by simp))
        ·obtain ⟨y,ys,rfl⟩:∃ y ys,xs=y::ys:=by
          cases xs with
          | nil=>simp at hb3;omega
          | cons y ys=>exact ⟨y,ys,rfl⟩
         have hsz:sz0=sz:=by rw [←h0 y (by simp)];exact hcond.1 y rfl
         subst hsz
         have hsub:∀ z∈((y::ys).drop l).take (hh - l),z∈y::ys:=fun z hz=>List.mem_of_mem_drop (List.mem_of_mem_take hz)
         have hget:∀ (k:Nat) (cc:AVal),(flat (((y::ys).drop l).take (hh - l)))[k]?=some cc→(flat (y::ys))[l*sz0+k]?=some cc:=by
          intro k cc hk
          rw [flat_drop_take h0,List.getElem?_take] at hk
          split at hk
          ·rwa [List.getElem?_drop] at hk
          ·simp at hk
         rw [show hh - l=(((y::ys).drop l).take (hh - l)).length by rw [hlen]] at hrun
         refine OpRes.same H hrun (.sl b (off+l*sz0) (cap - l) sz0 _ .none (fun k=>u (l*sz0+k)) (fun z hz=>h0 z (hsub z hz)) (fun k cc hk=>?_) (fun k cc hk=>h2 _ cc (hget k cc hk)) (fun k hk=>?_) (fun cc hcc=>?_) (fun cc hcc=>?_) (by rw [hlen];omega) (by simp) (by simp))
         ·rw [Nat.add_assoc];exact h1 _ cc (hget k cc hk)
         ·rw [Nat.add_assoc]
          have hk':=hget k _ (List.getElem?_eq_getElem hk)
          exact h3 _ (List.getElem?_eq_some_iff.1 hk').1
         ·obtain ⟨k,hk⟩:=mem_get hcc
          exact h4 cc (List.mem_of_getElem? (hget k cc hk))
         ·obtain ⟨k,hk⟩:=mem_get hcc
          exact h5 cc (List.mem_of_getElem? (hget k cc hk))
    ·simp at e
   ·simp at e
  ·simp at e
 ·rename_i id off len s hb
  rw [hb] at rx;generalize hv:a.eval x=v at rx
  split at e
  ·rename_i hh eh
   split at e
   ·rename_i l elo
    split at e
    ·rename_i hsz
     subst hsz
     obtain rfl:=Option.some.inj e
     cases rx with
     | ref0 _ _ _ b bo hid =>
       obtain ⟨hb1,hb2,hb3⟩:=bounds_ok (P:=P) (w:=w) (G:=G) (isSlice:=true) (cap:=0) (y:=0) (d:=0) (optO_ok hc hlo) (optO_ok hc hhi) (Nat.le_refl _) eh elo
       have hl0:l=0:=by omega
       have hh0:hh=0:=by omega
       subst hl0;subst hh0
       exact OpRes.same H (v := .slice (some ⟨b,bo,none⟩) 0 0) (by simp [execOp,hop,hv,Instr.sliceAt,Instr.slice,run_underlying ht,hb1,run_sizeOf' hs]) (.ref0 _ _ _ b bo hid)
     | ref _ _ _ _ cap hid hcp hsh =>
       obtain ⟨hb1,hb2,hb3⟩:=bounds_ok (P:=P) (w:=w) (G:=G) (isSlice:=true) (cap:=cap) (y:=0) (d:=0) (optO_ok hc hlo) (optO_ok hc hhi) hcp eh elo
       have hrun:(execOp a.eval o).run P w = .ok (.value (.slice (if cap=l then some ⟨G.loc id,off,none⟩ else some ⟨G.loc id,off+l*s,none⟩) (hh - l) (cap - l))) w:=by
        simp [execOp,hop,hv,Instr.sliceAt,Instr.slice,run_underlying ht,hb1,run_sizeOf' hs,Addr.add_lit]
       by_cases hcl:cap=l
       ·have hz:hh - l=0:=by omega
        rw [hz]
        rw [if_pos hcl,hz,show cap - l=0 by omega] at hrun
        exact OpRes.same H hrun (.ref0 _ _ _ _ _ hid)
       ·rw [if_neg hcl] at hrun
        obtain ⟨et,n,hs1,hs2⟩:=hsh
        refine OpRes.same H hrun (.ref id (off+l*s) (hh - l) s (cap - l) hid (by omega) ⟨et,n,hs1,?_⟩)
        have:l*s+(cap - l)*s=cap*s:=by rw [←Nat.add_mul];congr 1;omega
        omega
    ·simp at e
   ·simp at e
  ·simp at e
 ·simp at e
theorem optL_ok {α β:Type} {f:α→Option β}:∀ {xs:List α} {ys:List β},optL f xs=some ys→xs.length=ys.length∧∀ (k:Nat) (x:α),xs[k]?=some x→∃ y,ys[k]?=some y∧f x=some y
 | [],ys,e=>by simp [optL] at e;subst e;simp
 | x::xs,ys,e=>by
   simp only [optL] at e
   split at e
   ·rename_i y ys' h1 h2
    obtain rfl:=Option.some.inj e
    obtain ⟨e1,e2⟩:=optL_ok h2
    refine ⟨by simp [e1],fun k x' hk=>?_⟩
    cases k with
    | zero=>simp at hk;subst hk;exact ⟨y,by simp,h1⟩
    | succ k=>simpa using e2 k x' (by simpa using hk)
   ·simp at e
theorem opds_ok (hc:Ops a w G c ev) {xs:List Operand} {ys:List Opd} (e:optL c xs=some ys):xs.length=ys.length∧∀ (k:Nat) (v:Value) (y:AVal),(xs.map a.eval)[k]?=some v→(ys.map ev)[k]?=some y→VRel w G v y:=by
 obtain ⟨e1,e2⟩:=optL_ok e
 refine ⟨e1,fun k v y hv hy=>?_⟩
 simp only [List.getElem?_map,Option.map_eq_some_iff] at hv hy
 obtain ⟨x,hx,rfl⟩:=hv
 obtain ⟨y',hy',rfl⟩:=hy
 obtain ⟨y2,hy2,hcx⟩:=e2 k x hx
 rw [hy'] at hy2;obtain rfl:=Option.some.inj hy2
 exact hc _ _ hcx
theorem op_clo (H:HRel w G h) (hc:Ops a w G c ev) {f:FuncId} {cap:Array Operand} {cap':List Opd} (hx:optL c cap.toList=some cap') (hop:o.op = .makeFunc (.func f) #[] cap)
  (e:evalA (.clo f cap') ev h=some (r,h')):OpRes P o a w G h r h':=by
 simp only [evalA,Option.some.injEq,Prod.mk.injEq] at e
 obtain ⟨rfl,rfl⟩:=e
 obtain ⟨e1,e2⟩:=opds_ok hc hx
 refine OpRes.same H (v := .func (.func f) #[] (cap.map a.eval)) (by simp [execOp,hop,Instr.makeFunc]) (.fn _ _ _ (by simpa using e1) (fun k v y hv hy=>e2 k v y ?_ hy))
 simpa using hv
end
end Go.Abs
