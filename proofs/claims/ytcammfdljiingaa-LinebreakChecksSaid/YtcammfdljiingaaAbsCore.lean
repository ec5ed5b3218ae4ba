/-
  The abstract machine: values by value, a small heap of mutable rows, code with its types resolved, and an interpreter with fuel. Plain definitions, over any program.
-/
import Derived.Calls
namespace Go.Abs

/-- The right to append in place to the memory of a slice. -/
inductive Tok where
  | none
  | nil
  | own (id sz : Nat)
  deriving DecidableEq, Inhabited

/-- The right that a part of a slice has. -/
def Tok.sub : Tok → Tok
  | .nil => .nil
  | _ => .none

/-- Abstract values. -/
inductive AVal where
  | bool (b : Bool)
  | int (k : IntKind) (n : Int)
  | str (s : List UInt8)
  | sl (xs : List AVal) (t : Tok)
  | nilptr
  | ptr (id off : Nat)
  | rp (cs : List AVal)
  | ref (id off len sz : Nat)
  | fn (f : Nat) (cap : List AVal)
  | nilfn
  | nilif
  | agg (cs : List AVal)
  | tup (vs : List AVal)
  | bad
  deriving Inhabited

def AVal.cells : AVal → List AVal
  | .agg cs => cs
  | v => [v]

def AVal.one : AVal → Bool
  | .agg _ | .tup _ | .bad | .rp _ => false
  | _ => true

def flat (xs : List AVal) : List AVal := xs.flatMap AVal.cells

def mk (ag : Bool) (cs : List AVal) : Option AVal :=
  if ag then some (.agg cs) else match cs with
    | [c] => some c
    | _ => none

inductive Obj where
  | row (mu : Bool) (sz : Nat) (ag : Bool) (cs : List AVal)
  | tok (ty : Nat)
  deriving Inhabited

structure Heap where
  next : Nat
  l : List (Option Obj)
  deriving Inhabited

def Heap.empty : Heap := ⟨0, []⟩
def Heap.get (h : Heap) (id : Nat) : Option Obj := if id < h.next then (h.l[h.next - 1 - id]?).join else none
def Heap.push (h : Heap) (o : Obj) : Heap := ⟨h.next + 1, some o :: h.l⟩
def Heap.put (h : Heap) (id : Nat) (o : Option Obj) : Heap := if id < h.next then ⟨h.next, h.l.set (h.next - 1 - id) o⟩ else h

/-- Operands: a variable, a temporary of the region, a constant. -/
inductive Opd where
  | v (i : Nat)
  | t (k : Nat)
  | c (x : AVal)
  deriving Inhabited

/-- The kind of a field that is compared. -/
inductive CK where
  | int
  | bool
  | str
  deriving DecidableEq, Inhabited

/-- What a comparison or an operator is about. -/
inductive BK where
  | arith
  | bool
  | struct (ks : List CK)
  | ptr
  | sl
  | fn
  deriving DecidableEq, Inhabited

inductive AOp where
  | mov (x : Opd)
  | pick (c a b : Opd)
  | alloc (ty sz : Nat) (ag : Bool) (z : List AVal)
  | box (sz : Nat) (ag : Bool) (x : Opd)
  | build (z : List AVal) (ps : List (Nat × Nat × Opd))
  | lit (mode ty n sz : Nat) (ag : Bool) (z : List AVal) (ps : List (Nat × Opd))
  | load (n : Nat) (ag : Bool) (x : Opd)
  | store (n : Nat) (a x : Opd)
  | nilc (x : Opd)
  | bin (op : BinOp) (bk : BK) (x y : Opd)
  | un (op : UnOp) (x : Opd)
  | toInt (k : IntKind) (x : Opd)
  | idstr (x : Opd)
  | clo (f : Nat) (cap : List Opd)
  | mksl (bytes sz : Nat) (ag : Bool) (z : List AVal) (l c : Opd)
  | slice (sz : Nat) (x : Opd) (lo hi : Option Opd)
  | sslice (x : Opd) (lo hi : Option Opd)
  | faddr (off : Nat) (x : Opd)
  | iaddr (sz : Nat) (x i : Opd)
  | aaddr (n sz : Nat) (x i : Opd)
  | field (off n : Nat) (ag : Bool) (x : Opd)
  | sidx (x i : Opd)
  | aidx (len n : Nat) (ag : Bool) (x i : Opd)
  | len (x : Opd)
  | slen (x : Opd)
  | append (arr : Bool) (ty bytes sz : Nat) (ag : Bool) (x y : Opd)
  | copy (sz : Nat) (x y : Opd)
  | mnx (mx : Bool) (x y : Opd)
  | ext (x : Opd) (i : Nat)
  | call (f : Opd) (args : List Opd)
  | pcall (f : Nat) (args : List Opd)
  deriving Inhabited

inductive ADst where
  | no
  | tmp
  | var (i : Nat)
  deriving DecidableEq, Inhabited

structure AOper where
  dst : ADst
  op : AOp
  guard : Option (Opd × Bool)
  deriving Inhabited

inductive ACode where
  | skip
  | ops (l : List AOper)
  | seq (a b : ACode)
  | cond (c : Opd) (a b : ACode)
  | block (id : Nat) (c : ACode)
  | loop (c : ACode)
  | exit (id : Nat)
  | ret
  | refuse
  deriving Inhabited

inductive AExit where
  | normal
  | exit (id : Nat)
  | ret
  deriving DecidableEq, Inhabited

structure AFunc where
  slots : List Nat
  body : ACode
  results : List Nat
  deriving Inhabited

/-- An entry of the table: a function that is translated, or one whose meaning is given by hand. -/
inductive AEnt where
  | comp (f : AFunc)
  | hand (s : List AVal → Heap → Option (AVal × Heap))
  deriving Inhabited

/-! ### pure values, freezing -/

mutual
/-- Without rights. -/
def strip : AVal → Option AVal
  | .sl xs (.own _ _) => some (.sl xs .none)
  | .sl xs t => some (.sl xs t)
  | .agg cs => (stripL cs).map .agg
  | .tup cs => (stripL cs).map .tup
  | .fn f cap => (stripL cap).map (.fn f)
  | .ptr _ _ | .rp _ | .ref _ _ _ _ | .bad => none
  | x => some x
def stripL : List AVal → Option (List AVal)
  | [] => some []
  | x :: xs => match strip x, stripL xs with
    | some y, some ys => some (y :: ys)
    | _, _ => none
end

def chunk (sz : Nat) (ag : Bool) : Nat → List AVal → Option (List AVal)
  | 0, _ => some []
  | n + 1, cs => match mk ag (cs.take sz), chunk sz ag n (cs.drop sz) with
    | some x, some xs => if x.cells.length = sz then some (x :: xs) else none
    | _, _ => none

/-- The elements of a slice into a row, as pure values. -/
def readRef (h : Heap) (id off len sz : Nat) : Option (List AVal) :=
  match h.get id with
  | some (.row _ s ag cs) =>
    if s = sz ∧ off + len * sz ≤ cs.length then
      match stripL cs with
      | some cs => chunk sz ag len (cs.drop off)
      | none => none
    else none
  | _ => none

mutual
/-- A value at the end of a call on a heap of its own: rows become plain lists. -/
def purify (h : Heap) : AVal → Option AVal
  | .ref id off len sz => (readRef h id off len sz).map (.sl · .none)
  | .sl xs (.own _ _) => some (.sl xs .none)
  | .sl xs t => some (.sl xs t)
  | .agg cs => (purifyL h cs).map .agg
  | .tup cs => (purifyL h cs).map .tup
  | .fn f cap => (purifyL h cap).map (.fn f)
  | .ptr _ _ | .rp _ | .bad => none
  | x => some x
def purifyL (h : Heap) : List AVal → Option (List AVal)
  | [] => some []
  | x :: xs => match purify h x, purifyL h xs with
    | some y, some ys => some (y :: ys)
    | _, _ => none
end

mutual
/-- The rows that a value shows. -/
def refIds : AVal → List Nat
  | .ref id _ _ _ => [id]
  | .agg cs | .tup cs | .fn _ cs => refIdsL cs
  | _ => []
def refIdsL : List AVal → List Nat
  | [] => []
  | x :: xs => refIds x ++ refIdsL xs
end

mutual
/-- No slice, no pointer. -/
def scal : AVal → Bool
  | .bool _ | .int _ _ | .str _ | .nilptr | .nilfn | .nilif => true
  | .sl xs t => xs.isEmpty && decide (t = .nil)
  | .agg cs | .tup cs => scalL cs
  | .fn _ _ | .ptr _ _ | .rp _ | .ref _ _ _ _ | .bad => false
def scalL : List AVal → Bool
  | [] => true
  | x :: xs => scal x && scalL xs
end

/-- Rows that become immutable. -/
def freeze (h : Heap) : List Nat → Option Heap
  | [] => some h
  | id :: ids => match h.get id with
    | some (.row _ s ag cs) => freeze (h.put id (some (.row false s ag cs))) ids
    | _ => none

/-! ### one operation -/

def setCells (cs : List AVal) : Nat → List AVal → List AVal
  | _, [] => cs
  | i, x :: xs => setCells (cs.set i x) (i + 1) xs

def fillA (cells : List AVal) : List (Nat × Nat × AVal) → Option (List AVal)
  | [] => some cells
  | (off, n, v) :: rest => if v.cells.length = n ∧ off + n ≤ cells.length ∧ v.cells.all AVal.one then fillA (setCells cells off v.cells) rest else none

/-- What stands in the place of the size in a row of one variable: its type. -/
def typed (ty : Nat) : Nat := 1000000 + ty
def small (sz : Nat) : Bool := decide (sz < 1000000)

def repl (n : Nat) (z : List AVal) : List AVal := (List.replicate n z).flatten

def bytesLt : List UInt8 → List UInt8 → Bool
  | _, [] => false
  | [], _ :: _ => true
  | a :: x, b :: y => a < b || (a == b && bytesLt x y)

def cellEq : CK → AVal → AVal → Option Bool
  | .bool, .bool a, .bool b => some (a == b)
  | .int, .int k a, .int k' b => if k = k' then some (a == b) else none
  | .str, .str a, .str b => some (a == b)
  | _, _, _ => none

def cellsEq : List CK → List AVal → List AVal → Option Bool
  | [], [], [] => some true
  | k :: ks, x :: xs, y :: ys => match cellEq k x y with
    | some true => cellsEq ks xs ys
    | some false => some false
    | none => none
  | _, _, _ => none

def ptrEq : AVal → AVal → Option Bool
  | .nilptr, .nilptr => some true
  | .nilptr, .ptr _ _ | .ptr _ _, .nilptr => some false
  | .nilptr, .rp _ | .rp _, .nilptr => some false
  | _, _ => none

def fnEq : AVal → AVal → Option Bool
  | .nilfn, .nilfn => some true
  | .fn _ _, .nilfn | .nilfn, .fn _ _ => some false
  | _, _ => none

def slEq : AVal → AVal → Option Bool
  | .sl _ .nil, .sl [] .nil => some true
  | .sl _ (.own _ _), .sl [] .nil => some false
  | .sl (_ :: _) .none, .sl [] .nil => some false
  | .ref _ _ _ _, .sl [] .nil => some false
  | _, _ => none

def intBin (op : BinOp) (k : IntKind) (a b : Int) : Option AVal :=
  match op with
  | .add => some (.int k (k.wrap (a + b)))
  | .sub => some (.int k (k.wrap (a - b)))
  | .mul => some (.int k (k.wrap (a * b)))
  | .quo => if b = 0 then none else some (.int k (k.wrap (a.tdiv b)))
  | .rem => if b = 0 then none else some (.int k (a.tmod b))
  | .and => some (.int k (k.wrap (BitVec.ofInt k.bits a &&& BitVec.ofInt k.bits b).toNat))
  | .or => some (.int k (k.wrap (BitVec.ofInt k.bits a ||| BitVec.ofInt k.bits b).toNat))
  | .xor => some (.int k (k.wrap (BitVec.ofInt k.bits a ^^^ BitVec.ofInt k.bits b).toNat))
  | .andNot => some (.int k (k.wrap (BitVec.ofInt k.bits a &&& ~~~BitVec.ofInt k.bits b).toNat))
  | .eql => some (.bool (a == b))
  | .neq => some (.bool (a != b))
  | .lss => some (.bool (decide (a < b)))
  | .leq => some (.bool (decide (a ≤ b)))
  | .gtr => some (.bool (decide (a > b)))
  | .geq => some (.bool (decide (a ≥ b)))
  | .shl | .shr => none

def shiftA (op : BinOp) (k : IntKind) (a b : Int) : Option AVal :=
  if b < 0 then none else match op with
    | .shl => some (.int k (k.wrap (a * 2 ^ (min b.toNat k.bits))))
    | .shr => some (.int k (a.fdiv (2 ^ (min b.toNat k.bits))))
    | _ => none

def strBin (op : BinOp) (a b : List UInt8) : Option AVal :=
  match op with
  | .add => if a.length + b.length ≤ 9223372036854775807 then some (.str (a ++ b)) else none
  | .eql => some (.bool (a == b))
  | .neq => some (.bool (!(a == b)))
  | .lss => some (.bool (bytesLt a b))
  | .leq => some (.bool (bytesLt a b || a == b))
  | .gtr => some (.bool (!(bytesLt a b || a == b)))
  | .geq => some (.bool (!bytesLt a b))
  | _ => none

def cmpA (op : BinOp) (r : Option Bool) : Option AVal :=
  match op with
  | .eql => r.map .bool
  | .neq => r.map (fun b => .bool (!b))
  | _ => none

def binA (op : BinOp) (bk : BK) (x y : AVal) : Option AVal :=
  match bk, x, y with
  | .arith, .int k a, .int k' b =>
    if op = .shl ∨ op = .shr then shiftA op k a b
    else if k = k' then intBin op k a b else none
  | .arith, .str a, .str b => strBin op a b
  | .bool, .bool a, .bool b => cmpA op (some (a == b))
  | .struct ks, .agg xs, .agg ys => cmpA op (cellsEq ks xs ys)
  | .ptr, x, y => cmpA op (ptrEq x y)
  | .sl, x, y => cmpA op (slEq x y)
  | .fn, x, y => cmpA op (fnEq x y)
  | _, _, _ => none

def unA (op : UnOp) (x : AVal) : Option AVal :=
  match op, x with
  | .neg, .int k n => some (.int k (k.wrap (0 - n)))
  | .xor, .int k n => some (.int k (k.wrap (BitVec.ofInt k.bits (if k.signed then -1 else k.max) ^^^ BitVec.ofInt k.bits n).toNat))
  | .not, .bool b => some (.bool !b)
  | _, _ => none

def boundA (x : Option AVal) (dflt y : Nat) : Option Nat :=
  match x with
  | none => some dflt
  | some (.int _ i) => if 0 ≤ i ∧ i ≤ y then some i.toNat else none
  | _ => none

def ssliceA (x : AVal) (lo hi : Option AVal) : Option AVal :=
  match x with
  | .str s => match boundA hi s.length s.length with
    | some h => match boundA lo 0 h with
      | some l => some (.str ((s.drop l).take (h - l)))
      | none => none
    | none => none
  | _ => none

def sliceA (sz : Nat) (x : AVal) (lo hi : Option AVal) : Option AVal :=
  match x with
  | .sl xs t => match boundA hi xs.length xs.length with
    | some h => match boundA lo 0 h with
      | some l => if (∀ x, xs.head? = some x → x.cells.length = sz) ∧ (t = .nil → xs = []) then some (.sl ((xs.drop l).take (h - l)) t.sub) else none
      | none => none
    | none => none
  | .ref id off len s => match boundA hi len len with
    | some h => match boundA lo 0 h with
      | some l => if s = sz then some (.ref id (off + l * sz) (h - l) sz) else none
      | none => none
    | none => none
  | _ => none

/-- The elements that are appended or copied. -/
def elemsA (h : Heap) (sz : Nat) : AVal → Option (List AVal)
  | .sl ys _ => if ∀ y, ys.head? = some y → y.cells.length = sz then some (flat ys) else none
  | .ref id off len s => if s = sz then (match h.get id with
    | some (.row _ _ _ cs) => if off + len * sz ≤ cs.length then some ((cs.drop off).take (len * sz)) else none
    | _ => none) else none
  | .str s => if sz = 1 then some (s.map fun b => .int .u8 b.toNat) else none
  | _ => none

def lenA : AVal → Option Nat
  | .sl xs _ => some xs.length
  | .ref _ _ len _ => some len
  | .str s => some s.length
  | _ => none

def roomOk (need bytes : Nat) : Bool := decide (need ≤ 9223372036854775807) && decide ((4 * need + 1024) * bytes ≤ 281474976710656)

def appendA (arr : Bool) (ty bytes sz : Nat) (ag : Bool) (x y : AVal) (h : Heap) : Option (AVal × Heap) :=
  match lenA y, elemsA h sz y with
  | some m, some news =>
    if m = 0 then (match x with
      | .sl _ _ | .ref _ _ _ _ => some (x, h)
      | _ => none)
    else match x with
    | .sl xs t =>
      if !(roomOk (xs.length + m) bytes && decide (0 < sz) && small sz) then none else
      if arr then (match t with
        | .nil => if xs = [] then some (.ref h.next 0 m sz, h.push (.row true sz ag news)) else none
        | _ => none)
      else match stripL news with
        | none => none
        | some news => match chunk sz ag m news with
          | none => none
          | some ys => match t with
            | .nil => if xs = [] then some (.sl ys (.own h.next sz), h.push (.tok ty)) else none
            | .own id s => (match h.get id with
              | some (.tok ty') => if s = sz ∧ ty' = ty then some (.sl (xs ++ ys) (.own h.next sz), (h.put id none).push (.tok ty)) else none
              | _ => none)
            | .none => none
    | .ref id off len s =>
      match h.get id with
      | some (.row true s' ag' cs) =>
        if s = sz ∧ s' = sz ∧ off = 0 ∧ cs.length = len * sz ∧ roomOk (len + m) bytes ∧ 0 < sz ∧ small sz then some (.ref h.next 0 (len + m) sz, (h.put id none).push (.row true sz ag' (cs ++ news))) else none
      | _ => none
    | _ => none
  | _, _ => none

def loadA (n : Nat) (ag : Bool) (x : AVal) (h : Heap) : Option AVal :=
  match x with
  | .ptr id off => match h.get id with
    | some (.row _ _ _ cs) => if off + n ≤ cs.length then mk ag ((cs.drop off).take n) else none
    | _ => none
  | .rp cs => if n ≤ cs.length then mk ag (cs.take n) else none
  | _ => none

def storeA (n : Nat) (a x : AVal) (h : Heap) : Option Heap :=
  match a with
  | .ptr id off => match h.get id with
    | some (.row true s ag cs) => if x.cells.length = n ∧ off + n ≤ cs.length ∧ x.cells.all AVal.one then some (h.put id (some (.row true s ag (setCells cs off x.cells)))) else none
    | _ => none
  | _ => none

def copyA (sz : Nat) (x y : AVal) (h : Heap) : Option (AVal × Heap) :=
  match lenA y, elemsA h sz y with
  | some m, some news =>
    match x with
    | .ref id off len s => match h.get id with
      | some (.row true s' ag cs) =>
        let n := min m len
        if s = sz ∧ off + len * sz ≤ cs.length ∧ news.all AVal.one then some (.int .i64 n, h.put id (some (.row true s' ag (setCells cs off (news.take (n * sz)))))) else none
      | _ => none
    | .sl [] _ => some (.int .i64 0, h)
    | _ => none
  | _, _ => none

/-- Every operation but a call. -/
def evalA (op : AOp) (ev : Opd → AVal) (h : Heap) : Option (AVal × Heap) :=
  match op with
  | .mov x => some (ev x, h)
  | .pick c a b => match ev c with
    | .bool t => some (if t then ev a else ev b, h)
    | _ => none
  | .alloc ty sz ag z => if z.length = sz ∧ z.all AVal.one then some (.ptr h.next 0, h.push (.row true (typed ty) ag z)) else none
  | .box sz ag x => if (ev x).cells.length = sz ∧ (ev x).cells.all AVal.one then some (.ptr h.next 0, h.push (.row true 0 ag (ev x).cells)) else none
  | .build z ps => (fillA z (ps.map fun p => (p.1, p.2.1, ev p.2.2))).map fun cs => (.agg cs, h)
  | .lit mode ty n sz ag z ps =>
    match fillA (repl n z) (ps.map fun p => (p.1 * sz, sz, ev p.2)) with
    | some cs =>
      if !(decide (z.length = sz) && z.all AVal.one && decide (n * sz ≤ 16777216) && small sz) then none else
      if mode = 2 then some (.ref h.next 0 n sz, h.push (.row true sz ag cs))
      else if mode = 3 then (match purifyL h cs, freeze h (refIdsL cs) with
        | some cs, some h => match chunk sz ag n cs with
          | none => none
          | some xs => some (.sl xs .none, h)
        | _, _ => none)
      else match stripL cs with
        | none => none
        | some cs => match chunk sz ag n cs with
          | none => none
          | some xs => if mode = 1 then some (.sl xs (.own h.next sz), h.push (.tok ty)) else some (.sl xs .none, h)
    | none => none
  | .load n ag x => (loadA n ag (ev x) h).map (·, h)
  | .store n a x => (storeA n (ev a) (ev x) h).map (.tup [], ·)
  | .nilc x => match ev x with
    | .ptr i o => some (.ptr i o, h)
    | .rp cs => some (.rp cs, h)
    | .fn f c => some (.fn f c, h)
    | _ => none
  | .bin op bk x y => (binA op bk (ev x) (ev y)).map (·, h)
  | .un op x => (unA op (ev x)).map (·, h)
  | .toInt k x => match ev x with
    | .int _ n => some (.int k (k.wrap n), h)
    | _ => none
  | .idstr x => match ev x with
    | .str s => some (.str s, h)
    | _ => none
  | .clo f cap => some (.fn f (cap.map ev), h)
  | .mksl bytes sz ag z l c => match ev l, ev c with
    | .int _ a, .int _ b => if 0 ≤ a ∧ a ≤ b ∧ b < 9223372036854775808 ∧ bytes * b ≤ 281474976710656 ∧ z.length = sz ∧ z.all AVal.one ∧ small sz then some (.ref h.next 0 a.toNat sz, h.push (.row true sz ag (repl a.toNat z))) else none
    | _, _ => none
  | .slice sz x lo hi => (sliceA sz (ev x) (lo.map ev) (hi.map ev)).map (·, h)
  | .sslice x lo hi => (ssliceA (ev x) (lo.map ev) (hi.map ev)).map (·, h)
  | .faddr off x => match ev x with
    | .ptr i o => some (.ptr i (o + off), h)
    | .rp cs => some (.rp (cs.drop off), h)
    | _ => none
  | .iaddr sz x i => match ev x, ev i with
    | .sl xs _, .int _ n => if 0 ≤ n ∧ n < xs.length then (match xs[n.toNat]? with
      | some y => if y.cells.length = sz then some (.rp y.cells, h) else none
      | none => none) else none
    | .ref id off len s, .int _ n => if 0 ≤ n ∧ n < len ∧ s = sz then some (.ptr id (off + n.toNat * sz), h) else none
    | _, _ => none
  | .aaddr len sz x i => match ev x, ev i with
    | .ptr id off, .int _ n => if 0 ≤ n ∧ n < len then some (.ptr id (off + n.toNat * sz), h) else none
    | .rp cs, .int _ n => if 0 ≤ n ∧ n < len then some (.rp (cs.drop (n.toNat * sz)), h) else none
    | _, _ => none
  | .field off n ag x => match ev x with
    | .agg cs => if off + n ≤ cs.length then (mk ag ((cs.drop off).take n)).map (·, h) else none
    | _ => none
  | .sidx x i => match ev x, ev i with
    | .str s, .int _ n => if 0 ≤ n then (match s[n.toNat]? with
      | some b => some (.int .u8 b.toNat, h)
      | none => none) else none
    | _, _ => none
  | .aidx len n ag x i => match ev x, ev i with
    | .agg cs, .int _ j => if 0 ≤ j ∧ j < len ∧ j.toNat * n + n ≤ cs.length then (mk ag ((cs.drop (j.toNat * n)).take n)).map (·, h) else none
    | _, _ => none
  | .len x => match ev x with
    | .sl xs _ => some (.int .i64 xs.length, h)
    | .ref _ _ n _ => some (.int .i64 n, h)
    | _ => none
  | .slen x => match ev x with
    | .str s => some (.int .i64 s.length, h)
    | _ => none
  | .append arr ty bytes sz ag x y => appendA arr ty bytes sz ag (ev x) (ev y) h
  | .copy sz x y => copyA sz (ev x) (ev y) h
  | .mnx mx x y => match ev x, ev y with
    | .int k a, .int _ b => some (.int k (if mx then (if a < b then b else a) else (if b < a then b else a)), h)
    | _, _ => none
  | .ext x i => match ev x with
    | .tup vs => (vs[i]?).map (·, h)
    | _ => none
  | .call _ _ | .pcall _ _ => none

/-! ### regions -/

abbrev CallF := Nat → List AVal → Heap → Option (AVal × Heap)

def evOpd (vs ts : List AVal) : Opd → AVal
  | .v i => (vs[i]?).getD .bad
  | .t k => (ts[k]?).getD .bad
  | .c x => x

def execA (cf : CallF) (op : AOp) (ev : Opd → AVal) (h : Heap) : Option (AVal × Heap) :=
  match op with
  | .call f args => match ev f with
    | .fn g cap => cf g (args.map ev ++ cap) h
    | _ => none
  | .pcall f args => match stripL (args.map ev) with
    | some as => (match cf f as Heap.empty with
      | some (r, h') => (purify h' r).map (·, h)
      | none => none)
    | none => match purifyL h (args.map ev) with
      | some as => (match cf f as Heap.empty with
        | some (r, _) => if scal r then some (r, h) else none
        | none => none)
      | none => none
  | op => evalA op ev h

structure St where
  vs : List AVal
  ts : List AVal
  h : Heap
  deriving Inhabited

def St.put (s : St) (k : Nat) (d : ADst) (r : AVal) (h : Heap) : St :=
  match d with
  | .no => ⟨s.vs, s.ts, h⟩
  | .tmp => ⟨s.vs, s.ts.set k r, h⟩
  | .var i => ⟨s.vs.set i r, s.ts, h⟩

def wantA (ev : Opd → AVal) : Option (Opd × Bool) → Option Bool
  | none => some true
  | some (x, b) => match ev x with
    | .bool c => some (c == b)
    | .tup [] => some false
    | _ => none

def stepA (cf : CallF) (o : AOper) (k : Nat) (s : St) : Option St :=
  match wantA (evOpd s.vs s.ts) o.guard with
  | none => none
  | some false => some (s.put k o.dst (.tup []) s.h)
  | some true => match execA cf o.op (evOpd s.vs s.ts) s.h with
    | some (r, h) => some (s.put k o.dst r h)
    | none => none

def foldA (cf : CallF) : List AOper → Nat → St → Option St
  | [], _, s => some s
  | o :: l, k, s => match stepA cf o k s with
    | some s => foldA cf l (k + 1) s
    | none => none

inductive Task where
  | code (c : ACode) (vs : List AVal) (h : Heap)
  | call (f : Nat) (args : List AVal) (h : Heap)

inductive Res where
  | code (e : AExit) (vs : List AVal) (h : Heap)
  | val (r : AVal) (h : Heap)

def Res.asVal : Res → Option (AVal × Heap)
  | .val r h => some (r, h)
  | _ => none

def resultsA (rs : List Nat) (vs : List AVal) : AVal :=
  match rs with
  | [i] => (vs[i]?).getD .bad
  | rs => .tup (rs.map fun i => (vs[i]?).getD .bad)

/-- The interpreter. -/
def run (F : Nat → Option AEnt) : Nat → Task → Option Res
  | 0, _ => none
  | n + 1, .call f args h =>
    match F f with
    | none => none
    | some (.hand s) => (s args h).map fun p => .val p.1 p.2
    | some (.comp fn) =>
      match run F n (.code fn.body (fn.slots.map fun s => (args[s]?).getD (.tup [])) h) with
      | some (.code .normal vs h') => some (.val (resultsA fn.results vs) h')
      | some (.code .ret vs h') => some (.val (resultsA fn.results vs) h')
      | _ => none
  | n + 1, .code c vs h =>
    match c with
    | .skip => some (.code .normal vs h)
    | .ops l =>
      match foldA (fun f args h => (run F n (.call f args h)).bind Res.asVal) l 0 ⟨vs, List.replicate l.length .bad, h⟩ with
      | some s => some (.code .normal s.vs s.h)
      | none => none
    | .seq a b =>
      match run F n (.code a vs h) with
      | some (.code .normal vs h) => run F n (.code b vs h)
      | r => r
    | .cond x a b =>
      match evOpd vs [] x with
      | .bool true => run F n (.code a vs h)
      | .bool false => run F n (.code b vs h)
      | _ => none
    | .block id c =>
      match run F n (.code c vs h) with
      | some (.code (.exit i) vs h) => if i = id then some (.code .normal vs h) else some (.code (.exit i) vs h)
      | r => r
    | .loop c =>
      match run F n (.code c vs h) with
      | some (.code .normal vs h) => run F n (.code (.loop c) vs h)
      | r => r
    | .exit id => some (.code (.exit id) vs h)
    | .ret => some (.code .ret vs h)
    | .refuse => none

end Go.Abs
