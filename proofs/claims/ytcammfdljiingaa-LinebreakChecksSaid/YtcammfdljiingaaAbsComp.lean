/-
  From the model's code to the code of the abstract machine: types are resolved, temporaries of a region are numbered by their place in it. What it cannot translate becomes 'refuse'.
-/
import Derived.Test.YtcammfdljiingaaAbsCore
namespace Go.Abs

/-- Advice for the translation; nothing hangs on its being right. -/
structure Hints where
  arr : Nat → Nat → Bool
  own : Nat → Nat → Bool
  frz : Nat → Nat → Bool
  iso : Nat → Bool

def isAggD : TypeDesc → Bool
  | .struct _ | .array _ _ => true
  | _ => false

def constCell : Value → Option AVal
  | .bool b => some (.bool b)
  | .int k n => some (.int k n)
  | .string s => some (.str s.data.toList)
  | .pointer none => some .nilptr
  | .slice none 0 0 => some (.sl [] .nil)
  | .nilFunc => some .nilfn
  | .nilIface => some .nilif
  | _ => none

def constCells : List Value → Option (List AVal)
  | [] => some []
  | v :: vs => match constCell v, constCells vs with
    | some x, some xs => some (x :: xs)
    | _, _ => none

def constA : Value → Option AVal
  | .agg cs => (constCells cs.toList).map .agg
  | v => constCell v

section
variable (P : Program)

def tAgg (t : TypeId) : Option Bool := (P.underlying t).map isAggD
def tSize (t : TypeId) : Option Nat := (P.info? t).map (·.size)
def tBytes (t : TypeId) : Option Nat := (P.info? t).map (·.bytes)
def tZero (t : TypeId) : Option (List AVal) :=
  match P.info? t with
  | some i => match i.zero with
    | some z => constCells z.cells.toList
    | none => none
  | none => none
def tElem (t : TypeId) : Option TypeId :=
  match P.underlying t with
  | some (.slice e) => some e
  | _ => none

/-- The kinds of a struct's fields, where they may be compared cell by cell. -/
def fieldKs : List Field → Nat → Option (List CK)
  | [], _ => some []
  | f :: fs, i => if f.name ≠ "_" ∧ f.offset = i then
    (match P.underlying f.type, fieldKs fs (i + 1) with
    | some (.int _), some ks => some (.int :: ks)
    | some .bool, some ks => some (.bool :: ks)
    | some .string, some ks => some (.str :: ks)
    | _, _ => none) else none

/-- Structs that may be compared cell by cell. -/
def structKs (t : TypeId) : Option (List CK) :=
  match P.underlying t with
  | some (.struct fs) => if P.stoodInHeld t = false ∧ P.eqGuardType P.depth t = false then fieldKs P fs.toList 0 else none
  | _ => none

def look (l : List Nat) (t : Nat) : Option Nat := go l t 0
where go : List Nat → Nat → Nat → Option Nat
  | [], _, _ => none
  | x :: xs, t, i => if x = t then some i else go xs t (i + 1)

/-- The place of the last of the first k operations that writes the temporary t. -/
def lookT (ops : List Oper) (k t : Nat) : Option Nat := go ops 0 none
where go : List Oper → Nat → Option Nat → Option Nat
  | [], _, r => r
  | o :: os, i, r => if i < k then go os (i + 1) (if o.dst = some t then some i else r) else r

def compOpd (slots : List Nat) (ops : List Oper) (k : Nat) : Operand → Option Opd
  | .tmp t => match look slots t with
    | some i => some (.v i)
    | none => (lookT ops k t).map .t
  | .const v => (constA v).map .c
  | .func f => some (.c (.fn f []))
  | .global _ => none

def optL {α β : Type} (f : α → Option β) : List α → Option (List β)
  | [] => some []
  | x :: xs => match f x, optL f xs with
    | some y, some ys => some (y :: ys)
    | _, _ => none

def optO {α β : Type} (f : α → Option β) : Option α → Option (Option β)
  | none => some none
  | some x => (f x).map some

variable (H : Hints) (fid : Nat)

def compBuiltin (c : Operand → Option Opd) (dst : Nat) (b : Builtin) (args : List Operand) (ts : List TypeId) : Option AOp :=
  match b, args, ts with
  | .len, [x], [t] => match P.underlying t, c x with
    | some (.slice _), some x => some (.len x)
    | some .string, some x => some (.slen x)
    | _, _ => none
  | .append, [x, y], [t, u] => match P.underlying t, P.underlying u, c x, c y with
    | some (.slice e), some u, some x, some y => match u, tBytes P e, tSize P e, tAgg P e, tZero P e with
      | .slice _, some b, some s, some a, some z => if z.length = s then some (.append (H.arr fid dst) e b s a x y) else none
      | .string, some b, some s, some a, some z => if z.length = s then some (.append (H.arr fid dst) e b s a x y) else none
      | _, _, _, _, _ => none
    | _, _, _, _ => none
  | .copy, [x, y], [t, _] => match P.underlying t, c x, c y with
    | some (.slice e), some x, some y => (tSize P e).map fun s => .copy s x y
    | _, _, _ => none
  | .min, [x, y], _ => match c x, c y with
    | some x, some y => some (.mnx false x y)
    | _, _ => none
  | .max, [x, y], _ => match c x, c y with
    | some x, some y => some (.mnx true x y)
    | _, _ => none
  | _, _, _ => none

def compCall (c : Operand → Option Opd) (dst : Nat) (k : Call) : Option AOp :=
  match k.callee with
  | .builtin b => compBuiltin P H fid c dst b k.args.toList k.argTypes.toList
  | .value f => match f, optL c k.args.toList with
    | .func g, some as => if H.iso g then some (.pcall g as) else some (.call (.c (.fn g [])) as)
    | f, some as => (c f).map fun f => .call f as
    | _, none => none
  | .invoke _ _ => none

def compParts (c : Operand → Option Opd) (ps : List (Nat × Operand)) : Option (List (Nat × Opd)) :=
  optL (fun p => (c p.2).map fun x => (p.1, x)) ps

def place (fs : Array Field) (i : Nat) : Option (Nat × Nat) :=
  match fs[i]? with
  | some f => (tSize P f.type).map fun n => (f.offset, n)
  | none => none

def compOp (c : Operand → Option Opd) (dst : Nat) (op : Op) : Option AOp :=
  match op with
  | .move x | .assign x => (c x).map .mov
  | .pick x y z => match c x, c y, c z with
    | some x, some y, some z => some (.pick x y z)
    | _, _, _ => none
  | .alloc t => match tSize P t, tAgg P t, tZero P t with
    | some s, some a, some z => some (.alloc t s a z)
    | _, _, _ => none
  | .box t x => match tSize P t, tAgg P t, c x with
    | some s, some a, some x => some (.box s a x)
    | _, _, _ => none
  | .build t ps => match P.underlying t, tZero P t, compParts c ps.toList with
    | some (.struct fs), some z, some ps => if fs.toList.all (fun f => (tSize P f.type).isSome) then (optL (fun p : Nat × Opd => (place P fs p.1).map fun q => (q.1, q.2, p.2)) ps).map (.build z ·) else none
    | some (.array _ e), some z, some ps => (tSize P e).map fun s => .build z (ps.map fun p => (p.1 * s, s, p.2))
    | _, _, _ => none
  | .buildSlice t len ps => match tElem P t, compParts c ps.toList with
    | some e, some ps => match tSize P e, tAgg P e, tZero P e with
      | some s, some a, some z => some (.lit (if H.arr fid dst then 2 else if H.own fid dst then 1 else if H.frz fid dst then 3 else 0) e len s a z ps)
      | _, _, _ => none
    | _, _ => none
  | .load t x => match tSize P t, tAgg P t, c x with
    | some s, some a, some x => some (.load s a x)
    | _, _, _ => none
  | .store t x y => match tSize P t, c x, c y with
    | some s, some x, some y => some (.store s x y)
    | _, _, _ => none
  | .nilCheck x => (c x).map .nilc
  | .binOp op t x y _ => match P.underlying t, c x, c y with
    | some (.int _), some x, some y => some (.bin op .arith x y)
    | some .string, some x, some y => some (.bin op .arith x y)
    | some .bool, some x, some y => some (.bin op .bool x y)
    | some (.struct _), some x, some y => (structKs P t).map fun ks => .bin op (.struct ks) x y
    | some (.pointer _), some x, some y => some (.bin op .ptr x y)
    | some (.slice _), some x, some y => some (.bin op .sl x y)
    | some (.func _ _ _), some x, some y => some (.bin op .fn x y)
    | _, _, _ => none
  | .unOp op _ x => (c x).map (.un op ·)
  | .convert s d x => match P.underlying s, P.underlying d, c x with
    | some (.int _), some (.int k), some x => some (.toInt k x)
    | some .string, some .string, some x => some (.idstr x)
    | _, _, _ => none
  | .makeFunc (.func f) first cap => if first.size = 0 then (optL c cap.toList).map (.clo f ·) else none
  | .makeSlice t l m => match tElem P t, c l, c m with
    | some e, some l, some m => match tBytes P e, tSize P e, tAgg P e, tZero P e with
      | some b, some s, some a, some z => some (.mksl b s a z l m)
      | _, _, _, _ => none
    | _, _, _ => none
  | .slice t x lo hi none => match P.underlying t, c x, optO c lo, optO c hi with
    | some (.slice e), some x, some lo, some hi => (tSize P e).map fun s => .slice s x lo hi
    | some .string, some x, some lo, some hi => some (.sslice x lo hi)
    | _, _, _, _ => none
  | .fieldAddr t x i => match P.underlying t, c x with
    | some (.struct fs), some x => match fs[i]? with
      | some f => match tSize P f.type with
        | some n => if n = 0 then none else some (.faddr f.offset x)
        | none => none
      | none => none
    | _, _ => none
  | .indexAddr t x i => match P.underlying t, c x, c i with
    | some (.slice e), some x, some i => (tSize P e).map fun s => .iaddr s x i
    | some (.array n e), some x, some i => (tSize P e).map fun s => .aaddr n s x i
    | _, _, _ => none
  | .field t x i => match P.underlying t, c x with
    | some (.struct fs), some x => match fs[i]? with
      | some f => match tSize P f.type, tAgg P f.type with
        | some s, some a => some (.field f.offset s a x)
        | _, _ => none
      | none => none
    | _, _ => none
  | .index t x i => match P.underlying t, c x, c i with
    | some .string, some x, some i => some (.sidx x i)
    | some (.array n e), some x, some i => match tSize P e, tAgg P e with
      | some s, some a => some (.aidx n s a x i)
      | _, _ => none
    | _, _, _ => none
  | .extract x i => (c x).map (.ext · i)
  | .call k => compCall P H fid c dst k
  | _ => none

def compDst (slots : List Nat) : Option Tmp → ADst
  | none => .no
  | some t => match look slots t with
    | some i => .var i
    | none => .tmp

def compGuard (slots : List Nat) (ops : List Oper) (k : Nat) : Option (Nat × Bool) → Option (Option (Opd × Bool))
  | none => some none
  | some (j, b) => match ops[j]? with
    | some o => match o.dst with
      | some t => if j < k then (match look slots t with
        | some i => some (some (.v i, b))
        | none => some (some (.t j, b))) else none
      | none => none
    | none => none

def compOper (slots : List Nat) (ops : List Oper) (k : Nat) (o : Oper) : Option AOper :=
  match compOp P H fid (compOpd slots ops k) (o.dst.getD 0) o.op, compGuard slots ops k o.guard with
  | some op, some g => some ⟨compDst slots o.dst, op, g⟩
  | _, _ => none

def compOpers (slots : List Nat) (ops : List Oper) : List Oper → Nat → Option (List AOper)
  | [], _ => some []
  | o :: os, k => match compOper P H fid slots ops k o, compOpers slots ops os (k + 1) with
    | some a, some as => some (a :: as)
    | _, _ => none

/-- Each temporary is written once, and lies within the frame. -/
def dstsOk (nt : Nat) (slots : List Nat) (ops : List Oper) : Bool :=
  ops.all (fun o => match o.dst with
    | some t => decide (t < nt)
    | none => true) &&
  decide ((ops.filterMap fun o => match o.dst with
    | some t => if (look slots t).isSome then none else some t
    | none => none).Nodup)

/-! ### regions whose order is drawn -/

def opdsOf : AOp → List Opd
  | .mov x | .box _ _ x | .load _ _ x | .nilc x | .un _ x | .toInt _ x | .idstr x | .faddr _ x | .field _ _ _ x | .len x | .slen x | .ext x _ => [x]
  | .pick a b c => [a, b, c]
  | .alloc _ _ _ _ => []
  | .build _ ps => ps.map fun p => p.2.2
  | .lit _ _ _ _ _ _ ps => ps.map fun p => p.2
  | .store _ a x => [a, x]
  | .bin _ _ x y | .iaddr _ x y | .aaddr _ _ x y | .sidx x y | .aidx _ _ _ x y | .append _ _ _ _ _ x y | .copy _ x y | .mnx _ x y | .mksl _ _ _ _ x y => [x, y]
  | .clo _ cap => cap
  | .slice _ x lo hi | .sslice x lo hi => x :: (lo.toList ++ hi.toList)
  | .call f args => f :: args
  | .pcall _ args => args

inductive Cls where
  | n | r | a | w
  deriving DecidableEq

def clsOf : AOp → Cls
  | .load .. => .r
  | .alloc .. | .box .. | .mksl .. => .a
  | .lit mode .. => if mode = 0 then .n else if mode = 1 then .a else if mode = 2 then .a else .w
  | .pcall .. => .r
  | .store .. | .append .. | .copy .. | .call .. => .w
  | _ => .n

def heapConf : Cls → Cls → Bool
  | .n, _ | _, .n => false
  | .r, .r => false
  | .r, .a => false
  | _, _ => true

def readsOf (o : AOper) : List Opd := (match o.guard with
  | some (x, _) => [x]
  | none => []) ++ opdsOf o.op

def readsV (o : AOper) (i : Nat) : Bool := (readsOf o).any fun | .v j => decide (j = i) | _ => false
def readsT (o : AOper) (k : Nat) : Bool := (readsOf o).any fun | .t j => decide (j = k) | _ => false

/-- May the i-th and the j-th operation (i before j in the text) not be exchanged? -/
def conf (i : Nat) (a : AOper) (j : Nat) (b : AOper) : Bool :=
  readsT b i || readsT a j || heapConf (clsOf a.op) (clsOf b.op) ||
  (match a.dst with | .var x => readsV b x | _ => false) || (match b.dst with | .var x => readsV a x | _ => false) ||
  (match a.dst, b.dst with | .var x, .var y => decide (x = y) | _, _ => false)

/-- What comes before each operation, by the edges that always bind. -/
def befs : List Oper → List (List Nat) → List (List Nat)
  | [], acc => acc
  | o :: os, acc => befs os (acc ++ [o.after.toList.flatMap fun e => if Region.binds .any e then e.on :: ((acc[e.on]?).getD []) else []])

def edgesOk : List Oper → Nat → Bool
  | [], _ => true
  | o :: os, k => o.after.toList.all (fun e => !Region.binds .any e || decide (e.on < k)) && edgesOk os (k + 1)

def pairsOk (bs : List (List Nat)) (as : List AOper) : Bool :=
  (List.range as.length).all fun j => (List.range j).all fun i =>
    match as[i]?, as[j]? with
    | some a, some b => !conf i a j b || ((bs[j]?).getD []).contains i
    | _, _ => true

def drawOk (ops : List Oper) (as : List AOper) : Bool := edgesOk ops 0 && pairsOk (befs ops []) as

/-! ### code -/

def compCode (nt : Nat) (slots : List Nat) : Code → ACode
  | .skip => .skip
  | .region _ ops draw => match compOpers P H fid slots ops.toList ops.toList 0 with
    | some l => if dstsOk nt slots ops.toList && (!draw || drawOk ops.toList l) then .ops l else .refuse
    | none => .refuse
  | .seq a b => .seq (compCode nt slots a) (compCode nt slots b)
  | .cond c a b => match compOpd slots [] 0 c with
    | some x => .cond x (compCode nt slots a) (compCode nt slots b)
    | none => .refuse
  | .block id c => .block id (compCode nt slots c)
  | .loop c => .loop (compCode nt slots c)
  | .exit id => .exit id
  | .ret => .ret
  | .label _ => .skip
  | .scope c => .seq .skip (compCode nt slots c)
  | _ => .refuse

def insertS (x : Nat) : List Nat → List Nat
  | [] => [x]
  | y :: ys => if x < y then x :: y :: ys else if x = y then y :: ys else y :: insertS x ys

def opdTmps (xs : List Operand) : List Nat := xs.filterMap fun | .tmp t => some t | _ => none

def regReads : List Oper → List Oper → Nat → List Nat → List Nat
  | _, [], _, acc => acc
  | ops, o :: os, k, acc => regReads ops os (k + 1) ((opdTmps o.op.operands.toList).foldl (fun acc t => if (lookT ops k t).isSome then acc else insertS t acc) acc)

def codeReads : Code → List Nat → List Nat
  | .region _ ops _, acc => regReads ops.toList ops.toList 0 acc
  | .seq a b, acc => codeReads b (codeReads a acc)
  | .cond c a b, acc => codeReads b (codeReads a ((opdTmps [c]).foldl (fun acc t => insertS t acc) acc))
  | .block _ c, acc | .loop c, acc | .scope c, acc => codeReads c acc
  | _, acc => acc

def resTmps : List ResultVar → Option (List Nat)
  | [] => some []
  | .tmp t :: r => (resTmps r).map (t :: ·)
  | .cell _ _ :: _ => none

def compFunc : Option AFunc :=
  match P.funcs[fid]? with
  | none => none
  | some fn => match fn.body, resTmps fn.results.toList with
    | some c, some rs =>
      let slots := codeReads c (rs.foldl (fun acc t => insertS t acc) [])
      match optL (look slots) rs with
      | some ris => if !(fn.name == "runtime.NumGoroutine") && decide slots.Nodup && slots.all (fun s => decide (s < fn.ntmps)) then some ⟨slots, compCode P H fid fn.ntmps slots c, ris⟩ else none
      | none => none
    | _, _ => none
end
end Go.Abs
