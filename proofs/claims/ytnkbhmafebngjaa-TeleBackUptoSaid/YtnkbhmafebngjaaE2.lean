/- How a function of the program is told in the small language. -/
import Derived.Test.YtnkbhmafebngjaaE1
namespace Go.Proofs.Ytnkbhmafebngjaa
namespace Ev
open Go

def sz? (P : Program) (t : TypeId) : Option Nat := (P.info? t).map (·.size)
def byt? (P : Program) (t : TypeId) : Option Nat := (P.info? t).map (·.bytes)
def elem? (P : Program) (t : TypeId) : Option TypeId := match P.underlying t with | some (.slice e) => some e | _ => none
def ag? (P : Program) (t : TypeId) : Option Bool := match P.underlying t with
  | some (.struct _) => some true
  | some (.array _ _) => some true
  | some _ => some false
  | none => none

/-- A constant as a value of its type. -/
def cav (P : Program) (t : TypeId) : Value → AV
  | .int k n => .d (.int k n)
  | .bool b => .d (.bool b)
  | .string s => .d (.str s)
  | .pointer none => .d .nilp
  | .nilFunc => .d .junk
  | .slice none 0 0 => match (elem? P t).bind (sz? P) with
    | some z => .fsl z []
    | none => .junk
  | _ => .junk

def copd (P : Program) (t : TypeId) : Operand → Opd
  | .tmp i => .t i
  | .const v => .c (cav P t v)
  | .func f => .c (.d (.clo f []))
  | .global _ => .c .junk

/-- The types of the cells of a type. -/
def ctypes (P : Program) : Nat → TypeId → List TypeId
  | 0, t => [t]
  | n + 1, t => match P.underlying t with
    | some (.struct fs) => fs.toList.flatMap fun f => ctypes P n f.type
    | _ => [t]

def zcells (P : Program) (t : TypeId) : Option (List AV) :=
  match (P.info? t).bind (·.zero) with
  | some z => let cs := z.cells.toList
    let ts := ctypes P 8 t
    if cs.length = ts.length ∧ z.cells.all Value.oneCell' = true then some ((cs.zip ts).map fun p => cav P p.2 p.1) else none
  | none => none

def AV.data : AV → Option D
  | .d x => some x
  | .fsl z xs => some (.sl z xs)
  | _ => none

def mkD (g : Bool) (ds : List D) : Option D := if g then some (.agg ds) else match ds with
  | [d] => match d with
    | .agg _ => none
    | d => some d
  | _ => none

/-- A type's zero value as data. -/
def zdata (P : Program) (t : TypeId) : Option D :=
  (ag? P t).bind fun g => (zcells P t).bind fun cs => (cs.mapM AV.data).bind fun ds => if sz? P t = some ds.length then mkD g ds else none

def cparts (P : Program) (fields : Array Field) : List (Nat × Operand) → Option (List (Nat × Nat × Opd))
  | [] => some []
  | (i, x) :: ps => match fields[i]?, cparts P fields ps with
    | some f, some r => (sz? P f.type).map fun n => (f.offset, n, copd P f.type x) :: r
    | _, _ => none

def cop (P : Program) (o : Oper) : Option XOp :=
  match o.op with
  | .move x => some (.mv (copd P o.type x))
  | .assign x => match x with
    | .const (.slice none 0 0) => ((elem? P o.type).bind (sz? P)).map .nilrow
    | x => some (.mv (copd P o.type x))
  | .pick c a b => some (.pick (copd P 0 c) (copd P o.type a) (copd P o.type b))
  | .alloc e => (zcells P e).map .alloc
  | .box e x => some (.box (copd P e x))
  | .load t a => (sz? P t).bind fun n => (ag? P t).map fun g => .load n g (copd P 0 a)
  | .store t a x => (sz? P t).map fun n => .store n (copd P 0 a) (copd P t x)
  | .nilCheck x => some (.nilck (copd P 0 x))
  | .binOp op xt x y yt => match P.underlying xt with
    | some .bool => some (.binb op (copd P xt x) (copd P yt y))
    | some (.int _) => some (.bin op (copd P xt x) (copd P yt y))
    | _ => none
  | .unOp op xt x => some (.un op (copd P xt x))
  | .convert src dst x => match P.underlying src, P.underlying dst with
    | some _, some (.int k) => some (.conv k (copd P src x))
    | _, _ => none
  | .makeFunc fn first caps => match fn, first.toList with
    | .func f, [] => some (.mkf f (caps.toList.map (copd P 0)))
    | _, _ => none
  | .makeSlice t l c => match l, c with
    | .tmp l, .tmp c => if l = c then (elem? P t).bind fun e => (zdata P e).bind fun z => (sz? P e).bind fun s => (byt? P e).bind fun b => if 0 < s ∧ 0 < b then some (.mks z s b (.t l)) else none else none
    | _, _ => none
  | .slice t x lo hi mx => match mx, elem? P t with
    | none, some e => (sz? P e).map fun n => .slice n (copd P t x) (lo.map (copd P 0)) (hi.map (copd P 0))
    | _, _ => none
  | .fieldAddr s x f => match P.underlying s with
    | some (.struct fs) => (fs[f]?).bind fun fl => (sz? P fl.type).bind fun n => if n = 0 then none else some (.faddr fl.offset (copd P 0 x))
    | _ => none
  | .field t x f => match P.underlying t with
    | some (.struct fs) => (fs[f]?).bind fun fl => (sz? P fl.type).bind fun n => (ag? P fl.type).map fun g => .fld fl.offset n g (copd P t x)
    | _ => none
  | .indexAddr t x i => (elem? P t).bind fun e => (sz? P e).map fun n => .iaddr n (copd P t x) (copd P 0 i)
  | .extract x i => some (.ext (copd P 0 x) i)
  | .build t parts => match P.underlying t with
    | some (.struct fs) => if (fs.toList.all fun f => (sz? P f.type).isSome) = true then (zcells P t).bind fun z => (cparts P fs parts.toList).map fun ps => .build z ps else none
    | _ => none
  | .buildSlice t n parts => (elem? P t).bind fun e => (zdata P e).bind fun z => (sz? P e).bind fun s => if n * s ≤ 16777216 ∧ 0 < s then some (.bslice z s n (parts.toList.map fun p => (p.1, copd P e p.2))) else none
  | .call c => match c.callee, c.args.toList, c.argTypes.toList with
    | .builtin .len, [x], [t] => (elem? P t).map fun _ => .len (copd P t x)
    | .builtin .append, [x, y], [t, u] => if t = u then (elem? P t).bind fun e => (sz? P e).bind fun s => (byt? P e).bind fun b => if 0 < s ∧ 0 < b ∧ ((P.info? e).bind (·.zero)).map (·.cells.size) = some s then some (.app s b (copd P t x) (copd P t y)) else none else none
    | .builtin .max, [x, y], _ => some (.mm true (copd P 0 x) (copd P 0 y))
    | .builtin .min, [x, y], _ => some (.mm false (copd P 0 x) (copd P 0 y))
    | .value f, as, ts => if as.length = ts.length then some (.call (copd P 0 f) ((as.zip ts).map fun p => copd P p.2 p.1)) else none
    | _, _, _ => none
  | _ => none

/-- An operation, its place's number below n. -/
def coper (P : Program) (ops : Array Oper) (n : Nat) (o : Oper) : Option XOper :=
  match cop P o, o.guard with
  | some x, none => if (o.dst.all (· < n)) then some ⟨o.dst, x, none⟩ else none
  | some x, some (j, b) => match (ops[j]?).bind (·.dst) with
    | some d => if (o.dst.all (· < n)) ∧ d < n then some ⟨o.dst, x, some (d, b)⟩ else none
    | none => none
  | none, _ => none

def copers (P : Program) (ops : Array Oper) (n : Nat) : List Oper → Option (List XOper)
  | [] => some []
  | o :: os => match coper P ops n o, copers P ops n os with
    | some x, some xs => some (x :: xs)
    | _, _ => none

/-! ### the order of a region that draws it -/
def opdL : Opd → List Nat
  | .t i => [i]
  | .c _ => []

def optL : Option Opd → List Nat
  | some x => opdL x
  | none => []

/-- The places that an operation looks at. -/
def looksOp : XOp → List Nat
  | .mv x | .box x | .nilck x | .un _ x | .conv _ x | .mks _ _ _ x | .faddr _ x | .fld _ _ _ x | .ext x _ | .len x => opdL x
  | .load _ _ a => opdL a
  | .nilrow _ | .alloc _ => []
  | .pick c a b => opdL c ++ opdL a ++ opdL b
  | .store _ a x => opdL a ++ opdL x
  | .bin _ x y | .binb _ x y | .app _ _ x y | .mm _ x y | .iaddr _ x y => opdL x ++ opdL y
  | .mkf _ cs => cs.flatMap opdL
  | .slice _ x lo hi => opdL x ++ optL lo ++ optL hi
  | .call g as => opdL g ++ as.flatMap opdL
  | .build _ ps => ps.flatMap fun p => opdL p.2.2
  | .bslice _ _ _ ps => ps.flatMap fun p => opdL p.2

def looks (o : XOper) : List Nat := (match o.guard with | some (j, _) => [j] | none => []) ++ looksOp o.op

def afters (o : Oper) : List Nat := o.after.toList.filterMap fun e => if Region.binds .any e then some e.on else none

/-- What must have gone before each operation, at the least (numbers as bits). -/
def befs : List Oper → List Nat → List Nat
  | [], acc => acc
  | o :: os, acc => befs os (acc ++ [(afters o).foldl (fun s j => s ||| 2 ^ j ||| acc.getD j 0) 0])

def apartX (a b : XOper) : Bool :=
  (match a.dst with | some d => !(looks b).contains d && b.dst != some d | none => true) && (match b.dst with | some d => !(looks a).contains d | none => true)

/-- The operation has to do with no box and no row, whatever it is handed. -/
def still : XOp → Bool
  | .mv _ | .pick _ _ _ | .bin _ _ _ | .binb _ _ _ | .un _ _ | .conv _ _ | .mkf _ _ | .fld _ _ _ _ | .ext _ _ | .mm _ _ _ | .build _ _ => true
  | _ => false

/-- May operation i go behind operation j, where i stands first in the text? -/
def loose (bs : List Nat) (i j : Nat) : Bool := !(bs.getD j 0).testBit i

/-- For each operation: is it asked for later; and the earlier ones that may go behind it and have to do with boxes or rows as it has. none: places don't allow it. -/
def pairs (l : List Oper) (xs : List XOper) : Option (List (Bool × List Nat)) :=
  let bs := befs l []
  let n := xs.length
  let ok := (List.range n).all fun j => (List.range j).all fun i => !loose bs i j || (match xs[i]?, xs[j]? with | some a, some b => apartX a b | _, _ => false)
  let prev := (List.range n).map fun j => (List.range j).filter fun i => loose bs i j && (match xs[i]?, xs[j]? with | some a, some b => !still a.op && !still b.op | _, _ => false)
  if l.length = n ∧ ok = true ∧ (l.zipIdx.all fun p => (afters p.1).all (· < p.2)) = true then some ((List.range n).map fun j => (prev.any fun p => p.contains j, prev.getD j [])) else none

def ccode (P : Program) (n : Nat) : Code → Option XCode
  | .skip => some .skip
  | .region _ ops dr => match copers P ops n ops.toList with
    | some xs => if dr then (pairs ops.toList xs).map fun ps => .region xs (some ps) else some (.region xs none)
    | none => none
  | .seq a b => match ccode P n a, ccode P n b with
    | some x, some y => some (.seq x y)
    | _, _ => none
  | .cond c a b => match ccode P n a, ccode P n b with
    | some x, some y => some (.cond (copd P 0 c) x y)
    | _, _ => none
  | .block id a => (ccode P n a).map (.block id)
  | .loop a => (ccode P n a).map .loop
  | .exit id => some (.exit id)
  | .ret => some .ret
  | _ => none

inductive XRes where
  | tmp (i : Nat)
  | cell (i n : Nat) (ag : Bool)

structure XFn where
  np : Nat
  nt : Nat
  res : List XRes
  code : XCode

def cres (P : Program) : List ResultVar → Option (List XRes)
  | [] => some []
  | .tmp i :: rs => (cres P rs).map (.tmp i :: ·)
  | .cell i t :: rs => match sz? P t, ag? P t, cres P rs with
    | some n, some g, some r => some (.cell i n g :: r)
    | _, _, _ => none

def cfn (P : Program) (fn : Func) : Option XFn :=
  match fn.body with
  | some c => if fn.name = "runtime.NumGoroutine" then none else
    match ccode P fn.ntmps c, cres P fn.results.toList with
    | some x, some r => if fn.params.size + fn.nfree ≤ fn.ntmps then some ⟨fn.params.size + fn.nfree, fn.ntmps, r, x⟩ else none
    | _, _ => none
  | none => none

end Ev
end Go.Proofs.Ytnkbhmafebngjaa
