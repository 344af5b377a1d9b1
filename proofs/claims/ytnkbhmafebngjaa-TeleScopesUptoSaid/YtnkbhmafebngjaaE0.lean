/- The values, the states and the meaning of a small language in which a Go function of this seat is told: no memory but boxes and own rows. -/
import Derived.Orders
import Derived.RowKit3
import Derived.Below
namespace Go.Proofs.Ytnkbhmafebngjaa
namespace Ev
open Go

/-- Plain data. -/
inductive D where
  | int (k : IntKind) (n : Int)
  | bool (b : Bool)
  | str (s : ByteArray)
  | agg (cs : List D)
  | sl (sz : Nat) (xs : List D)
  | nilp
  | junk
  | rp (cs : List D)
  | clo (f : FuncId) (caps : List D)

def D.cells : D → List D
  | .agg cs => cs
  | d => [d]

/-- What a place of a frame, or of a box, holds. -/
inductive AV where
  | d (x : D)
  | fsl (sz : Nat) (xs : List D)
  | rsl (k v : Nat)
  | ptr (k v off : Nat)
  | eptr (k v sz i off : Nat)
  | clo (f : FuncId) (caps : List AV)
  | agg (cs : List AV)
  | tup (cs : List AV)
  | skip
  | junk

inductive Body where
  | dead
  | box (cs : List AV) (fz : Bool)
  | row (sz : Nat) (xs : List D) (fz : Bool)

structure Ent where
  ver : Nat
  body : Body

structure S where
  s : Nat → AV
  h : Nat → Ent

def upd {α : Type} (f : Nat → α) (i : Nat) (v : α) : Nat → α := fun j => if j = i then v else f j

/-! ### values as data -/
def allD (f : AV → Option D) : List AV → Option (List D)
  | [] => some []
  | a :: as => match f a with
    | some x => match allD f as with
      | some xs => some (x :: xs)
      | none => none
    | none => none

def toD (h : Nat → Ent) : Nat → AV → Option D
  | _, .d x => some x
  | _, .fsl sz xs => some (.sl sz xs)
  | _, .rsl k v => if v = (h k).ver then (match (h k).body with | .row sz xs _ => some (.sl sz xs) | _ => none) else none
  | n + 1, .ptr k v off => if v = (h k).ver then (match (h k).body with | .box cs _ => if off ≤ cs.length then (allD (toD h n) (cs.drop off)).map .rp else none | _ => none) else none
  | n + 1, .clo f caps => (allD (toD h n) caps).map (.clo f)
  | n + 1, .agg cs => (allD (toD h n) cs).map .agg
  | _, _ => none

/-- The boxes and rows that must not change any more where a value is told as data. -/
def sk (h : Nat → Ent) : Nat → AV → List Nat
  | _, .rsl k _ => [k]
  | n + 1, .ptr k _ _ => k :: (match (h k).body with | .box cs _ => cs.flatMap (sk h n) | _ => [])
  | n + 1, .clo _ caps => caps.flatMap (sk h n)
  | n + 1, .agg cs => cs.flatMap (sk h n)
  | _, _ => []

def Body.frz : Body → Body
  | .box cs _ => .box cs true
  | .row sz xs _ => .row sz xs true
  | .dead => .dead

def frz (h : Nat → Ent) (ks : List Nat) : Nat → Ent := fun k => if k ∈ ks then { h k with body := (h k).body.frz } else h k

def deep : Nat := 6

/-! ### operations -/
inductive Opd where
  | t (i : Nat)
  | c (v : AV)

def Opd.ev (s : Nat → AV) : Opd → AV
  | .t i => s i
  | .c v => v

inductive XOp where
  | mv (x : Opd)
  | nilrow (sz : Nat)
  | pick (c a b : Opd)
  | alloc (cells : List AV)
  | box (x : Opd)
  | load (n : Nat) (ag : Bool) (a : Opd)
  | store (n : Nat) (a x : Opd)
  | nilck (x : Opd)
  | bin (op : BinOp) (x y : Opd)
  | binb (op : BinOp) (x y : Opd)
  | un (op : UnOp) (x : Opd)
  | conv (k : IntKind) (x : Opd)
  | mkf (f : FuncId) (caps : List Opd)
  | mks (z : D) (sz bytes : Nat) (x : Opd)
  | slice (size : Nat) (x : Opd) (lo hi : Option Opd)
  | faddr (off : Nat) (x : Opd)
  | fld (off n : Nat) (ag : Bool) (x : Opd)
  | iaddr (size : Nat) (x i : Opd)
  | ext (x : Opd) (i : Nat)
  | len (x : Opd)
  | app (size bytes : Nat) (x y : Opd)
  | mm (mx : Bool) (x y : Opd)
  | call (f : Opd) (args : List Opd)
  | build (z : List AV) (parts : List (Nat × Nat × Opd))
  | bslice (z : D) (size n : Nat) (parts : List (Nat × Opd))

structure XOper where
  dst : Option Nat
  op : XOp
  guard : Option (Nat × Bool)

inductive XCode where
  | skip
  | region (ops : List XOper) (draw : Option (List (Bool × List Nat)))
  | seq (a b : XCode)
  | cond (c : Opd) (a b : XCode)
  | block (id : Nat) (a : XCode)
  | loop (a : XCode)
  | exit (id : Nat)
  | ret

def shiftD (l : Bool) (k : IntKind) (x y : Int) : Option D :=
  if y < 0 then none else some (.int k (if l then k.wrap (x * 2 ^ min y.toNat k.bits) else x.fdiv (2 ^ min y.toNat k.bits)))

def intD (op : BinOp) (k : IntKind) (x y : Int) : Option D :=
  match op with
  | .add => some (.int k (k.wrap (x + y)))
  | .sub => some (.int k (k.wrap (x - y)))
  | .mul => some (.int k (k.wrap (x * y)))
  | .quo => if y = 0 then none else some (.int k (k.wrap (x.tdiv y)))
  | .rem => if y = 0 then none else some (.int k (x.tmod y))
  | .or => some (.int k (k.wrap (BitVec.ofInt k.bits x ||| BitVec.ofInt k.bits y).toNat))
  | .eql => some (.bool (x == y))
  | .neq => some (.bool (x != y))
  | .lss => some (.bool (decide (x < y)))
  | .leq => some (.bool (decide (x ≤ y)))
  | .gtr => some (.bool (decide (x > y)))
  | .geq => some (.bool (decide (x ≥ y)))
  | _ => none

def binI (op : BinOp) (a b : AV) : Option D :=
  match a with
  | .d (.int k x) => match b with
    | .d (.int k' y) => match op with
      | .shl => shiftD true k x y
      | .shr => shiftD false k x y
      | op => if k = k' then intD op k x y else none
    | _ => none
  | _ => none

def binB (op : BinOp) (a b : AV) : Option D :=
  match a with
  | .d (.bool x) => match b with
    | .d (.bool y) => match op with
      | .eql => some (.bool (x == y))
      | .neq => some (.bool (!(x == y)))
      | _ => none
    | _ => none
  | _ => none

def AV.one : AV → Bool
  | .d (.agg _) => false
  | .d .junk => false
  | .d _ => true
  | .fsl _ _ => true
  | .rsl _ _ => true
  | .ptr _ _ _ => true
  | .eptr _ _ _ _ _ => true
  | .clo _ _ => true
  | _ => false

def AV.cells : AV → List AV
  | .d x => x.cells.map .d
  | .agg cs => cs
  | a => [a]

/-- n cells from a place on, if there are so many. -/
def cut {α : Type} (off n : Nat) (cs : List α) : Option (List α) := if off + n ≤ cs.length then some ((cs.drop off).take n) else none

def wrapA (ag : Bool) (cs : List AV) : Option AV := if ag then some (.agg cs) else match cs with | [c] => some c | _ => none
def wrapD (ag : Bool) (cs : List D) : Option D := if ag then some (.agg cs) else match cs with | [c] => some c | _ => none

def loadA (h : Nat → Ent) (n : Nat) (ag : Bool) : AV → Option AV
  | .ptr k v off => if v = (h k).ver then (match (h k).body with | .box cs _ => (cut off n cs).bind (wrapA ag) | _ => none) else none
  | .d (.rp cs) => (cut 0 n cs).bind fun cs => (wrapD ag cs).map .d
  | .eptr k v sz i off => if v = (h k).ver then (match (h k).body with | .row sz' xs false => if sz' = sz then (xs[i]?).bind fun y => (cut off n y.cells).bind fun cs => (wrapD ag cs).map .d else none | _ => none) else none
  | _ => none

def put {α : Type} (off : Nat) (new cs : List α) : List α := cs.take off ++ new ++ cs.drop (off + new.length)

/-- The heap behind a store. -/
def storeA (h : Nat → Ent) (n : Nat) (a x : AV) : Option (Nat → Ent) :=
  match a with
  | .ptr k v off => if v = (h k).ver then (match (h k).body with
      | .box cs false => if x.cells.length = n ∧ off + n ≤ cs.length ∧ x.cells.all AV.one = true then some (upd h k ⟨v, .box (put off x.cells cs) false⟩) else none
      | _ => none) else none
  | .eptr k v sz i off => if v = (h k).ver then (match (h k).body with
      | .row sz' xs false => match toD h deep x with
        | some y => if off = 0 ∧ n = sz ∧ sz = sz' ∧ y.cells.length = n ∧ x.cells.all AV.one = true ∧ i < xs.length ∧ k ∉ sk h deep x then some (upd (frz h (sk h deep x)) k ⟨v, .row sz (xs.set i y) false⟩) else none
        | none => none
      | _ => none) else none
  | _ => none

/-- A slice's stride and elements. -/
def elemsA (h : Nat → Ent) : AV → Option (Nat × List D)
  | .d (.sl sz xs) => some (sz, xs)
  | .fsl sz xs => some (sz, xs)
  | .rsl k v => if v = (h k).ver then (match (h k).body with | .row sz xs _ => some (sz, xs) | _ => none) else none
  | _ => none

/-- The elements of a slice that stay. -/
def elemsS (h : Nat → Ent) : AV → Option (Nat × List D)
  | .d (.sl sz xs) => some (sz, xs)
  | .fsl sz xs => some (sz, xs)
  | .rsl k v => if v = (h k).ver then (match (h k).body with | .row sz xs true => some (sz, xs) | _ => none) else none
  | _ => none

def newE (h : Nat → Ent) (k : Nat) (b : Body) : Nat → Ent := upd h k ⟨(h k).ver + 1, b⟩

def maxRoom : Nat := 140737488355328

def idx (i : Option AV) (n : Nat) (dflt : Nat) : Option Nat :=
  match i with
  | none => some dflt
  | some (.d (.int _ z)) => if 0 ≤ z ∧ z ≤ (n : Int) then some z.toNat else none
  | _ => none

def buildA (h : Nat → Ent) (s : Nat → AV) (z : List AV) : List (Nat × Nat × Opd) → Option (List AV)
  | [] => some z
  | (off, size, x) :: ps => if (x.ev s).cells.length = size ∧ off + size ≤ z.length ∧ (x.ev s).cells.all AV.one = true then buildA h s (put off (x.ev s).cells z) ps else none

def partsD (h : Nat → Ent) (s : Nat → AV) (size : Nat) (xs : List D) : List (Nat × Opd) → Option (List D)
  | [] => some xs
  | (i, x) :: ps => match toD h deep (x.ev s) with
    | some y => if y.cells.length = size ∧ i < xs.length ∧ (x.ev s).cells.all AV.one = true then partsD h s size (xs.set i y) ps else none
    | none => none

def partsK (h : Nat → Ent) (s : Nat → AV) : List (Nat × Opd) → List Nat
  | [] => []
  | (_, x) :: ps => sk h deep (x.ev s) ++ partsK h s ps

/-- What an operation that calls nothing gives, and the heap behind it. -/
def act (dst : Option Nat) (st : S) : XOp → Option (AV × (Nat → Ent))
  | .mv x => some (x.ev st.s, st.h)
  | .nilrow sz => dst.bind fun k => some (.rsl k ((st.h k).ver + 1), newE st.h k (.row sz [] false))
  | .pick c a b => match c.ev st.s with
    | .d (.bool t) => some (if t then a.ev st.s else b.ev st.s, st.h)
    | _ => none
  | .alloc cells => dst.bind fun k => some (.ptr k ((st.h k).ver + 1) 0, newE st.h k (.box cells false))
  | .box x => dst.bind fun k => if (x.ev st.s).cells.all AV.one = true then some (.ptr k ((st.h k).ver + 1) 0, newE st.h k (.box (x.ev st.s).cells false)) else none
  | .load n ag a => (loadA st.h n ag (a.ev st.s)).map fun v => (v, st.h)
  | .store n a x => (storeA st.h n (a.ev st.s) (x.ev st.s)).map fun h => (.skip, h)
  | .nilck x => match x.ev st.s with
    | .ptr k v o => if v = (st.h k).ver then (match (st.h k).body with | .box _ _ => some (.ptr k v o, st.h) | _ => none) else none
    | .d (.rp cs) => some (.d (.rp cs), st.h)
    | .d (.clo f cs) => some (.d (.clo f cs), st.h)
    | _ => none
  | .bin op x y => (binI op (x.ev st.s) (y.ev st.s)).map fun v => (.d v, st.h)
  | .binb op x y => (binB op (x.ev st.s) (y.ev st.s)).map fun v => (.d v, st.h)
  | .un op x => match op, x.ev st.s with
    | .not, .d (.bool b) => some (.d (.bool !b), st.h)
    | .neg, .d (.int k n) => some (.d (.int k (k.wrap (0 - n))), st.h)
    | _, _ => none
  | .conv k x => match x.ev st.s with
    | .d (.int _ n) => some (.d (.int k (k.wrap n)), st.h)
    | _ => none
  | .mkf f caps => some (.clo f (caps.map (·.ev st.s)), st.h)
  | .mks z sz bytes x => dst.bind fun k => match x.ev st.s with
    | .d (.int .i64 n) => if 0 ≤ n ∧ n * bytes ≤ maxRoom ∧ n ≤ maxRoom then some (.rsl k ((st.h k).ver + 1), newE st.h k (.row sz (List.replicate n.toNat z) false)) else none
    | _ => none
  | .slice size x lo hi => match toD st.h deep (x.ev st.s) with
    | some (.sl sz xs) => if sz = size then match idx (hi.map (·.ev st.s)) xs.length xs.length with
      | some h => match idx (lo.map (·.ev st.s)) h 0 with
        | some l => some (.d (.sl sz ((xs.take h).drop l)), frz st.h (sk st.h deep (x.ev st.s)))
        | none => none
      | none => none
      else none
    | _ => none
  | .faddr off x => match x.ev st.s with
    | .ptr k v o => if v = (st.h k).ver then (match (st.h k).body with | .box _ _ => some (.ptr k v (o + off), st.h) | _ => none) else none
    | .d (.rp cs) => if off ≤ cs.length then some (.d (.rp (cs.drop off)), st.h) else none
    | .eptr k v sz i o => if v = (st.h k).ver then (match (st.h k).body with | .row _ _ false => some (.eptr k v sz i (o + off), st.h) | _ => none) else none
    | _ => none
  | .fld off n ag x => match x.ev st.s with
    | .d (.agg cs) => (cut off n cs).bind fun cs => (wrapD ag cs).map fun v => (.d v, st.h)
    | .agg cs => (cut off n cs).bind fun cs => (wrapA ag cs).map fun v => (v, st.h)
    | _ => none
  | .iaddr size x i => match i.ev st.s with
    | .d (.int _ z) => if 0 ≤ z then
        match x.ev st.s with
        | .rsl k v => if v = (st.h k).ver then (match (st.h k).body with
          | .row sz xs false => if z < (xs.length : Int) ∧ sz = size then some (.eptr k v size z.toNat 0, st.h) else none
          | .row sz xs true => match xs[z.toNat]? with
            | some y => if sz = size then some (.d (.rp y.cells), st.h) else none
            | none => none
          | _ => none) else none
        | x => match elemsA st.h x with
          | some (sz, xs) => match xs[z.toNat]? with
            | some y => if sz = size then some (.d (.rp y.cells), st.h) else none
            | none => none
          | none => none
        else none
    | _ => none
  | .ext x i => match x.ev st.s with
    | .tup cs => (cs[i]?).map fun v => (v, st.h)
    | _ => none
  | .len x => (elemsA st.h (x.ev st.s)).map fun p => (.d (.int .i64 p.2.length), st.h)
  | .app size bytes x y => match elemsS st.h (y.ev st.s) with
    | some (sy, ys) => if sy = size then
      match x.ev st.s with
      | .rsl k v => if v = (st.h k).ver then (match (st.h k).body with
        | .row sz xs fz => if sz = size ∧ (xs.length + ys.length) * bytes ≤ maxRoom then some (.rsl k (v + 1), upd st.h k ⟨v + 1, .row size (xs ++ ys) fz⟩) else none
        | _ => none) else none
      | .fsl sz xs => dst.bind fun k => if sz = size ∧ (xs.length + ys.length) * bytes ≤ maxRoom then some (.rsl k ((st.h k).ver + 1), newE st.h k (.row size (xs ++ ys) true)) else none
      | _ => none
      else none
    | none => none
  | .mm mx x y => match x.ev st.s, y.ev st.s with
    | .d (.int k a), .d (.int k' b) => if k = k' then some (.d (.int k (if mx then (if b > a then b else a) else (if b < a then b else a))), st.h) else none
    | _, _ => none
  | .build z parts => (buildA st.h st.s z parts).map fun cs => (.agg cs, st.h)
  | .bslice z size n parts => (partsD st.h st.s size (List.replicate n z) parts).map fun xs => (.fsl size xs, frz st.h (partsK st.h st.s parts))
  | .call _ _ => none

end Ev
end Go.Proofs.Ytnkbhmafebngjaa
