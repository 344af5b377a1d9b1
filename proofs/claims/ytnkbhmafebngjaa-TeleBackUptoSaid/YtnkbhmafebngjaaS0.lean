/- Terms, arguments, sorts, constructors, blocks as data. -/
import Derived.Test.YtnkbhmafebngjaaX
namespace Go.Proofs.Ytnkbhmafebngjaa
namespace Ev
open Go

inductive T where
  | mk (kind num : Int) (kids : List T)
def T.kind : T → Int | .mk k _ _ => k
def T.num : T → Int | .mk _ n _ => n
def T.kids : T → List T | .mk _ _ ks => ks

def eT : T → D
  | .mk k n ks => .agg [.int .i64 k, .int .i64 n, .sl 3 (ks.map eT)]
def cT (t : T) : List D := [.int .i64 t.kind, .int .i64 t.num, .sl 3 (t.kids.map eT)]
theorem eT_eq (t : T) : eT t = .agg (cT t) := by cases t; rw [eT]; rfl
@[simp] theorem eT_cells (t : T) : (eT t).cells = cT t := by rw [eT_eq]; rfl
def eTs (l : List T) : D := .sl 3 (l.map eT)

theorem T.ind {p : T → Prop} (h : ∀ k n ks, (∀ x ∈ ks, p x) → p (.mk k n ks)) : ∀ t, p t
  | .mk k n ks => h k n ks fun x _ => T.ind h x

structure Ar where
  rc : Bool
  ty : T
  dom : List T
  sort : Int
  idx : List T
def cAr (a : Ar) : List D := .bool a.rc :: cT a.ty ++ [eTs a.dom, .int .i64 a.sort, eTs a.idx]
def eAr (a : Ar) : D := .agg (cAr a)
def eArs (l : List Ar) : D := .sl 7 (l.map eAr)

structure So where
  idx : List Ar
  level : Int
  dec : Bool
  dty : T
def cSo (s : So) : List D := [eArs s.idx, .int .i64 s.level, .bool s.dec] ++ cT s.dty
def eSo (s : So) : D := .agg (cSo s)
def eSos (l : List So) : D := .sl 6 (l.map eSo)

structure Co where
  sort : Int
  args : List Ar
  idx : List T
  dec : T
def cCo (c : Co) : List D := [.int .i64 c.sort, eArs c.args, eTs c.idx] ++ cT c.dec
def eCo (c : Co) : D := .agg (cCo c)
def eCos (l : List Co) : D := .sl 6 (l.map eCo)

structure Bl where
  sorts : List So
  cons : List Co
  elim : Int
def cBl (b : Bl) : List D := [eSos b.sorts, eCos b.cons, .int .i64 b.elim]
def eBl (b : Bl) : D := .agg (cBl b)

def w64 (n : Int) : Int := IntKind.i64.wrap n
end Ev
end Go.Proofs.Ytnkbhmafebngjaa
