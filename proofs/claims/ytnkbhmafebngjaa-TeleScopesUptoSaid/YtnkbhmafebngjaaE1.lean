/- What it is for memory to hold these values; what a call does, told on them. -/
import Derived.Test.YtnkbhmafebngjaaE0
import Derived.Laws.World
import Derived.Laws.Sem
namespace Go.Proofs.Ytnkbhmafebngjaa
namespace Ev
open Go

/-- In world w the value reads as the data, and all that is read lies where nothing changes any more (St: how many first cells of a block stay). -/
inductive Rel (St : Nat → Nat) (w : World) : Value → D → Prop
  | int (k : IntKind) (n : Int) : Rel St w (.int k n) (.int k n)
  | bool (b : Bool) : Rel St w (.bool b) (.bool b)
  | str (s : ByteArray) : Rel St w (.string s) (.str s)
  | nilp : Rel St w (.pointer none) .nilp
  | junk (v : Value) : Rel St w v .junk
  | agg (vs : Array Value) (cs : List D) (hn : vs.size = cs.length) (h : ∀ (j : Nat) c, cs[j]? = some c → Rel St w (vs.getD j undef) c) : Rel St w (.agg vs) (.agg cs)
  | sl (A : Option Addr) (cap sz b off : Nat) (xs : List D) (hc : xs.length ≤ cap) (hm : xs.length ≤ 9223372036854775807) (hs : ∀ x ∈ xs, x.cells.length = sz) (ha : 0 < xs.length → A = some ⟨b, off, none⟩ ∧ off + xs.length * sz ≤ St b)
      (val : Nat → Nat → Value) (hv : ∀ (i : Nat) x, xs[i]? = some x → ∀ (j : Nat) c, x.cells[j]? = some c → w.cell? ⟨b, off + i * sz + j, none⟩ = some (val i j))
      (h1 : ∀ (i : Nat) x, xs[i]? = some x → ∀ (j : Nat) c, x.cells[j]? = some c → (val i j).oneCell' = true)
      (hr : ∀ (i : Nat) x, xs[i]? = some x → ∀ (j : Nat) c, x.cells[j]? = some c → Rel St w (val i j) c) : Rel St w (.slice A xs.length cap) (.sl sz xs)
  | rp (b off : Nat) (cs : List D) (hb : off + cs.length ≤ St b) (val : Nat → Value) (hv : ∀ (j : Nat) c, cs[j]? = some c → w.cell? ⟨b, off + j, none⟩ = some (val j))
      (h1 : ∀ (j : Nat) c, cs[j]? = some c → (val j).oneCell' = true) (hr : ∀ (j : Nat) c, cs[j]? = some c → Rel St w (val j) c) : Rel St w (.pointer (some ⟨b, off, none⟩)) (.rp cs)
  | clo (f : FuncId) (vs : Array Value) (cs : List D) (hn : vs.size = cs.length) (h : ∀ (j : Nat) c, cs[j]? = some c → Rel St w (vs.getD j undef) c) : Rel St w (.func (.func f) #[] vs) (.clo f cs)

/-- What lies stable stays. -/
structure Keeps (St : Nat → Nat) (w : World) (St' : Nat → Nat) (w' : World) : Prop where
  st : ∀ b, St b ≤ St' b
  cell : ∀ b i, i < St b → w'.cell? ⟨b, i, none⟩ = w.cell? ⟨b, i, none⟩

theorem Keeps.refl (St : Nat → Nat) (w : World) : Keeps St w St w := ⟨fun _ => Nat.le_refl _, fun _ _ _ => rfl⟩
theorem Keeps.trans {St St' St'' : Nat → Nat} {w w' w'' : World} (h : Keeps St w St' w') (k : Keeps St' w' St'' w'') : Keeps St w St'' w'' :=
  ⟨fun b => Nat.le_trans (h.st b) (k.st b), fun b i hi => (k.cell b i (Nat.lt_of_lt_of_le hi (h.st b))).trans (h.cell b i hi)⟩

theorem cells_at {xs : List D} {sz i j : Nat} {x c : D} (hs : ∀ x ∈ xs, x.cells.length = sz) (hi : xs[i]? = some x) (hj : x.cells[j]? = some c) : i < xs.length ∧ j < sz ∧ i * sz + j < xs.length * sz := by
  obtain ⟨h1, h2⟩ := List.getElem?_eq_some_iff.1 hi
  obtain ⟨h3, _⟩ := List.getElem?_eq_some_iff.1 hj
  have hx := hs x (h2 ▸ List.getElem_mem h1)
  refine ⟨h1, by omega, ?_⟩
  have : i * sz + sz ≤ xs.length * sz := by rw [← Nat.succ_mul]; exact Nat.mul_le_mul_right _ h1
  omega

theorem Rel.keeps {St St' : Nat → Nat} {w w' : World} (hk : Keeps St w St' w') {v : Value} {d : D} (h : Rel St w v d) : Rel St' w' v d := by
  induction h with
  | int k n => exact .int k n
  | bool b => exact .bool b
  | str s => exact .str s
  | nilp => exact .nilp
  | junk v => exact .junk v
  | agg vs cs hn _ ih => exact .agg vs cs hn ih
  | sl A cap sz b off xs hc hm hs ha val hv h1 hr ih =>
    refine .sl A cap sz b off xs hc hm hs (fun hp => ⟨(ha hp).1, Nat.le_trans (ha hp).2 (hk.st b)⟩) val (fun i x hi j c hj => ?_) h1 ih
    have hb := cells_at hs hi hj
    rw [hk.cell b _ (by have := (ha (by omega)).2; omega)]
    exact hv i x hi j c hj
  | rp b off cs hb val hv h1 hr ih =>
    refine .rp b off cs (Nat.le_trans hb (hk.st b)) val (fun j c hj => ?_) h1 ih
    have := (List.getElem?_eq_some_iff.1 hj).1
    rw [hk.cell b _ (by omega)]
    exact hv j c hj
  | clo f vs cs hn _ ih => exact .clo f vs cs hn ih

/-- Where a box, a row of the call's own lies. -/
structure Hd where
  A : Option Addr
  cap : Nat

structure GS where
  St : Nat → Nat
  hd : Nat → Hd

/-- The value is what the place of a frame (or of a box) tells. -/
inductive ARel (G : GS) (h : Nat → Ent) (w : World) : Value → AV → Prop
  | d (v : Value) (x : D) (hr : Rel G.St w v x) : ARel G h w v (.d x)
  | fsl (A : Option Addr) (n sz : Nat) (xs : List D) (hr : Rel G.St w (.slice A n n) (.sl sz xs)) : ARel G h w (.slice A n n) (.fsl sz xs)
  | rsl (v : Value) (k ver : Nat) (h1 : v.oneCell' = true) (hle : ver ≤ (h k).ver) (hv : ver = (h k).ver → ∀ sz xs fz, (h k).body = .row sz xs fz → v = .slice (G.hd k).A xs.length (G.hd k).cap) : ARel G h w v (.rsl k ver)
  | ptr (v : Value) (k ver off : Nat) (h1 : v.oneCell' = true) (hle : ver ≤ (h k).ver) (hv : ver = (h k).ver → ∀ cs fz, (h k).body = .box cs fz → ∃ b, (G.hd k).A = some ⟨b, 0, none⟩ ∧ v = .pointer (some ⟨b, off, none⟩)) : ARel G h w v (.ptr k ver off)
  | eptr (v : Value) (k ver sz i off : Nat) (h1 : v.oneCell' = true) (hle : ver ≤ (h k).ver) (hv : ver = (h k).ver → ∀ sz' xs, (h k).body = .row sz' xs false → i < xs.length ∧ ∃ b, (G.hd k).A = some ⟨b, 0, none⟩ ∧ v = .pointer (some ⟨b, i * sz + off, none⟩)) : ARel G h w v (.eptr k ver sz i off)
  | clo (f : FuncId) (vs : Array Value) (cs : List AV) (hn : vs.size = cs.length) (hr : ∀ (j : Nat) c, cs[j]? = some c → ARel G h w (vs.getD j undef) c) : ARel G h w (.func (.func f) #[] vs) (.clo f cs)
  | agg (vs : Array Value) (cs : List AV) (hn : vs.size = cs.length) (hr : ∀ (j : Nat) c, cs[j]? = some c → ARel G h w (vs.getD j undef) c) : ARel G h w (.agg vs) (.agg cs)
  | tup (vs : Array Value) (cs : List AV) (hn : vs.size = cs.length) (hr : ∀ (j : Nat) c, cs[j]? = some c → ARel G h w (vs.getD j undef) c) : ARel G h w (.tuple vs) (.tup cs)
  | skip : ARel G h w undef .skip
  | junk (v : Value) : ARel G h w v .junk

/-- Two bodies of one kind and length, the one no freer than the other: a pointer to the one serves as one to the other. -/
def Body.like : Body → Body → Prop
  | .dead, .dead => True
  | .box _ _, .box _ _ => True
  | .row _ xs fz, .row _ xs' fz' => xs.length = xs'.length ∧ (fz = true → fz' = true)
  | _, _ => False

theorem Body.like_refl (b : Body) : b.like b := by cases b <;> simp [Body.like]
theorem Body.like_trans {a b c : Body} (h : a.like b) (k : b.like c) : a.like c := by
  cases a <;> cases b <;> cases c <;> simp_all [Body.like]
theorem Body.like_frz (b : Body) : b.like b.frz := by cases b <;> simp [Body.like, Body.frz]

/-- The state has gone on: what was told of a value still stands. -/
structure Ext (G : GS) (h : Nat → Ent) (w : World) (G' : GS) (h' : Nat → Ent) (w' : World) : Prop where
  keeps : Keeps G.St w G'.St w'
  ver : ∀ k, (h k).ver ≤ (h' k).ver
  same : ∀ k, (h' k).ver = (h k).ver → G'.hd k = G.hd k ∧ (h k).body.like (h' k).body

theorem Ext.refl (G : GS) (h : Nat → Ent) (w : World) : Ext G h w G h w := ⟨.refl _ _, fun _ => Nat.le_refl _, fun _ _ => ⟨rfl, Body.like_refl _⟩⟩
theorem Ext.trans {G G' G'' : GS} {h h' h'' : Nat → Ent} {w w' w'' : World} (e : Ext G h w G' h' w') (f : Ext G' h' w' G'' h'' w'') : Ext G h w G'' h'' w'' :=
  ⟨e.keeps.trans f.keeps, fun k => Nat.le_trans (e.ver k) (f.ver k), fun k hk => by
    have h1 := e.ver k
    have h2 := f.ver k
    obtain ⟨a1, b1⟩ := e.same k (by omega)
    obtain ⟨a2, b2⟩ := f.same k (by omega)
    exact ⟨a2.trans a1, Body.like_trans b1 b2⟩⟩

theorem ARel.ext {G G' : GS} {h h' : Nat → Ent} {w w' : World} (e : Ext G h w G' h' w') {v : Value} {av : AV} (r : ARel G h w v av) : ARel G' h' w' v av := by
  induction r with
  | d v x hr => exact .d v x (hr.keeps e.keeps)
  | fsl A n sz xs hr => exact .fsl A n sz xs (hr.keeps e.keeps)
  | rsl v k ver h1 hle hv =>
    refine .rsl v k ver h1 (Nat.le_trans hle (e.ver k)) fun hq sz xs fz hb => ?_
    have hvk := e.ver k
    obtain ⟨a, b⟩ := e.same k (by omega)
    rw [a]
    rw [hb] at b
    cases hbk : (h k).body with
    | dead => rw [hbk] at b; exact b.elim
    | box cs f => rw [hbk] at b; exact b.elim
    | row sz0 xs0 f0 =>
      rw [hbk] at b
      have := hv (by omega) sz0 xs0 f0 hbk
      rw [this, b.1]
  | ptr v k ver off h1 hle hv =>
    refine .ptr v k ver off h1 (Nat.le_trans hle (e.ver k)) fun hq cs fz hb => ?_
    have hvk := e.ver k
    obtain ⟨a, b⟩ := e.same k (by omega)
    rw [a]
    rw [hb] at b
    cases hbk : (h k).body with
    | dead => rw [hbk] at b; exact b.elim
    | row sz xs f => rw [hbk] at b; exact b.elim
    | box cs0 f0 => exact hv (by omega) cs0 f0 hbk
  | eptr v k ver sz i off h1 hle hv =>
    refine .eptr v k ver sz i off h1 (Nat.le_trans hle (e.ver k)) fun hq sz' xs hb => ?_
    have hvk := e.ver k
    obtain ⟨a, b⟩ := e.same k (by omega)
    rw [a]
    rw [hb] at b
    cases hbk : (h k).body with
    | dead => rw [hbk] at b; exact b.elim
    | box cs f => rw [hbk] at b; exact b.elim
    | row sz0 xs0 f0 =>
      rw [hbk] at b
      have hf : f0 = false := by cases f0 <;> simp_all [Body.like]
      subst hf
      have h3 := hv (by omega) sz0 xs0 hbk
      rw [b.1] at h3
      exact h3
  | clo f vs cs hn _ ih => exact .clo f vs cs hn ih
  | agg vs cs hn _ ih => exact .agg vs cs hn ih
  | tup vs cs hn _ ih => exact .tup vs cs hn ih
  | skip => exact .skip
  | junk v => exact .junk v

/-- What memory holds for a box, a row. -/
def EntOK (G : GS) (h : Nat → Ent) (w : World) (k : Nat) : Body → Prop
  | .dead => True
  | .box cs fz => ∃ b arr el, (G.hd k).A = some ⟨b, 0, none⟩ ∧ w.heap[b]? = some (.cells arr el (0, 0)) ∧ arr.size = cs.length ∧ (∀ (j : Nat) c, cs[j]? = some c → ARel G h w (arr.getD j undef) c ∧ (arr.getD j undef).oneCell' = true) ∧ G.St b = if fz then arr.size else 0
  | .row sz xs true => Rel G.St w (.slice (G.hd k).A xs.length (G.hd k).cap) (.sl sz xs) ∧
      ((G.hd k).cap = xs.length ∨ ∃ b arr el, (G.hd k).A = some ⟨b, 0, none⟩ ∧ w.heap[b]? = some (.cells arr el (0, 0)) ∧ 0 < sz ∧ arr.size = (G.hd k).cap * sz ∧ G.St b = xs.length * sz)
  | .row sz xs false => ((G.hd k).A = none ∧ (G.hd k).cap = 0 ∧ xs = []) ∨ ∃ b arr el, (G.hd k).A = some ⟨b, 0, none⟩ ∧ w.heap[b]? = some (.cells arr el (0, 0)) ∧ arr.size = (G.hd k).cap * sz ∧ ((G.hd k).cap = xs.length ∨ (0 < sz ∧ xs.length ≤ (G.hd k).cap)) ∧ xs.length ≤ 9223372036854775807 ∧ (∀ x ∈ xs, x.cells.length = sz) ∧
      (∀ (i : Nat) x, xs[i]? = some x → ∀ (j : Nat) c, x.cells[j]? = some c → Rel G.St w (arr.getD (i * sz + j) undef) c ∧ (arr.getD (i * sz + j) undef).oneCell' = true) ∧ G.St b = 0

/-- The block that a box, a row may still write. -/
def Owns (G : GS) (k : Nat) (b : Nat) : Body → Prop
  | .dead => False
  | .box _ _ => (G.hd k).A = some ⟨b, 0, none⟩
  | .row _ xs fz => (G.hd k).A = some ⟨b, 0, none⟩ ∧ (fz = true → (G.hd k).cap ≠ xs.length)

/-- The heap of boxes and rows is in memory. -/
structure Inv (G : GS) (h : Nat → Ent) (w : World) : Prop where
  st : ∀ b, 0 < G.St b → b < w.heap.size
  ent : ∀ k, EntOK G h w k (h k).body
  apart : ∀ k k' b, Owns G k b (h k).body → Owns G k' b (h k').body → k = k'

/-- What a call leaves alone: each block that was there and that no box and no row of h owns. -/
structure Left (G : GS) (h : Nat → Ent) (w : World) (G' : GS) (w' : World) : Prop where
  os : w'.os = w.os
  tape : w'.tape = w.tape
  output : w'.output = w.output
  size : w.heap.size ≤ w'.heap.size
  block : ∀ b, b < w.heap.size → (∀ k, ¬ Owns G k b (h k).body) → w'.heap[b]? = w.heap[b]? ∧ G'.St b = G.St b

def none_ : Nat → Ent := fun _ => ⟨0, .dead⟩

/-- The value that a function hands back, of the values of its results. -/
def handed (vs : List Value) : Value := match vs with
  | [v] => v
  | _ => .tuple vs.toArray

def RelL (St : Nat → Nat) (w : World) (vs : List Value) (ds : List D) : Prop := vs.length = ds.length ∧ ∀ (j : Nat) d, ds[j]? = some d → Rel St w (vs.getD j undef) d

/-- There is such a function, and it has a body. -/
def Enters (P : Program) (f : FuncId) : Prop := ∃ fn, P.funcs[f]? = some fn ∧ fn.name ≠ "runtime.NumGoroutine" ∧ fn.body.isSome = true

/-- THE CONTRACT OF A CALL ON PLAIN DATA: handed what reads as ds it hands back what reads as rs; no block that was there changes. -/
def Pure (P : Program) (f : FuncId) (ds rs : List D) : Prop :=
  Enters P f ∧ ∀ (St : Nat → Nat) (w : World) (vs : List Value), (∀ b, 0 < St b → b < w.heap.size) → RelL St w vs ds →
    Calls P f vs.toArray w fun e w' => ∃ St' us, e = .returned (handed us) ∧ RelL St' w' us rs ∧ RowKit.Below w.heap.size w w' ∧ (∀ b, b < w.heap.size → St' b = St b) ∧ (∀ b, 0 < St' b → b < w'.heap.size)

end Ev
end Go.Proofs.Ytnkbhmafebngjaa
