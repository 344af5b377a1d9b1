/- comp: what is computed is in scope. -/
import Derived.Test.YtomlkbohcoinoaaC3
namespace Go.Proofs.Ytomlkbohcoinoaa
namespace Ev
open Go
set_option maxRecDepth 100000
set_option linter.unusedSimpArgs false
set_option linter.unusedVariables false
/-- What fits an eliminator's inner call. -/
structure Right (V : Int) (l : List T) : Prop where
  c : ∀ x ∈ l, checkM x = 0
  n : ∀ x ∈ l, nodes x ≤ 9000
  w : ∀ x ∈ l, wiT x V 65536 = true
theorem Right.take {V : Int} {l : List T} (h : Right V l) (i : Nat) : Right V (l.take i) := ⟨fun x hx => h.c x (List.mem_of_mem_take hx), fun x hx => h.n x (List.mem_of_mem_take hx), fun x hx => h.w x (List.mem_of_mem_take hx)⟩
/-- A recursive argument that stands at the place i: its domains, its indices are in scope. -/
structure RecAt (b : Bl) (a : Ar) (i : Nat) : Prop where
  dl : a.dom.length ≤ 12
  sort : 0 ≤ a.sort ∧ a.sort < b.sorts.length
  dom : ∀ (j : Nat) (hj : j < a.dom.length), checkM a.dom[j] = 0 ∧ wiT a.dom[j] (i + j) 65536 = true
  idx : ∀ x ∈ a.idx, checkM x = 0 ∧ wiT x (i + a.dom.length) 65536 = true
end Ev
end Go.Proofs.Ytomlkbohcoinoaa
