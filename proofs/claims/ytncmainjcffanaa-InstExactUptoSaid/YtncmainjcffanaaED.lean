/- Several texts in one. -/
import Derived.Test.YtncmainjcffanaaEC
import Derived.OrdersIn
import Derived.RangeFuncCalls
import Derived.RangeFuncWrites
import Derived.RangeFuncLeaves
set_option maxRecDepth 100000
set_option linter.unusedSimpArgs false
set_option linter.unusedVariables false
/- The small language within a round of a range over a function: the same,inside a fence that says which round's. -/
namespace Go.Proofs.Ytncmainjcffanaa
namespace Ev
open Go
set_option linter.unusedSectionVars false
variable [Nw]
section
variable {P:Program} {G:GS} {h:Nat→Ent} {w:World} {a:Act} {s:Nat→AV} {o:Oper} {r:Option Nat} {m:Nat}
end
end Ev
end Go.Proofs.Ytncmainjcffanaa
/- Regions within a round: in the text's order,and in a drawn one. -/
namespace Go.Proofs.Ytncmainjcffanaa
namespace Ev
open Go
set_option linter.unusedSectionVars false
variable [Nw]
section
variable {P:Program} {G:GS} {w:World} {a:Act} {r:Option Nat} {m:Nat}
end
end Ev
end Go.Proofs.Ytncmainjcffanaa
/- Code within a round. -/
namespace Go.Proofs.Ytncmainjcffanaa
namespace Ev
open Go
set_option linter.unusedSectionVars false
variable [Nw]
section
variable {P:Program} {r:Option Nat} {m:Nat}
end
end Ev
end Go.Proofs.Ytncmainjcffanaa
/- What is known of boxes and rows stands when blocks are added,or a block that is no cells is turned. -/
namespace Go.Proofs.Ytncmainjcffanaa
namespace Ev
open Go Go.RowKit
set_option linter.unusedSectionVars false
variable [Nw]
def zlc (w w':World):Prop:=w.heap.size≤w'.heap.size ∧ ∀ (b:Nat) arr el z,w.heap[b]? = some (.cells arr el z)→w'.heap[b]? = some (.cells arr el z)
theorem zlc.cell {w w':World} (h:zlc w w') {b i:Nat} {v:Value} (hc:w.cell? ⟨b,i,none⟩=some v):w'.cell? ⟨b,i,none⟩=some v:=by
  unfold World.cell? at hc ⊢
  split at hc
  · rename_i arr el z hb
    rw [h.2 b _ _ _ hb]
    exact hc
  · cases hc
theorem Rel.reads {St:Nat→Nat} {w w':World} (hk:zlc w w') {v:Value} {d:D} (h:Rel St w v d):Rel St w' v d:=by
  induction h with
  | int k n=>exact .int k n
  | bool b=>exact .bool b
  | str s=>exact .str s
  | nilp=>exact .nilp
  | junk v=>exact .junk v
  | agg vs cs hn _ ih=>exact .agg vs cs hn ih
  | sl A cap sz b off xs hc hm hs ha val hv h1 hr ih=>exact .sl A cap sz b off xs hc hm hs ha val (fun i x hi j c hj=>hk.cell (hv i x hi j c hj)) h1 ih
  | rp b off cs hb val hv h1 hr ih=>exact .rp b off cs hb val (fun j c hj=>hk.cell (hv j c hj)) h1 ih
  | clo f vs cs hn _ ih=>exact .clo f vs cs hn ih
theorem ARel.reads {G:GS} {h:Nat→Ent} {w w':World} (hk:zlc w w') {v:Value} {av:AV} (r:ARel G h w v av):ARel G h w' v av:=by
  induction r with
  | d v x hr=>exact .d v x (hr.reads hk)
  | n v q x h1 hr=>exact .n v q x h1 (hr.reads hk)
  | fsl A n sz xs hr=>exact .fsl A n sz xs (hr.reads hk)
  | rsl v k ver h1 hle hv=>exact .rsl v k ver h1 hle hv
  | ptr v k ver off h1 hle hv=>exact .ptr v k ver off h1 hle hv
  | eptr v k ver sz i off h1 hle hv=>exact .eptr v k ver sz i off h1 hle hv
  | clo f vs cs hn _ ih=>exact .clo f vs cs hn ih
  | agg vs cs hn _ ih=>exact .agg vs cs hn ih
  | tup vs cs hn _ ih=>exact .tup vs cs hn ih
  | skip=>exact .skip
  | junk v=>exact .junk v
theorem Inv.reads {G:GS} {h:Nat→Ent} {w w':World} (hk:zlc w w') (i:Inv G h w):Inv G h w':=by
  refine ⟨fun b hb=>Nat.lt_of_lt_of_le (i.st b hb) hk.1,fun k=>?_,i.apart,Nat.le_trans i.low hk.1⟩
  have he:=i.ent k
  cases hb:(h k).body with
  | dead=>trivial
  | box cs fz =>
    rw [hb] at he
    obtain ⟨b,arr,el,hA,hheap,hsz,hrel,hs⟩:=he
    exact ⟨b,arr,el,hA,hk.2 b _ _ _ hheap,hsz,fun j c hj=>⟨(hrel j c hj).1.reads hk,(hrel j c hj).2⟩,hs⟩
  | row sz xs fz =>
    rw [hb] at he
    cases fz with
    | true =>
      refine ⟨he.1.reads hk,?_⟩
      rcases he.2 with hc | ⟨b,arr,el,hA,hheap,h0,hsz,hs⟩
      · exact .inl hc
      · exact .inr ⟨b,arr,el,hA,hk.2 b _ _ _ hheap,h0,hsz,hs⟩
    | false =>
      rcases he with ⟨z1,z2,z3⟩ | ⟨b,arr,el,hA,hheap,hsz,hcap,hm,hcs,hrel,hs⟩
      · exact .inl ⟨z1,z2,z3⟩
      · exact .inr ⟨b,arr,el,hA,hk.2 b _ _ _ hheap,hsz,hcap,hm,hcs,fun p x hp j c hj=>⟨(hrel p x hp j c hj).1.reads hk,(hrel p x hp j c hj).2⟩,hs⟩
end Ev
end Go.Proofs.Ytncmainjcffanaa
