/-
  NARROWER THAN 'FOR EVERY INPUT', by the rows' own cells (each row's printed sentence says how): PileUnlike: loops · PileRows: loops · PileDefs: loops.
  DERIVED. THE GIVEN ROWS OF THIS SEAT. 4 by the template 'for every input the law returns true; each argument reads behind the call as it read before'; 0 by the template 'total and deterministic' (their statements: YtgiejcndcbanjaaTotals.lean).
  GIVEN WITH THE SEED: the statements are not yours to turn. If you find one false, say at which input.
  Laid BY PROGRAM, IN A SANDBOX (cutbox-rows.mjs): the forced cells as the released guide's own fill.sh prints them over the translation 85231acff8161edd… (all of the seat's roots in one cut). By AI agents, Wed Nov 11 2026. No macro, syntax, notation, axiom, sorry.
-/
import Derived.Test.YtgiejcndcbanjaaChecked
import GoSem.Claim
import GoSem.ClaimJoined
import GoSem.ClaimMapViews
import Derived.JoinedTies
import Derived.KernelRfl
namespace Go.Proofs.Ytgiejcndcbanjaa
/- THE CELL 'sum', in the pinned program and in every row, IS THE sha256 OF THE DUMP (.gsa) THAT YtgiejcndcbanjaaProg.lean LOADS. Nothing in Lean hashes anything: it is a label: what it is worth is what the hold of that sum in a sandbox is worth. -/
noncomputable def Try.pinned : Pinned := { name := "ytgiejcndcbanjaa", sum := "85231acff8161edd300a59934a027f5b9c2b13d655b2883c3dac2cbc9315da12", checked := Try.checked }
namespace Rows
def none {H : Type} : Left H := { results := [], args := [] }

/-- 'porismlaw22.PileUnlike': WHATEVER THE INPUT: true; the input reads as it did. -/
def pileUnlikeSpec : ChangeSpec := { name := "pileUnlike", fn := fun _ => fun
  | [d1, d2, d3, d4] => { results := [.lit (.bool true)], args := [d1, d2, d3, d4] }
  | _ => none }
def pileUnlikeRow : OpenClaim := { program := "ytgiejcndcbanjaa", sum := "85231acff8161edd300a59934a027f5b9c2b13d655b2883c3dac2cbc9315da12", func := "porism/porismlaw22.PileUnlike", spec := "pileUnlike", unfollowed := true, recurses := true, loops := true, apart := false }
def PileUnlikeSaid : Prop := pileUnlikeRow.holds Try.pinned (OpenSpec.ofChange pileUnlikeSpec)

/-- ITS FALSE NEIGHBOUR: 'it returns false'. Refute it at one input. -/
def pileUnlikeWrong : ChangeSpec := { name := "pileUnlike", fn := fun _ => fun
  | [d1, d2, d3, d4] => { results := [.lit (.bool false)], args := [d1, d2, d3, d4] }
  | _ => none }
def PileUnlikeWrongFalsely : Prop := pileUnlikeRow.holds Try.pinned (OpenSpec.ofChange pileUnlikeWrong)

/-- 'porismlaw22.PileRows': WHATEVER THE INPUT: true; the input reads as it did. -/
def pileRowsSpec : ChangeSpec := { name := "pileRows", fn := fun _ => fun
  | [d] => { results := [.lit (.bool true)], args := [d] }
  | _ => none }
def pileRowsRow : OpenClaim := { program := "ytgiejcndcbanjaa", sum := "85231acff8161edd300a59934a027f5b9c2b13d655b2883c3dac2cbc9315da12", func := "porism/porismlaw22.PileRows", spec := "pileRows", unfollowed := true, recurses := true, loops := true, apart := false }
def PileRowsSaid : Prop := pileRowsRow.holds Try.pinned (OpenSpec.ofChange pileRowsSpec)

/-- ITS FALSE NEIGHBOUR: 'it returns false'. Refute it at one input. -/
def pileRowsWrong : ChangeSpec := { name := "pileRows", fn := fun _ => fun
  | [d] => { results := [.lit (.bool false)], args := [d] }
  | _ => none }
def PileRowsWrongFalsely : Prop := pileRowsRow.holds Try.pinned (OpenSpec.ofChange pileRowsWrong)

/-- 'porismlaw22.PileDefs': WHATEVER THE INPUT: true; the input reads as it did. -/
def pileDefsSpec : ChangeSpec := { name := "pileDefs", fn := fun _ => fun
  | [d1, d2] => { results := [.lit (.bool true)], args := [d1, d2] }
  | _ => none }
def pileDefsRow : OpenClaim := { program := "ytgiejcndcbanjaa", sum := "85231acff8161edd300a59934a027f5b9c2b13d655b2883c3dac2cbc9315da12", func := "porism/porismlaw22.PileDefs", spec := "pileDefs", unfollowed := true, recurses := true, loops := true, apart := false }
def PileDefsSaid : Prop := pileDefsRow.holds Try.pinned (OpenSpec.ofChange pileDefsSpec)

/-- ITS FALSE NEIGHBOUR: 'it returns false'. Refute it at one input. -/
def pileDefsWrong : ChangeSpec := { name := "pileDefs", fn := fun _ => fun
  | [d1, d2] => { results := [.lit (.bool false)], args := [d1, d2] }
  | _ => none }
def PileDefsWrongFalsely : Prop := pileDefsRow.holds Try.pinned (OpenSpec.ofChange pileDefsWrong)

/-- 'porismlaw22.PileMany': WHATEVER THE INPUT: true; the input reads as it did. -/
def pileManySpec : ChangeSpec := { name := "pileMany", fn := fun _ => fun
  | [d] => { results := [.lit (.bool true)], args := [d] }
  | _ => none }
def pileManyRow : OpenClaim := { program := "ytgiejcndcbanjaa", sum := "85231acff8161edd300a59934a027f5b9c2b13d655b2883c3dac2cbc9315da12", func := "porism/porismlaw22.PileMany", spec := "pileMany", unfollowed := true, recurses := true, apart := false }
def PileManySaid : Prop := pileManyRow.holds Try.pinned (OpenSpec.ofChange pileManySpec)

/-- ITS FALSE NEIGHBOUR: 'it returns false'. Refute it at one input. -/
def pileManyWrong : ChangeSpec := { name := "pileMany", fn := fun _ => fun
  | [d] => { results := [.lit (.bool false)], args := [d] }
  | _ => none }
def PileManyWrongFalsely : Prop := pileManyRow.holds Try.pinned (OpenSpec.ofChange pileManyWrong)

/- THE SECOND FORM. 'bulk': how many values and letters a reading holds, each counted each time it is reached (what is shared counts as often as it is met; a slice's spare places count too). A statement '..UptoSaid' is the law's where the arguments, and the package variables that the reading takes, are together of bulk at most 1048576: NARROWER than '..Said'. Prove '..Said' where nothing that the law and all that it calls make is longer than what came in: it says more and counts as full. Else prove '..UptoSaid'. A law counts once. -/
mutual
def uptoBulk {H : Type} : DataW H → Nat
  | .lit (.string bytes) => bytes.length + 1
  | .lit _ => 1
  | .nil => 1
  | .ptr d => uptoBulk d + 1
  | .slice elems spare => uptoBulkAll elems + uptoBulkAll spare + 1
  | .agg parts => uptoBulkAll parts + 1
  | .iface _ d => uptoBulk d + 1
  | .map entries => uptoBulkEntries entries + 1
  | .held _ => 1
def uptoBulkAll {H : Type} : List (DataW H) → Nat
  | [] => 0
  | d :: r => uptoBulk d + uptoBulkAll r
def uptoBulkEntries {H : Type} : List (Lit × DataW H) → Nat
  | [] => 0
  | x :: r => uptoBulkEntry x + uptoBulkEntries r
def uptoBulkEntry {H : Type} : Lit × DataW H → Nat
  | (.string bytes, d) => bytes.length + uptoBulk d + 1
  | (_, d) => uptoBulk d + 1
 end
def uptoSmall : (H : Type) → List (DataW H) → Bool := fun _ ds => decide (uptoBulkAll ds ≤ 1048576)
def OpenSpec.upto (s : _root_.Go.ChangeSpec) : _root_.Go.OpenSpec := { _root_.Go.OpenSpec.ofChange s with cond := some uptoSmall }

/-- 'porismlaw22.PileUnlike', WHERE WHAT IT READS IS OF BULK AT MOST 1048576: true; the input reads as it did. -/
def pileUnlikeUptoRow : OpenClaim := { program := "ytgiejcndcbanjaa", sum := "85231acff8161edd300a59934a027f5b9c2b13d655b2883c3dac2cbc9315da12", func := "porism/porismlaw22.PileUnlike", spec := "pileUnlike", unfollowed := true, recurses := true, loops := true, apart := false, narrowed := true }
def PileUnlikeUptoSaid : Prop := pileUnlikeUptoRow.holds Try.pinned (OpenSpec.upto pileUnlikeSpec)

/-- 'porismlaw22.PileRows', WHERE WHAT IT READS IS OF BULK AT MOST 1048576: true; the input reads as it did. -/
def pileRowsUptoRow : OpenClaim := { program := "ytgiejcndcbanjaa", sum := "85231acff8161edd300a59934a027f5b9c2b13d655b2883c3dac2cbc9315da12", func := "porism/porismlaw22.PileRows", spec := "pileRows", unfollowed := true, recurses := true, loops := true, apart := false, narrowed := true }
def PileRowsUptoSaid : Prop := pileRowsUptoRow.holds Try.pinned (OpenSpec.upto pileRowsSpec)

/-- 'porismlaw22.PileDefs', WHERE WHAT IT READS IS OF BULK AT MOST 1048576: true; the input reads as it did. -/
def pileDefsUptoRow : OpenClaim := { program := "ytgiejcndcbanjaa", sum := "85231acff8161edd300a59934a027f5b9c2b13d655b2883c3dac2cbc9315da12", func := "porism/porismlaw22.PileDefs", spec := "pileDefs", unfollowed := true, recurses := true, loops := true, apart := false, narrowed := true }
def PileDefsUptoSaid : Prop := pileDefsUptoRow.holds Try.pinned (OpenSpec.upto pileDefsSpec)

/-- 'porismlaw22.PileMany', WHERE WHAT IT READS IS OF BULK AT MOST 1048576: true; the input reads as it did. -/
def pileManyUptoRow : OpenClaim := { program := "ytgiejcndcbanjaa", sum := "85231acff8161edd300a59934a027f5b9c2b13d655b2883c3dac2cbc9315da12", func := "porism/porismlaw22.PileMany", spec := "pileMany", unfollowed := true, recurses := true, apart := false, narrowed := true }
def PileManyUptoSaid : Prop := pileManyUptoRow.holds Try.pinned (OpenSpec.upto pileManySpec)

end Rows
end Go.Proofs.Ytgiejcndcbanjaa
