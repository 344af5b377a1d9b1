/-
  NARROWER THAN 'FOR EVERY INPUT', by the rows' own cells (each row's printed sentence says how): PileExact: loops · PileBent: loops.
  DERIVED. THE GIVEN ROWS OF THIS SEAT. 3 by the template 'for every input the law returns true; each argument reads behind the call as it read before'; 0 by the template 'total and deterministic' (their statements: YtgiejcndcbanjaaGreatTotals.lean).
  GIVEN WITH THE SEED: the statements are not yours to turn. If you find one false, say at which input.
  Laid BY PROGRAM, IN A SANDBOX (cutbox-rows.mjs): the forced cells as the released guide's own fill.sh prints them over the translation 6c8ee77ddd8a0bef… (all of the seat's roots in one cut). By AI agents, Wed Nov 11 2026. No macro, syntax, notation, axiom, sorry.
-/
import Derived.Test.YtgiejcndcbanjaaGreatChecked
import GoSem.Claim
import GoSem.ClaimJoined
import GoSem.ClaimMapViews
import Derived.JoinedTies
import Derived.KernelRfl
namespace Go.Proofs.YtgiejcndcbanjaaGreat
/- THE CELL 'sum', in the pinned program and in every row, IS THE sha256 OF THE DUMP (.gsa) THAT YtgiejcndcbanjaaGreatProg.lean LOADS. Nothing in Lean hashes anything: it is a label: what it is worth is what the hold of that sum in a sandbox is worth. -/
noncomputable def Tryz.pinned : Pinned := { name := "ytgiejcndcbanjaagreat", sum := "6c8ee77ddd8a0befd81290d39960b04274af5691549d1233dff23860bcf47958", checked := Tryz.checked }
namespace Rows
def none {H : Type} : Left H := { results := [], args := [] }

/-- 'porismlaw22.PileExact': WHATEVER THE INPUT: true; the input reads as it did. -/
def pileExactSpec : ChangeSpec := { name := "pileExact", fn := fun _ => fun
  | [d] => { results := [.lit (.bool true)], args := [d] }
  | _ => none }
def pileExactRow : OpenClaim := { program := "ytgiejcndcbanjaagreat", sum := "6c8ee77ddd8a0befd81290d39960b04274af5691549d1233dff23860bcf47958", func := "porism/porismlaw22.PileExact", spec := "pileExact", unfollowed := true, recurses := true, loops := true, apart := false }
def PileExactSaid : Prop := pileExactRow.holds Tryz.pinned (OpenSpec.ofChange pileExactSpec)

/-- ITS FALSE NEIGHBOUR: 'it returns false'. Refute it at one input. -/
def pileExactWrong : ChangeSpec := { name := "pileExact", fn := fun _ => fun
  | [d] => { results := [.lit (.bool false)], args := [d] }
  | _ => none }
def PileExactWrongFalsely : Prop := pileExactRow.holds Tryz.pinned (OpenSpec.ofChange pileExactWrong)

/-- 'porismlaw22.PileReads': WHATEVER THE INPUT: true; the input reads as it did. -/
def pileReadsSpec : ChangeSpec := { name := "pileReads", fn := fun _ => fun
  | [d] => { results := [.lit (.bool true)], args := [d] }
  | _ => none }
def pileReadsRow : OpenClaim := { program := "ytgiejcndcbanjaagreat", sum := "6c8ee77ddd8a0befd81290d39960b04274af5691549d1233dff23860bcf47958", func := "porism/porismlaw22.PileReads", spec := "pileReads", unfollowed := true, recurses := true, apart := false }
def PileReadsSaid : Prop := pileReadsRow.holds Tryz.pinned (OpenSpec.ofChange pileReadsSpec)

/-- ITS FALSE NEIGHBOUR: 'it returns false'. Refute it at one input. -/
def pileReadsWrong : ChangeSpec := { name := "pileReads", fn := fun _ => fun
  | [d] => { results := [.lit (.bool false)], args := [d] }
  | _ => none }
def PileReadsWrongFalsely : Prop := pileReadsRow.holds Tryz.pinned (OpenSpec.ofChange pileReadsWrong)

/-- 'porismlaw22.PileBent': WHATEVER THE INPUT: true; the input reads as it did. -/
def pileBentSpec : ChangeSpec := { name := "pileBent", fn := fun _ => fun
  | [d1, d2] => { results := [.lit (.bool true)], args := [d1, d2] }
  | _ => none }
def pileBentRow : OpenClaim := { program := "ytgiejcndcbanjaagreat", sum := "6c8ee77ddd8a0befd81290d39960b04274af5691549d1233dff23860bcf47958", func := "porism/porismlaw22.PileBent", spec := "pileBent", unfollowed := true, recurses := true, loops := true, apart := false }
def PileBentSaid : Prop := pileBentRow.holds Tryz.pinned (OpenSpec.ofChange pileBentSpec)

/-- ITS FALSE NEIGHBOUR: 'it returns false'. Refute it at one input. -/
def pileBentWrong : ChangeSpec := { name := "pileBent", fn := fun _ => fun
  | [d1, d2] => { results := [.lit (.bool false)], args := [d1, d2] }
  | _ => none }
def PileBentWrongFalsely : Prop := pileBentRow.holds Tryz.pinned (OpenSpec.ofChange pileBentWrong)

/- THE SECOND FORM. 'bulk': how many values and letters a reading holds, each counted each time it is reached (what is shared counts as often as it is met; a slice's spare places count too). A statement '..UptoSaid' is the law's where the arguments, and the package variables that the reading takes, are together of bulk at most 1048576: NARROWER than '..Said'. Prove '..Said' where nothing that the law and all that it calls make is longer than what came in: it says more and counts as full. Else prove '..UptoSaid'. A law counts once. -/
mutual
def uptoBulk {H : Type} : DataW H → Nat
  | .lit (.string bytes) => bytes.length + 1
  | .lit _ => 1
  | .nil => 1
  | .ptr d => uptoBulk d + 1
  | .slice elems spare => uptoBulkAll elems + uptoBulkAll spare + 1
  | .agg parts => uptoBulkAll parts + 1
  | .iface _ d => uptoBulk d + 1
  | .map entries => uptoBulkEntries entries + 1
  | .held _ => 1
def uptoBulkAll {H : Type} : List (DataW H) → Nat
  | [] => 0
  | d :: r => uptoBulk d + uptoBulkAll r
def uptoBulkEntries {H : Type} : List (Lit × DataW H) → Nat
  | [] => 0
  | x :: r => uptoBulkEntry x + uptoBulkEntries r
def uptoBulkEntry {H : Type} : Lit × DataW H → Nat
  | (.string bytes, d) => bytes.length + uptoBulk d + 1
  | (_, d) => uptoBulk d + 1
 end
def uptoSmall : (H : Type) → List (DataW H) → Bool := fun _ ds => decide (uptoBulkAll ds ≤ 1048576)
def OpenSpec.upto (s : _root_.Go.ChangeSpec) : _root_.Go.OpenSpec := { _root_.Go.OpenSpec.ofChange s with cond := some uptoSmall }

/-- 'porismlaw22.PileExact', WHERE WHAT IT READS IS OF BULK AT MOST 1048576: true; the input reads as it did. -/
def pileExactUptoRow : OpenClaim := { program := "ytgiejcndcbanjaagreat", sum := "6c8ee77ddd8a0befd81290d39960b04274af5691549d1233dff23860bcf47958", func := "porism/porismlaw22.PileExact", spec := "pileExact", unfollowed := true, recurses := true, loops := true, apart := false, narrowed := true }
def PileExactUptoSaid : Prop := pileExactUptoRow.holds Tryz.pinned (OpenSpec.upto pileExactSpec)

/-- 'porismlaw22.PileReads', WHERE WHAT IT READS IS OF BULK AT MOST 1048576: true; the input reads as it did. -/
def pileReadsUptoRow : OpenClaim := { program := "ytgiejcndcbanjaagreat", sum := "6c8ee77ddd8a0befd81290d39960b04274af5691549d1233dff23860bcf47958", func := "porism/porismlaw22.PileReads", spec := "pileReads", unfollowed := true, recurses := true, apart := false, narrowed := true }
def PileReadsUptoSaid : Prop := pileReadsUptoRow.holds Tryz.pinned (OpenSpec.upto pileReadsSpec)

/-- 'porismlaw22.PileBent', WHERE WHAT IT READS IS OF BULK AT MOST 1048576: true; the input reads as it did. -/
def pileBentUptoRow : OpenClaim := { program := "ytgiejcndcbanjaagreat", sum := "6c8ee77ddd8a0befd81290d39960b04274af5691549d1233dff23860bcf47958", func := "porism/porismlaw22.PileBent", spec := "pileBent", unfollowed := true, recurses := true, loops := true, apart := false, narrowed := true }
def PileBentUptoSaid : Prop := pileBentUptoRow.holds Tryz.pinned (OpenSpec.upto pileBentSpec)

end Rows
end Go.Proofs.YtgiejcndcbanjaaGreat
