/-
  NARROWER THAN 'FOR EVERY INPUT', by the rows' own cells (each row's printed sentence says how): SigExact: loops · PositLeft: loops · CompExact: loops · DispExact: loops · ElimExact: loops.
  DERIVED. THE GIVEN ROWS OF THIS SEAT. 5 by the template 'for every input the law returns true; each argument reads behind the call as it read before'; 0 by the template 'total and deterministic' (their statements: YtncmainjcffanaaGreatTotals.lean).
  GIVEN WITH THE SEED: the statements are not yours to turn. If you find one false, say at which input.
  Laid BY PROGRAM, IN A SANDBOX (cutbox-rows.mjs): the forced cells as the released guide's own fill.sh prints them over the translation 0692b37e2588288f… (all of the seat's roots in one cut). By AI agents, Wed Nov 11 2026. No macro, syntax, notation, axiom, sorry.
-/
import Derived.Test.YtncmainjcffanaaGreatChecked
import GoSem.Claim
import GoSem.ClaimJoined
import GoSem.ClaimMapViews
import Derived.JoinedTies
import Derived.KernelRfl
namespace Go.Proofs.YtncmainjcffanaaGreat
/- THE CELL 'sum', in the pinned program and in every row, IS THE sha256 OF THE DUMP (.gsa) THAT YtncmainjcffanaaGreatProg.lean LOADS. Nothing in Lean hashes anything: it is a label: what it is worth is what the hold of that sum in a sandbox is worth. -/
noncomputable def Tryz.pinned : Pinned := { name := "ytncmainjcffanaagreat", sum := "0692b37e2588288fc47b56ed52ec8b79a82d447260c20d2223bf1d6be8ea6322", checked := Tryz.checked }
namespace Rows
def none {H : Type} : Left H := { results := [], args := [] }

/-- 'porismlaw10.SigExact': WHATEVER THE INPUT: true; the input reads as it did. -/
def sigExactSpec : ChangeSpec := { name := "sigExact", fn := fun _ => fun
  | [d1, d2, d3, d4] => { results := [.lit (.bool true)], args := [d1, d2, d3, d4] }
  | _ => none }
def sigExactRow : OpenClaim := { program := "ytncmainjcffanaagreat", sum := "0692b37e2588288fc47b56ed52ec8b79a82d447260c20d2223bf1d6be8ea6322", func := "porism/porismlaw10.SigExact", spec := "sigExact", unfollowed := true, recurses := true, loops := true, apart := false }
def SigExactSaid : Prop := sigExactRow.holds Tryz.pinned (OpenSpec.ofChange sigExactSpec)

/-- ITS FALSE NEIGHBOUR: 'it returns false'. Refute it at one input. -/
def sigExactWrong : ChangeSpec := { name := "sigExact", fn := fun _ => fun
  | [d1, d2, d3, d4] => { results := [.lit (.bool false)], args := [d1, d2, d3, d4] }
  | _ => none }
def SigExactWrongFalsely : Prop := sigExactRow.holds Tryz.pinned (OpenSpec.ofChange sigExactWrong)

/-- 'porismlaw08.PositLeft': WHATEVER THE INPUT: true; the input reads as it did. -/
def positLeftSpec : ChangeSpec := { name := "positLeft", fn := fun _ => fun
  | [d1, d2, d3, d4, d5] => { results := [.lit (.bool true)], args := [d1, d2, d3, d4, d5] }
  | _ => none }
def positLeftRow : OpenClaim := { program := "ytncmainjcffanaagreat", sum := "0692b37e2588288fc47b56ed52ec8b79a82d447260c20d2223bf1d6be8ea6322", func := "porism/porismlaw08.PositLeft", spec := "positLeft", unfollowed := true, recurses := true, loops := true, apart := false }
def PositLeftSaid : Prop := positLeftRow.holds Tryz.pinned (OpenSpec.ofChange positLeftSpec)

/-- ITS FALSE NEIGHBOUR: 'it returns false'. Refute it at one input. -/
def positLeftWrong : ChangeSpec := { name := "positLeft", fn := fun _ => fun
  | [d1, d2, d3, d4, d5] => { results := [.lit (.bool false)], args := [d1, d2, d3, d4, d5] }
  | _ => none }
def PositLeftWrongFalsely : Prop := positLeftRow.holds Tryz.pinned (OpenSpec.ofChange positLeftWrong)

/-- 'porismlaw13.CompExact': WHATEVER THE INPUT: true; the input reads as it did. -/
def compExactSpec : ChangeSpec := { name := "compExact", fn := fun _ => fun
  | [d1, d2, d3, d4, d5, d6] => { results := [.lit (.bool true)], args := [d1, d2, d3, d4, d5, d6] }
  | _ => none }
def compExactRow : OpenClaim := { program := "ytncmainjcffanaagreat", sum := "0692b37e2588288fc47b56ed52ec8b79a82d447260c20d2223bf1d6be8ea6322", func := "porism/porismlaw13.CompExact", spec := "compExact", unfollowed := true, recurses := true, loops := true, apart := false }
def CompExactSaid : Prop := compExactRow.holds Tryz.pinned (OpenSpec.ofChange compExactSpec)

/-- ITS FALSE NEIGHBOUR: 'it returns false'. Refute it at one input. -/
def compExactWrong : ChangeSpec := { name := "compExact", fn := fun _ => fun
  | [d1, d2, d3, d4, d5, d6] => { results := [.lit (.bool false)], args := [d1, d2, d3, d4, d5, d6] }
  | _ => none }
def CompExactWrongFalsely : Prop := compExactRow.holds Tryz.pinned (OpenSpec.ofChange compExactWrong)

/-- 'porismlaw11.DispExact': WHATEVER THE INPUT: true; the input reads as it did. -/
def dispExactSpec : ChangeSpec := { name := "dispExact", fn := fun _ => fun
  | [d1, d2, d3] => { results := [.lit (.bool true)], args := [d1, d2, d3] }
  | _ => none }
def dispExactRow : OpenClaim := { program := "ytncmainjcffanaagreat", sum := "0692b37e2588288fc47b56ed52ec8b79a82d447260c20d2223bf1d6be8ea6322", func := "porism/porismlaw11.DispExact", spec := "dispExact", unfollowed := true, recurses := true, loops := true, apart := false }
def DispExactSaid : Prop := dispExactRow.holds Tryz.pinned (OpenSpec.ofChange dispExactSpec)

/-- ITS FALSE NEIGHBOUR: 'it returns false'. Refute it at one input. -/
def dispExactWrong : ChangeSpec := { name := "dispExact", fn := fun _ => fun
  | [d1, d2, d3] => { results := [.lit (.bool false)], args := [d1, d2, d3] }
  | _ => none }
def DispExactWrongFalsely : Prop := dispExactRow.holds Tryz.pinned (OpenSpec.ofChange dispExactWrong)

/-- 'porismlaw12.ElimExact': WHATEVER THE INPUT: true; the input reads as it did. -/
def elimExactSpec : ChangeSpec := { name := "elimExact", fn := fun _ => fun
  | [d1, d2, d3] => { results := [.lit (.bool true)], args := [d1, d2, d3] }
  | _ => none }
def elimExactRow : OpenClaim := { program := "ytncmainjcffanaagreat", sum := "0692b37e2588288fc47b56ed52ec8b79a82d447260c20d2223bf1d6be8ea6322", func := "porism/porismlaw12.ElimExact", spec := "elimExact", unfollowed := true, recurses := true, loops := true, apart := false }
def ElimExactSaid : Prop := elimExactRow.holds Tryz.pinned (OpenSpec.ofChange elimExactSpec)

/-- ITS FALSE NEIGHBOUR: 'it returns false'. Refute it at one input. -/
def elimExactWrong : ChangeSpec := { name := "elimExact", fn := fun _ => fun
  | [d1, d2, d3] => { results := [.lit (.bool false)], args := [d1, d2, d3] }
  | _ => none }
def ElimExactWrongFalsely : Prop := elimExactRow.holds Tryz.pinned (OpenSpec.ofChange elimExactWrong)

/- THE SECOND FORM. 'bulk': how many values and letters a reading holds, each counted each time it is reached (what is shared counts as often as it is met; a slice's spare places count too). A statement '..UptoSaid' is the law's where the arguments, and the package variables that the reading takes, are together of bulk at most 1048576: NARROWER than '..Said'. Prove '..Said' where nothing that the law and all that it calls make is longer than what came in: it says more and counts as full. Else prove '..UptoSaid'. A law counts once. -/
mutual
def uptoBulk {H : Type} : DataW H → Nat
  | .lit (.string bytes) => bytes.length + 1
  | .lit _ => 1
  | .nil => 1
  | .ptr d => uptoBulk d + 1
  | .slice elems spare => uptoBulkAll elems + uptoBulkAll spare + 1
  | .agg parts => uptoBulkAll parts + 1
  | .iface _ d => uptoBulk d + 1
  | .map entries => uptoBulkEntries entries + 1
  | .held _ => 1
def uptoBulkAll {H : Type} : List (DataW H) → Nat
  | [] => 0
  | d :: r => uptoBulk d + uptoBulkAll r
def uptoBulkEntries {H : Type} : List (Lit × DataW H) → Nat
  | [] => 0
  | x :: r => uptoBulkEntry x + uptoBulkEntries r
def uptoBulkEntry {H : Type} : Lit × DataW H → Nat
  | (.string bytes, d) => bytes.length + uptoBulk d + 1
  | (_, d) => uptoBulk d + 1
 end
def uptoSmall : (H : Type) → List (DataW H) → Bool := fun _ ds => decide (uptoBulkAll ds ≤ 1048576)
def OpenSpec.upto (s : _root_.Go.ChangeSpec) : _root_.Go.OpenSpec := { _root_.Go.OpenSpec.ofChange s with cond := some uptoSmall }

/-- 'porismlaw10.SigExact', WHERE WHAT IT READS IS OF BULK AT MOST 1048576: true; the input reads as it did. -/
def sigExactUptoRow : OpenClaim := { program := "ytncmainjcffanaagreat", sum := "0692b37e2588288fc47b56ed52ec8b79a82d447260c20d2223bf1d6be8ea6322", func := "porism/porismlaw10.SigExact", spec := "sigExact", unfollowed := true, recurses := true, loops := true, apart := false, narrowed := true }
def SigExactUptoSaid : Prop := sigExactUptoRow.holds Tryz.pinned (OpenSpec.upto sigExactSpec)

/-- 'porismlaw08.PositLeft', WHERE WHAT IT READS IS OF BULK AT MOST 1048576: true; the input reads as it did. -/
def positLeftUptoRow : OpenClaim := { program := "ytncmainjcffanaagreat", sum := "0692b37e2588288fc47b56ed52ec8b79a82d447260c20d2223bf1d6be8ea6322", func := "porism/porismlaw08.PositLeft", spec := "positLeft", unfollowed := true, recurses := true, loops := true, apart := false, narrowed := true }
def PositLeftUptoSaid : Prop := positLeftUptoRow.holds Tryz.pinned (OpenSpec.upto positLeftSpec)

/-- 'porismlaw13.CompExact', WHERE WHAT IT READS IS OF BULK AT MOST 1048576: true; the input reads as it did. -/
def compExactUptoRow : OpenClaim := { program := "ytncmainjcffanaagreat", sum := "0692b37e2588288fc47b56ed52ec8b79a82d447260c20d2223bf1d6be8ea6322", func := "porism/porismlaw13.CompExact", spec := "compExact", unfollowed := true, recurses := true, loops := true, apart := false, narrowed := true }
def CompExactUptoSaid : Prop := compExactUptoRow.holds Tryz.pinned (OpenSpec.upto compExactSpec)

/-- 'porismlaw11.DispExact', WHERE WHAT IT READS IS OF BULK AT MOST 1048576: true; the input reads as it did. -/
def dispExactUptoRow : OpenClaim := { program := "ytncmainjcffanaagreat", sum := "0692b37e2588288fc47b56ed52ec8b79a82d447260c20d2223bf1d6be8ea6322", func := "porism/porismlaw11.DispExact", spec := "dispExact", unfollowed := true, recurses := true, loops := true, apart := false, narrowed := true }
def DispExactUptoSaid : Prop := dispExactUptoRow.holds Tryz.pinned (OpenSpec.upto dispExactSpec)

/-- 'porismlaw12.ElimExact', WHERE WHAT IT READS IS OF BULK AT MOST 1048576: true; the input reads as it did. -/
def elimExactUptoRow : OpenClaim := { program := "ytncmainjcffanaagreat", sum := "0692b37e2588288fc47b56ed52ec8b79a82d447260c20d2223bf1d6be8ea6322", func := "porism/porismlaw12.ElimExact", spec := "elimExact", unfollowed := true, recurses := true, loops := true, apart := false, narrowed := true }
def ElimExactUptoSaid : Prop := elimExactUptoRow.holds Tryz.pinned (OpenSpec.upto elimExactSpec)

end Rows
end Go.Proofs.YtncmainjcffanaaGreat
