/-
  NARROWER THAN 'FOR EVERY INPUT', by the rows' own cells (each row's printed sentence says how): TeleExact: loops · InstExact: loops · ShapeBent: loops.
  DERIVED. THE GIVEN ROWS OF THIS SEAT. 4 by the template 'for every input the law returns true; each argument reads behind the call as it read before'; 0 by the template 'total and deterministic' (their statements: YtncmainjcffanaaTotals.lean).
  GIVEN WITH THE SEED: the statements are not yours to turn. If you find one false, say at which input.
  Laid BY PROGRAM, IN A SANDBOX (cutbox-rows.mjs): the forced cells as the released guide's own fill.sh prints them over the translation a096156e53676368… (all of the seat's roots in one cut). By AI agents, Wed Nov 11 2026. No macro, syntax, notation, axiom, sorry.
-/
import Derived.Test.YtncmainjcffanaaChecked
import GoSem.Claim
import GoSem.ClaimJoined
import GoSem.ClaimMapViews
import Derived.JoinedTies
import Derived.KernelRfl
namespace Go.Proofs.Ytncmainjcffanaa
/- THE CELL 'sum', in the pinned program and in every row, IS THE sha256 OF THE DUMP (.gsa) THAT YtncmainjcffanaaProg.lean LOADS. Nothing in Lean hashes anything: it is a label: what it is worth is what the hold of that sum in a sandbox is worth. -/
noncomputable def Try.pinned : Pinned := { name := "ytncmainjcffanaa", sum := "a096156e536763687b93153c73ee5595efab00288bd82a09d95e55deee7cd778", checked := Try.checked }
namespace Rows
def none {H : Type} : Left H := { results := [], args := [] }

/-- 'porismlaw06.TeleExact': WHATEVER THE INPUT: true; the input reads as it did. -/
def teleExactSpec : ChangeSpec := { name := "teleExact", fn := fun _ => fun
  | [d1, d2, d3] => { results := [.lit (.bool true)], args := [d1, d2, d3] }
  | _ => none }
def teleExactRow : OpenClaim := { program := "ytncmainjcffanaa", sum := "a096156e536763687b93153c73ee5595efab00288bd82a09d95e55deee7cd778", func := "porism/porismlaw06.TeleExact", spec := "teleExact", unfollowed := true, recurses := true, loops := true, apart := false }
def TeleExactSaid : Prop := teleExactRow.holds Try.pinned (OpenSpec.ofChange teleExactSpec)

/-- ITS FALSE NEIGHBOUR: 'it returns false'. Refute it at one input. -/
def teleExactWrong : ChangeSpec := { name := "teleExact", fn := fun _ => fun
  | [d1, d2, d3] => { results := [.lit (.bool false)], args := [d1, d2, d3] }
  | _ => none }
def TeleExactWrongFalsely : Prop := teleExactRow.holds Try.pinned (OpenSpec.ofChange teleExactWrong)

/-- 'porismlaw05.InstExact': WHATEVER THE INPUT: true; the input reads as it did. -/
def instExactSpec : ChangeSpec := { name := "instExact", fn := fun _ => fun
  | [d1, d2, d3] => { results := [.lit (.bool true)], args := [d1, d2, d3] }
  | _ => none }
def instExactRow : OpenClaim := { program := "ytncmainjcffanaa", sum := "a096156e536763687b93153c73ee5595efab00288bd82a09d95e55deee7cd778", func := "porism/porismlaw05.InstExact", spec := "instExact", unfollowed := true, recurses := true, loops := true, apart := false }
def InstExactSaid : Prop := instExactRow.holds Try.pinned (OpenSpec.ofChange instExactSpec)

/-- ITS FALSE NEIGHBOUR: 'it returns false'. Refute it at one input. -/
def instExactWrong : ChangeSpec := { name := "instExact", fn := fun _ => fun
  | [d1, d2, d3] => { results := [.lit (.bool false)], args := [d1, d2, d3] }
  | _ => none }
def InstExactWrongFalsely : Prop := instExactRow.holds Try.pinned (OpenSpec.ofChange instExactWrong)

/-- 'porismlaw07.ShapeBent': WHATEVER THE INPUT: true; the input reads as it did. -/
def shapeBentSpec : ChangeSpec := { name := "shapeBent", fn := fun _ => fun
  | [d1, d2, d3] => { results := [.lit (.bool true)], args := [d1, d2, d3] }
  | _ => none }
def shapeBentRow : OpenClaim := { program := "ytncmainjcffanaa", sum := "a096156e536763687b93153c73ee5595efab00288bd82a09d95e55deee7cd778", func := "porism/porismlaw07.ShapeBent", spec := "shapeBent", unfollowed := true, recurses := true, loops := true, apart := false }
def ShapeBentSaid : Prop := shapeBentRow.holds Try.pinned (OpenSpec.ofChange shapeBentSpec)

/-- ITS FALSE NEIGHBOUR: 'it returns false'. Refute it at one input. -/
def shapeBentWrong : ChangeSpec := { name := "shapeBent", fn := fun _ => fun
  | [d1, d2, d3] => { results := [.lit (.bool false)], args := [d1, d2, d3] }
  | _ => none }
def ShapeBentWrongFalsely : Prop := shapeBentRow.holds Try.pinned (OpenSpec.ofChange shapeBentWrong)

/-- 'porismlaw08.PositLater': WHATEVER THE INPUT: true; the input reads as it did. -/
def positLaterSpec : ChangeSpec := { name := "positLater", fn := fun _ => fun
  | [d] => { results := [.lit (.bool true)], args := [d] }
  | _ => none }
def positLaterRow : OpenClaim := { program := "ytncmainjcffanaa", sum := "a096156e536763687b93153c73ee5595efab00288bd82a09d95e55deee7cd778", func := "porism/porismlaw08.PositLater", spec := "positLater", unfollowed := true, recurses := true, apart := false }
def PositLaterSaid : Prop := positLaterRow.holds Try.pinned (OpenSpec.ofChange positLaterSpec)

/-- ITS FALSE NEIGHBOUR: 'it returns false'. Refute it at one input. -/
def positLaterWrong : ChangeSpec := { name := "positLater", fn := fun _ => fun
  | [d] => { results := [.lit (.bool false)], args := [d] }
  | _ => none }
def PositLaterWrongFalsely : Prop := positLaterRow.holds Try.pinned (OpenSpec.ofChange positLaterWrong)

/- THE SECOND FORM. 'bulk': how many values and letters a reading holds, each counted each time it is reached (what is shared counts as often as it is met; a slice's spare places count too). A statement '..UptoSaid' is the law's where the arguments, and the package variables that the reading takes, are together of bulk at most 1048576: NARROWER than '..Said'. Prove '..Said' where nothing that the law and all that it calls make is longer than what came in: it says more and counts as full. Else prove '..UptoSaid'. A law counts once. -/
mutual
def uptoBulk {H : Type} : DataW H → Nat
  | .lit (.string bytes) => bytes.length + 1
  | .lit _ => 1
  | .nil => 1
  | .ptr d => uptoBulk d + 1
  | .slice elems spare => uptoBulkAll elems + uptoBulkAll spare + 1
  | .agg parts => uptoBulkAll parts + 1
  | .iface _ d => uptoBulk d + 1
  | .map entries => uptoBulkEntries entries + 1
  | .held _ => 1
def uptoBulkAll {H : Type} : List (DataW H) → Nat
  | [] => 0
  | d :: r => uptoBulk d + uptoBulkAll r
def uptoBulkEntries {H : Type} : List (Lit × DataW H) → Nat
  | [] => 0
  | x :: r => uptoBulkEntry x + uptoBulkEntries r
def uptoBulkEntry {H : Type} : Lit × DataW H → Nat
  | (.string bytes, d) => bytes.length + uptoBulk d + 1
  | (_, d) => uptoBulk d + 1
 end
def uptoSmall : (H : Type) → List (DataW H) → Bool := fun _ ds => decide (uptoBulkAll ds ≤ 1048576)
def OpenSpec.upto (s : _root_.Go.ChangeSpec) : _root_.Go.OpenSpec := { _root_.Go.OpenSpec.ofChange s with cond := some uptoSmall }

/-- 'porismlaw06.TeleExact', WHERE WHAT IT READS IS OF BULK AT MOST 1048576: true; the input reads as it did. -/
def teleExactUptoRow : OpenClaim := { program := "ytncmainjcffanaa", sum := "a096156e536763687b93153c73ee5595efab00288bd82a09d95e55deee7cd778", func := "porism/porismlaw06.TeleExact", spec := "teleExact", unfollowed := true, recurses := true, loops := true, apart := false, narrowed := true }
def TeleExactUptoSaid : Prop := teleExactUptoRow.holds Try.pinned (OpenSpec.upto teleExactSpec)

/-- 'porismlaw05.InstExact', WHERE WHAT IT READS IS OF BULK AT MOST 1048576: true; the input reads as it did. -/
def instExactUptoRow : OpenClaim := { program := "ytncmainjcffanaa", sum := "a096156e536763687b93153c73ee5595efab00288bd82a09d95e55deee7cd778", func := "porism/porismlaw05.InstExact", spec := "instExact", unfollowed := true, recurses := true, loops := true, apart := false, narrowed := true }
def InstExactUptoSaid : Prop := instExactUptoRow.holds Try.pinned (OpenSpec.upto instExactSpec)

/-- 'porismlaw07.ShapeBent', WHERE WHAT IT READS IS OF BULK AT MOST 1048576: true; the input reads as it did. -/
def shapeBentUptoRow : OpenClaim := { program := "ytncmainjcffanaa", sum := "a096156e536763687b93153c73ee5595efab00288bd82a09d95e55deee7cd778", func := "porism/porismlaw07.ShapeBent", spec := "shapeBent", unfollowed := true, recurses := true, loops := true, apart := false, narrowed := true }
def ShapeBentUptoSaid : Prop := shapeBentUptoRow.holds Try.pinned (OpenSpec.upto shapeBentSpec)

/-- 'porismlaw08.PositLater', WHERE WHAT IT READS IS OF BULK AT MOST 1048576: true; the input reads as it did. -/
def positLaterUptoRow : OpenClaim := { program := "ytncmainjcffanaa", sum := "a096156e536763687b93153c73ee5595efab00288bd82a09d95e55deee7cd778", func := "porism/porismlaw08.PositLater", spec := "positLater", unfollowed := true, recurses := true, apart := false, narrowed := true }
def PositLaterUptoSaid : Prop := positLaterUptoRow.holds Try.pinned (OpenSpec.upto positLaterSpec)

end Rows
end Go.Proofs.Ytncmainjcffanaa
