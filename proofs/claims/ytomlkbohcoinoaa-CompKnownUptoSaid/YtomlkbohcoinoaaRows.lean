/-
  NARROWER THAN 'FOR EVERY INPUT', by the rows' own cells (each row's printed sentence says how): SigArgs: loops · SigClosed: loops · CompScopes: loops · CompPlain: loops · CompShifts: loops · CompKnown: loops.
  DERIVED. THE GIVEN ROWS OF THIS SEAT. 8 by the template 'for every input the law returns true; each argument reads behind the call as it read before'; 0 by the template 'total and deterministic' (their statements: YtomlkbohcoinoaaTotals.lean).
  GIVEN WITH THE SEED: the statements are not yours to turn. If you find one false, say at which input.
  Laid BY PROGRAM, IN A SANDBOX (cutbox-rows.mjs): the forced cells as the released guide's own fill.sh prints them over the translation 33657d6468cf82c3… (all of the seat's roots in one cut). By AI agents, Wed Nov 11 2026. No macro, syntax, notation, axiom, sorry.
-/
import Derived.Test.YtomlkbohcoinoaaChecked
import GoSem.Claim
import GoSem.ClaimJoined
import GoSem.ClaimMapViews
import Derived.JoinedTies
import Derived.KernelRfl
namespace Go.Proofs.Ytomlkbohcoinoaa
/- THE CELL 'sum', in the pinned program and in every row, IS THE sha256 OF THE DUMP (.gsa) THAT YtomlkbohcoinoaaProg.lean LOADS. Nothing in Lean hashes anything: it is a label: what it is worth is what the hold of that sum in a sandbox is worth. -/
noncomputable def Try.pinned : Pinned := { name := "ytomlkbohcoinoaa", sum := "33657d6468cf82c3f70003facf4c033cefc54542d71c12662f63368e88cb7f51", checked := Try.checked }
namespace Rows
def none {H : Type} : Left H := { results := [], args := [] }

/-- 'porismlaw10.SigArgs': WHATEVER THE INPUT: true; the input reads as it did. -/
def sigArgsSpec : ChangeSpec := { name := "sigArgs", fn := fun _ => fun
  | [d1, d2, d3] => { results := [.lit (.bool true)], args := [d1, d2, d3] }
  | _ => none }
def sigArgsRow : OpenClaim := { program := "ytomlkbohcoinoaa", sum := "33657d6468cf82c3f70003facf4c033cefc54542d71c12662f63368e88cb7f51", func := "porism/porismlaw10.SigArgs", spec := "sigArgs", unfollowed := true, recurses := true, loops := true, apart := false }
def SigArgsSaid : Prop := sigArgsRow.holds Try.pinned (OpenSpec.ofChange sigArgsSpec)

/-- ITS FALSE NEIGHBOUR: 'it returns false'. Refute it at one input. -/
def sigArgsWrong : ChangeSpec := { name := "sigArgs", fn := fun _ => fun
  | [d1, d2, d3] => { results := [.lit (.bool false)], args := [d1, d2, d3] }
  | _ => none }
def SigArgsWrongFalsely : Prop := sigArgsRow.holds Try.pinned (OpenSpec.ofChange sigArgsWrong)

/-- 'porismlaw10.SigClosed': WHATEVER THE INPUT: true; the input reads as it did. -/
def sigClosedSpec : ChangeSpec := { name := "sigClosed", fn := fun _ => fun
  | [d1, d2, d3] => { results := [.lit (.bool true)], args := [d1, d2, d3] }
  | _ => none }
def sigClosedRow : OpenClaim := { program := "ytomlkbohcoinoaa", sum := "33657d6468cf82c3f70003facf4c033cefc54542d71c12662f63368e88cb7f51", func := "porism/porismlaw10.SigClosed", spec := "sigClosed", unfollowed := true, recurses := true, loops := true, apart := false }
def SigClosedSaid : Prop := sigClosedRow.holds Try.pinned (OpenSpec.ofChange sigClosedSpec)

/-- ITS FALSE NEIGHBOUR: 'it returns false'. Refute it at one input. -/
def sigClosedWrong : ChangeSpec := { name := "sigClosed", fn := fun _ => fun
  | [d1, d2, d3] => { results := [.lit (.bool false)], args := [d1, d2, d3] }
  | _ => none }
def SigClosedWrongFalsely : Prop := sigClosedRow.holds Try.pinned (OpenSpec.ofChange sigClosedWrong)

/-- 'porismlaw13.CompScopes': WHATEVER THE INPUT: true; the input reads as it did. -/
def compScopesSpec : ChangeSpec := { name := "compScopes", fn := fun _ => fun
  | [d1, d2, d3, d4, d5, d6, d7] => { results := [.lit (.bool true)], args := [d1, d2, d3, d4, d5, d6, d7] }
  | _ => none }
def compScopesRow : OpenClaim := { program := "ytomlkbohcoinoaa", sum := "33657d6468cf82c3f70003facf4c033cefc54542d71c12662f63368e88cb7f51", func := "porism/porismlaw13.CompScopes", spec := "compScopes", unfollowed := true, recurses := true, loops := true, apart := false }
def CompScopesSaid : Prop := compScopesRow.holds Try.pinned (OpenSpec.ofChange compScopesSpec)

/-- ITS FALSE NEIGHBOUR: 'it returns false'. Refute it at one input. -/
def compScopesWrong : ChangeSpec := { name := "compScopes", fn := fun _ => fun
  | [d1, d2, d3, d4, d5, d6, d7] => { results := [.lit (.bool false)], args := [d1, d2, d3, d4, d5, d6, d7] }
  | _ => none }
def CompScopesWrongFalsely : Prop := compScopesRow.holds Try.pinned (OpenSpec.ofChange compScopesWrong)

/-- 'porismlaw13.CompPlain': WHATEVER THE INPUT: true; the input reads as it did. -/
def compPlainSpec : ChangeSpec := { name := "compPlain", fn := fun _ => fun
  | [d1, d2, d3, d4, d5, d6] => { results := [.lit (.bool true)], args := [d1, d2, d3, d4, d5, d6] }
  | _ => none }
def compPlainRow : OpenClaim := { program := "ytomlkbohcoinoaa", sum := "33657d6468cf82c3f70003facf4c033cefc54542d71c12662f63368e88cb7f51", func := "porism/porismlaw13.CompPlain", spec := "compPlain", unfollowed := true, recurses := true, loops := true, apart := false }
def CompPlainSaid : Prop := compPlainRow.holds Try.pinned (OpenSpec.ofChange compPlainSpec)

/-- ITS FALSE NEIGHBOUR: 'it returns false'. Refute it at one input. -/
def compPlainWrong : ChangeSpec := { name := "compPlain", fn := fun _ => fun
  | [d1, d2, d3, d4, d5, d6] => { results := [.lit (.bool false)], args := [d1, d2, d3, d4, d5, d6] }
  | _ => none }
def CompPlainWrongFalsely : Prop := compPlainRow.holds Try.pinned (OpenSpec.ofChange compPlainWrong)

/-- 'porismlaw13.CompShifts': WHATEVER THE INPUT: true; the input reads as it did. -/
def compShiftsSpec : ChangeSpec := { name := "compShifts", fn := fun _ => fun
  | [d1, d2, d3, d4, d5, d6, d7] => { results := [.lit (.bool true)], args := [d1, d2, d3, d4, d5, d6, d7] }
  | _ => none }
def compShiftsRow : OpenClaim := { program := "ytomlkbohcoinoaa", sum := "33657d6468cf82c3f70003facf4c033cefc54542d71c12662f63368e88cb7f51", func := "porism/porismlaw13.CompShifts", spec := "compShifts", unfollowed := true, recurses := true, loops := true, apart := false }
def CompShiftsSaid : Prop := compShiftsRow.holds Try.pinned (OpenSpec.ofChange compShiftsSpec)

/-- ITS FALSE NEIGHBOUR: 'it returns false'. Refute it at one input. -/
def compShiftsWrong : ChangeSpec := { name := "compShifts", fn := fun _ => fun
  | [d1, d2, d3, d4, d5, d6, d7] => { results := [.lit (.bool false)], args := [d1, d2, d3, d4, d5, d6, d7] }
  | _ => none }
def CompShiftsWrongFalsely : Prop := compShiftsRow.holds Try.pinned (OpenSpec.ofChange compShiftsWrong)

/-- 'porismlaw13.CompKnown': WHATEVER THE INPUT: true; the input reads as it did. -/
def compKnownSpec : ChangeSpec := { name := "compKnown", fn := fun _ => fun
  | [d1, d2, d3, d4] => { results := [.lit (.bool true)], args := [d1, d2, d3, d4] }
  | _ => none }
def compKnownRow : OpenClaim := { program := "ytomlkbohcoinoaa", sum := "33657d6468cf82c3f70003facf4c033cefc54542d71c12662f63368e88cb7f51", func := "porism/porismlaw13.CompKnown", spec := "compKnown", unfollowed := true, recurses := true, loops := true, apart := false }
def CompKnownSaid : Prop := compKnownRow.holds Try.pinned (OpenSpec.ofChange compKnownSpec)

/-- ITS FALSE NEIGHBOUR: 'it returns false'. Refute it at one input. -/
def compKnownWrong : ChangeSpec := { name := "compKnown", fn := fun _ => fun
  | [d1, d2, d3, d4] => { results := [.lit (.bool false)], args := [d1, d2, d3, d4] }
  | _ => none }
def CompKnownWrongFalsely : Prop := compKnownRow.holds Try.pinned (OpenSpec.ofChange compKnownWrong)

/-- 'porismlaw11.DispKnown': WHATEVER THE INPUT: true; the input reads as it did. -/
def dispKnownSpec : ChangeSpec := { name := "dispKnown", fn := fun _ => fun
  | [d] => { results := [.lit (.bool true)], args := [d] }
  | _ => none }
def dispKnownRow : OpenClaim := { program := "ytomlkbohcoinoaa", sum := "33657d6468cf82c3f70003facf4c033cefc54542d71c12662f63368e88cb7f51", func := "porism/porismlaw11.DispKnown", spec := "dispKnown", unfollowed := true, recurses := true, apart := false }
def DispKnownSaid : Prop := dispKnownRow.holds Try.pinned (OpenSpec.ofChange dispKnownSpec)

/-- ITS FALSE NEIGHBOUR: 'it returns false'. Refute it at one input. -/
def dispKnownWrong : ChangeSpec := { name := "dispKnown", fn := fun _ => fun
  | [d] => { results := [.lit (.bool false)], args := [d] }
  | _ => none }
def DispKnownWrongFalsely : Prop := dispKnownRow.holds Try.pinned (OpenSpec.ofChange dispKnownWrong)

/-- 'porismlaw11.DispTrees': WHATEVER THE INPUT: true; the input reads as it did. -/
def dispTreesSpec : ChangeSpec := { name := "dispTrees", fn := fun _ => fun
  | [d1, d2, d3] => { results := [.lit (.bool true)], args := [d1, d2, d3] }
  | _ => none }
def dispTreesRow : OpenClaim := { program := "ytomlkbohcoinoaa", sum := "33657d6468cf82c3f70003facf4c033cefc54542d71c12662f63368e88cb7f51", func := "porism/porismlaw11.DispTrees", spec := "dispTrees", unfollowed := true, recurses := true, apart := false }
def DispTreesSaid : Prop := dispTreesRow.holds Try.pinned (OpenSpec.ofChange dispTreesSpec)

/-- ITS FALSE NEIGHBOUR: 'it returns false'. Refute it at one input. -/
def dispTreesWrong : ChangeSpec := { name := "dispTrees", fn := fun _ => fun
  | [d1, d2, d3] => { results := [.lit (.bool false)], args := [d1, d2, d3] }
  | _ => none }
def DispTreesWrongFalsely : Prop := dispTreesRow.holds Try.pinned (OpenSpec.ofChange dispTreesWrong)

/- THE SECOND FORM. 'bulk': how many values and letters a reading holds, each counted each time it is reached (what is shared counts as often as it is met; a slice's spare places count too). A statement '..UptoSaid' is the law's where the arguments, and the package variables that the reading takes, are together of bulk at most 1048576: NARROWER than '..Said'. Prove '..Said' where nothing that the law and all that it calls make is longer than what came in: it says more and counts as full. Else prove '..UptoSaid'. A law counts once. -/
mutual
def uptoBulk {H : Type} : DataW H → Nat
  | .lit (.string bytes) => bytes.length + 1
  | .lit _ => 1
  | .nil => 1
  | .ptr d => uptoBulk d + 1
  | .slice elems spare => uptoBulkAll elems + uptoBulkAll spare + 1
  | .agg parts => uptoBulkAll parts + 1
  | .iface _ d => uptoBulk d + 1
  | .map entries => uptoBulkEntries entries + 1
  | .held _ => 1
def uptoBulkAll {H : Type} : List (DataW H) → Nat
  | [] => 0
  | d :: r => uptoBulk d + uptoBulkAll r
def uptoBulkEntries {H : Type} : List (Lit × DataW H) → Nat
  | [] => 0
  | x :: r => uptoBulkEntry x + uptoBulkEntries r
def uptoBulkEntry {H : Type} : Lit × DataW H → Nat
  | (.string bytes, d) => bytes.length + uptoBulk d + 1
  | (_, d) => uptoBulk d + 1
 end
def uptoSmall : (H : Type) → List (DataW H) → Bool := fun _ ds => decide (uptoBulkAll ds ≤ 1048576)
def OpenSpec.upto (s : _root_.Go.ChangeSpec) : _root_.Go.OpenSpec := { _root_.Go.OpenSpec.ofChange s with cond := some uptoSmall }

/-- 'porismlaw10.SigArgs', WHERE WHAT IT READS IS OF BULK AT MOST 1048576: true; the input reads as it did. -/
def sigArgsUptoRow : OpenClaim := { program := "ytomlkbohcoinoaa", sum := "33657d6468cf82c3f70003facf4c033cefc54542d71c12662f63368e88cb7f51", func := "porism/porismlaw10.SigArgs", spec := "sigArgs", unfollowed := true, recurses := true, loops := true, apart := false, narrowed := true }
def SigArgsUptoSaid : Prop := sigArgsUptoRow.holds Try.pinned (OpenSpec.upto sigArgsSpec)

/-- 'porismlaw10.SigClosed', WHERE WHAT IT READS IS OF BULK AT MOST 1048576: true; the input reads as it did. -/
def sigClosedUptoRow : OpenClaim := { program := "ytomlkbohcoinoaa", sum := "33657d6468cf82c3f70003facf4c033cefc54542d71c12662f63368e88cb7f51", func := "porism/porismlaw10.SigClosed", spec := "sigClosed", unfollowed := true, recurses := true, loops := true, apart := false, narrowed := true }
def SigClosedUptoSaid : Prop := sigClosedUptoRow.holds Try.pinned (OpenSpec.upto sigClosedSpec)

/-- 'porismlaw13.CompScopes', WHERE WHAT IT READS IS OF BULK AT MOST 1048576: true; the input reads as it did. -/
def compScopesUptoRow : OpenClaim := { program := "ytomlkbohcoinoaa", sum := "33657d6468cf82c3f70003facf4c033cefc54542d71c12662f63368e88cb7f51", func := "porism/porismlaw13.CompScopes", spec := "compScopes", unfollowed := true, recurses := true, loops := true, apart := false, narrowed := true }
def CompScopesUptoSaid : Prop := compScopesUptoRow.holds Try.pinned (OpenSpec.upto compScopesSpec)

/-- 'porismlaw13.CompPlain', WHERE WHAT IT READS IS OF BULK AT MOST 1048576: true; the input reads as it did. -/
def compPlainUptoRow : OpenClaim := { program := "ytomlkbohcoinoaa", sum := "33657d6468cf82c3f70003facf4c033cefc54542d71c12662f63368e88cb7f51", func := "porism/porismlaw13.CompPlain", spec := "compPlain", unfollowed := true, recurses := true, loops := true, apart := false, narrowed := true }
def CompPlainUptoSaid : Prop := compPlainUptoRow.holds Try.pinned (OpenSpec.upto compPlainSpec)

/-- 'porismlaw13.CompShifts', WHERE WHAT IT READS IS OF BULK AT MOST 1048576: true; the input reads as it did. -/
def compShiftsUptoRow : OpenClaim := { program := "ytomlkbohcoinoaa", sum := "33657d6468cf82c3f70003facf4c033cefc54542d71c12662f63368e88cb7f51", func := "porism/porismlaw13.CompShifts", spec := "compShifts", unfollowed := true, recurses := true, loops := true, apart := false, narrowed := true }
def CompShiftsUptoSaid : Prop := compShiftsUptoRow.holds Try.pinned (OpenSpec.upto compShiftsSpec)

/-- 'porismlaw13.CompKnown', WHERE WHAT IT READS IS OF BULK AT MOST 1048576: true; the input reads as it did. -/
def compKnownUptoRow : OpenClaim := { program := "ytomlkbohcoinoaa", sum := "33657d6468cf82c3f70003facf4c033cefc54542d71c12662f63368e88cb7f51", func := "porism/porismlaw13.CompKnown", spec := "compKnown", unfollowed := true, recurses := true, loops := true, apart := false, narrowed := true }
def CompKnownUptoSaid : Prop := compKnownUptoRow.holds Try.pinned (OpenSpec.upto compKnownSpec)

/-- 'porismlaw11.DispKnown', WHERE WHAT IT READS IS OF BULK AT MOST 1048576: true; the input reads as it did. -/
def dispKnownUptoRow : OpenClaim := { program := "ytomlkbohcoinoaa", sum := "33657d6468cf82c3f70003facf4c033cefc54542d71c12662f63368e88cb7f51", func := "porism/porismlaw11.DispKnown", spec := "dispKnown", unfollowed := true, recurses := true, apart := false, narrowed := true }
def DispKnownUptoSaid : Prop := dispKnownUptoRow.holds Try.pinned (OpenSpec.upto dispKnownSpec)

/-- 'porismlaw11.DispTrees', WHERE WHAT IT READS IS OF BULK AT MOST 1048576: true; the input reads as it did. -/
def dispTreesUptoRow : OpenClaim := { program := "ytomlkbohcoinoaa", sum := "33657d6468cf82c3f70003facf4c033cefc54542d71c12662f63368e88cb7f51", func := "porism/porismlaw11.DispTrees", spec := "dispTrees", unfollowed := true, recurses := true, apart := false, narrowed := true }
def DispTreesUptoSaid : Prop := dispTreesUptoRow.holds Try.pinned (OpenSpec.upto dispTreesSpec)

end Rows
end Go.Proofs.Ytomlkbohcoinoaa
