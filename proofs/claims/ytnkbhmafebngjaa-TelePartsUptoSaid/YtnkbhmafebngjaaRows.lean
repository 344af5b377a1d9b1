/-
  NARROWER THAN 'FOR EVERY INPUT', by the rows' own cells (each row's printed sentence says how): TeleParts: loops · TeleAgain: loops · TeleExact: loops · TeleBack: loops · TeleScopes: loops · PositMoves: loops · PositFewer: loops · PositPlain: loops.
  DERIVED. THE GIVEN ROWS OF THIS SEAT. 11 by the template 'for every input the law returns true; each argument reads behind the call as it read before'; 0 by the template 'total and deterministic' (their statements: YtnkbhmafebngjaaTotals.lean).
  GIVEN WITH THE SEED: the statements are not yours to turn. If you find one false, say at which input.
  Laid BY PROGRAM, IN A SANDBOX (cutbox-rows.mjs): the forced cells as the released guide's own fill.sh prints them over the translation 17826365da870863… (all of the seat's roots in one cut). By AI agents, Wed Nov 11 2026. No macro, syntax, notation, axiom, sorry.
-/
import Derived.Test.YtnkbhmafebngjaaChecked
import GoSem.Claim
import GoSem.ClaimJoined
import GoSem.ClaimMapViews
import Derived.JoinedTies
import Derived.KernelRfl
namespace Go.Proofs.Ytnkbhmafebngjaa
/- THE CELL 'sum', in the pinned program and in every row, IS THE sha256 OF THE DUMP (.gsa) THAT YtnkbhmafebngjaaProg.lean LOADS. Nothing in Lean hashes anything: it is a label: what it is worth is what the hold of that sum in a sandbox is worth. -/
noncomputable def Try.pinned : Pinned := { name := "ytnkbhmafebngjaa", sum := "17826365da870863326fb3df855676614ccdbf7f4c9ec61e46f414dce30e92fb", checked := Try.checked }
namespace Rows
def none {H : Type} : Left H := { results := [], args := [] }

/-- 'porismlaw06.TeleParts': WHATEVER THE INPUT: true; the input reads as it did. -/
def telePartsSpec : ChangeSpec := { name := "teleParts", fn := fun _ => fun
  | [d1, d2, d3] => { results := [.lit (.bool true)], args := [d1, d2, d3] }
  | _ => none }
def telePartsRow : OpenClaim := { program := "ytnkbhmafebngjaa", sum := "17826365da870863326fb3df855676614ccdbf7f4c9ec61e46f414dce30e92fb", func := "porism/porismlaw06.TeleParts", spec := "teleParts", unfollowed := true, recurses := true, loops := true, apart := false }
def TelePartsSaid : Prop := telePartsRow.holds Try.pinned (OpenSpec.ofChange telePartsSpec)

/-- ITS FALSE NEIGHBOUR: 'it returns false'. Refute it at one input. -/
def telePartsWrong : ChangeSpec := { name := "teleParts", fn := fun _ => fun
  | [d1, d2, d3] => { results := [.lit (.bool false)], args := [d1, d2, d3] }
  | _ => none }
def TelePartsWrongFalsely : Prop := telePartsRow.holds Try.pinned (OpenSpec.ofChange telePartsWrong)

/-- 'porismlaw06.TeleAgain': WHATEVER THE INPUT: true; the input reads as it did. -/
def teleAgainSpec : ChangeSpec := { name := "teleAgain", fn := fun _ => fun
  | [d] => { results := [.lit (.bool true)], args := [d] }
  | _ => none }
def teleAgainRow : OpenClaim := { program := "ytnkbhmafebngjaa", sum := "17826365da870863326fb3df855676614ccdbf7f4c9ec61e46f414dce30e92fb", func := "porism/porismlaw06.TeleAgain", spec := "teleAgain", unfollowed := true, recurses := true, loops := true, apart := false }
def TeleAgainSaid : Prop := teleAgainRow.holds Try.pinned (OpenSpec.ofChange teleAgainSpec)

/-- ITS FALSE NEIGHBOUR: 'it returns false'. Refute it at one input. -/
def teleAgainWrong : ChangeSpec := { name := "teleAgain", fn := fun _ => fun
  | [d] => { results := [.lit (.bool false)], args := [d] }
  | _ => none }
def TeleAgainWrongFalsely : Prop := teleAgainRow.holds Try.pinned (OpenSpec.ofChange teleAgainWrong)

/-- 'porismlaw06.TeleExact': WHATEVER THE INPUT: true; the input reads as it did. -/
def teleExactSpec : ChangeSpec := { name := "teleExact", fn := fun _ => fun
  | [d1, d2, d3] => { results := [.lit (.bool true)], args := [d1, d2, d3] }
  | _ => none }
def teleExactRow : OpenClaim := { program := "ytnkbhmafebngjaa", sum := "17826365da870863326fb3df855676614ccdbf7f4c9ec61e46f414dce30e92fb", func := "porism/porismlaw06.TeleExact", spec := "teleExact", unfollowed := true, recurses := true, loops := true, apart := false }
def TeleExactSaid : Prop := teleExactRow.holds Try.pinned (OpenSpec.ofChange teleExactSpec)

/-- ITS FALSE NEIGHBOUR: 'it returns false'. Refute it at one input. -/
def teleExactWrong : ChangeSpec := { name := "teleExact", fn := fun _ => fun
  | [d1, d2, d3] => { results := [.lit (.bool false)], args := [d1, d2, d3] }
  | _ => none }
def TeleExactWrongFalsely : Prop := teleExactRow.holds Try.pinned (OpenSpec.ofChange teleExactWrong)

/-- 'porismlaw06.TeleBack': WHATEVER THE INPUT: true; the input reads as it did. -/
def teleBackSpec : ChangeSpec := { name := "teleBack", fn := fun _ => fun
  | [d1, d2] => { results := [.lit (.bool true)], args := [d1, d2] }
  | _ => none }
def teleBackRow : OpenClaim := { program := "ytnkbhmafebngjaa", sum := "17826365da870863326fb3df855676614ccdbf7f4c9ec61e46f414dce30e92fb", func := "porism/porismlaw06.TeleBack", spec := "teleBack", unfollowed := true, recurses := true, loops := true, apart := false }
def TeleBackSaid : Prop := teleBackRow.holds Try.pinned (OpenSpec.ofChange teleBackSpec)

/-- ITS FALSE NEIGHBOUR: 'it returns false'. Refute it at one input. -/
def teleBackWrong : ChangeSpec := { name := "teleBack", fn := fun _ => fun
  | [d1, d2] => { results := [.lit (.bool false)], args := [d1, d2] }
  | _ => none }
def TeleBackWrongFalsely : Prop := teleBackRow.holds Try.pinned (OpenSpec.ofChange teleBackWrong)

/-- 'porismlaw06.TeleVars': WHATEVER THE INPUT: true; the input reads as it did. -/
def teleVarsSpec : ChangeSpec := { name := "teleVars", fn := fun _ => fun
  | [d1, d2] => { results := [.lit (.bool true)], args := [d1, d2] }
  | _ => none }
def teleVarsRow : OpenClaim := { program := "ytnkbhmafebngjaa", sum := "17826365da870863326fb3df855676614ccdbf7f4c9ec61e46f414dce30e92fb", func := "porism/porismlaw06.TeleVars", spec := "teleVars", unfollowed := true, recurses := true, apart := false }
def TeleVarsSaid : Prop := teleVarsRow.holds Try.pinned (OpenSpec.ofChange teleVarsSpec)

/-- ITS FALSE NEIGHBOUR: 'it returns false'. Refute it at one input. -/
def teleVarsWrong : ChangeSpec := { name := "teleVars", fn := fun _ => fun
  | [d1, d2] => { results := [.lit (.bool false)], args := [d1, d2] }
  | _ => none }
def TeleVarsWrongFalsely : Prop := teleVarsRow.holds Try.pinned (OpenSpec.ofChange teleVarsWrong)

/-- 'porismlaw06.TeleScopes': WHATEVER THE INPUT: true; the input reads as it did. -/
def teleScopesSpec : ChangeSpec := { name := "teleScopes", fn := fun _ => fun
  | [d1, d2] => { results := [.lit (.bool true)], args := [d1, d2] }
  | _ => none }
def teleScopesRow : OpenClaim := { program := "ytnkbhmafebngjaa", sum := "17826365da870863326fb3df855676614ccdbf7f4c9ec61e46f414dce30e92fb", func := "porism/porismlaw06.TeleScopes", spec := "teleScopes", unfollowed := true, recurses := true, loops := true, apart := false }
def TeleScopesSaid : Prop := teleScopesRow.holds Try.pinned (OpenSpec.ofChange teleScopesSpec)

/-- ITS FALSE NEIGHBOUR: 'it returns false'. Refute it at one input. -/
def teleScopesWrong : ChangeSpec := { name := "teleScopes", fn := fun _ => fun
  | [d1, d2] => { results := [.lit (.bool false)], args := [d1, d2] }
  | _ => none }
def TeleScopesWrongFalsely : Prop := teleScopesRow.holds Try.pinned (OpenSpec.ofChange teleScopesWrong)

/-- 'porismlaw08.PositDecodes': WHATEVER THE INPUT: true; the input reads as it did. -/
def positDecodesSpec : ChangeSpec := { name := "positDecodes", fn := fun _ => fun
  | [d1, d2] => { results := [.lit (.bool true)], args := [d1, d2] }
  | _ => none }
def positDecodesRow : OpenClaim := { program := "ytnkbhmafebngjaa", sum := "17826365da870863326fb3df855676614ccdbf7f4c9ec61e46f414dce30e92fb", func := "porism/porismlaw08.PositDecodes", spec := "positDecodes", unfollowed := true, recurses := true, apart := false }
def PositDecodesSaid : Prop := positDecodesRow.holds Try.pinned (OpenSpec.ofChange positDecodesSpec)

/-- ITS FALSE NEIGHBOUR: 'it returns false'. Refute it at one input. -/
def positDecodesWrong : ChangeSpec := { name := "positDecodes", fn := fun _ => fun
  | [d1, d2] => { results := [.lit (.bool false)], args := [d1, d2] }
  | _ => none }
def PositDecodesWrongFalsely : Prop := positDecodesRow.holds Try.pinned (OpenSpec.ofChange positDecodesWrong)

/-- 'porismlaw08.PositMoves': WHATEVER THE INPUT: true; the input reads as it did. -/
def positMovesSpec : ChangeSpec := { name := "positMoves", fn := fun _ => fun
  | [d1, d2, d3] => { results := [.lit (.bool true)], args := [d1, d2, d3] }
  | _ => none }
def positMovesRow : OpenClaim := { program := "ytnkbhmafebngjaa", sum := "17826365da870863326fb3df855676614ccdbf7f4c9ec61e46f414dce30e92fb", func := "porism/porismlaw08.PositMoves", spec := "positMoves", unfollowed := true, recurses := true, loops := true, apart := false }
def PositMovesSaid : Prop := positMovesRow.holds Try.pinned (OpenSpec.ofChange positMovesSpec)

/-- ITS FALSE NEIGHBOUR: 'it returns false'. Refute it at one input. -/
def positMovesWrong : ChangeSpec := { name := "positMoves", fn := fun _ => fun
  | [d1, d2, d3] => { results := [.lit (.bool false)], args := [d1, d2, d3] }
  | _ => none }
def PositMovesWrongFalsely : Prop := positMovesRow.holds Try.pinned (OpenSpec.ofChange positMovesWrong)

/-- 'porismlaw08.PositFewer': WHATEVER THE INPUT: true; the input reads as it did. -/
def positFewerSpec : ChangeSpec := { name := "positFewer", fn := fun _ => fun
  | [d1, d2, d3] => { results := [.lit (.bool true)], args := [d1, d2, d3] }
  | _ => none }
def positFewerRow : OpenClaim := { program := "ytnkbhmafebngjaa", sum := "17826365da870863326fb3df855676614ccdbf7f4c9ec61e46f414dce30e92fb", func := "porism/porismlaw08.PositFewer", spec := "positFewer", unfollowed := true, recurses := true, loops := true, apart := false }
def PositFewerSaid : Prop := positFewerRow.holds Try.pinned (OpenSpec.ofChange positFewerSpec)

/-- ITS FALSE NEIGHBOUR: 'it returns false'. Refute it at one input. -/
def positFewerWrong : ChangeSpec := { name := "positFewer", fn := fun _ => fun
  | [d1, d2, d3] => { results := [.lit (.bool false)], args := [d1, d2, d3] }
  | _ => none }
def PositFewerWrongFalsely : Prop := positFewerRow.holds Try.pinned (OpenSpec.ofChange positFewerWrong)

/-- 'porismlaw08.PositLater': WHATEVER THE INPUT: true; the input reads as it did. -/
def positLaterSpec : ChangeSpec := { name := "positLater", fn := fun _ => fun
  | [d] => { results := [.lit (.bool true)], args := [d] }
  | _ => none }
def positLaterRow : OpenClaim := { program := "ytnkbhmafebngjaa", sum := "17826365da870863326fb3df855676614ccdbf7f4c9ec61e46f414dce30e92fb", func := "porism/porismlaw08.PositLater", spec := "positLater", unfollowed := true, recurses := true, apart := false }
def PositLaterSaid : Prop := positLaterRow.holds Try.pinned (OpenSpec.ofChange positLaterSpec)

/-- ITS FALSE NEIGHBOUR: 'it returns false'. Refute it at one input. -/
def positLaterWrong : ChangeSpec := { name := "positLater", fn := fun _ => fun
  | [d] => { results := [.lit (.bool false)], args := [d] }
  | _ => none }
def PositLaterWrongFalsely : Prop := positLaterRow.holds Try.pinned (OpenSpec.ofChange positLaterWrong)

/-- 'porismlaw08.PositPlain': WHATEVER THE INPUT: true; the input reads as it did. -/
def positPlainSpec : ChangeSpec := { name := "positPlain", fn := fun _ => fun
  | [d1, d2] => { results := [.lit (.bool true)], args := [d1, d2] }
  | _ => none }
def positPlainRow : OpenClaim := { program := "ytnkbhmafebngjaa", sum := "17826365da870863326fb3df855676614ccdbf7f4c9ec61e46f414dce30e92fb", func := "porism/porismlaw08.PositPlain", spec := "positPlain", unfollowed := true, recurses := true, loops := true, apart := false }
def PositPlainSaid : Prop := positPlainRow.holds Try.pinned (OpenSpec.ofChange positPlainSpec)

/-- ITS FALSE NEIGHBOUR: 'it returns false'. Refute it at one input. -/
def positPlainWrong : ChangeSpec := { name := "positPlain", fn := fun _ => fun
  | [d1, d2] => { results := [.lit (.bool false)], args := [d1, d2] }
  | _ => none }
def PositPlainWrongFalsely : Prop := positPlainRow.holds Try.pinned (OpenSpec.ofChange positPlainWrong)

/- THE SECOND FORM. 'bulk': how many values and letters a reading holds, each counted each time it is reached (what is shared counts as often as it is met; a slice's spare places count too). A statement '..UptoSaid' is the law's where the arguments, and the package variables that the reading takes, are together of bulk at most 1048576: NARROWER than '..Said'. Prove '..Said' where nothing that the law and all that it calls make is longer than what came in: it says more and counts as full. Else prove '..UptoSaid'. A law counts once. -/
mutual
def uptoBulk {H : Type} : DataW H → Nat
  | .lit (.string bytes) => bytes.length + 1
  | .lit _ => 1
  | .nil => 1
  | .ptr d => uptoBulk d + 1
  | .slice elems spare => uptoBulkAll elems + uptoBulkAll spare + 1
  | .agg parts => uptoBulkAll parts + 1
  | .iface _ d => uptoBulk d + 1
  | .map entries => uptoBulkEntries entries + 1
  | .held _ => 1
def uptoBulkAll {H : Type} : List (DataW H) → Nat
  | [] => 0
  | d :: r => uptoBulk d + uptoBulkAll r
def uptoBulkEntries {H : Type} : List (Lit × DataW H) → Nat
  | [] => 0
  | x :: r => uptoBulkEntry x + uptoBulkEntries r
def uptoBulkEntry {H : Type} : Lit × DataW H → Nat
  | (.string bytes, d) => bytes.length + uptoBulk d + 1
  | (_, d) => uptoBulk d + 1
 end
def uptoSmall : (H : Type) → List (DataW H) → Bool := fun _ ds => decide (uptoBulkAll ds ≤ 1048576)
def OpenSpec.upto (s : _root_.Go.ChangeSpec) : _root_.Go.OpenSpec := { _root_.Go.OpenSpec.ofChange s with cond := some uptoSmall }

/-- 'porismlaw06.TeleParts', WHERE WHAT IT READS IS OF BULK AT MOST 1048576: true; the input reads as it did. -/
def telePartsUptoRow : OpenClaim := { program := "ytnkbhmafebngjaa", sum := "17826365da870863326fb3df855676614ccdbf7f4c9ec61e46f414dce30e92fb", func := "porism/porismlaw06.TeleParts", spec := "teleParts", unfollowed := true, recurses := true, loops := true, apart := false, narrowed := true }
def TelePartsUptoSaid : Prop := telePartsUptoRow.holds Try.pinned (OpenSpec.upto telePartsSpec)

/-- 'porismlaw06.TeleAgain', WHERE WHAT IT READS IS OF BULK AT MOST 1048576: true; the input reads as it did. -/
def teleAgainUptoRow : OpenClaim := { program := "ytnkbhmafebngjaa", sum := "17826365da870863326fb3df855676614ccdbf7f4c9ec61e46f414dce30e92fb", func := "porism/porismlaw06.TeleAgain", spec := "teleAgain", unfollowed := true, recurses := true, loops := true, apart := false, narrowed := true }
def TeleAgainUptoSaid : Prop := teleAgainUptoRow.holds Try.pinned (OpenSpec.upto teleAgainSpec)

/-- 'porismlaw06.TeleExact', WHERE WHAT IT READS IS OF BULK AT MOST 1048576: true; the input reads as it did. -/
def teleExactUptoRow : OpenClaim := { program := "ytnkbhmafebngjaa", sum := "17826365da870863326fb3df855676614ccdbf7f4c9ec61e46f414dce30e92fb", func := "porism/porismlaw06.TeleExact", spec := "teleExact", unfollowed := true, recurses := true, loops := true, apart := false, narrowed := true }
def TeleExactUptoSaid : Prop := teleExactUptoRow.holds Try.pinned (OpenSpec.upto teleExactSpec)

/-- 'porismlaw06.TeleBack', WHERE WHAT IT READS IS OF BULK AT MOST 1048576: true; the input reads as it did. -/
def teleBackUptoRow : OpenClaim := { program := "ytnkbhmafebngjaa", sum := "17826365da870863326fb3df855676614ccdbf7f4c9ec61e46f414dce30e92fb", func := "porism/porismlaw06.TeleBack", spec := "teleBack", unfollowed := true, recurses := true, loops := true, apart := false, narrowed := true }
def TeleBackUptoSaid : Prop := teleBackUptoRow.holds Try.pinned (OpenSpec.upto teleBackSpec)

/-- 'porismlaw06.TeleVars', WHERE WHAT IT READS IS OF BULK AT MOST 1048576: true; the input reads as it did. -/
def teleVarsUptoRow : OpenClaim := { program := "ytnkbhmafebngjaa", sum := "17826365da870863326fb3df855676614ccdbf7f4c9ec61e46f414dce30e92fb", func := "porism/porismlaw06.TeleVars", spec := "teleVars", unfollowed := true, recurses := true, apart := false, narrowed := true }
def TeleVarsUptoSaid : Prop := teleVarsUptoRow.holds Try.pinned (OpenSpec.upto teleVarsSpec)

/-- 'porismlaw06.TeleScopes', WHERE WHAT IT READS IS OF BULK AT MOST 1048576: true; the input reads as it did. -/
def teleScopesUptoRow : OpenClaim := { program := "ytnkbhmafebngjaa", sum := "17826365da870863326fb3df855676614ccdbf7f4c9ec61e46f414dce30e92fb", func := "porism/porismlaw06.TeleScopes", spec := "teleScopes", unfollowed := true, recurses := true, loops := true, apart := false, narrowed := true }
def TeleScopesUptoSaid : Prop := teleScopesUptoRow.holds Try.pinned (OpenSpec.upto teleScopesSpec)

/-- 'porismlaw08.PositDecodes', WHERE WHAT IT READS IS OF BULK AT MOST 1048576: true; the input reads as it did. -/
def positDecodesUptoRow : OpenClaim := { program := "ytnkbhmafebngjaa", sum := "17826365da870863326fb3df855676614ccdbf7f4c9ec61e46f414dce30e92fb", func := "porism/porismlaw08.PositDecodes", spec := "positDecodes", unfollowed := true, recurses := true, apart := false, narrowed := true }
def PositDecodesUptoSaid : Prop := positDecodesUptoRow.holds Try.pinned (OpenSpec.upto positDecodesSpec)

/-- 'porismlaw08.PositMoves', WHERE WHAT IT READS IS OF BULK AT MOST 1048576: true; the input reads as it did. -/
def positMovesUptoRow : OpenClaim := { program := "ytnkbhmafebngjaa", sum := "17826365da870863326fb3df855676614ccdbf7f4c9ec61e46f414dce30e92fb", func := "porism/porismlaw08.PositMoves", spec := "positMoves", unfollowed := true, recurses := true, loops := true, apart := false, narrowed := true }
def PositMovesUptoSaid : Prop := positMovesUptoRow.holds Try.pinned (OpenSpec.upto positMovesSpec)

/-- 'porismlaw08.PositFewer', WHERE WHAT IT READS IS OF BULK AT MOST 1048576: true; the input reads as it did. -/
def positFewerUptoRow : OpenClaim := { program := "ytnkbhmafebngjaa", sum := "17826365da870863326fb3df855676614ccdbf7f4c9ec61e46f414dce30e92fb", func := "porism/porismlaw08.PositFewer", spec := "positFewer", unfollowed := true, recurses := true, loops := true, apart := false, narrowed := true }
def PositFewerUptoSaid : Prop := positFewerUptoRow.holds Try.pinned (OpenSpec.upto positFewerSpec)

/-- 'porismlaw08.PositLater', WHERE WHAT IT READS IS OF BULK AT MOST 1048576: true; the input reads as it did. -/
def positLaterUptoRow : OpenClaim := { program := "ytnkbhmafebngjaa", sum := "17826365da870863326fb3df855676614ccdbf7f4c9ec61e46f414dce30e92fb", func := "porism/porismlaw08.PositLater", spec := "positLater", unfollowed := true, recurses := true, apart := false, narrowed := true }
def PositLaterUptoSaid : Prop := positLaterUptoRow.holds Try.pinned (OpenSpec.upto positLaterSpec)

/-- 'porismlaw08.PositPlain', WHERE WHAT IT READS IS OF BULK AT MOST 1048576: true; the input reads as it did. -/
def positPlainUptoRow : OpenClaim := { program := "ytnkbhmafebngjaa", sum := "17826365da870863326fb3df855676614ccdbf7f4c9ec61e46f414dce30e92fb", func := "porism/porismlaw08.PositPlain", spec := "positPlain", unfollowed := true, recurses := true, loops := true, apart := false, narrowed := true }
def PositPlainUptoSaid : Prop := positPlainUptoRow.holds Try.pinned (OpenSpec.upto positPlainSpec)

end Rows
end Go.Proofs.Ytnkbhmafebngjaa
