/-
  NARROWER THAN 'FOR EVERY INPUT', by the rows' own cells (each row's printed sentence says how): DispScopes: loops · DispCounts: loops · DispLevels: loops · DispPlain: loops.
  DERIVED. THE GIVEN ROWS OF THIS SEAT. 4 by the template 'for every input the law returns true; each argument reads behind the call as it read before'; 0 by the template 'total and deterministic' (their statements: YtjebpfhffenbnaaGreatTotals.lean).
  GIVEN WITH THE SEED: the statements are not yours to turn. If you find one false, say at which input.
  Laid BY PROGRAM, IN A SANDBOX (cutbox-rows.mjs): the forced cells as the released guide's own fill.sh prints them over the translation 80ae2606ac6cf988… (all of the seat's roots in one cut). By AI agents, Wed Nov 11 2026. No macro, syntax, notation, axiom, sorry.
-/
import Derived.Test.YtjebpfhffenbnaaGreatChecked
import GoSem.Claim
import GoSem.ClaimJoined
import GoSem.ClaimMapViews
import Derived.JoinedTies
import Derived.KernelRfl
namespace Go.Proofs.YtjebpfhffenbnaaGreat
/- THE CELL 'sum', in the pinned program and in every row, IS THE sha256 OF THE DUMP (.gsa) THAT YtjebpfhffenbnaaGreatProg.lean LOADS. Nothing in Lean hashes anything: it is a label: what it is worth is what the hold of that sum in a sandbox is worth. -/
noncomputable def Tryz.pinned : Pinned := { name := "ytjebpfhffenbnaagreat", sum := "80ae2606ac6cf988b625817766da45663c157c1392839f784e4ee6a6aedff111", checked := Tryz.checked }
namespace Rows
def none {H : Type} : Left H := { results := [], args := [] }

/-- 'porismlaw11.DispScopes': WHATEVER THE INPUT: true; the input reads as it did. -/
def dispScopesSpec : ChangeSpec := { name := "dispScopes", fn := fun _ => fun
  | [d1, d2, d3] => { results := [.lit (.bool true)], args := [d1, d2, d3] }
  | _ => none }
def dispScopesRow : OpenClaim := { program := "ytjebpfhffenbnaagreat", sum := "80ae2606ac6cf988b625817766da45663c157c1392839f784e4ee6a6aedff111", func := "porism/porismlaw11.DispScopes", spec := "dispScopes", unfollowed := true, recurses := true, loops := true, apart := false }
def DispScopesSaid : Prop := dispScopesRow.holds Tryz.pinned (OpenSpec.ofChange dispScopesSpec)

/-- ITS FALSE NEIGHBOUR: 'it returns false'. Refute it at one input. -/
def dispScopesWrong : ChangeSpec := { name := "dispScopes", fn := fun _ => fun
  | [d1, d2, d3] => { results := [.lit (.bool false)], args := [d1, d2, d3] }
  | _ => none }
def DispScopesWrongFalsely : Prop := dispScopesRow.holds Tryz.pinned (OpenSpec.ofChange dispScopesWrong)

/-- 'porismlaw11.DispCounts': WHATEVER THE INPUT: true; the input reads as it did. -/
def dispCountsSpec : ChangeSpec := { name := "dispCounts", fn := fun _ => fun
  | [d1, d2, d3] => { results := [.lit (.bool true)], args := [d1, d2, d3] }
  | _ => none }
def dispCountsRow : OpenClaim := { program := "ytjebpfhffenbnaagreat", sum := "80ae2606ac6cf988b625817766da45663c157c1392839f784e4ee6a6aedff111", func := "porism/porismlaw11.DispCounts", spec := "dispCounts", unfollowed := true, recurses := true, loops := true, apart := false }
def DispCountsSaid : Prop := dispCountsRow.holds Tryz.pinned (OpenSpec.ofChange dispCountsSpec)

/-- ITS FALSE NEIGHBOUR: 'it returns false'. Refute it at one input. -/
def dispCountsWrong : ChangeSpec := { name := "dispCounts", fn := fun _ => fun
  | [d1, d2, d3] => { results := [.lit (.bool false)], args := [d1, d2, d3] }
  | _ => none }
def DispCountsWrongFalsely : Prop := dispCountsRow.holds Tryz.pinned (OpenSpec.ofChange dispCountsWrong)

/-- 'porismlaw11.DispLevels': WHATEVER THE INPUT: true; the input reads as it did. -/
def dispLevelsSpec : ChangeSpec := { name := "dispLevels", fn := fun _ => fun
  | [d1, d2, d3, d4] => { results := [.lit (.bool true)], args := [d1, d2, d3, d4] }
  | _ => none }
def dispLevelsRow : OpenClaim := { program := "ytjebpfhffenbnaagreat", sum := "80ae2606ac6cf988b625817766da45663c157c1392839f784e4ee6a6aedff111", func := "porism/porismlaw11.DispLevels", spec := "dispLevels", unfollowed := true, recurses := true, loops := true, apart := false }
def DispLevelsSaid : Prop := dispLevelsRow.holds Tryz.pinned (OpenSpec.ofChange dispLevelsSpec)

/-- ITS FALSE NEIGHBOUR: 'it returns false'. Refute it at one input. -/
def dispLevelsWrong : ChangeSpec := { name := "dispLevels", fn := fun _ => fun
  | [d1, d2, d3, d4] => { results := [.lit (.bool false)], args := [d1, d2, d3, d4] }
  | _ => none }
def DispLevelsWrongFalsely : Prop := dispLevelsRow.holds Tryz.pinned (OpenSpec.ofChange dispLevelsWrong)

/-- 'porismlaw11.DispPlain': WHATEVER THE INPUT: true; the input reads as it did. -/
def dispPlainSpec : ChangeSpec := { name := "dispPlain", fn := fun _ => fun
  | [d1, d2, d3] => { results := [.lit (.bool true)], args := [d1, d2, d3] }
  | _ => none }
def dispPlainRow : OpenClaim := { program := "ytjebpfhffenbnaagreat", sum := "80ae2606ac6cf988b625817766da45663c157c1392839f784e4ee6a6aedff111", func := "porism/porismlaw11.DispPlain", spec := "dispPlain", unfollowed := true, recurses := true, loops := true, apart := false }
def DispPlainSaid : Prop := dispPlainRow.holds Tryz.pinned (OpenSpec.ofChange dispPlainSpec)

/-- ITS FALSE NEIGHBOUR: 'it returns false'. Refute it at one input. -/
def dispPlainWrong : ChangeSpec := { name := "dispPlain", fn := fun _ => fun
  | [d1, d2, d3] => { results := [.lit (.bool false)], args := [d1, d2, d3] }
  | _ => none }
def DispPlainWrongFalsely : Prop := dispPlainRow.holds Tryz.pinned (OpenSpec.ofChange dispPlainWrong)

/- THE SECOND FORM. 'bulk': how many values and letters a reading holds, each counted each time it is reached (what is shared counts as often as it is met; a slice's spare places count too). A statement '..UptoSaid' is the law's where the arguments, and the package variables that the reading takes, are together of bulk at most 1048576: NARROWER than '..Said'. Prove '..Said' where nothing that the law and all that it calls make is longer than what came in: it says more and counts as full. Else prove '..UptoSaid'. A law counts once. -/
mutual
def uptoBulk {H : Type} : DataW H → Nat
  | .lit (.string bytes) => bytes.length + 1
  | .lit _ => 1
  | .nil => 1
  | .ptr d => uptoBulk d + 1
  | .slice elems spare => uptoBulkAll elems + uptoBulkAll spare + 1
  | .agg parts => uptoBulkAll parts + 1
  | .iface _ d => uptoBulk d + 1
  | .map entries => uptoBulkEntries entries + 1
  | .held _ => 1
def uptoBulkAll {H : Type} : List (DataW H) → Nat
  | [] => 0
  | d :: r => uptoBulk d + uptoBulkAll r
def uptoBulkEntries {H : Type} : List (Lit × DataW H) → Nat
  | [] => 0
  | x :: r => uptoBulkEntry x + uptoBulkEntries r
def uptoBulkEntry {H : Type} : Lit × DataW H → Nat
  | (.string bytes, d) => bytes.length + uptoBulk d + 1
  | (_, d) => uptoBulk d + 1
 end
def uptoSmall : (H : Type) → List (DataW H) → Bool := fun _ ds => decide (uptoBulkAll ds ≤ 1048576)
def OpenSpec.upto (s : _root_.Go.ChangeSpec) : _root_.Go.OpenSpec := { _root_.Go.OpenSpec.ofChange s with cond := some uptoSmall }

/-- 'porismlaw11.DispScopes', WHERE WHAT IT READS IS OF BULK AT MOST 1048576: true; the input reads as it did. -/
def dispScopesUptoRow : OpenClaim := { program := "ytjebpfhffenbnaagreat", sum := "80ae2606ac6cf988b625817766da45663c157c1392839f784e4ee6a6aedff111", func := "porism/porismlaw11.DispScopes", spec := "dispScopes", unfollowed := true, recurses := true, loops := true, apart := false, narrowed := true }
def DispScopesUptoSaid : Prop := dispScopesUptoRow.holds Tryz.pinned (OpenSpec.upto dispScopesSpec)

/-- 'porismlaw11.DispCounts', WHERE WHAT IT READS IS OF BULK AT MOST 1048576: true; the input reads as it did. -/
def dispCountsUptoRow : OpenClaim := { program := "ytjebpfhffenbnaagreat", sum := "80ae2606ac6cf988b625817766da45663c157c1392839f784e4ee6a6aedff111", func := "porism/porismlaw11.DispCounts", spec := "dispCounts", unfollowed := true, recurses := true, loops := true, apart := false, narrowed := true }
def DispCountsUptoSaid : Prop := dispCountsUptoRow.holds Tryz.pinned (OpenSpec.upto dispCountsSpec)

/-- 'porismlaw11.DispLevels', WHERE WHAT IT READS IS OF BULK AT MOST 1048576: true; the input reads as it did. -/
def dispLevelsUptoRow : OpenClaim := { program := "ytjebpfhffenbnaagreat", sum := "80ae2606ac6cf988b625817766da45663c157c1392839f784e4ee6a6aedff111", func := "porism/porismlaw11.DispLevels", spec := "dispLevels", unfollowed := true, recurses := true, loops := true, apart := false, narrowed := true }
def DispLevelsUptoSaid : Prop := dispLevelsUptoRow.holds Tryz.pinned (OpenSpec.upto dispLevelsSpec)

/-- 'porismlaw11.DispPlain', WHERE WHAT IT READS IS OF BULK AT MOST 1048576: true; the input reads as it did. -/
def dispPlainUptoRow : OpenClaim := { program := "ytjebpfhffenbnaagreat", sum := "80ae2606ac6cf988b625817766da45663c157c1392839f784e4ee6a6aedff111", func := "porism/porismlaw11.DispPlain", spec := "dispPlain", unfollowed := true, recurses := true, loops := true, apart := false, narrowed := true }
def DispPlainUptoSaid : Prop := dispPlainUptoRow.holds Tryz.pinned (OpenSpec.upto dispPlainSpec)

end Rows
end Go.Proofs.YtjebpfhffenbnaaGreat
