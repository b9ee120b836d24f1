/-
  No cell of these rows narrows 'for every input' (looked for: loops, veiled, ifaces, maps, wideKeys, modest, calm, conditions, laid).
  DERIVED. THE GIVEN ROWS OF THIS SEAT. 4 by the template 'for every input the law returns true; each argument reads behind the call as it read before'; 0 by the template 'total and deterministic' (their statements: YtijekkbagkpjdaaTotals.lean).
  GIVEN WITH THE SEED: the statements are not yours to turn. If you find one false, say at which input.
  Laid BY PROGRAM, IN A SANDBOX (cutbox-rows.mjs): the forced cells as the released guide's own fill.sh prints them over the translation bccfbc30a98c2cf1… (all of the seat's roots in one cut). By AI agents, Wed Nov 11 2026. No macro, syntax, notation, axiom, sorry.
-/
import Derived.Test.YtijekkbagkpjdaaChecked
import GoSem.Claim
import GoSem.ClaimJoined
import GoSem.ClaimMapViews
import Derived.JoinedTies
import Derived.KernelRfl
namespace Go.Proofs.Ytijekkbagkpjdaa
/- THE CELL 'sum', in the pinned program and in every row, IS THE sha256 OF THE DUMP (.gsa) THAT YtijekkbagkpjdaaProg.lean LOADS. Nothing in Lean hashes anything: it is a label: what it is worth is what the hold of that sum in a sandbox is worth. -/
noncomputable def Try.pinned : Pinned := { name := "ytijekkbagkpjdaa", sum := "bccfbc30a98c2cf1c6b03e97d6e8531503ca9df074f0f115abcdb658a8884c1d", checked := Try.checked }
namespace Rows
def none {H : Type} : Left H := { results := [], args := [] }

/-- 'baileylaw07.ExtentNames': WHATEVER THE INPUT: true; the input reads as it did. -/
def extentNamesSpec : ChangeSpec := { name := "extentNames", fn := fun _ => fun
  | [] => { results := [.lit (.bool true)], args := [] }
  | _ => none }
def extentNamesRow : OpenClaim := { program := "ytijekkbagkpjdaa", sum := "bccfbc30a98c2cf1c6b03e97d6e8531503ca9df074f0f115abcdb658a8884c1d", func := "bailey/baileylaw07.ExtentNames", spec := "extentNames", inPlace := ["slices.overlaps[bailey/api.Extent]"], unfollowed := true, recurses := true, apart := false }
def ExtentNamesSaid : Prop := extentNamesRow.holds Try.pinned (OpenSpec.ofChange extentNamesSpec)

/-- ITS FALSE NEIGHBOUR: 'it returns false'. Refute it at one input. -/
def extentNamesWrong : ChangeSpec := { name := "extentNames", fn := fun _ => fun
  | [] => { results := [.lit (.bool false)], args := [] }
  | _ => none }
def ExtentNamesWrongFalsely : Prop := extentNamesRow.holds Try.pinned (OpenSpec.ofChange extentNamesWrong)

/-- 'baileylaw07.ExtentRoom': WHATEVER THE INPUT: true; the input reads as it did. -/
def extentRoomSpec : ChangeSpec := { name := "extentRoom", fn := fun _ => fun
  | [d1, d2, d3] => { results := [.lit (.bool true)], args := [d1, d2, d3] }
  | _ => none }
def extentRoomRow : OpenClaim := { program := "ytijekkbagkpjdaa", sum := "bccfbc30a98c2cf1c6b03e97d6e8531503ca9df074f0f115abcdb658a8884c1d", func := "bailey/baileylaw07.ExtentRoom", spec := "extentRoom", inPlace := ["slices.overlaps[bailey/api.Extent]"], unfollowed := true, recurses := true, apart := false }
def ExtentRoomSaid : Prop := extentRoomRow.holds Try.pinned (OpenSpec.ofChange extentRoomSpec)

/-- ITS FALSE NEIGHBOUR: 'it returns false'. Refute it at one input. -/
def extentRoomWrong : ChangeSpec := { name := "extentRoom", fn := fun _ => fun
  | [d1, d2, d3] => { results := [.lit (.bool false)], args := [d1, d2, d3] }
  | _ => none }
def ExtentRoomWrongFalsely : Prop := extentRoomRow.holds Try.pinned (OpenSpec.ofChange extentRoomWrong)

/-- 'baileylaw08.TreeNames': WHATEVER THE INPUT: true; the input reads as it did. -/
def treeNamesSpec : ChangeSpec := { name := "treeNames", fn := fun _ => fun
  | [] => { results := [.lit (.bool true)], args := [] }
  | _ => none }
def treeNamesRow : OpenClaim := { program := "ytijekkbagkpjdaa", sum := "bccfbc30a98c2cf1c6b03e97d6e8531503ca9df074f0f115abcdb658a8884c1d", func := "bailey/baileylaw08.TreeNames", spec := "treeNames", inPlace := ["slices.overlaps[uint64]", "slices.overlaps[bailey/api.Extent]", "slices.overlaps[*bailey/tree.node]"], unfollowed := true, recurses := true, apart := false }
def TreeNamesSaid : Prop := treeNamesRow.holds Try.pinned (OpenSpec.ofChange treeNamesSpec)

/-- ITS FALSE NEIGHBOUR: 'it returns false'. Refute it at one input. -/
def treeNamesWrong : ChangeSpec := { name := "treeNames", fn := fun _ => fun
  | [] => { results := [.lit (.bool false)], args := [] }
  | _ => none }
def TreeNamesWrongFalsely : Prop := treeNamesRow.holds Try.pinned (OpenSpec.ofChange treeNamesWrong)

/-- 'baileylaw07.ExtentWaits': WHATEVER THE INPUT: true; the input reads as it did. -/
def extentWaitsSpec : ChangeSpec := { name := "extentWaits", fn := fun _ => fun
  | [d1, d2] => { results := [.lit (.bool true)], args := [d1, d2] }
  | _ => none }
def extentWaitsRow : OpenClaim := { program := "ytijekkbagkpjdaa", sum := "bccfbc30a98c2cf1c6b03e97d6e8531503ca9df074f0f115abcdb658a8884c1d", func := "bailey/baileylaw07.ExtentWaits", spec := "extentWaits", inPlace := ["slices.overlaps[bailey/api.Extent]"], unfollowed := true, recurses := true, apart := false }
def ExtentWaitsSaid : Prop := extentWaitsRow.holds Try.pinned (OpenSpec.ofChange extentWaitsSpec)

/-- ITS FALSE NEIGHBOUR: 'it returns false'. Refute it at one input. -/
def extentWaitsWrong : ChangeSpec := { name := "extentWaits", fn := fun _ => fun
  | [d1, d2] => { results := [.lit (.bool false)], args := [d1, d2] }
  | _ => none }
def ExtentWaitsWrongFalsely : Prop := extentWaitsRow.holds Try.pinned (OpenSpec.ofChange extentWaitsWrong)

/- THE SECOND FORM. 'bulk': how many values and letters a reading holds, each counted each time it is reached (what is shared counts as often as it is met; a slice's spare places count too). A statement '..UptoSaid' is the law's where the arguments, and the package variables that the reading takes, are together of bulk at most 1048576: NARROWER than '..Said'. Prove '..Said' where nothing that the law and all that it calls make is longer than what came in: it says more and counts as full. Else prove '..UptoSaid'. A law counts once. -/
mutual
def uptoBulk {H : Type} : DataW H → Nat
  | .lit (.string bytes) => bytes.length + 1
  | .lit _ => 1
  | .nil => 1
  | .ptr d => uptoBulk d + 1
  | .slice elems spare => uptoBulkAll elems + uptoBulkAll spare + 1
  | .agg parts => uptoBulkAll parts + 1
  | .iface _ d => uptoBulk d + 1
  | .map entries => uptoBulkEntries entries + 1
  | .held _ => 1
def uptoBulkAll {H : Type} : List (DataW H) → Nat
  | [] => 0
  | d :: r => uptoBulk d + uptoBulkAll r
def uptoBulkEntries {H : Type} : List (Lit × DataW H) → Nat
  | [] => 0
  | x :: r => uptoBulkEntry x + uptoBulkEntries r
def uptoBulkEntry {H : Type} : Lit × DataW H → Nat
  | (.string bytes, d) => bytes.length + uptoBulk d + 1
  | (_, d) => uptoBulk d + 1
 end
def uptoSmall : (H : Type) → List (DataW H) → Bool := fun _ ds => decide (uptoBulkAll ds ≤ 1048576)
def OpenSpec.upto (s : _root_.Go.ChangeSpec) : _root_.Go.OpenSpec := { _root_.Go.OpenSpec.ofChange s with cond := some uptoSmall }

/-- 'baileylaw07.ExtentNames', WHERE WHAT IT READS IS OF BULK AT MOST 1048576: true; the input reads as it did. -/
def extentNamesUptoRow : OpenClaim := { program := "ytijekkbagkpjdaa", sum := "bccfbc30a98c2cf1c6b03e97d6e8531503ca9df074f0f115abcdb658a8884c1d", func := "bailey/baileylaw07.ExtentNames", spec := "extentNames", inPlace := ["slices.overlaps[bailey/api.Extent]"], unfollowed := true, recurses := true, apart := false, narrowed := true }
def ExtentNamesUptoSaid : Prop := extentNamesUptoRow.holds Try.pinned (OpenSpec.upto extentNamesSpec)

/-- 'baileylaw07.ExtentRoom', WHERE WHAT IT READS IS OF BULK AT MOST 1048576: true; the input reads as it did. -/
def extentRoomUptoRow : OpenClaim := { program := "ytijekkbagkpjdaa", sum := "bccfbc30a98c2cf1c6b03e97d6e8531503ca9df074f0f115abcdb658a8884c1d", func := "bailey/baileylaw07.ExtentRoom", spec := "extentRoom", inPlace := ["slices.overlaps[bailey/api.Extent]"], unfollowed := true, recurses := true, apart := false, narrowed := true }
def ExtentRoomUptoSaid : Prop := extentRoomUptoRow.holds Try.pinned (OpenSpec.upto extentRoomSpec)

/-- 'baileylaw08.TreeNames', WHERE WHAT IT READS IS OF BULK AT MOST 1048576: true; the input reads as it did. -/
def treeNamesUptoRow : OpenClaim := { program := "ytijekkbagkpjdaa", sum := "bccfbc30a98c2cf1c6b03e97d6e8531503ca9df074f0f115abcdb658a8884c1d", func := "bailey/baileylaw08.TreeNames", spec := "treeNames", inPlace := ["slices.overlaps[uint64]", "slices.overlaps[bailey/api.Extent]", "slices.overlaps[*bailey/tree.node]"], unfollowed := true, recurses := true, apart := false, narrowed := true }
def TreeNamesUptoSaid : Prop := treeNamesUptoRow.holds Try.pinned (OpenSpec.upto treeNamesSpec)

/-- 'baileylaw07.ExtentWaits', WHERE WHAT IT READS IS OF BULK AT MOST 1048576: true; the input reads as it did. -/
def extentWaitsUptoRow : OpenClaim := { program := "ytijekkbagkpjdaa", sum := "bccfbc30a98c2cf1c6b03e97d6e8531503ca9df074f0f115abcdb658a8884c1d", func := "bailey/baileylaw07.ExtentWaits", spec := "extentWaits", inPlace := ["slices.overlaps[bailey/api.Extent]"], unfollowed := true, recurses := true, apart := false, narrowed := true }
def ExtentWaitsUptoSaid : Prop := extentWaitsUptoRow.holds Try.pinned (OpenSpec.upto extentWaitsSpec)

end Rows
end Go.Proofs.Ytijekkbagkpjdaa
