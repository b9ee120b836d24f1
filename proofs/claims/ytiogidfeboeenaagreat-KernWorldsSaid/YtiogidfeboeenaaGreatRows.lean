/-
  No cell of these rows narrows 'for every input' (looked for: loops, veiled, ifaces, maps, wideKeys, modest, calm, conditions, laid).
  DERIVED. THE GIVEN ROWS OF THIS SEAT. 2 by the template 'for every input the law returns true; each argument reads behind the call as it read before'; 0 by the template 'total and deterministic' (their statements: YtiogidfeboeenaaGreatTotals.lean).
  GIVEN WITH THE SEED: the statements are not yours to turn. If you find one false, say at which input.
  Laid BY PROGRAM, IN A SANDBOX (cutbox-rows.mjs): the forced cells as the released guide's own fill.sh prints them over the translation 54a3ba02f7f77ecc… (all of the seat's roots in one cut). By AI agents, Wed Nov 11 2026. No macro, syntax, notation, axiom, sorry.
-/
import Derived.Test.YtiogidfeboeenaaGreatChecked
import GoSem.Claim
import GoSem.ClaimJoined
import GoSem.ClaimMapViews
import Derived.JoinedTies
import Derived.KernelRfl
namespace Go.Proofs.YtiogidfeboeenaaGreat
/- THE CELL 'sum', in the pinned program and in every row, IS THE sha256 OF THE DUMP (.gsa) THAT YtiogidfeboeenaaGreatProg.lean LOADS. Nothing in Lean hashes anything: it is a label: what it is worth is what the hold of that sum in a sandbox is worth. -/
noncomputable def Tryz.pinned : Pinned := { name := "ytiogidfeboeenaagreat", sum := "54a3ba02f7f77eccfa42f8b4678e650de59b7fe1e60c1676eb2d4d50dcdf92f4", checked := Tryz.checked }
namespace Rows
def none {H : Type} : Left H := { results := [], args := [] }

/-- 'baileylaw20.KernNames': WHATEVER THE INPUT: true; the input reads as it did. -/
def kernNamesSpec : ChangeSpec := { name := "kernNames", fn := fun _ => fun
  | [] => { results := [.lit (.bool true)], args := [] }
  | _ => none }
def kernNamesRow : OpenClaim := { program := "ytiogidfeboeenaagreat", sum := "54a3ba02f7f77eccfa42f8b4678e650de59b7fe1e60c1676eb2d4d50dcdf92f4", func := "bailey/baileylaw20.KernNames", spec := "kernNames", inPlace := ["math.Float64frombits", "slices.overlaps[bailey/api.Link]", "slices.overlaps[bailey/api.Thing]", "math.Float64bits"], unfollowed := true, recurses := true, apart := false }
def KernNamesSaid : Prop := kernNamesRow.holds Tryz.pinned (OpenSpec.ofChange kernNamesSpec)

/-- ITS FALSE NEIGHBOUR: 'it returns false'. Refute it at one input. -/
def kernNamesWrong : ChangeSpec := { name := "kernNames", fn := fun _ => fun
  | [] => { results := [.lit (.bool false)], args := [] }
  | _ => none }
def KernNamesWrongFalsely : Prop := kernNamesRow.holds Tryz.pinned (OpenSpec.ofChange kernNamesWrong)

/-- 'baileylaw20.KernWorlds': WHATEVER THE INPUT: true; the input reads as it did. -/
def kernWorldsSpec : ChangeSpec := { name := "kernWorlds", fn := fun _ => fun
  | [d] => { results := [.lit (.bool true)], args := [d] }
  | _ => none }
def kernWorldsRow : OpenClaim := { program := "ytiogidfeboeenaagreat", sum := "54a3ba02f7f77eccfa42f8b4678e650de59b7fe1e60c1676eb2d4d50dcdf92f4", func := "bailey/baileylaw20.KernWorlds", spec := "kernWorlds", inPlace := ["math.Float64frombits", "slices.overlaps[bailey/api.Link]", "slices.overlaps[bailey/api.Thing]", "math.Float64bits"], unfollowed := true, recurses := true, apart := false }
def KernWorldsSaid : Prop := kernWorldsRow.holds Tryz.pinned (OpenSpec.ofChange kernWorldsSpec)

/-- ITS FALSE NEIGHBOUR: 'it returns false'. Refute it at one input. -/
def kernWorldsWrong : ChangeSpec := { name := "kernWorlds", fn := fun _ => fun
  | [d] => { results := [.lit (.bool false)], args := [d] }
  | _ => none }
def KernWorldsWrongFalsely : Prop := kernWorldsRow.holds Tryz.pinned (OpenSpec.ofChange kernWorldsWrong)

/- THE SECOND FORM. 'bulk': how many values and letters a reading holds, each counted each time it is reached (what is shared counts as often as it is met; a slice's spare places count too). A statement '..UptoSaid' is the law's where the arguments, and the package variables that the reading takes, are together of bulk at most 1048576: NARROWER than '..Said'. Prove '..Said' where nothing that the law and all that it calls make is longer than what came in: it says more and counts as full. Else prove '..UptoSaid'. A law counts once. -/
mutual
def uptoBulk {H : Type} : DataW H → Nat
  | .lit (.string bytes) => bytes.length + 1
  | .lit _ => 1
  | .nil => 1
  | .ptr d => uptoBulk d + 1
  | .slice elems spare => uptoBulkAll elems + uptoBulkAll spare + 1
  | .agg parts => uptoBulkAll parts + 1
  | .iface _ d => uptoBulk d + 1
  | .map entries => uptoBulkEntries entries + 1
  | .held _ => 1
def uptoBulkAll {H : Type} : List (DataW H) → Nat
  | [] => 0
  | d :: r => uptoBulk d + uptoBulkAll r
def uptoBulkEntries {H : Type} : List (Lit × DataW H) → Nat
  | [] => 0
  | x :: r => uptoBulkEntry x + uptoBulkEntries r
def uptoBulkEntry {H : Type} : Lit × DataW H → Nat
  | (.string bytes, d) => bytes.length + uptoBulk d + 1
  | (_, d) => uptoBulk d + 1
 end
def uptoSmall : (H : Type) → List (DataW H) → Bool := fun _ ds => decide (uptoBulkAll ds ≤ 1048576)
def OpenSpec.upto (s : _root_.Go.ChangeSpec) : _root_.Go.OpenSpec := { _root_.Go.OpenSpec.ofChange s with cond := some uptoSmall }

/-- 'baileylaw20.KernNames', WHERE WHAT IT READS IS OF BULK AT MOST 1048576: true; the input reads as it did. -/
def kernNamesUptoRow : OpenClaim := { program := "ytiogidfeboeenaagreat", sum := "54a3ba02f7f77eccfa42f8b4678e650de59b7fe1e60c1676eb2d4d50dcdf92f4", func := "bailey/baileylaw20.KernNames", spec := "kernNames", inPlace := ["math.Float64frombits", "slices.overlaps[bailey/api.Link]", "slices.overlaps[bailey/api.Thing]", "math.Float64bits"], unfollowed := true, recurses := true, apart := false, narrowed := true }
def KernNamesUptoSaid : Prop := kernNamesUptoRow.holds Tryz.pinned (OpenSpec.upto kernNamesSpec)

/-- 'baileylaw20.KernWorlds', WHERE WHAT IT READS IS OF BULK AT MOST 1048576: true; the input reads as it did. -/
def kernWorldsUptoRow : OpenClaim := { program := "ytiogidfeboeenaagreat", sum := "54a3ba02f7f77eccfa42f8b4678e650de59b7fe1e60c1676eb2d4d50dcdf92f4", func := "bailey/baileylaw20.KernWorlds", spec := "kernWorlds", inPlace := ["math.Float64frombits", "slices.overlaps[bailey/api.Link]", "slices.overlaps[bailey/api.Thing]", "math.Float64bits"], unfollowed := true, recurses := true, apart := false, narrowed := true }
def KernWorldsUptoSaid : Prop := kernWorldsUptoRow.holds Tryz.pinned (OpenSpec.upto kernWorldsSpec)

end Rows
end Go.Proofs.YtiogidfeboeenaaGreat
