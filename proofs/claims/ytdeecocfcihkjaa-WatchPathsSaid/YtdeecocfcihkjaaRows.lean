/-
  No cell of these rows narrows 'for every input' (looked for: loops, veiled, ifaces, maps, wideKeys, modest, calm, conditions, laid).
  DERIVED. THE GIVEN ROWS OF THIS SEAT. 4 by the template 'for every input the law returns true; each argument reads behind the call as it read before'; 0 by the template 'total and deterministic' (their statements: YtdeecocfcihkjaaTotals.lean).
  GIVEN WITH THE SEED: the statements are not yours to turn. If you find one false, say at which input.
  Laid BY PROGRAM, IN A SANDBOX (cutbox-rows.mjs): the forced cells as the released guide's own fill.sh prints them over the translation 12fea916c1ec2c62… (all of the seat's roots in one cut). By AI agents, Wed Nov 11 2026. No macro, syntax, notation, axiom, sorry.
-/
import Derived.Test.YtdeecocfcihkjaaChecked
import GoSem.Claim
import GoSem.ClaimJoined
import GoSem.ClaimMapViews
import Derived.JoinedTies
import Derived.KernelRfl
namespace Go.Proofs.Ytdeecocfcihkjaa
/- THE CELL 'sum', in the pinned program and in every row, IS THE sha256 OF THE DUMP (.gsa) THAT YtdeecocfcihkjaaProg.lean LOADS. Nothing in Lean hashes anything: it is a label: what it is worth is what the hold of that sum in a sandbox is worth. -/
noncomputable def Try.pinned : Pinned := { name := "ytdeecocfcihkjaa", sum := "12fea916c1ec2c625198c0d9df58128f254eb785c9cbb4ee0d31b72d469cd4a6", checked := Try.checked }
namespace Rows
def none {H : Type} : Left H := { results := [], args := [] }

/-- 'baileylaw23.WatchUnits': WHATEVER THE INPUT: true; the input reads as it did. -/
def watchUnitsSpec : ChangeSpec := { name := "watchUnits", fn := fun _ => fun
  | [d] => { results := [.lit (.bool true)], args := [d] }
  | _ => none }
def watchUnitsRow : OpenClaim := { program := "ytdeecocfcihkjaa", sum := "12fea916c1ec2c625198c0d9df58128f254eb785c9cbb4ee0d31b72d469cd4a6", func := "bailey/baileylaw23.WatchUnits", spec := "watchUnits", unfollowed := true, recurses := true, apart := false }
def WatchUnitsSaid : Prop := watchUnitsRow.holds Try.pinned (OpenSpec.ofChange watchUnitsSpec)

/-- ITS FALSE NEIGHBOUR: 'it returns false'. Refute it at one input. -/
def watchUnitsWrong : ChangeSpec := { name := "watchUnits", fn := fun _ => fun
  | [d] => { results := [.lit (.bool false)], args := [d] }
  | _ => none }
def WatchUnitsWrongFalsely : Prop := watchUnitsRow.holds Try.pinned (OpenSpec.ofChange watchUnitsWrong)

/-- 'baileylaw23.WatchPaths': WHATEVER THE INPUT: true; the input reads as it did. -/
def watchPathsSpec : ChangeSpec := { name := "watchPaths", fn := fun _ => fun
  | [d1, d2] => { results := [.lit (.bool true)], args := [d1, d2] }
  | _ => none }
def watchPathsRow : OpenClaim := { program := "ytdeecocfcihkjaa", sum := "12fea916c1ec2c625198c0d9df58128f254eb785c9cbb4ee0d31b72d469cd4a6", func := "bailey/baileylaw23.WatchPaths", spec := "watchPaths", unfollowed := true, recurses := true, apart := false }
def WatchPathsSaid : Prop := watchPathsRow.holds Try.pinned (OpenSpec.ofChange watchPathsSpec)

/-- ITS FALSE NEIGHBOUR: 'it returns false'. Refute it at one input. -/
def watchPathsWrong : ChangeSpec := { name := "watchPaths", fn := fun _ => fun
  | [d1, d2] => { results := [.lit (.bool false)], args := [d1, d2] }
  | _ => none }
def WatchPathsWrongFalsely : Prop := watchPathsRow.holds Try.pinned (OpenSpec.ofChange watchPathsWrong)

/-- 'baileylaw23.WatchReach': WHATEVER THE INPUT: true; the input reads as it did. -/
def watchReachSpec : ChangeSpec := { name := "watchReach", fn := fun _ => fun
  | [d1, d2] => { results := [.lit (.bool true)], args := [d1, d2] }
  | _ => none }
def watchReachRow : OpenClaim := { program := "ytdeecocfcihkjaa", sum := "12fea916c1ec2c625198c0d9df58128f254eb785c9cbb4ee0d31b72d469cd4a6", func := "bailey/baileylaw23.WatchReach", spec := "watchReach", unfollowed := true, recurses := true, apart := false }
def WatchReachSaid : Prop := watchReachRow.holds Try.pinned (OpenSpec.ofChange watchReachSpec)

/-- ITS FALSE NEIGHBOUR: 'it returns false'. Refute it at one input. -/
def watchReachWrong : ChangeSpec := { name := "watchReach", fn := fun _ => fun
  | [d1, d2] => { results := [.lit (.bool false)], args := [d1, d2] }
  | _ => none }
def WatchReachWrongFalsely : Prop := watchReachRow.holds Try.pinned (OpenSpec.ofChange watchReachWrong)

/-- 'baileylaw13.GraphPuts': WHATEVER THE INPUT: true; the input reads as it did. -/
def graphPutsSpec : ChangeSpec := { name := "graphPuts", fn := fun _ => fun
  | [d1, d2, d3] => { results := [.lit (.bool true)], args := [d1, d2, d3] }
  | _ => none }
def graphPutsRow : OpenClaim := { program := "ytdeecocfcihkjaa", sum := "12fea916c1ec2c625198c0d9df58128f254eb785c9cbb4ee0d31b72d469cd4a6", func := "bailey/baileylaw13.GraphPuts", spec := "graphPuts", inPlace := ["slices.overlaps[bailey/api.Thing]", "math.Float64frombits"], unfollowed := true, recurses := true, apart := false }
def GraphPutsSaid : Prop := graphPutsRow.holds Try.pinned (OpenSpec.ofChange graphPutsSpec)

/-- ITS FALSE NEIGHBOUR: 'it returns false'. Refute it at one input. -/
def graphPutsWrong : ChangeSpec := { name := "graphPuts", fn := fun _ => fun
  | [d1, d2, d3] => { results := [.lit (.bool false)], args := [d1, d2, d3] }
  | _ => none }
def GraphPutsWrongFalsely : Prop := graphPutsRow.holds Try.pinned (OpenSpec.ofChange graphPutsWrong)

/- THE SECOND FORM. 'bulk': how many values and letters a reading holds, each counted each time it is reached (what is shared counts as often as it is met; a slice's spare places count too). A statement '..UptoSaid' is the law's where the arguments, and the package variables that the reading takes, are together of bulk at most 1048576: NARROWER than '..Said'. Prove '..Said' where nothing that the law and all that it calls make is longer than what came in: it says more and counts as full. Else prove '..UptoSaid'. A law counts once. -/
mutual
def uptoBulk {H : Type} : DataW H → Nat
  | .lit (.string bytes) => bytes.length + 1
  | .lit _ => 1
  | .nil => 1
  | .ptr d => uptoBulk d + 1
  | .slice elems spare => uptoBulkAll elems + uptoBulkAll spare + 1
  | .agg parts => uptoBulkAll parts + 1
  | .iface _ d => uptoBulk d + 1
  | .map entries => uptoBulkEntries entries + 1
  | .held _ => 1
def uptoBulkAll {H : Type} : List (DataW H) → Nat
  | [] => 0
  | d :: r => uptoBulk d + uptoBulkAll r
def uptoBulkEntries {H : Type} : List (Lit × DataW H) → Nat
  | [] => 0
  | x :: r => uptoBulkEntry x + uptoBulkEntries r
def uptoBulkEntry {H : Type} : Lit × DataW H → Nat
  | (.string bytes, d) => bytes.length + uptoBulk d + 1
  | (_, d) => uptoBulk d + 1
 end
def uptoSmall : (H : Type) → List (DataW H) → Bool := fun _ ds => decide (uptoBulkAll ds ≤ 1048576)
def OpenSpec.upto (s : _root_.Go.ChangeSpec) : _root_.Go.OpenSpec := { _root_.Go.OpenSpec.ofChange s with cond := some uptoSmall }

/-- 'baileylaw23.WatchUnits', WHERE WHAT IT READS IS OF BULK AT MOST 1048576: true; the input reads as it did. -/
def watchUnitsUptoRow : OpenClaim := { program := "ytdeecocfcihkjaa", sum := "12fea916c1ec2c625198c0d9df58128f254eb785c9cbb4ee0d31b72d469cd4a6", func := "bailey/baileylaw23.WatchUnits", spec := "watchUnits", unfollowed := true, recurses := true, apart := false, narrowed := true }
def WatchUnitsUptoSaid : Prop := watchUnitsUptoRow.holds Try.pinned (OpenSpec.upto watchUnitsSpec)

/-- 'baileylaw23.WatchPaths', WHERE WHAT IT READS IS OF BULK AT MOST 1048576: true; the input reads as it did. -/
def watchPathsUptoRow : OpenClaim := { program := "ytdeecocfcihkjaa", sum := "12fea916c1ec2c625198c0d9df58128f254eb785c9cbb4ee0d31b72d469cd4a6", func := "bailey/baileylaw23.WatchPaths", spec := "watchPaths", unfollowed := true, recurses := true, apart := false, narrowed := true }
def WatchPathsUptoSaid : Prop := watchPathsUptoRow.holds Try.pinned (OpenSpec.upto watchPathsSpec)

/-- 'baileylaw23.WatchReach', WHERE WHAT IT READS IS OF BULK AT MOST 1048576: true; the input reads as it did. -/
def watchReachUptoRow : OpenClaim := { program := "ytdeecocfcihkjaa", sum := "12fea916c1ec2c625198c0d9df58128f254eb785c9cbb4ee0d31b72d469cd4a6", func := "bailey/baileylaw23.WatchReach", spec := "watchReach", unfollowed := true, recurses := true, apart := false, narrowed := true }
def WatchReachUptoSaid : Prop := watchReachUptoRow.holds Try.pinned (OpenSpec.upto watchReachSpec)

/-- 'baileylaw13.GraphPuts', WHERE WHAT IT READS IS OF BULK AT MOST 1048576: true; the input reads as it did. -/
def graphPutsUptoRow : OpenClaim := { program := "ytdeecocfcihkjaa", sum := "12fea916c1ec2c625198c0d9df58128f254eb785c9cbb4ee0d31b72d469cd4a6", func := "bailey/baileylaw13.GraphPuts", spec := "graphPuts", inPlace := ["slices.overlaps[bailey/api.Thing]", "math.Float64frombits"], unfollowed := true, recurses := true, apart := false, narrowed := true }
def GraphPutsUptoSaid : Prop := graphPutsUptoRow.holds Try.pinned (OpenSpec.upto graphPutsSpec)

end Rows
end Go.Proofs.Ytdeecocfcihkjaa
