/-
  No cell of these rows narrows 'for every input' (looked for: loops, veiled, ifaces, maps, wideKeys, modest, calm, conditions, laid).
  DERIVED. THE GIVEN ROWS OF THIS SEAT. 8 by the template 'for every input the law returns true; each argument reads behind the call as it read before'; 0 by the template 'total and deterministic' (their statements: YtffjjeifgejplaaTotals.lean).
  GIVEN WITH THE SEED: the statements are not yours to turn. If you find one false, say at which input.
  Laid BY PROGRAM, IN A SANDBOX (cutbox-rows.mjs): the forced cells as the released guide's own fill.sh prints them over the translation df8edbe629e8ab73… (all of the seat's roots in one cut). By AI agents, Wed Nov 11 2026. No macro, syntax, notation, axiom, sorry.
-/
import Derived.Test.YtffjjeifgejplaaChecked
import GoSem.Claim
import GoSem.ClaimJoined
import GoSem.ClaimMapViews
import Derived.JoinedTies
import Derived.KernelRfl
namespace Go.Proofs.Ytffjjeifgejplaa
/- THE CELL 'sum', in the pinned program and in every row, IS THE sha256 OF THE DUMP (.gsa) THAT YtffjjeifgejplaaProg.lean LOADS. Nothing in Lean hashes anything: it is a label: what it is worth is what the hold of that sum in a sandbox is worth. -/
noncomputable def Try.pinned : Pinned := { name := "ytffjjeifgejplaa", sum := "df8edbe629e8ab734ce51da5e6b861d26245cf3c513d6e7da302f26671f7d6b7", checked := Try.checked }
namespace Rows
def none {H : Type} : Left H := { results := [], args := [] }

/-- 'baileylaw24.TwinTells': WHATEVER THE INPUT: true; the input reads as it did. -/
def twinTellsSpec : ChangeSpec := { name := "twinTells", fn := fun _ => fun
  | [d1, d2] => { results := [.lit (.bool true)], args := [d1, d2] }
  | _ => none }
def twinTellsRow : OpenClaim := { program := "ytffjjeifgejplaa", sum := "df8edbe629e8ab734ce51da5e6b861d26245cf3c513d6e7da302f26671f7d6b7", func := "bailey/baileylaw24.TwinTells", spec := "twinTells", unfollowed := true, recurses := true, apart := false }
def TwinTellsSaid : Prop := twinTellsRow.holds Try.pinned (OpenSpec.ofChange twinTellsSpec)

/-- ITS FALSE NEIGHBOUR: 'it returns false'. Refute it at one input. -/
def twinTellsWrong : ChangeSpec := { name := "twinTells", fn := fun _ => fun
  | [d1, d2] => { results := [.lit (.bool false)], args := [d1, d2] }
  | _ => none }
def TwinTellsWrongFalsely : Prop := twinTellsRow.holds Try.pinned (OpenSpec.ofChange twinTellsWrong)

/-- 'baileylaw24.TwinLess': WHATEVER THE INPUT: true; the input reads as it did. -/
def twinLessSpec : ChangeSpec := { name := "twinLess", fn := fun _ => fun
  | [d1, d2] => { results := [.lit (.bool true)], args := [d1, d2] }
  | _ => none }
def twinLessRow : OpenClaim := { program := "ytffjjeifgejplaa", sum := "df8edbe629e8ab734ce51da5e6b861d26245cf3c513d6e7da302f26671f7d6b7", func := "bailey/baileylaw24.TwinLess", spec := "twinLess", unfollowed := true, recurses := true, apart := false }
def TwinLessSaid : Prop := twinLessRow.holds Try.pinned (OpenSpec.ofChange twinLessSpec)

/-- ITS FALSE NEIGHBOUR: 'it returns false'. Refute it at one input. -/
def twinLessWrong : ChangeSpec := { name := "twinLess", fn := fun _ => fun
  | [d1, d2] => { results := [.lit (.bool false)], args := [d1, d2] }
  | _ => none }
def TwinLessWrongFalsely : Prop := twinLessRow.holds Try.pinned (OpenSpec.ofChange twinLessWrong)

/-- 'baileylaw12.DirNames': WHATEVER THE INPUT: true; the input reads as it did. -/
def dirNamesSpec : ChangeSpec := { name := "dirNames", fn := fun _ => fun
  | [] => { results := [.lit (.bool true)], args := [] }
  | _ => none }
def dirNamesRow : OpenClaim := { program := "ytffjjeifgejplaa", sum := "df8edbe629e8ab734ce51da5e6b861d26245cf3c513d6e7da302f26671f7d6b7", func := "bailey/baileylaw12.DirNames", spec := "dirNames", inPlace := ["slices.overlaps[bailey/api.Link]"], unfollowed := true, recurses := true, apart := false }
def DirNamesSaid : Prop := dirNamesRow.holds Try.pinned (OpenSpec.ofChange dirNamesSpec)

/-- ITS FALSE NEIGHBOUR: 'it returns false'. Refute it at one input. -/
def dirNamesWrong : ChangeSpec := { name := "dirNames", fn := fun _ => fun
  | [] => { results := [.lit (.bool false)], args := [] }
  | _ => none }
def DirNamesWrongFalsely : Prop := dirNamesRow.holds Try.pinned (OpenSpec.ofChange dirNamesWrong)

/-- 'baileylaw12.DirTells': WHATEVER THE INPUT: true; the input reads as it did. -/
def dirTellsSpec : ChangeSpec := { name := "dirTells", fn := fun _ => fun
  | [d1, d2] => { results := [.lit (.bool true)], args := [d1, d2] }
  | _ => none }
def dirTellsRow : OpenClaim := { program := "ytffjjeifgejplaa", sum := "df8edbe629e8ab734ce51da5e6b861d26245cf3c513d6e7da302f26671f7d6b7", func := "bailey/baileylaw12.DirTells", spec := "dirTells", inPlace := ["slices.overlaps[bailey/api.Link]"], unfollowed := true, recurses := true, apart := false }
def DirTellsSaid : Prop := dirTellsRow.holds Try.pinned (OpenSpec.ofChange dirTellsSpec)

/-- ITS FALSE NEIGHBOUR: 'it returns false'. Refute it at one input. -/
def dirTellsWrong : ChangeSpec := { name := "dirTells", fn := fun _ => fun
  | [d1, d2] => { results := [.lit (.bool false)], args := [d1, d2] }
  | _ => none }
def DirTellsWrongFalsely : Prop := dirTellsRow.holds Try.pinned (OpenSpec.ofChange dirTellsWrong)

/-- 'baileylaw12.DirApart': WHATEVER THE INPUT: true; the input reads as it did. -/
def dirApartSpec : ChangeSpec := { name := "dirApart", fn := fun _ => fun
  | [d1, d2] => { results := [.lit (.bool true)], args := [d1, d2] }
  | _ => none }
def dirApartRow : OpenClaim := { program := "ytffjjeifgejplaa", sum := "df8edbe629e8ab734ce51da5e6b861d26245cf3c513d6e7da302f26671f7d6b7", func := "bailey/baileylaw12.DirApart", spec := "dirApart", inPlace := ["slices.overlaps[bailey/api.Link]"], unfollowed := true, recurses := true, apart := false }
def DirApartSaid : Prop := dirApartRow.holds Try.pinned (OpenSpec.ofChange dirApartSpec)

/-- ITS FALSE NEIGHBOUR: 'it returns false'. Refute it at one input. -/
def dirApartWrong : ChangeSpec := { name := "dirApart", fn := fun _ => fun
  | [d1, d2] => { results := [.lit (.bool false)], args := [d1, d2] }
  | _ => none }
def DirApartWrongFalsely : Prop := dirApartRow.holds Try.pinned (OpenSpec.ofChange dirApartWrong)

/-- 'baileylaw12.DirChanges': WHATEVER THE INPUT: true; the input reads as it did. -/
def dirChangesSpec : ChangeSpec := { name := "dirChanges", fn := fun _ => fun
  | [d1, d2, d3] => { results := [.lit (.bool true)], args := [d1, d2, d3] }
  | _ => none }
def dirChangesRow : OpenClaim := { program := "ytffjjeifgejplaa", sum := "df8edbe629e8ab734ce51da5e6b861d26245cf3c513d6e7da302f26671f7d6b7", func := "bailey/baileylaw12.DirChanges", spec := "dirChanges", inPlace := ["slices.overlaps[bailey/api.Link]"], unfollowed := true, recurses := true, apart := false }
def DirChangesSaid : Prop := dirChangesRow.holds Try.pinned (OpenSpec.ofChange dirChangesSpec)

/-- ITS FALSE NEIGHBOUR: 'it returns false'. Refute it at one input. -/
def dirChangesWrong : ChangeSpec := { name := "dirChanges", fn := fun _ => fun
  | [d1, d2, d3] => { results := [.lit (.bool false)], args := [d1, d2, d3] }
  | _ => none }
def DirChangesWrongFalsely : Prop := dirChangesRow.holds Try.pinned (OpenSpec.ofChange dirChangesWrong)

/-- 'baileylaw12.DirHolds': WHATEVER THE INPUT: true; the input reads as it did. -/
def dirHoldsSpec : ChangeSpec := { name := "dirHolds", fn := fun _ => fun
  | [d1, d2, d3] => { results := [.lit (.bool true)], args := [d1, d2, d3] }
  | _ => none }
def dirHoldsRow : OpenClaim := { program := "ytffjjeifgejplaa", sum := "df8edbe629e8ab734ce51da5e6b861d26245cf3c513d6e7da302f26671f7d6b7", func := "bailey/baileylaw12.DirHolds", spec := "dirHolds", inPlace := ["slices.overlaps[bailey/api.Link]"], unfollowed := true, recurses := true, apart := false }
def DirHoldsSaid : Prop := dirHoldsRow.holds Try.pinned (OpenSpec.ofChange dirHoldsSpec)

/-- ITS FALSE NEIGHBOUR: 'it returns false'. Refute it at one input. -/
def dirHoldsWrong : ChangeSpec := { name := "dirHolds", fn := fun _ => fun
  | [d1, d2, d3] => { results := [.lit (.bool false)], args := [d1, d2, d3] }
  | _ => none }
def DirHoldsWrongFalsely : Prop := dirHoldsRow.holds Try.pinned (OpenSpec.ofChange dirHoldsWrong)

/-- 'baileylaw12.DirBack': WHATEVER THE INPUT: true; the input reads as it did. -/
def dirBackSpec : ChangeSpec := { name := "dirBack", fn := fun _ => fun
  | [d1, d2, d3] => { results := [.lit (.bool true)], args := [d1, d2, d3] }
  | _ => none }
def dirBackRow : OpenClaim := { program := "ytffjjeifgejplaa", sum := "df8edbe629e8ab734ce51da5e6b861d26245cf3c513d6e7da302f26671f7d6b7", func := "bailey/baileylaw12.DirBack", spec := "dirBack", inPlace := ["slices.overlaps[bailey/api.Link]"], unfollowed := true, recurses := true, apart := false }
def DirBackSaid : Prop := dirBackRow.holds Try.pinned (OpenSpec.ofChange dirBackSpec)

/-- ITS FALSE NEIGHBOUR: 'it returns false'. Refute it at one input. -/
def dirBackWrong : ChangeSpec := { name := "dirBack", fn := fun _ => fun
  | [d1, d2, d3] => { results := [.lit (.bool false)], args := [d1, d2, d3] }
  | _ => none }
def DirBackWrongFalsely : Prop := dirBackRow.holds Try.pinned (OpenSpec.ofChange dirBackWrong)

/- THE SECOND FORM. 'bulk': how many values and letters a reading holds, each counted each time it is reached (what is shared counts as often as it is met; a slice's spare places count too). A statement '..UptoSaid' is the law's where the arguments, and the package variables that the reading takes, are together of bulk at most 1048576: NARROWER than '..Said'. Prove '..Said' where nothing that the law and all that it calls make is longer than what came in: it says more and counts as full. Else prove '..UptoSaid'. A law counts once. -/
mutual
def uptoBulk {H : Type} : DataW H → Nat
  | .lit (.string bytes) => bytes.length + 1
  | .lit _ => 1
  | .nil => 1
  | .ptr d => uptoBulk d + 1
  | .slice elems spare => uptoBulkAll elems + uptoBulkAll spare + 1
  | .agg parts => uptoBulkAll parts + 1
  | .iface _ d => uptoBulk d + 1
  | .map entries => uptoBulkEntries entries + 1
  | .held _ => 1
def uptoBulkAll {H : Type} : List (DataW H) → Nat
  | [] => 0
  | d :: r => uptoBulk d + uptoBulkAll r
def uptoBulkEntries {H : Type} : List (Lit × DataW H) → Nat
  | [] => 0
  | x :: r => uptoBulkEntry x + uptoBulkEntries r
def uptoBulkEntry {H : Type} : Lit × DataW H → Nat
  | (.string bytes, d) => bytes.length + uptoBulk d + 1
  | (_, d) => uptoBulk d + 1
 end
def uptoSmall : (H : Type) → List (DataW H) → Bool := fun _ ds => decide (uptoBulkAll ds ≤ 1048576)
def OpenSpec.upto (s : _root_.Go.ChangeSpec) : _root_.Go.OpenSpec := { _root_.Go.OpenSpec.ofChange s with cond := some uptoSmall }

/-- 'baileylaw24.TwinTells', WHERE WHAT IT READS IS OF BULK AT MOST 1048576: true; the input reads as it did. -/
def twinTellsUptoRow : OpenClaim := { program := "ytffjjeifgejplaa", sum := "df8edbe629e8ab734ce51da5e6b861d26245cf3c513d6e7da302f26671f7d6b7", func := "bailey/baileylaw24.TwinTells", spec := "twinTells", unfollowed := true, recurses := true, apart := false, narrowed := true }
def TwinTellsUptoSaid : Prop := twinTellsUptoRow.holds Try.pinned (OpenSpec.upto twinTellsSpec)

/-- 'baileylaw24.TwinLess', WHERE WHAT IT READS IS OF BULK AT MOST 1048576: true; the input reads as it did. -/
def twinLessUptoRow : OpenClaim := { program := "ytffjjeifgejplaa", sum := "df8edbe629e8ab734ce51da5e6b861d26245cf3c513d6e7da302f26671f7d6b7", func := "bailey/baileylaw24.TwinLess", spec := "twinLess", unfollowed := true, recurses := true, apart := false, narrowed := true }
def TwinLessUptoSaid : Prop := twinLessUptoRow.holds Try.pinned (OpenSpec.upto twinLessSpec)

/-- 'baileylaw12.DirNames', WHERE WHAT IT READS IS OF BULK AT MOST 1048576: true; the input reads as it did. -/
def dirNamesUptoRow : OpenClaim := { program := "ytffjjeifgejplaa", sum := "df8edbe629e8ab734ce51da5e6b861d26245cf3c513d6e7da302f26671f7d6b7", func := "bailey/baileylaw12.DirNames", spec := "dirNames", inPlace := ["slices.overlaps[bailey/api.Link]"], unfollowed := true, recurses := true, apart := false, narrowed := true }
def DirNamesUptoSaid : Prop := dirNamesUptoRow.holds Try.pinned (OpenSpec.upto dirNamesSpec)

/-- 'baileylaw12.DirTells', WHERE WHAT IT READS IS OF BULK AT MOST 1048576: true; the input reads as it did. -/
def dirTellsUptoRow : OpenClaim := { program := "ytffjjeifgejplaa", sum := "df8edbe629e8ab734ce51da5e6b861d26245cf3c513d6e7da302f26671f7d6b7", func := "bailey/baileylaw12.DirTells", spec := "dirTells", inPlace := ["slices.overlaps[bailey/api.Link]"], unfollowed := true, recurses := true, apart := false, narrowed := true }
def DirTellsUptoSaid : Prop := dirTellsUptoRow.holds Try.pinned (OpenSpec.upto dirTellsSpec)

/-- 'baileylaw12.DirApart', WHERE WHAT IT READS IS OF BULK AT MOST 1048576: true; the input reads as it did. -/
def dirApartUptoRow : OpenClaim := { program := "ytffjjeifgejplaa", sum := "df8edbe629e8ab734ce51da5e6b861d26245cf3c513d6e7da302f26671f7d6b7", func := "bailey/baileylaw12.DirApart", spec := "dirApart", inPlace := ["slices.overlaps[bailey/api.Link]"], unfollowed := true, recurses := true, apart := false, narrowed := true }
def DirApartUptoSaid : Prop := dirApartUptoRow.holds Try.pinned (OpenSpec.upto dirApartSpec)

/-- 'baileylaw12.DirChanges', WHERE WHAT IT READS IS OF BULK AT MOST 1048576: true; the input reads as it did. -/
def dirChangesUptoRow : OpenClaim := { program := "ytffjjeifgejplaa", sum := "df8edbe629e8ab734ce51da5e6b861d26245cf3c513d6e7da302f26671f7d6b7", func := "bailey/baileylaw12.DirChanges", spec := "dirChanges", inPlace := ["slices.overlaps[bailey/api.Link]"], unfollowed := true, recurses := true, apart := false, narrowed := true }
def DirChangesUptoSaid : Prop := dirChangesUptoRow.holds Try.pinned (OpenSpec.upto dirChangesSpec)

/-- 'baileylaw12.DirHolds', WHERE WHAT IT READS IS OF BULK AT MOST 1048576: true; the input reads as it did. -/
def dirHoldsUptoRow : OpenClaim := { program := "ytffjjeifgejplaa", sum := "df8edbe629e8ab734ce51da5e6b861d26245cf3c513d6e7da302f26671f7d6b7", func := "bailey/baileylaw12.DirHolds", spec := "dirHolds", inPlace := ["slices.overlaps[bailey/api.Link]"], unfollowed := true, recurses := true, apart := false, narrowed := true }
def DirHoldsUptoSaid : Prop := dirHoldsUptoRow.holds Try.pinned (OpenSpec.upto dirHoldsSpec)

/-- 'baileylaw12.DirBack', WHERE WHAT IT READS IS OF BULK AT MOST 1048576: true; the input reads as it did. -/
def dirBackUptoRow : OpenClaim := { program := "ytffjjeifgejplaa", sum := "df8edbe629e8ab734ce51da5e6b861d26245cf3c513d6e7da302f26671f7d6b7", func := "bailey/baileylaw12.DirBack", spec := "dirBack", inPlace := ["slices.overlaps[bailey/api.Link]"], unfollowed := true, recurses := true, apart := false, narrowed := true }
def DirBackUptoSaid : Prop := dirBackUptoRow.holds Try.pinned (OpenSpec.upto dirBackSpec)

end Rows
end Go.Proofs.Ytffjjeifgejplaa
