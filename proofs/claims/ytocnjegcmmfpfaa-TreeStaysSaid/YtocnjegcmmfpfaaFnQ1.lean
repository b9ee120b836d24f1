/-
  THE RUNS OF THE PROGRAM'S FUNCTIONS. Written by a program (emit.py).
-/
import Derived.Test.YtocnjegcmmfpfaaFnF
import Derived.Test.YtocnjegcmmfpfaaAbsDefer
import Derived.Test.YtocnjegcmmfpfaaProg
import Derived.KernelRfl
set_option maxRecDepth 100000
set_option linter.unusedVariables false
namespace Go.Ab.F
open Go Go.Ab Go.Proofs
theorem cmp_isNaN_uint64_eq (a0 : A) (objs : Heap) : evalFF Go.Proofs.Try.prog (fun g => (fun _ _ => none)) (fun _ _ _ => none) ⟨[], [], [], [], [], []⟩ Go.Proofs.Try.f52 [a0] objs = cmp_isNaN_uint64 [a0] objs := by kernel_rfl
theorem tree_node_way_eq (a0 a1 : A) (objs : Heap) : evalFF Go.Proofs.Try.prog (fun g => if g = 29 then slices_BinarySearch_Suint64_uint64 else (fun _ _ => none)) (fun _ _ _ => none) ⟨[], [((2, 3), [5], true)], [], [], [], []⟩ Go.Proofs.Try.f28 [a0, a1] objs = tree_node_way [a0, a1] objs := by kernel_rfl
theorem tree_node_split_eq (a0 : A) (objs : Heap) : evalFF Go.Proofs.Try.prog (fun g => if g = 37 then (primClone 1 8) else if g = 38 then (primClone 2 16) else if g = 53 then (primClone 1 8) else if g = 27 then tree_node_leaf else (fun _ _ => none)) (fun _ _ _ => none) ⟨[], [], [37, 44, 53, 60, 72, 80, 89, 97], [], [], [1000080, 1000097]⟩ Go.Proofs.Try.f42 [a0] objs = tree_node_split [a0] objs := by kernel_rfl
theorem tree_Tree_Put_eq (a0 a1 a2 : A) (objs : Heap) : evalFF Go.Proofs.Try.prog (fun g => if g = 31 then (tree_node_put big) else if g = 14 then tree_Tree_Get else (fun _ _ => none)) (fun _ _ _ => none) ⟨[], [((2, 4), [7], true), ((6, 7), [10], true)], [], [], [], []⟩ Go.Proofs.Try.f17 [a0, a1, a2] objs = tree_Tree_Put [a0, a1, a2] objs := by kernel_rfl
theorem tree_Tree_Nodes_eq (a0 : A) (objs : Heap) : evalFF Go.Proofs.Try.prog (fun g => if g = 30 then (tree_node_list big) else (fun _ _ => none)) (fun _ _ _ => none) ⟨[], [], [7], [7], [], []⟩ Go.Proofs.Try.f16 [a0] objs = tree_Tree_Nodes [a0] objs := by kernel_rfl
theorem tree_Tree_Del_eq (a0 a1 : A) (objs : Heap) : evalFF Go.Proofs.Try.prog (fun g => if g = 27 then tree_node_leaf else if g = 32 then (tree_node_del big) else if g = 14 then tree_Tree_Get else (fun _ _ => none)) (fun _ _ _ => none) ⟨[], [((5, 5), [33], true), ((5, 6), [7], true)], [], [], [], []⟩ Go.Proofs.Try.f18 [a0, a1] objs = tree_Tree_Del [a0, a1] objs := by kernel_rfl
theorem law08_TreeStays_eq (a0 a1 : A) (objs : Heap) : evalFF Go.Proofs.Try.prog (fun g => if g = 11 then ref08_Same else if g = 8 then law08_treeAlive else if g = 9 then law08_grown else if g = 12 then tree_Tree_Range else if g = 17 then tree_Tree_Put else if g = 16 then tree_Tree_Nodes else if g = 10 then tree_Tree_Len else if g = 14 then tree_Tree_Get else if g = 18 then tree_Tree_Del else (fun _ _ => none)) (fun _ _ _ => none) ⟨[(0, ⟨[38], [4], [], true⟩)], [((3, 3), [25], true), ((12, 20), [4], true), ((15, 15), [72], true), ((19, 19), [91], true), ((21, 21), [110], true)], [], [], [], []⟩ Go.Proofs.Try.f4 [a0, a1] objs = law08_TreeStays [a0, a1] objs := by kernel_rfl
theorem law08_TreeTurns_eq (a0 a1 a2 : A) (objs : Heap) : evalFF Go.Proofs.Try.prog (fun g => if g = 11 then ref08_Same else if g = 8 then law08_treeAlive else if g = 9 then law08_grown else if g = 12 then tree_Tree_Range else if g = 17 then tree_Tree_Put else if g = 18 then tree_Tree_Del else (fun _ _ => none)) (fun _ _ _ => none) ⟨[(0, ⟨[12], [6], [], true⟩)], [((3, 3), [24], true)], [], [], [], []⟩ Go.Proofs.Try.f5 [a0, a1, a2] objs = law08_TreeTurns [a0, a1, a2] objs := by kernel_rfl
end Go.Ab.F
