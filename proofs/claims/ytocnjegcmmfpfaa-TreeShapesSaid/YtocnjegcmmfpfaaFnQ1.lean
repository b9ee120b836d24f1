/-
 THE RUNS OF THE PROGRAM'S FUNCTIONS. Written by a program (emit.py).
-/
import Derived.Test.YtocnjegcmmfpfaaFnF
import Derived.Test.YtocnjegcmmfpfaaAbsDefer
import Derived.Test.YtocnjegcmmfpfaaProg
import Derived.KernelRfl
set_option maxRecDepth 100000
set_option linter.unusedVariables false
namespace Go.Ab.F
open Go Go.Ab Go.Proofs
theorem tree_Tree_Len_eq (a0 : A) (objs : Heap) : evalFF Go.Proofs.Try.prog (fun g => (fun _ _ => none)) (fun _ _ _ => none) ⟨[], [], [], [], [], []⟩ Go.Proofs.Try.f10 [a0] objs = tree_Tree_Len [a0] objs := by kernel_rfl
theorem tree_node_way_eq (a0 a1 : A) (objs : Heap) : evalFF Go.Proofs.Try.prog (fun g => if g = 29 then slices_BinarySearch_Suint64_uint64 else (fun _ _ => none)) (fun _ _ _ => none) ⟨[], [((2, 3), [5], true)], [], [], [], []⟩ Go.Proofs.Try.f28 [a0, a1] objs = tree_node_way [a0, a1] objs := by kernel_rfl
theorem tree_node_split_eq (a0 : A) (objs : Heap) : evalFF Go.Proofs.Try.prog (fun g => if g = 37 then (primClone 1 8) else if g = 38 then (primClone 2 16) else if g = 53 then (primClone 1 8) else if g = 27 then tree_node_leaf else (fun _ _ => none)) (fun _ _ _ => none) ⟨[], [], [37, 44, 53, 60, 72, 80, 89, 97], [], [], [1000080, 1000097]⟩ Go.Proofs.Try.f42 [a0] objs = tree_node_split [a0] objs := by kernel_rfl
theorem tree_Tree_Put_eq (a0 a1 a2 : A) (objs : Heap) : evalFF Go.Proofs.Try.prog (fun g => if g = 31 then (tree_node_put big) else if g = 14 then tree_Tree_Get else (fun _ _ => none)) (fun _ _ _ => none) ⟨[], [((2, 4), [7], true), ((6, 7), [10], true)], [], [], [], []⟩ Go.Proofs.Try.f17 [a0, a1, a2] objs = tree_Tree_Put [a0, a1, a2] objs := by kernel_rfl
theorem tree_Tree_Range_c1_eq (a0 a1 a2 : A) (objs : Heap) : evalFF Go.Proofs.Try.prog (fun g => (fun _ _ => none)) (fun _ _ _ => none) ⟨[], [((1, 2), [], true)], [], [], [], []⟩ Go.Proofs.Try.f26 [a0, a1, a2] objs = tree_Tree_Range_c1 [a0, a1, a2] objs := by kernel_rfl
theorem tree_Tree_Del_eq (a0 a1 : A) (objs : Heap) : evalFF Go.Proofs.Try.prog (fun g => if g = 27 then tree_node_leaf else if g = 32 then (tree_node_del big) else if g = 14 then tree_Tree_Get else (fun _ _ => none)) (fun _ _ _ => none) ⟨[], [((5, 5), [33], true), ((5, 6), [7], true)], [], [], [], []⟩ Go.Proofs.Try.f18 [a0, a1] objs = tree_Tree_Del [a0, a1] objs := by kernel_rfl
theorem tree_bounds_outside_eq (a0 a1 : A) (objs : Heap) : evalFF Go.Proofs.Try.prog (fun g => (fun _ _ => none)) (fun _ _ _ => none) ⟨[], [], [], [], [], []⟩ Go.Proofs.Try.f51 [a0, a1] objs = tree_bounds_outside [a0, a1] objs := by kernel_rfl
theorem tree_reader_node_eq (self : CallFn) (a0 a1 a2 a3 : A) (objs : Heap) : evalFF Go.Proofs.Try.prog (fun g => if g = 50 then (slices_ContainsFunc_Suint64_uint64 (En_tree_reader_node)) else if g = 37 then (primClone 1 8) else if g = 38 then (primClone 2 16) else if g = 51 then tree_bounds_outside else if g = 34 then self else if g = 49 then tree_reader_fits else (fun _ _ => none)) (En_tree_reader_node) ⟨[(0, ⟨[132], [], [], true⟩)], [((1, 1), [48], true), ((7, 7), [], true), ((9, 10), [], true), ((11, 11), [], true), ((18, 19), [], true), ((20, 21), [], true)], [70, 73], [170], [(22, [(0, false), (10, true)])], [1000170]⟩ Go.Proofs.Try.f34 [a0, a1, a2, a3] objs = tree_reader_node_step self [a0, a1, a2, a3] objs := by kernel_rfl
theorem tree_Of_eq (a0 : A) (objs : Heap) : evalFF Go.Proofs.Try.prog (fun g => if g = 34 then (tree_reader_node big) else (fun _ _ => none)) (fun _ _ _ => none) ⟨[], [((3, 3), [24], true)], [], [11], [], []⟩ Go.Proofs.Try.f20 [a0] objs = tree_Of [a0] objs := by kernel_rfl
theorem law08_TreeShapes_eq (a0 : A) (objs : Heap) : evalFF Go.Proofs.Try.prog (fun g => if g = 20 then tree_Of else if g = 11 then ref08_Same else if g = 19 then ref08_Read else if g = 8 then law08_treeAlive else if g = 9 then law08_grown else if g = 12 then tree_Tree_Range else if g = 16 then tree_Tree_Nodes else if g = 10 then tree_Tree_Len else (fun _ _ => none)) (fun _ _ _ => none) ⟨[], [((9, 9), [34], true)], [], [], [], []⟩ Go.Proofs.Try.f6 [a0] objs = law08_TreeShapes [a0] objs := by kernel_rfl
end Go.Ab.F
