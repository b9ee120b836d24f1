/-
  THE RUNS OF THE PROGRAM'S FUNCTIONS. Written by a program (emit.py).
-/
import Derived.Test.YtocnjegcmmfpfaaFnF
import Derived.Test.YtocnjegcmmfpfaaAbsDefer
import Derived.Test.YtocnjegcmmfpfaaProg
import Derived.KernelRfl
set_option maxRecDepth 100000
set_option linter.unusedVariables false
namespace Go.Ab.F
open Go Go.Ab Go.Proofs
theorem tree_New_eq (objs : Heap) : evalFF Go.Proofs.Try.prog (fun g => (fun _ _ => none)) (fun _ _ _ => none) ⟨[], [], [], [], [], []⟩ Go.Proofs.Try.f24 [] objs = tree_New [] objs := by kernel_rfl
theorem slices_isNaN_uint64_eq (a0 : A) (objs : Heap) : evalFF Go.Proofs.Try.prog (fun g => (fun _ _ => none)) (fun _ _ _ => none) ⟨[], [], [], [], [], []⟩ Go.Proofs.Try.f36 [a0] objs = slices_isNaN_uint64 [a0] objs := by kernel_rfl
theorem tree_node_put_eq (self : CallFn) (a0 a1 a2 : A) (objs : Heap) : evalFF Go.Proofs.Try.prog (fun g => if g = 40 then (primInsert 1 8) else if g = 41 then (primInsert 2 16) else if g = 43 then (primInsert 1 8) else if g = 29 then slices_BinarySearch_Suint64_uint64 else if g = 28 then tree_node_way else if g = 42 then tree_node_split else if g = 31 then self else if g = 27 then tree_node_leaf else if g = 39 then tree_node_clone else (fun _ _ => none)) (fun _ _ _ => none) ⟨[], [((12, 13), [], true)], [17, 47, 55, 61, 100, 109, 115], [47, 55, 61, 100, 109, 115], [(7, [(9, true)]), (13, [(9, true)])], [1000047, 1000055, 1000100, 1000109]⟩ Go.Proofs.Try.f31 [a0, a1, a2] objs = tree_node_put_step self [a0, a1, a2] objs := by kernel_rfl
theorem tree_Tree_Range_c1_eq (a0 a1 a2 : A) (objs : Heap) : evalFF Go.Proofs.Try.prog (fun g => (fun _ _ => none)) (fun _ _ _ => none) ⟨[], [((1, 2), [], true)], [], [], [], []⟩ Go.Proofs.Try.f26 [a0, a1, a2] objs = tree_Tree_Range_c1 [a0, a1, a2] objs := by kernel_rfl
theorem tree_node_list_eq (self : CallFn) (a0 a1 : A) (objs : Heap) : evalFF Go.Proofs.Try.prog (fun g => if g = 37 then (primClone 1 8) else if g = 38 then (primClone 2 16) else if g = 30 then self else (fun _ _ => none)) (fun _ _ _ => none) ⟨[(0, ⟨[1, 29], [1], [], true⟩)], [], [15, 20, 48], [48], [(2, [(1, false)])], []⟩ Go.Proofs.Try.f30 [a0, a1] objs = tree_node_list_step self [a0, a1] objs := by kernel_rfl
theorem ref08_Put_eq (a0 a1 a2 : A) (objs : Heap) : evalFF Go.Proofs.Try.prog (fun g => (fun _ _ => none)) (fun _ _ _ => none) ⟨[(0, ⟨[7, 8, 14], [7, 8], [], true⟩)], [((5, 10), [7, 8], true), ((6, 6), [25], true), ((6, 8), [7, 8], true), ((12, 13), [7], true)], [], [], [], []⟩ Go.Proofs.Try.f22 [a0, a1, a2] objs = ref08_Put [a0, a1, a2] objs := by kernel_rfl
theorem slices_Concat_S_tree_node_tree_node_eq (a0 : A) (objs : Heap) : evalFF Go.Proofs.Try.prog (fun g => if g = 68 then (primGrow 1 8) else (fun _ _ => none)) (fun _ _ _ => none) ⟨[(0, ⟨[3, 11], [3], [], true⟩), (2, ⟨[6, 27], [6], [], true⟩)], [((4, 7), [3], true)], [24], [24], [], []⟩ Go.Proofs.Try.f61 [a0] objs = slices_Concat_S_tree_node_tree_node [a0] objs := by kernel_rfl
theorem ref08_Range_eq (a0 a1 a2 : A) (objs : Heap) : evalFF Go.Proofs.Try.prog (fun g => (fun _ _ => none)) (fun _ _ _ => none) ⟨[(0, ⟨[7, 13], [7], [], true⟩)], [((4, 6), [7], true), ((5, 5), [26], true)], [], [], [], []⟩ Go.Proofs.Try.f13 [a0, a1, a2] objs = ref08_Range [a0, a1, a2] objs := by kernel_rfl
theorem law08_TreeRuns_eq (a0 a1 a2 : A) (objs : Heap) : evalFF Go.Proofs.Try.prog (fun g => if g = 11 then ref08_Same else if g = 13 then ref08_Range else if g = 15 then ref08_Get else if g = 8 then law08_treeAlive else if g = 9 then law08_grown else if g = 12 then tree_Tree_Range else if g = 10 then tree_Tree_Len else if g = 14 then tree_Tree_Get else (fun _ _ => none)) (fun _ _ _ => none) ⟨[(0, ⟨[59], [6], [], true⟩)], [((6, 6), [56], true), ((13, 13), [84], true)], [], [], [], []⟩ Go.Proofs.Try.f3 [a0, a1, a2] objs = law08_TreeRuns [a0, a1, a2] objs := by kernel_rfl
end Go.Ab.F
