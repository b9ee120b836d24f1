/-
  THE RUNS OF THE PROGRAM'S FUNCTIONS. Written by a program (emit.py).
-/
import Derived.Test.YtijekkbagkpjdaaFnF
import Derived.Test.YtijekkbagkpjdaaAbsFast
import Derived.Test.YtijekkbagkpjdaaProg
import Derived.KernelRfl
set_option maxRecDepth 100000
set_option linter.unusedVariables false
namespace Go.Ab.F
open Go Go.Ab Go.Proofs
theorem extent_cut_eq (a0 a1 : A) (objs : Heap) : evalFF Go.Proofs.Try.prog (fun g => if g = 32 then extent_end else (fun _ _ => none)) (fun _ _ _ => none) ⟨[(0, ⟨[5, 10], [5], [(5, 2)], true⟩)], [((4, 10), [5], true), ((5, 5), [25], true), ((7, 8), [5], true)], [], [], [(10, [(5, false)])], []⟩ Go.Proofs.Try.f23 [a0, a1] objs = extent_cut [a0, a1] objs := by kernel_rfl
theorem extent_Map_there_eq (a0 a1 : A) (objs : Heap) : evalFF Go.Proofs.Try.prog (fun g => (fun _ _ => none)) (fun _ _ _ => none) ⟨[], [], [], [], [], []⟩ Go.Proofs.Try.f26 [a0, a1] objs = extent_Map_there [a0, a1] objs := by kernel_rfl
theorem slices_IndexFunc_Sapi_Extent_api_Extent_eq (En : String → CallFn) (a0 a1 : A) (objs : Heap) : evalFF Go.Proofs.Try.prog (fun g => (fun _ _ => none)) En ⟨[(0, ⟨[8], [4], [], true⟩)], [], [], [], [], []⟩ Go.Proofs.Try.f46 [a0, a1] objs = slices_IndexFunc_Sapi_Extent_api_Extent En [a0, a1] objs := by kernel_rfl
theorem extent_Map_Free_eq (a0 a1 : A) (objs : Heap) : evalFF Go.Proofs.Try.prog (fun g => if g = 25 then extent_put else if g = 24 then extent_Map_taken else (fun _ _ => none)) (fun _ _ _ => none) ⟨[], [], [15], [15], [], []⟩ Go.Proofs.Try.f12 [a0, a1] objs = extent_Map_Free [a0, a1] objs := by kernel_rfl
theorem tree_Tree_Nodes_eq (a0 : A) (objs : Heap) : evalFF Go.Proofs.Try.prog (fun g => if g = 28 then (tree_node_list big) else (fun _ _ => none)) (fun _ _ _ => none) ⟨[], [], [7], [7], [], []⟩ Go.Proofs.Try.f16 [a0] objs = tree_Tree_Nodes [a0] objs := by kernel_rfl
theorem tree_node_leaf_eq (a0 : A) (objs : Heap) : evalFF Go.Proofs.Try.prog (fun g => (fun _ _ => none)) (fun _ _ _ => none) ⟨[], [], [], [], [], []⟩ Go.Proofs.Try.f47 [a0] objs = tree_node_leaf [a0] objs := by kernel_rfl
theorem tree_node_put_eq (self : CallFn) (a0 a1 a2 : A) (objs : Heap) : evalFF Go.Proofs.Try.prog (fun g => if g = 51 then (primInsert 1 8) else if g = 34 then (primInsert 2 16) else if g = 53 then (primInsert 1 8) else if g = 49 then slices_BinarySearch_Suint64_uint64 else if g = 48 then tree_node_way else if g = 52 then tree_node_split else if g = 40 then self else if g = 47 then tree_node_leaf else if g = 50 then tree_node_clone else (fun _ _ => none)) (fun _ _ _ => none) ⟨[], [((12, 13), [], true)], [17, 47, 55, 61, 100, 109, 115], [47, 55, 61, 100, 109, 115], [(7, [(9, true)]), (13, [(9, true)])], [1000047, 1000055, 1000100, 1000109]⟩ Go.Proofs.Try.f40 [a0, a1, a2] objs = tree_node_put_step self [a0, a1, a2] objs := by kernel_rfl
theorem tree_Tree_Put_eq (a0 a1 a2 : A) (objs : Heap) : evalFF Go.Proofs.Try.prog (fun g => if g = 40 then (tree_node_put big) else if g = 39 then tree_Tree_Get else (fun _ _ => none)) (fun _ _ _ => none) ⟨[], [((2, 4), [7], true), ((6, 7), [10], true)], [], [], [], []⟩ Go.Proofs.Try.f30 [a0, a1, a2] objs = tree_Tree_Put [a0, a1, a2] objs := by kernel_rfl
theorem law08_treeAlive_eq (objs : Heap) : evalFF Go.Proofs.Try.prog (fun g => if g = 15 then tree_New else if g = 31 then tree_Tree_Range else if g = 30 then tree_Tree_Put else if g = 16 then tree_Tree_Nodes else if g = 29 then tree_Tree_Len else (fun _ _ => none)) (fun _ _ _ => none) ⟨[], [((2, 2), [11], true)], [], [], [], []⟩ Go.Proofs.Try.f17 [] objs = law08_treeAlive [] objs := by kernel_rfl
end Go.Ab.F
