/-
  THE RUNS OF THE PROGRAM'S FUNCTIONS. Written by a program (emit.py).
-/
import Derived.Test.YtijekkbagkpjdaaFnF
import Derived.Test.YtijekkbagkpjdaaAbsFast
import Derived.Test.YtijekkbagkpjdaaProg
import Derived.KernelRfl
set_option maxRecDepth 100000
set_option linter.unusedVariables false
namespace Go.Ab.F
open Go Go.Ab Go.Proofs
theorem extent_Map_Alloc_eq (a0 a1 : A) (objs : Heap) : evalFF Go.Proofs.Try.prog (fun g => if g = 23 then extent_cut else (fun _ _ => none)) (fun _ _ _ => none) ⟨[(1, ⟨[32], [], [], true⟩)], [((8, 11), [], true)], [58], [], [], []⟩ Go.Proofs.Try.f11 [a0, a1] objs = extent_Map_Alloc [a0, a1] objs := by kernel_rfl
theorem extent_meets_c1_eq (a0 a1 : A) (objs : Heap) : evalFF Go.Proofs.Try.prog (fun g => if g = 32 then extent_end else (fun _ _ => none)) (fun _ _ _ => none) ⟨[], [], [], [], [], []⟩ Go.Proofs.Try.f43 [a0, a1] objs = extent_meets_c1 [a0, a1] objs := by kernel_rfl
theorem extent_put_eq (a0 a1 : A) (objs : Heap) : evalFF Go.Proofs.Try.prog (fun g => if g = 34 then (primInsert 2 16) else if g = 35 then (primDelete 2 16) else if g = 32 then extent_end else (fun _ _ => none)) (fun _ _ _ => none) ⟨[(0, ⟨[5], [5], [(0, 2)], true⟩)], [((2, 2), [19], true), ((5, 5), [45], true), ((5, 7), [0], true), ((8, 8), [81], true), ((8, 10), [0], true)], [26, 65, 100], [26, 65, 100], [], []⟩ Go.Proofs.Try.f25 [a0, a1] objs = extent_put [a0, a1] objs := by kernel_rfl
theorem law07_extentAlive_eq (objs : Heap) : evalFF Go.Proofs.Try.prog (fun g => if g = 8 then extent_New else if g = 12 then extent_Map_Free else if g = 9 then extent_Map_Count else if g = 11 then extent_Map_Alloc else (fun _ _ => none)) (fun _ _ _ => none) ⟨[], [], [6], [11, 15, 18, 21], [], []⟩ Go.Proofs.Try.f7 [] objs = law07_extentAlive [] objs := by kernel_rfl
theorem tree_Tree_Len_eq (a0 : A) (objs : Heap) : evalFF Go.Proofs.Try.prog (fun g => (fun _ _ => none)) (fun _ _ _ => none) ⟨[], [], [], [], [], []⟩ Go.Proofs.Try.f29 [a0] objs = tree_Tree_Len [a0] objs := by kernel_rfl
theorem slices_isNaN_uint64_eq (a0 : A) (objs : Heap) : evalFF Go.Proofs.Try.prog (fun g => (fun _ _ => none)) (fun _ _ _ => none) ⟨[], [], [], [], [], []⟩ Go.Proofs.Try.f56 [a0] objs = slices_isNaN_uint64 [a0] objs := by kernel_rfl
theorem tree_node_way_eq (a0 a1 : A) (objs : Heap) : evalFF Go.Proofs.Try.prog (fun g => if g = 49 then slices_BinarySearch_Suint64_uint64 else (fun _ _ => none)) (fun _ _ _ => none) ⟨[], [((2, 3), [5], true)], [], [], [], []⟩ Go.Proofs.Try.f48 [a0, a1] objs = tree_node_way [a0, a1] objs := by kernel_rfl
theorem tree_node_split_eq (a0 : A) (objs : Heap) : evalFF Go.Proofs.Try.prog (fun g => if g = 38 then (primClone 1 8) else if g = 22 then (primClone 2 16) else if g = 57 then (primClone 1 8) else if g = 47 then tree_node_leaf else (fun _ _ => none)) (fun _ _ _ => none) ⟨[], [], [37, 44, 53, 60, 72, 80, 89, 97], [], [], []⟩ Go.Proofs.Try.f52 [a0] objs = tree_node_split [a0] objs := by kernel_rfl
theorem tree_Tree_Range_eq (a0 a1 a2 : A) (objs : Heap) : evalFF Go.Proofs.Try.prog (fun g => if g = 41 then (tree_node_visit (En_tree_Tree_Range) big) else if g = 42 then tree_Tree_Range_c1 else (fun _ _ => none)) (En_tree_Tree_Range) ⟨[], [], [], [14], [], []⟩ Go.Proofs.Try.f31 [a0, a1, a2] objs = tree_Tree_Range [a0, a1, a2] objs := by kernel_rfl
end Go.Ab.F
