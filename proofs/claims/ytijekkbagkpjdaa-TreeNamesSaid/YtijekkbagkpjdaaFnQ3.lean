/-
  THE RUNS OF THE PROGRAM'S FUNCTIONS. Written by a program (emit.py).
-/
import Derived.Test.YtijekkbagkpjdaaFnF
import Derived.Test.YtijekkbagkpjdaaAbsFast
import Derived.Test.YtijekkbagkpjdaaProg
import Derived.KernelRfl
set_option maxRecDepth 100000
set_option linter.unusedVariables false
namespace Go.Ab.F
open Go Go.Ab Go.Proofs
theorem extent_Map_taken_eq (a0 a1 : A) (objs : Heap) : evalFF Go.Proofs.Try.prog (fun g => if g = 33 then extent_meets else if g = 26 then extent_Map_there else (fun _ _ => none)) (fun _ _ _ => none) ⟨[], [], [], [], [], []⟩ Go.Proofs.Try.f24 [a0, a1] objs = extent_Map_taken [a0, a1] objs := by kernel_rfl
theorem extent_Map_Count_eq (a0 : A) (objs : Heap) : evalFF Go.Proofs.Try.prog (fun g => (fun _ _ => none)) (fun _ _ _ => none) ⟨[(0, ⟨[3, 11], [3], [], true⟩)], [], [], [], [], []⟩ Go.Proofs.Try.f9 [a0] objs = extent_Map_Count [a0] objs := by kernel_rfl
theorem law07_ExtentNames_eq (objs : Heap) : evalFF Go.Proofs.Try.prog (fun g => if g = 8 then extent_New else if g = 7 then law07_extentAlive else if g = 10 then extent_Map_List else if g = 9 then extent_Map_Count else (fun _ _ => none)) (fun _ _ _ => none) ⟨[], [], [7, 12], [], [], []⟩ Go.Proofs.Try.f3 [] objs = law07_ExtentNames [] objs := by kernel_rfl
theorem tree_New_eq (objs : Heap) : evalFF Go.Proofs.Try.prog (fun g => (fun _ _ => none)) (fun _ _ _ => none) ⟨[], [], [], [], [], []⟩ Go.Proofs.Try.f15 [] objs = tree_New [] objs := by kernel_rfl
theorem tree_node_list_eq (self : CallFn) (a0 a1 : A) (objs : Heap) : evalFF Go.Proofs.Try.prog (fun g => if g = 38 then (primClone 1 8) else if g = 22 then (primClone 2 16) else if g = 28 then self else (fun _ _ => none)) (fun _ _ _ => none) ⟨[(0, ⟨[1, 29], [1], [], true⟩)], [], [15, 20, 48], [48], [(2, [(1, false)])], []⟩ Go.Proofs.Try.f28 [a0, a1] objs = tree_node_list_step self [a0, a1] objs := by kernel_rfl
theorem cmp_isNaN_uint64_eq (a0 : A) (objs : Heap) : evalFF Go.Proofs.Try.prog (fun g => (fun _ _ => none)) (fun _ _ _ => none) ⟨[], [], [], [], [], []⟩ Go.Proofs.Try.f63 [a0] objs = cmp_isNaN_uint64 [a0] objs := by kernel_rfl
theorem slices_BinarySearch_Suint64_uint64_eq (a0 a1 : A) (objs : Heap) : evalFF Go.Proofs.Try.prog (fun g => if g = 56 then slices_isNaN_uint64 else if g = 55 then cmp_Less_uint64 else (fun _ _ => none)) (fun _ _ _ => none) ⟨[(0, ⟨[7, 8], [7], [], true⟩)], [], [], [], [], []⟩ Go.Proofs.Try.f49 [a0, a1] objs = slices_BinarySearch_Suint64_uint64 [a0, a1] objs := by kernel_rfl
theorem tree_node_clone_eq (a0 : A) (objs : Heap) : evalFF Go.Proofs.Try.prog (fun g => if g = 38 then (primClone 1 8) else if g = 22 then (primClone 2 16) else if g = 57 then (primClone 1 8) else (fun _ _ => none)) (fun _ _ _ => none) ⟨[], [], [7, 12, 17], [], [], []⟩ Go.Proofs.Try.f50 [a0] objs = tree_node_clone [a0] objs := by kernel_rfl
theorem tree_Tree_Range_c1_eq (a0 a1 a2 : A) (objs : Heap) : evalFF Go.Proofs.Try.prog (fun g => (fun _ _ => none)) (fun _ _ _ => none) ⟨[], [((1, 2), [], true)], [], [], [], []⟩ Go.Proofs.Try.f42 [a0, a1, a2] objs = tree_Tree_Range_c1 [a0, a1, a2] objs := by kernel_rfl
end Go.Ab.F
