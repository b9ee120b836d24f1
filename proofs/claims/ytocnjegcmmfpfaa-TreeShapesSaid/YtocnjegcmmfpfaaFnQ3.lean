/-
 THE RUNS OF THE PROGRAM'S FUNCTIONS. Written by a program (emit.py).
-/
import Derived.Test.YtocnjegcmmfpfaaFnF
import Derived.Test.YtocnjegcmmfpfaaAbsDefer
import Derived.Test.YtocnjegcmmfpfaaProg
import Derived.KernelRfl
set_option maxRecDepth 100000
set_option linter.unusedVariables false
namespace Go.Ab.F
open Go Go.Ab Go.Proofs
theorem cmp_isNaN_uint64_eq (a0 : A) (objs : Heap) : evalFF Go.Proofs.Try.prog (fun g => (fun _ _ => none)) (fun _ _ _ => none) ⟨[], [], [], [], [], []⟩ Go.Proofs.Try.f52 [a0] objs = cmp_isNaN_uint64 [a0] objs := by kernel_rfl
theorem slices_BinarySearch_Suint64_uint64_eq (a0 a1 : A) (objs : Heap) : evalFF Go.Proofs.Try.prog (fun g => if g = 36 then slices_isNaN_uint64 else if g = 35 then cmp_Less_uint64 else (fun _ _ => none)) (fun _ _ _ => none) ⟨[(0, ⟨[7, 8], [7], [], true⟩)], [], [], [], [], []⟩ Go.Proofs.Try.f29 [a0, a1] objs = slices_BinarySearch_Suint64_uint64 [a0, a1] objs := by kernel_rfl
theorem tree_node_clone_eq (a0 : A) (objs : Heap) : evalFF Go.Proofs.Try.prog (fun g => if g = 37 then (primClone 1 8) else if g = 38 then (primClone 2 16) else if g = 53 then (primClone 1 8) else (fun _ _ => none)) (fun _ _ _ => none) ⟨[], [], [7, 12, 17], [], [], []⟩ Go.Proofs.Try.f39 [a0] objs = tree_node_clone [a0] objs := by kernel_rfl
theorem tree_Tree_Nodes_eq (a0 : A) (objs : Heap) : evalFF Go.Proofs.Try.prog (fun g => if g = 30 then (tree_node_list big) else (fun _ _ => none)) (fun _ _ _ => none) ⟨[], [], [7], [7], [], []⟩ Go.Proofs.Try.f16 [a0] objs = tree_Tree_Nodes [a0] objs := by kernel_rfl
theorem slices_Concat_Sapi_Extent_api_Extent_eq (a0 : A) (objs : Heap) : evalFF Go.Proofs.Try.prog (fun g => if g = 67 then (primGrow 2 16) else (fun _ _ => none)) (fun _ _ _ => none) ⟨[(0, ⟨[3, 11], [3], [], true⟩), (2, ⟨[6, 27], [6], [], true⟩)], [((4, 7), [3], true)], [24], [24], [], []⟩ Go.Proofs.Try.f60 [a0] objs = slices_Concat_Sapi_Extent_api_Extent [a0] objs := by kernel_rfl
theorem tree_node_del_eq (self : CallFn) (a0 a1 : A) (objs : Heap) : evalFF Go.Proofs.Try.prog (fun g => if g = 44 then (primDelete 1 8) else if g = 45 then (primDelete 2 16) else if g = 29 then slices_BinarySearch_Suint64_uint64 else if g = 28 then tree_node_way else if g = 46 then tree_node_mend else if g = 27 then tree_node_leaf else if g = 32 then self else if g = 39 then tree_node_clone else (fun _ _ => none)) (fun _ _ _ => none) ⟨[], [((3, 5), [], true), ((9, 10), [], true)], [10, 32, 40], [32, 40, 80], [(5, [(5, true)])], [1000032, 1000040]⟩ Go.Proofs.Try.f32 [a0, a1] objs = tree_node_del_step self [a0, a1] objs := by kernel_rfl
theorem ref08_Del_eq (a0 a1 : A) (objs : Heap) : evalFF Go.Proofs.Try.prog (fun g => (fun _ _ => none)) (fun _ _ _ => none) ⟨[(0, ⟨[5, 11], [5], [], true⟩)], [((4, 6), [5], true)], [], [], [], []⟩ Go.Proofs.Try.f23 [a0, a1] objs = ref08_Del [a0, a1] objs := by kernel_rfl
theorem law08_grown_eq (a0 : A) (objs : Heap) : evalFF Go.Proofs.Try.prog (fun g => if g = 24 then tree_New else if g = 22 then ref08_Put else if g = 23 then ref08_Del else if g = 17 then tree_Tree_Put else if g = 18 then tree_Tree_Del else (fun _ _ => none)) (fun _ _ _ => none) ⟨[(0, ⟨[4, 5, 12], [4, 5], [], true⟩)], [((5, 10), [4, 5], true)], [], [], [], []⟩ Go.Proofs.Try.f9 [a0] objs = law08_grown [a0] objs := by kernel_rfl
theorem ref08_inside_eq (a0 a1 a2 a3 : A) (objs : Heap) : evalFF Go.Proofs.Try.prog (fun g => (fun _ _ => none)) (fun _ _ _ => none) ⟨[(0, ⟨[17], [8], [], true⟩)], [((4, 4), [45], true)], [], [], [], []⟩ Go.Proofs.Try.f48 [a0, a1, a2, a3] objs = ref08_inside [a0, a1, a2, a3] objs := by kernel_rfl
end Go.Ab.F
