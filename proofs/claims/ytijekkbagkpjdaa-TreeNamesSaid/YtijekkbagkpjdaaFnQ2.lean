/-
  THE RUNS OF THE PROGRAM'S FUNCTIONS. Written by a program (emit.py).
-/
import Derived.Test.YtijekkbagkpjdaaFnF
import Derived.Test.YtijekkbagkpjdaaAbsFast
import Derived.Test.YtijekkbagkpjdaaProg
import Derived.KernelRfl
set_option maxRecDepth 100000
set_option linter.unusedVariables false
namespace Go.Ab.F
open Go Go.Ab Go.Proofs
theorem extent_New_eq (a0 : A) (objs : Heap) : evalFF Go.Proofs.Try.prog (fun g => (fun _ _ => none)) (fun _ _ _ => none) ⟨[], [((2, 3), [], true)], [], [], [], []⟩ Go.Proofs.Try.f8 [a0] objs = extent_New [a0] objs := by kernel_rfl
theorem extent_end_eq (a0 : A) (objs : Heap) : evalFF Go.Proofs.Try.prog (fun g => (fun _ _ => none)) (fun _ _ _ => none) ⟨[], [], [], [], [], []⟩ Go.Proofs.Try.f32 [a0] objs = extent_end [a0] objs := by kernel_rfl
theorem slices_ContainsFunc_Sapi_Extent_api_Extent_eq (En : String → CallFn) (a0 a1 : A) (objs : Heap) : evalFF Go.Proofs.Try.prog (fun g => if g = 46 then (slices_IndexFunc_Sapi_Extent_api_Extent En) else (fun _ _ => none)) En ⟨[], [], [], [], [], []⟩ Go.Proofs.Try.f36 [a0, a1] objs = slices_ContainsFunc_Sapi_Extent_api_Extent En [a0, a1] objs := by kernel_rfl
theorem extent_meets_eq (a0 a1 : A) (objs : Heap) : evalFF Go.Proofs.Try.prog (fun g => if g = 36 then (slices_ContainsFunc_Sapi_Extent_api_Extent (En_extent_meets)) else if g = 43 then extent_meets_c1 else (fun _ _ => none)) (En_extent_meets) ⟨[], [], [], [], [], []⟩ Go.Proofs.Try.f33 [a0, a1] objs = extent_meets [a0, a1] objs := by kernel_rfl
theorem extent_Map_List_eq (a0 : A) (objs : Heap) : evalFF Go.Proofs.Try.prog (fun g => if g = 22 then (primClone 2 16) else (fun _ _ => none)) (fun _ _ _ => none) ⟨[], [], [7], [], [], []⟩ Go.Proofs.Try.f10 [a0] objs = extent_Map_List [a0] objs := by kernel_rfl
theorem cmp_Less_uint64_eq (a0 a1 : A) (objs : Heap) : evalFF Go.Proofs.Try.prog (fun g => if g = 63 then cmp_isNaN_uint64 else (fun _ _ => none)) (fun _ _ _ => none) ⟨[], [], [], [], [], []⟩ Go.Proofs.Try.f55 [a0, a1] objs = cmp_Less_uint64 [a0, a1] objs := by kernel_rfl
theorem tree_Tree_Get_eq (a0 a1 : A) (objs : Heap) : evalFF Go.Proofs.Try.prog (fun g => if g = 49 then slices_BinarySearch_Suint64_uint64 else if g = 48 then tree_node_way else if g = 47 then tree_node_leaf else (fun _ _ => none)) (fun _ _ _ => none) ⟨[(0, ⟨[6], [6], [], true⟩)], [], [], [], [], []⟩ Go.Proofs.Try.f39 [a0, a1] objs = tree_Tree_Get [a0, a1] objs := by kernel_rfl
theorem tree_node_visit_eq (En : String → CallFn) (self : CallFn) (a0 a1 a2 : A) (objs : Heap) : evalFF Go.Proofs.Try.prog (fun g => if g = 48 then tree_node_way else if g = 41 then self else if g = 47 then tree_node_leaf else (fun _ _ => none)) En ⟨[(0, ⟨[18], [6], [], true⟩), (2, ⟨[50], [6], [], true⟩)], [((5, 5), [39], true)], [], [37, 57], [], []⟩ Go.Proofs.Try.f41 [a0, a1, a2] objs = tree_node_visit_step En self [a0, a1, a2] objs := by kernel_rfl
theorem law08_TreeNames_eq (objs : Heap) : evalFF Go.Proofs.Try.prog (fun g => if g = 15 then tree_New else if g = 17 then law08_treeAlive else if g = 16 then tree_Tree_Nodes else (fun _ _ => none)) (fun _ _ _ => none) ⟨[], [], [], [], [], []⟩ Go.Proofs.Try.f5 [] objs = law08_TreeNames [] objs := by kernel_rfl
end Go.Ab.F
