/-
 THE RUNS OF THE PROGRAM'S FUNCTIONS. Written by a program (emit.py).
-/
import Derived.Test.YtocnjegcmmfpfaaFnF
import Derived.Test.YtocnjegcmmfpfaaAbsDefer
import Derived.Test.YtocnjegcmmfpfaaProg
import Derived.KernelRfl
set_option maxRecDepth 100000
set_option linter.unusedVariables false
namespace Go.Ab.F
open Go Go.Ab Go.Proofs
theorem tree_New_eq (objs : Heap) : evalFF Go.Proofs.Try.prog (fun g => (fun _ _ => none)) (fun _ _ _ => none) ⟨[], [], [], [], [], []⟩ Go.Proofs.Try.f24 [] objs = tree_New [] objs := by kernel_rfl
theorem cmp_Less_uint64_eq (a0 a1 : A) (objs : Heap) : evalFF Go.Proofs.Try.prog (fun g => if g = 52 then cmp_isNaN_uint64 else (fun _ _ => none)) (fun _ _ _ => none) ⟨[], [], [], [], [], []⟩ Go.Proofs.Try.f35 [a0, a1] objs = cmp_Less_uint64 [a0, a1] objs := by kernel_rfl
theorem slices_isNaN_uint64_eq (a0 : A) (objs : Heap) : evalFF Go.Proofs.Try.prog (fun g => (fun _ _ => none)) (fun _ _ _ => none) ⟨[], [], [], [], [], []⟩ Go.Proofs.Try.f36 [a0] objs = slices_isNaN_uint64 [a0] objs := by kernel_rfl
theorem tree_Tree_Get_eq (a0 a1 : A) (objs : Heap) : evalFF Go.Proofs.Try.prog (fun g => if g = 29 then slices_BinarySearch_Suint64_uint64 else if g = 28 then tree_node_way else if g = 27 then tree_node_leaf else (fun _ _ => none)) (fun _ _ _ => none) ⟨[(0, ⟨[6], [6], [], true⟩)], [], [], [], [], []⟩ Go.Proofs.Try.f14 [a0, a1] objs = tree_Tree_Get [a0, a1] objs := by kernel_rfl
theorem tree_node_visit_eq (En : String → CallFn) (self : CallFn) (a0 a1 a2 : A) (objs : Heap) : evalFF Go.Proofs.Try.prog (fun g => if g = 28 then tree_node_way else if g = 25 then self else if g = 27 then tree_node_leaf else (fun _ _ => none)) En ⟨[(0, ⟨[18], [6], [], true⟩), (2, ⟨[50], [6], [], true⟩)], [((5, 5), [39], true)], [], [37, 57], [], []⟩ Go.Proofs.Try.f25 [a0, a1, a2] objs = tree_node_visit_step En self [a0, a1, a2] objs := by kernel_rfl
theorem tree_Tree_Range_eq (a0 a1 a2 : A) (objs : Heap) : evalFF Go.Proofs.Try.prog (fun g => if g = 25 then (tree_node_visit (En_tree_Tree_Range) big) else if g = 26 then tree_Tree_Range_c1 else (fun _ _ => none)) (En_tree_Tree_Range) ⟨[], [], [], [14], [], []⟩ Go.Proofs.Try.f12 [a0, a1, a2] objs = tree_Tree_Range [a0, a1, a2] objs := by kernel_rfl
theorem law08_treeAlive_eq (objs : Heap) : evalFF Go.Proofs.Try.prog (fun g => if g = 24 then tree_New else if g = 12 then tree_Tree_Range else if g = 17 then tree_Tree_Put else if g = 16 then tree_Tree_Nodes else if g = 10 then tree_Tree_Len else (fun _ _ => none)) (fun _ _ _ => none) ⟨[], [((2, 2), [11], true)], [], [], [], []⟩ Go.Proofs.Try.f8 [] objs = law08_treeAlive [] objs := by kernel_rfl
theorem tree_node_mend_eq (a0 a1 : A) (objs : Heap) : evalFF Go.Proofs.Try.prog (fun g => if g = 44 then (primDelete 1 8) else if g = 62 then (primDelete 1 8) else if g = 60 then slices_Concat_Sapi_Extent_api_Extent else if g = 61 then slices_Concat_S_tree_node_tree_node else if g = 37 then (primClone 1 8) else if g = 42 then tree_node_split else if g = 27 then tree_node_leaf else (fun _ _ => none)) (fun _ _ _ => none) ⟨[], [((3, 4), [], true)], [29, 73, 86, 104, 113, 143], [47, 72, 85, 104, 113], [(4, [(6, true)]), (5, [(6, true)]), (9, [(0, true)])], [1000104, 1000113, 1000143]⟩ Go.Proofs.Try.f46 [a0, a1] objs = tree_node_mend [a0, a1] objs := by kernel_rfl
theorem ref08_form_eq (a0 a1 : A) (objs : Heap) : evalFF Go.Proofs.Try.prog (fun g => (fun _ _ => none)) (fun _ _ _ => none) ⟨[(0, ⟨[5], [4], [], true⟩)], [((1, 1), [19], true)], [], [], [], []⟩ Go.Proofs.Try.f47 [a0, a1] objs = ref08_form [a0, a1] objs := by kernel_rfl
theorem slices_IndexFunc_Suint64_uint64_eq (En : String → CallFn) (a0 a1 : A) (objs : Heap) : evalFF Go.Proofs.Try.prog (fun g => (fun _ _ => none)) En ⟨[(0, ⟨[8], [4], [], true⟩)], [], [], [], [], []⟩ Go.Proofs.Try.f63 [a0, a1] objs = slices_IndexFunc_Suint64_uint64 En [a0, a1] objs := by kernel_rfl
end Go.Ab.F
