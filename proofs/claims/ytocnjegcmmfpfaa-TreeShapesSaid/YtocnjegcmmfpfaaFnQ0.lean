/-
 THE RUNS OF THE PROGRAM'S FUNCTIONS. Written by a program (emit.py).
-/
import Derived.Test.YtocnjegcmmfpfaaFnF
import Derived.Test.YtocnjegcmmfpfaaAbsDefer
import Derived.Test.YtocnjegcmmfpfaaProg
import Derived.KernelRfl
set_option maxRecDepth 100000
set_option linter.unusedVariables false
namespace Go.Ab.F
open Go Go.Ab Go.Proofs
theorem tree_node_leaf_eq (a0 : A) (objs : Heap) : evalFF Go.Proofs.Try.prog (fun g => (fun _ _ => none)) (fun _ _ _ => none) ⟨[], [], [], [], [], []⟩ Go.Proofs.Try.f27 [a0] objs = tree_node_leaf [a0] objs := by kernel_rfl
theorem tree_node_put_eq (self : CallFn) (a0 a1 a2 : A) (objs : Heap) : evalFF Go.Proofs.Try.prog (fun g => if g = 40 then (primInsert 1 8) else if g = 41 then (primInsert 2 16) else if g = 43 then (primInsert 1 8) else if g = 29 then slices_BinarySearch_Suint64_uint64 else if g = 28 then tree_node_way else if g = 42 then tree_node_split else if g = 31 then self else if g = 27 then tree_node_leaf else if g = 39 then tree_node_clone else (fun _ _ => none)) (fun _ _ _ => none) ⟨[], [((12, 13), [], true)], [17, 47, 55, 61, 100, 109, 115], [47, 55, 61, 100, 109, 115], [(7, [(9, true)]), (13, [(9, true)])], [1000047, 1000055, 1000100, 1000109]⟩ Go.Proofs.Try.f31 [a0, a1, a2] objs = tree_node_put_step self [a0, a1, a2] objs := by kernel_rfl
theorem tree_node_list_eq (self : CallFn) (a0 a1 : A) (objs : Heap) : evalFF Go.Proofs.Try.prog (fun g => if g = 37 then (primClone 1 8) else if g = 38 then (primClone 2 16) else if g = 30 then self else (fun _ _ => none)) (fun _ _ _ => none) ⟨[(0, ⟨[1, 29], [1], [], true⟩)], [], [15, 20, 48], [48], [(2, [(1, false)])], []⟩ Go.Proofs.Try.f30 [a0, a1] objs = tree_node_list_step self [a0, a1] objs := by kernel_rfl
theorem ref08_Put_eq (a0 a1 a2 : A) (objs : Heap) : evalFF Go.Proofs.Try.prog (fun g => (fun _ _ => none)) (fun _ _ _ => none) ⟨[(0, ⟨[7, 8, 14], [7, 8], [], true⟩)], [((5, 10), [7, 8], true), ((6, 6), [25], true), ((6, 8), [7, 8], true), ((12, 13), [7], true)], [], [], [], []⟩ Go.Proofs.Try.f22 [a0, a1, a2] objs = ref08_Put [a0, a1, a2] objs := by kernel_rfl
theorem slices_Concat_S_tree_node_tree_node_eq (a0 : A) (objs : Heap) : evalFF Go.Proofs.Try.prog (fun g => if g = 68 then (primGrow 1 8) else (fun _ _ => none)) (fun _ _ _ => none) ⟨[(0, ⟨[3, 11], [3], [], true⟩), (2, ⟨[6, 27], [6], [], true⟩)], [((4, 7), [3], true)], [24], [24], [], []⟩ Go.Proofs.Try.f61 [a0] objs = slices_Concat_S_tree_node_tree_node [a0] objs := by kernel_rfl
theorem ref08_read_eq (self : CallFn) (a0 a1 : A) (objs : Heap) : evalFF Go.Proofs.Try.prog (fun g => if g = 33 then self else if g = 48 then ref08_inside else if g = 47 then ref08_form else (fun _ _ => none)) (fun _ _ _ => none) ⟨[(0, ⟨[9, 46], [9], [], true⟩), (2, ⟨[9, 11, 12, 68], [4, 5, 6, 7, 9, 11, 12], [], true⟩), (4, ⟨[19], [4, 5, 6, 7], [], true⟩)], [((1, 1), [33], true), ((19, 19), [96], true)], [], [], [(9, [(9, false)])], []⟩ Go.Proofs.Try.f33 [a0, a1] objs = ref08_read_step self [a0, a1] objs := by kernel_rfl
theorem ref08_Read_eq (a0 : A) (objs : Heap) : evalFF Go.Proofs.Try.prog (fun g => if g = 33 then (ref08_read big) else (fun _ _ => none)) (fun _ _ _ => none) ⟨[], [((2, 2), [22], true)], [], [], [], []⟩ Go.Proofs.Try.f19 [a0] objs = ref08_Read [a0] objs := by kernel_rfl
theorem ref08_Same_eq (a0 a1 : A) (objs : Heap) : evalFF Go.Proofs.Try.prog (fun g => (fun _ _ => none)) (fun _ _ _ => none) ⟨[(0, ⟨[13], [4], [], true⟩)], [], [], [], [], []⟩ Go.Proofs.Try.f11 [a0, a1] objs = ref08_Same [a0, a1] objs := by kernel_rfl
theorem tree_reader_fits_eq (a0 a1 a2 : A) (objs : Heap) : evalFF Go.Proofs.Try.prog (fun g => (fun _ _ => none)) (fun _ _ _ => none) ⟨[(0, ⟨[7], [6], [], true⟩)], [((1, 1), [21], true)], [], [], [], []⟩ Go.Proofs.Try.f49 [a0, a1, a2] objs = tree_reader_fits [a0, a1, a2] objs := by kernel_rfl
theorem slices_ContainsFunc_Suint64_uint64_eq (En : String → CallFn) (a0 a1 : A) (objs : Heap) : evalFF Go.Proofs.Try.prog (fun g => if g = 63 then (slices_IndexFunc_Suint64_uint64 En) else (fun _ _ => none)) En ⟨[], [], [], [], [], []⟩ Go.Proofs.Try.f50 [a0, a1] objs = slices_ContainsFunc_Suint64_uint64 En [a0, a1] objs := by kernel_rfl
end Go.Ab.F
