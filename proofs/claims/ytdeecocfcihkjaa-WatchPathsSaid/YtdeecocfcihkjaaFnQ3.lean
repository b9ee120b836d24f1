/-
  THE RUNS OF THE PROGRAM'S FUNCTIONS. Written by a program (emit.py).
-/
import Derived.Test.YtdeecocfcihkjaaFnF
import Derived.Test.YtdeecocfcihkjaaAbsDefer
import Derived.Test.YtdeecocfcihkjaaProg
import Derived.KernelRfl
set_option maxRecDepth 100000
set_option linter.unusedVariables false
namespace Go.Ab.F
open Go Go.Ab Go.Proofs
theorem ref20_World_eq (a0 : A) (objs : Heap) : evalFF Go.Proofs.Try.prog (fun g => (fun _ _ => none)) (fun _ _ _ => none) ⟨[], [((1, 1), [10], true)], [], [], [], []⟩ Go.Proofs.Try.f21 [a0] objs = ref20_World [a0] objs := by kernel_rfl
theorem slices_Concat_Sapi_Cat_api_Cat_eq (a0 : A) (objs : Heap) : evalFF Go.Proofs.Try.prog (fun g => if g = 66 then slices_Grow_Sapi_Cat_api_Cat else (fun _ _ => none)) (fun _ _ _ => none) ⟨[(0, ⟨[3, 11], [3], [], true⟩), (2, ⟨[6, 27], [6], [], true⟩)], [((4, 7), [3], true)], [24], [24], [], []⟩ Go.Proofs.Try.f39 [a0] objs = slices_Concat_Sapi_Cat_api_Cat [a0] objs := by kernel_rfl
theorem graph_place_eq (a0 a1 : A) (objs : Heap) : evalFF Go.Proofs.Try.prog (fun g => if g = 58 then (slices_BinarySearchFunc_Sapi_Thing_api_Thing_uint64 (En_graph_place)) else if g = 59 then graph_place_c1 else (fun _ _ => none)) (En_graph_place) ⟨[], [], [], [], [], []⟩ Go.Proofs.Try.f35 [a0, a1] objs = graph_place [a0, a1] objs := by kernel_rfl
theorem graph_Find_eq (a0 a1 : A) (objs : Heap) : evalFF Go.Proofs.Try.prog (fun g => if g = 36 then thing_Copy else if g = 35 then graph_place else (fun _ _ => none)) (fun _ _ _ => none) ⟨[], [], [], [], [], []⟩ Go.Proofs.Try.f19 [a0, a1] objs = graph_Find [a0, a1] objs := by kernel_rfl
theorem ref13_SameIDs_eq (a0 a1 : A) (objs : Heap) : evalFF Go.Proofs.Try.prog (fun g => (fun _ _ => none)) (fun _ _ _ => none) ⟨[(0, ⟨[13], [4], [], true⟩)], [], [], [], [], []⟩ Go.Proofs.Try.f28 [a0, a1] objs = ref13_SameIDs [a0, a1] objs := by kernel_rfl
theorem ref13_Refs_eq (a0 a1 : A) (objs : Heap) : evalFF Go.Proofs.Try.prog (fun g => if g = 15 then ref12_Has else (fun _ _ => none)) (fun _ _ _ => none) ⟨[(0, ⟨[5, 10], [5], [], true⟩)], [((4, 6), [5], true)], [], [], [], []⟩ Go.Proofs.Try.f24 [a0, a1] objs = ref13_Refs [a0, a1] objs := by kernel_rfl
theorem ref11_id_eq (a0 : A) (objs : Heap) : evalFF Go.Proofs.Try.prog (fun g => (fun _ _ => none)) (fun _ _ _ => none) ⟨[], [], [], [], [], []⟩ Go.Proofs.Try.f43 [a0] objs = ref11_id [a0] objs := by kernel_rfl
theorem ref09_IDs_eq (a0 : A) (objs : Heap) : evalFF Go.Proofs.Try.prog (fun g => (fun _ _ => none)) (fun _ _ _ => none) ⟨[(0, ⟨[3, 14], [3], [], false⟩), (2, ⟨[3, 20], [3], [], false⟩), (4, ⟨[8, 9, 27], [8, 9], [], false⟩)], [((12, 17), [8, 9], false), ((13, 13), [38], false), ((13, 15), [8, 9], false), ((19, 20), [8], false)], [], [], [], []⟩ Go.Proofs.Try.f95 [a0] objs = ref09_IDs [a0] objs := by kernel_rfl
theorem ref09_Form_eq (a0 : A) (objs : Heap) : evalFF Go.Proofs.Try.prog (fun g => if g = 96 then ref09_Level else if g = 95 then ref09_IDs else (fun _ _ => none)) (fun _ _ _ => none) ⟨[(0, ⟨[14], [], [], false⟩)], [((4, 6), [], false)], [], [], [(6, [(3, true)])], []⟩ Go.Proofs.Try.f69 [a0] objs = ref09_Form [a0] objs := by kernel_rfl
theorem ref09_Exact_eq (a0 a1 : A) (objs : Heap) : evalFF Go.Proofs.Try.prog (fun g => (fun _ _ => none)) (fun _ _ _ => none) ⟨[(0, ⟨[23], [4], [], true⟩)], [((1, 1), [19], true)], [], [], [], []⟩ Go.Proofs.Try.f38 [a0, a1] objs = ref09_Exact [a0, a1] objs := by kernel_rfl
theorem ref13_Sound_eq (a0 : A) (objs : Heap) : evalFF Go.Proofs.Try.prog (fun g => if g = 24 then ref13_Refs else if g = 17 then ref13_Graph else if g = 27 then ref13_Given else if g = 26 then ref13_Fits else if g = 25 then ref11_Right else (fun _ _ => none)) (fun _ _ _ => none) ⟨[(0, ⟨[37], [2], [], true⟩), (2, ⟨[69], [2], [], true⟩)], [((1, 1), [34], true), ((7, 7), [65], true), ((15, 15), [90], true)], [], [], [], []⟩ Go.Proofs.Try.f8 [a0] objs = ref13_Sound [a0] objs := by kernel_rfl
theorem ref23_Units_eq (a0 : A) (objs : Heap) : evalFF Go.Proofs.Try.prog (fun g => (fun _ _ => none)) (fun _ _ _ => none) ⟨[(0, ⟨[3, 10], [3], [], true⟩)], [], [], [], [], []⟩ Go.Proofs.Try.f10 [a0] objs = ref23_Units [a0] objs := by kernel_rfl
theorem ref23_less_eq (a0 a1 : A) (objs : Heap) : evalFF Go.Proofs.Try.prog (fun g => (fun _ _ => none)) (fun _ _ _ => none) ⟨[(0, ⟨[8], [4], [], true⟩)], [((4, 4), [25], true)], [], [], [], []⟩ Go.Proofs.Try.f30 [a0, a1] objs = ref23_less [a0, a1] objs := by kernel_rfl
end Go.Ab.F
