/-
  THE RUNS OF THE PROGRAM'S FUNCTIONS. Written by a program (emit.py).
-/
import Derived.Test.YtdeecocfcihkjaaFnF
import Derived.Test.YtdeecocfcihkjaaAbsDefer
import Derived.Test.YtdeecocfcihkjaaProg
import Derived.KernelRfl
set_option maxRecDepth 100000
set_option linter.unusedVariables false
namespace Go.Ab.F
open Go Go.Ab Go.Proofs
theorem math_bits_Len32_eq (a0 : A) (objs : Heap) : evalFF Go.Proofs.Try.prog (fun g => (fun _ _ => none)) (fun _ _ _ => none) ⟨[], [((1, 3), [0, 2], true), ((4, 6), [0, 2], true)], [], [], [], []⟩ Go.Proofs.Try.f93 [a0] objs = math_bits_Len32 [a0] objs := by kernel_rfl
theorem math_bits_Len_eq (a0 : A) (objs : Heap) : evalFF Go.Proofs.Try.prog (fun g => if g = 94 then math_bits_Len64 else if g = 93 then math_bits_Len32 else (fun _ _ => none)) (fun _ _ _ => none) ⟨[], [], [], [], [], []⟩ Go.Proofs.Try.f68 [a0] objs = math_bits_Len [a0] objs := by kernel_rfl
theorem slices_insertionSortOrdered_uint64_eq (a0 a1 a2 : A) (objs : Heap) : evalFF Go.Proofs.Try.prog (fun g => if g = 90 then cmp_Less_uint64 else (fun _ _ => none)) (fun _ _ _ => none) ⟨[(0, ⟨[6], [], [], true⟩), (2, ⟨[7], [], [], true⟩)], [((4, 4), [30], true)], [], [], [], []⟩ Go.Proofs.Try.f84 [a0, a1, a2] objs = slices_insertionSortOrdered_uint64 [a0, a1, a2] objs := by kernel_rfl
theorem slices_BinarySearchFunc_Sapi_Thing_api_Thing_uint64_eq (En : String → CallFn) (a0 a1 a2 : A) (objs : Heap) : evalFF Go.Proofs.Try.prog (fun g => (fun _ _ => none)) En ⟨[(0, ⟨[9, 10], [9], [], true⟩)], [], [], [], [], []⟩ Go.Proofs.Try.f58 [a0, a1, a2] objs = slices_BinarySearchFunc_Sapi_Thing_api_Thing_uint64 En [a0, a1, a2] objs := by kernel_rfl
theorem cmp_Compare_uint64_eq (a0 a1 : A) (objs : Heap) : evalFF Go.Proofs.Try.prog (fun g => if g = 82 then cmp_isNaN_uint64 else (fun _ _ => none)) (fun _ _ _ => none) ⟨[], [], [], [], [], []⟩ Go.Proofs.Try.f60 [a0, a1] objs = cmp_Compare_uint64 [a0, a1] objs := by kernel_rfl
theorem thing_Copy_eq (a0 : A) (objs : Heap) : evalFF Go.Proofs.Try.prog (fun g => if g = 63 then (primClone 1 1) else if g = 62 then (primClone 2 16) else if g = 61 then (primClone 2 16) else (fun _ _ => none)) (fun _ _ _ => none) ⟨[], [], [6, 10, 17, 20], [], [], []⟩ Go.Proofs.Try.f36 [a0] objs = thing_Copy [a0] objs := by kernel_rfl
theorem ref23_Same_eq (a0 a1 : A) (objs : Heap) : evalFF Go.Proofs.Try.prog (fun g => if g = 28 then ref13_SameIDs else (fun _ _ => none)) (fun _ _ _ => none) ⟨[], [], [], [], [], []⟩ Go.Proofs.Try.f11 [a0, a1] objs = ref23_Same [a0, a1] objs := by kernel_rfl
theorem watch_Boots_eq (a0 : A) (objs : Heap) : evalFF Go.Proofs.Try.prog (fun g => if g = 22 then watch_Cats else if g = 42 then gate_Minter else (fun _ _ => none)) (fun _ _ _ => none) ⟨[(0, ⟨[3, 12], [3], [], true⟩)], [], [], [], [], []⟩ Go.Proofs.Try.f23 [a0] objs = watch_Boots [a0] objs := by kernel_rfl
theorem ref12_Has_eq (a0 a1 : A) (objs : Heap) : evalFF Go.Proofs.Try.prog (fun g => (fun _ _ => none)) (fun _ _ _ => none) ⟨[(0, ⟨[10], [4], [], true⟩)], [], [], [], [], []⟩ Go.Proofs.Try.f15 [a0, a1] objs = ref12_Has [a0, a1] objs := by kernel_rfl
theorem ref10_Pure_eq (a0 : A) (objs : Heap) : evalFF Go.Proofs.Try.prog (fun g => (fun _ _ => none)) (fun _ _ _ => none) ⟨[(0, ⟨[11], [2], [], true⟩)], [], [], [], [], []⟩ Go.Proofs.Try.f45 [a0] objs = ref10_Pure [a0] objs := by kernel_rfl
theorem ref01_parts_eq (a0 : A) (objs : Heap) : evalFF Go.Proofs.Try.prog (fun g => (fun _ _ => none)) (fun _ _ _ => none) ⟨[], [], [], [], [], []⟩ Go.Proofs.Try.f70 [a0] objs = ref01_parts [a0] objs := by kernel_rfl
theorem ref23_Path_eq (a0 a1 : A) (objs : Heap) : evalFF Go.Proofs.Try.prog (fun g => if g = 30 then ref23_less else if g = 15 then ref12_Has else (fun _ _ => none)) (fun _ _ _ => none) ⟨[(0, ⟨[5, 19], [5], [], true⟩), (2, ⟨[5, 37], [5], [], true⟩), (4, ⟨[44], [], [], true⟩), (6, ⟨[57], [], [], true⟩), (8, ⟨[109], [4], [], true⟩)], [((6, 7), [7], true), ((15, 24), [], true), ((19, 23), [], true), ((20, 20), [74], true), ((22, 22), [98], true)], [], [], [], []⟩ Go.Proofs.Try.f13 [a0, a1] objs = ref23_Path [a0, a1] objs := by kernel_rfl
theorem law23_WatchPaths_eq (a0 a1 : A) (objs : Heap) : evalFF Go.Proofs.Try.prog (fun g => if g = 12 then watch_Path else if g = 11 then ref23_Same else if g = 13 then ref23_Path else if g = 8 then ref13_Sound else if g = 7 then law23_watchAlive else (fun _ _ => none)) (fun _ _ _ => none) ⟨[], [((3, 3), [14], true)], [], [], [], []⟩ Go.Proofs.Try.f4 [a0, a1] objs = law23_WatchPaths [a0, a1] objs := by kernel_rfl
end Go.Ab.F
