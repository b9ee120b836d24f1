/-
  THE RUNS OF THE PROGRAM'S FUNCTIONS. Written by a program (emit.py).
-/
import Derived.Test.YtdeecocfcihkjaaFnF
import Derived.Test.YtdeecocfcihkjaaAbsDefer
import Derived.Test.YtdeecocfcihkjaaProg
import Derived.KernelRfl
set_option maxRecDepth 100000
set_option linter.unusedVariables false
namespace Go.Ab.F
open Go Go.Ab Go.Proofs
theorem math_bits_Len64_eq (a0 : A) (objs : Heap) : evalFF Go.Proofs.Try.prog (fun g => (fun _ _ => none)) (fun _ _ _ => none) ⟨[], [((1, 3), [0, 2], true), ((4, 6), [0, 2], true), ((7, 9), [0, 2], true)], [], [], [], []⟩ Go.Proofs.Try.f94 [a0] objs = math_bits_Len64 [a0] objs := by kernel_rfl
theorem slices_pdqsortOrdered_uint64_eq (self : CallFn) (a0 a1 a2 a3 : A) (objs : Heap) : evalFF Go.Proofs.Try.prog (fun g => if g = 67 then self else if g = 84 then slices_insertionSortOrdered_uint64 else if g = 90 then cmp_Less_uint64 else (fun _ _ => none)) (fun _ _ _ => none) ⟨[(0, ⟨[1, 2, 3, 8, 9], [], [], true⟩)], [((7, 9), [3], true), ((11, 14), [11, 12], true), ((15, 15), [68], true), ((15, 16), [], true), ((17, 17), [87], true)], [], [27, 121, 132], [], []⟩ Go.Proofs.Try.f67 [a0, a1, a2, a3] objs = slices_pdqsortOrdered_uint64_step self [a0, a1, a2, a3] objs := by kernel_rfl
theorem slices_Sort_Suint64_uint64_eq (a0 : A) (objs : Heap) : evalFF Go.Proofs.Try.prog (fun g => if g = 67 then (slices_pdqsortOrdered_uint64 big) else if g = 68 then math_bits_Len else (fun _ _ => none)) (fun _ _ _ => none) ⟨[], [], [], [10], [], []⟩ Go.Proofs.Try.f40 [a0] objs = slices_Sort_Suint64_uint64 [a0] objs := by kernel_rfl
theorem watch_Cats_eq (a0 : A) (objs : Heap) : evalFF Go.Proofs.Try.prog (fun g => if g = 40 then slices_Sort_Suint64_uint64 else if g = 39 then slices_Concat_Sapi_Cat_api_Cat else if g = 41 then slices_Compact_Suint64_uint64 else (fun _ _ => none)) (fun _ _ _ => none) ⟨[(0, ⟨[3, 10], [3], [(3, 1)], true⟩), (2, ⟨[3, 23], [3], [(3, 1)], true⟩)], [], [21, 35, 37], [35, 37], [], []⟩ Go.Proofs.Try.f22 [a0] objs = watch_Cats [a0] objs := by kernel_rfl
theorem graph_place_c1_eq (a0 a1 : A) (objs : Heap) : evalFF Go.Proofs.Try.prog (fun g => if g = 60 then cmp_Compare_uint64 else (fun _ _ => none)) (fun _ _ _ => none) ⟨[], [], [], [], [], []⟩ Go.Proofs.Try.f59 [a0, a1] objs = graph_place_c1 [a0, a1] objs := by kernel_rfl
theorem gate_Minter_eq (a0 : A) (objs : Heap) : evalFF Go.Proofs.Try.prog (fun g => (fun _ _ => none)) (fun _ _ _ => none) ⟨[], [], [], [], [], []⟩ Go.Proofs.Try.f42 [a0] objs = gate_Minter [a0] objs := by kernel_rfl
theorem law23_watchAlive_eq (objs : Heap) : evalFF Go.Proofs.Try.prog (fun g => if g = 9 then watch_Units else if g = 12 then watch_Path else if g = 22 then watch_Cats else if g = 23 then watch_Boots else if g = 11 then ref23_Same else if g = 21 then ref20_World else (fun _ _ => none)) (fun _ _ _ => none) ⟨[], [], [], [], [], []⟩ Go.Proofs.Try.f7 [] objs = law23_watchAlive [] objs := by kernel_rfl
theorem ref13_Graph_eq (a0 : A) (objs : Heap) : evalFF Go.Proofs.Try.prog (fun g => (fun _ _ => none)) (fun _ _ _ => none) ⟨[(0, ⟨[3], [2], [], true⟩)], [], [], [], [], []⟩ Go.Proofs.Try.f17 [a0] objs = ref13_Graph [a0] objs := by kernel_rfl
theorem ref11_clean_eq (a0 : A) (objs : Heap) : evalFF Go.Proofs.Try.prog (fun g => if g = 45 then ref10_Pure else if g = 44 then ref09_Right else (fun _ _ => none)) (fun _ _ _ => none) ⟨[], [], [], [], [], []⟩ Go.Proofs.Try.f47 [a0] objs = ref11_clean [a0] objs := by kernel_rfl
theorem ref11_Same_eq (a0 a1 : A) (objs : Heap) : evalFF Go.Proofs.Try.prog (fun g => if g = 38 then ref09_Exact else (fun _ _ => none)) (fun _ _ _ => none) ⟨[(0, ⟨[109], [4], [], true⟩)], [((1, 1), [73], true), ((3, 3), [105], true)], [], [], [], []⟩ Go.Proofs.Try.f20 [a0, a1] objs = ref11_Same [a0, a1] objs := by kernel_rfl
theorem ref13_Find_eq (a0 a1 : A) (objs : Heap) : evalFF Go.Proofs.Try.prog (fun g => (fun _ _ => none)) (fun _ _ _ => none) ⟨[(0, ⟨[10], [5], [], true⟩)], [], [], [], [], []⟩ Go.Proofs.Try.f14 [a0, a1] objs = ref13_Find [a0, a1] objs := by kernel_rfl
theorem ref13_Above_eq (self : CallFn) (a0 : A) (objs : Heap) : evalFF Go.Proofs.Try.prog (fun g => if g = 48 then self else (fun _ _ => none)) (fun _ _ _ => none) ⟨[], [], [], [], [], []⟩ Go.Proofs.Try.f48 [a0] objs = ref13_Above_step self [a0] objs := by kernel_rfl
theorem ref13_Given_eq (a0 a1 : A) (objs : Heap) : evalFF Go.Proofs.Try.prog (fun g => if g = 48 then (ref13_Above big) else (fun _ _ => none)) (fun _ _ _ => none) ⟨[(0, ⟨[5, 12], [5], [], true⟩), (2, ⟨[5, 20], [5], [], true⟩)], [((7, 9), [5], true), ((8, 8), [34], true)], [], [], [], []⟩ Go.Proofs.Try.f27 [a0, a1] objs = ref13_Given [a0, a1] objs := by kernel_rfl
end Go.Ab.F
