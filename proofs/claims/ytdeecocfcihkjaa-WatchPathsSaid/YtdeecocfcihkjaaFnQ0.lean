/-
  THE RUNS OF THE PROGRAM'S FUNCTIONS. Written by a program (emit.py).
-/
import Derived.Test.YtdeecocfcihkjaaFnF
import Derived.Test.YtdeecocfcihkjaaAbsDefer
import Derived.Test.YtdeecocfcihkjaaProg
import Derived.KernelRfl
set_option maxRecDepth 100000
set_option linter.unusedVariables false
namespace Go.Ab.F
open Go Go.Ab Go.Proofs
theorem slices_Grow_Sapi_Cat_api_Cat_eq (a0 a1 : A) (objs : Heap) : evalFF Go.Proofs.Try.prog (fun g => (fun _ _ => none)) (fun _ _ _ => none) ⟨[], [((1, 2), [], true), ((3, 5), [0], true)], [], [], [], []⟩ Go.Proofs.Try.f66 [a0, a1] objs = slices_Grow_Sapi_Cat_api_Cat [a0, a1] objs := by kernel_rfl
theorem cmp_isNaN_uint64_eq (a0 : A) (objs : Heap) : evalFF Go.Proofs.Try.prog (fun g => (fun _ _ => none)) (fun _ _ _ => none) ⟨[], [], [], [], [], []⟩ Go.Proofs.Try.f82 [a0] objs = cmp_isNaN_uint64 [a0] objs := by kernel_rfl
theorem cmp_Less_uint64_eq (a0 a1 : A) (objs : Heap) : evalFF Go.Proofs.Try.prog (fun g => if g = 82 then cmp_isNaN_uint64 else (fun _ _ => none)) (fun _ _ _ => none) ⟨[], [], [], [], [], []⟩ Go.Proofs.Try.f90 [a0, a1] objs = cmp_Less_uint64 [a0, a1] objs := by kernel_rfl
theorem slices_Compact_Suint64_uint64_eq (a0 : A) (objs : Heap) : evalFF Go.Proofs.Try.prog (fun g => (fun _ _ => none)) (fun _ _ _ => none) ⟨[(0, ⟨[3], [2], [], true⟩), (2, ⟨[3, 5], [3], [], true⟩)], [((11, 13), [3], true)], [], [], [], []⟩ Go.Proofs.Try.f41 [a0] objs = slices_Compact_Suint64_uint64 [a0] objs := by kernel_rfl
theorem watch_Units_eq (a0 : A) (objs : Heap) : evalFF Go.Proofs.Try.prog (fun g => (fun _ _ => none)) (fun _ _ _ => none) ⟨[(0, ⟨[3, 8], [3], [], true⟩)], [], [], [], [], []⟩ Go.Proofs.Try.f9 [a0] objs = watch_Units [a0] objs := by kernel_rfl
theorem watch_Path_eq (a0 a1 : A) (objs : Heap) : evalFF Go.Proofs.Try.prog (fun g => if g = 29 then (primClone 1 8) else if g = 19 then graph_Find else (fun _ _ => none)) (fun _ _ _ => none) ⟨[(0, ⟨[6], [4], [], true⟩), (2, ⟨[6, 59], [6], [], true⟩)], [((7, 18), [4, 6], true), ((14, 17), [6], true)], [75], [], [], [1000081]⟩ Go.Proofs.Try.f12 [a0, a1] objs = watch_Path [a0, a1] objs := by kernel_rfl
theorem ref09_Level_eq (a0 a1 : A) (objs : Heap) : evalFF Go.Proofs.Try.prog (fun g => (fun _ _ => none)) (fun _ _ _ => none) ⟨[(0, ⟨[10], [4], [], true⟩)], [], [], [], [], []⟩ Go.Proofs.Try.f96 [a0, a1] objs = ref09_Level [a0, a1] objs := by kernel_rfl
theorem ref09_Right_eq (a0 : A) (objs : Heap) : evalFF Go.Proofs.Try.prog (fun g => if g = 69 then ref09_Form else if g = 38 then ref09_Exact else (fun _ _ => none)) (fun _ _ _ => none) ⟨[(0, ⟨[29], [2], [], true⟩)], [((1, 1), [25], true), ((6, 6), [50], true)], [], [], [], []⟩ Go.Proofs.Try.f44 [a0] objs = ref09_Right [a0] objs := by kernel_rfl
theorem ref01_Canon_eq (a0 : A) (objs : Heap) : evalFF Go.Proofs.Try.prog (fun g => if g = 70 then ref01_parts else (fun _ _ => none)) (fun _ _ _ => none) ⟨[], [((2, 2), [17], true)], [], [], [], []⟩ Go.Proofs.Try.f46 [a0] objs = ref01_Canon [a0] objs := by kernel_rfl
theorem ref11_Right_eq (a0 : A) (objs : Heap) : evalFF Go.Proofs.Try.prog (fun g => if g = 43 then ref11_id else if g = 47 then ref11_clean else if g = 20 then ref11_Same else if g = 45 then ref10_Pure else if g = 44 then ref09_Right else if g = 46 then ref01_Canon else (fun _ _ => none)) (fun _ _ _ => none) ⟨[(1, ⟨[5, 50], [2, 5], [], true⟩), (3, ⟨[122], [2], [], true⟩), (5, ⟨[207], [2], [], true⟩)], [((1, 1), [37], true), ((5, 6), [2, 4], true), ((15, 15), [88], true), ((19, 19), [117], true), ((28, 28), [153], true), ((36, 36), [174], true), ((42, 42), [201], true), ((49, 49), [224], true)], [], [], [], []⟩ Go.Proofs.Try.f25 [a0] objs = ref11_Right [a0] objs := by kernel_rfl
theorem ref13_Fits_eq (a0 a1 a2 : A) (objs : Heap) : evalFF Go.Proofs.Try.prog (fun g => if g = 14 then ref13_Find else (fun _ _ => none)) (fun _ _ _ => none) ⟨[], [((2, 2), [24], true)], [], [], [], []⟩ Go.Proofs.Try.f26 [a0, a1, a2] objs = ref13_Fits [a0, a1, a2] objs := by kernel_rfl
theorem law23_WatchUnits_eq (a0 : A) (objs : Heap) : evalFF Go.Proofs.Try.prog (fun g => if g = 9 then watch_Units else if g = 10 then ref23_Units else if g = 8 then ref13_Sound else if g = 7 then law23_watchAlive else (fun _ _ => none)) (fun _ _ _ => none) ⟨[], [((3, 3), [13], true)], [], [], [], []⟩ Go.Proofs.Try.f3 [a0] objs = law23_WatchUnits [a0] objs := by kernel_rfl
theorem law23_WatchReach_eq (a0 a1 : A) (objs : Heap) : evalFF Go.Proofs.Try.prog (fun g => if g = 12 then watch_Path else if g = 8 then ref13_Sound else if g = 14 then ref13_Find else if g = 15 then ref12_Has else if g = 7 then law23_watchAlive else (fun _ _ => none)) (fun _ _ _ => none) ⟨[(0, ⟨[8], [4], [], true⟩)], [((3, 3), [20], true), ((9, 9), [53], true), ((15, 15), [80], true)], [], [], [], []⟩ Go.Proofs.Try.f5 [a0, a1] objs = law23_WatchReach [a0, a1] objs := by kernel_rfl
end Go.Ab.F
