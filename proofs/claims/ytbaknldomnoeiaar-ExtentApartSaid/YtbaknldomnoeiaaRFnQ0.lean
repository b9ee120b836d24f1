/-
  THE RUNS OF THE PROGRAM'S FUNCTIONS. Written by a program (emit.py).
-/
import Derived.Test.YtbaknldomnoeiaaRFnF
import Derived.Test.YtbaknldomnoeiaaRAbsFast
import Derived.Test.YtbaknldomnoeiaaRProg
import Derived.KernelRfl
set_option maxRecDepth 100000
set_option linter.unusedVariables false
namespace Go.Ab.F
open Go Go.Ab Go.Proofs
theorem extent_end_eq (a0 : A) (objs : Heap) : evalFF Go.Proofs.Try.prog (fun g => (fun _ _ => none)) (fun _ _ _ => none) ⟨[], [], [], [], [], []⟩ Go.Proofs.Try.f23 [a0] objs = extent_end [a0] objs := by kernel_rfl
theorem extent_meets_eq (a0 a1 : A) (objs : Heap) : evalFF Go.Proofs.Try.prog (fun g => if g = 27 then (slices_ContainsFunc_Sapi_Extent_api_Extent (En_extent_meets)) else if g = 29 then extent_meets_c1 else (fun _ _ => none)) (En_extent_meets) ⟨[], [], [], [], [], []⟩ Go.Proofs.Try.f24 [a0, a1] objs = extent_meets [a0, a1] objs := by kernel_rfl
theorem extent_Map_Count_eq (a0 : A) (objs : Heap) : evalFF Go.Proofs.Try.prog (fun g => (fun _ _ => none)) (fun _ _ _ => none) ⟨[(0, ⟨[3, 11], [3], [], true⟩)], [], [], [], [], []⟩ Go.Proofs.Try.f15 [a0] objs = extent_Map_Count [a0] objs := by kernel_rfl
theorem law07_extentAlive_eq (objs : Heap) : evalFF Go.Proofs.Try.prog (fun g => if g = 6 then extent_New else if g = 9 then extent_Map_Free else if g = 15 then extent_Map_Count else if g = 7 then extent_Map_Alloc else (fun _ _ => none)) (fun _ _ _ => none) ⟨[], [], [6], [11, 15, 18, 21], [], []⟩ Go.Proofs.Try.f5 [] objs = law07_extentAlive [] objs := by kernel_rfl
theorem extent_Map_Later_eq (a0 a1 : A) (objs : Heap) : evalFF Go.Proofs.Try.prog (fun g => if g = 19 then extent_put else if g = 18 then extent_Map_taken else (fun _ _ => none)) (fun _ _ _ => none) ⟨[], [], [15], [15], [], []⟩ Go.Proofs.Try.f10 [a0, a1] objs = extent_Map_Later [a0, a1] objs := by kernel_rfl
theorem extent_Map_Waiting_eq (a0 : A) (objs : Heap) : evalFF Go.Proofs.Try.prog (fun g => if g = 20 then (primClone 2 16) else (fun _ _ => none)) (fun _ _ _ => none) ⟨[], [], [7], [], [], []⟩ Go.Proofs.Try.f13 [a0] objs = extent_Map_Waiting [a0] objs := by kernel_rfl
theorem law07_ExtentApart_eq (a0 a1 : A) (objs : Heap) : evalFF Go.Proofs.Try.prog (fun g => if g = 6 then extent_New else if g = 5 then law07_extentAlive else if g = 13 then extent_Map_Waiting else if g = 12 then extent_Map_List else if g = 10 then extent_Map_Later else if g = 9 then extent_Map_Free else if g = 11 then extent_Map_Commit else if g = 7 then extent_Map_Alloc else if g = 8 then extent_Map_All else (fun _ _ => none)) (fun _ _ _ => none) ⟨[(0, ⟨[6, 48], [4], [], true⟩), (3, ⟨[13, 81], [13], [], true⟩), (5, ⟨[19, 153], [4, 19], [], true⟩), (7, ⟨[19, 22], [19], [], true⟩), (9, ⟨[23], [4], [], true⟩)], [((4, 4), [42], true), ((9, 58), [4, 6], true), ((10, 35), [4, 6], true), ((11, 12), [54], true), ((24, 24), [98], true), ((27, 28), [102], true), ((32, 32), [134], true), ((44, 44), [173], true)], [27], [61, 76, 121, 131, 138], [], []⟩ Go.Proofs.Try.f3 [a0, a1] objs = law07_ExtentApart [a0, a1] objs := by kernel_rfl
end Go.Ab.F
