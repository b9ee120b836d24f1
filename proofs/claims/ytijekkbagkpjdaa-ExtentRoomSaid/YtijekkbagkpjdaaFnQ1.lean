/-
  THE RUNS OF THE PROGRAM'S FUNCTIONS. Written by a program (emit.py).
-/
import Derived.Test.YtijekkbagkpjdaaFnF
import Derived.Test.YtijekkbagkpjdaaAbsFast
import Derived.Test.YtijekkbagkpjdaaProg
import Derived.KernelRfl
set_option maxRecDepth 100000
set_option linter.unusedVariables false
namespace Go.Ab.F
open Go Go.Ab Go.Proofs
theorem slices_ContainsFunc_Sapi_Extent_api_Extent_eq (En : String → CallFn) (a0 a1 : A) (objs : Heap) : evalFF Go.Proofs.Try.prog (fun g => if g = 46 then (slices_IndexFunc_Sapi_Extent_api_Extent En) else (fun _ _ => none)) En ⟨[], [], [], [], [], []⟩ Go.Proofs.Try.f36 [a0, a1] objs = slices_ContainsFunc_Sapi_Extent_api_Extent En [a0, a1] objs := by kernel_rfl
theorem extent_Map_taken_eq (a0 a1 : A) (objs : Heap) : evalFF Go.Proofs.Try.prog (fun g => if g = 33 then extent_meets else if g = 26 then extent_Map_there else (fun _ _ => none)) (fun _ _ _ => none) ⟨[], [], [], [], [], []⟩ Go.Proofs.Try.f24 [a0, a1] objs = extent_Map_taken [a0, a1] objs := by kernel_rfl
theorem extent_Map_All_eq (a0 a1 : A) (objs : Heap) : evalFF Go.Proofs.Try.prog (fun g => if g = 9 then extent_Map_Count else if g = 11 then extent_Map_Alloc else (fun _ _ => none)) (fun _ _ _ => none) ⟨[(0, ⟨[1, 6], [6], [(6, 2)], true⟩)], [], [], [18], [], []⟩ Go.Proofs.Try.f14 [a0, a1] objs = extent_Map_All [a0, a1] objs := by kernel_rfl
theorem ref07_Same_eq (a0 a1 : A) (objs : Heap) : evalFF Go.Proofs.Try.prog (fun g => (fun _ _ => none)) (fun _ _ _ => none) ⟨[(0, ⟨[13], [4], [], true⟩)], [], [], [], [], []⟩ Go.Proofs.Try.f20 [a0, a1] objs = ref07_Same [a0, a1] objs := by kernel_rfl
theorem extent_Map_Waiting_eq (a0 : A) (objs : Heap) : evalFF Go.Proofs.Try.prog (fun g => if g = 22 then (primClone 2 16) else (fun _ _ => none)) (fun _ _ _ => none) ⟨[], [], [7], [], [], []⟩ Go.Proofs.Try.f21 [a0] objs = extent_Map_Waiting [a0] objs := by kernel_rfl
theorem law07_ExtentRoom_eq (a0 a1 a2 : A) (objs : Heap) : evalFF Go.Proofs.Try.prog (fun g => if g = 8 then extent_New else if g = 7 then law07_extentAlive else if g = 13 then extent_Map_Take else if g = 12 then extent_Map_Free else if g = 9 then extent_Map_Count else if g = 11 then extent_Map_Alloc else if g = 14 then extent_Map_All else (fun _ _ => none)) (fun _ _ _ => none) ⟨[(0, ⟨[41], [], [], true⟩), (2, ⟨[15, 93], [15], [], true⟩)], [((4, 4), [36], true), ((10, 10), [58], true), ((10, 11), [], true)], [21], [49, 61, 65, 72], [], []⟩ Go.Proofs.Try.f4 [a0, a1, a2] objs = law07_ExtentRoom [a0, a1, a2] objs := by kernel_rfl
end Go.Ab.F
