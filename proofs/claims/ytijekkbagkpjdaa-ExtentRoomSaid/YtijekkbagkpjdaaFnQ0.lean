/-
  THE RUNS OF THE PROGRAM'S FUNCTIONS. Written by a program (emit.py).
-/
import Derived.Test.YtijekkbagkpjdaaFnF
import Derived.Test.YtijekkbagkpjdaaAbsFast
import Derived.Test.YtijekkbagkpjdaaProg
import Derived.KernelRfl
set_option maxRecDepth 100000
set_option linter.unusedVariables false
namespace Go.Ab.F
open Go Go.Ab Go.Proofs
theorem extent_end_eq (a0 : A) (objs : Heap) : evalFF Go.Proofs.Try.prog (fun g => (fun _ _ => none)) (fun _ _ _ => none) ⟨[], [], [], [], [], []⟩ Go.Proofs.Try.f32 [a0] objs = extent_end [a0] objs := by kernel_rfl
theorem extent_meets_eq (a0 a1 : A) (objs : Heap) : evalFF Go.Proofs.Try.prog (fun g => if g = 36 then (slices_ContainsFunc_Sapi_Extent_api_Extent (En_extent_meets)) else if g = 43 then extent_meets_c1 else (fun _ _ => none)) (En_extent_meets) ⟨[], [], [], [], [], []⟩ Go.Proofs.Try.f33 [a0, a1] objs = extent_meets [a0, a1] objs := by kernel_rfl
theorem extent_Map_Count_eq (a0 : A) (objs : Heap) : evalFF Go.Proofs.Try.prog (fun g => (fun _ _ => none)) (fun _ _ _ => none) ⟨[(0, ⟨[3, 11], [3], [], true⟩)], [], [], [], [], []⟩ Go.Proofs.Try.f9 [a0] objs = extent_Map_Count [a0] objs := by kernel_rfl
theorem law07_extentAlive_eq (objs : Heap) : evalFF Go.Proofs.Try.prog (fun g => if g = 8 then extent_New else if g = 12 then extent_Map_Free else if g = 9 then extent_Map_Count else if g = 11 then extent_Map_Alloc else (fun _ _ => none)) (fun _ _ _ => none) ⟨[], [], [6], [11, 15, 18, 21], [], []⟩ Go.Proofs.Try.f7 [] objs = law07_extentAlive [] objs := by kernel_rfl
theorem extent_Map_Later_eq (a0 a1 : A) (objs : Heap) : evalFF Go.Proofs.Try.prog (fun g => if g = 25 then extent_put else if g = 24 then extent_Map_taken else (fun _ _ => none)) (fun _ _ _ => none) ⟨[], [], [15], [15], [], []⟩ Go.Proofs.Try.f18 [a0, a1] objs = extent_Map_Later [a0, a1] objs := by kernel_rfl
theorem extent_within_c1_eq (a0 a1 : A) (objs : Heap) : evalFF Go.Proofs.Try.prog (fun g => if g = 32 then extent_end else (fun _ _ => none)) (fun _ _ _ => none) ⟨[], [], [], [], [], []⟩ Go.Proofs.Try.f37 [a0, a1] objs = extent_within_c1 [a0, a1] objs := by kernel_rfl
theorem law07_ExtentWaits_eq (a0 a1 : A) (objs : Heap) : evalFF Go.Proofs.Try.prog (fun g => if g = 8 then extent_New else if g = 20 then ref07_Same else if g = 7 then law07_extentAlive else if g = 21 then extent_Map_Waiting else if g = 13 then extent_Map_Take else if g = 10 then extent_Map_List else if g = 18 then extent_Map_Later else if g = 12 then extent_Map_Free else if g = 9 then extent_Map_Count else if g = 19 then extent_Map_Commit else if g = 11 then extent_Map_Alloc else if g = 14 then extent_Map_All else (fun _ _ => none)) (fun _ _ _ => none) ⟨[(0, ⟨[113], [4], [], true⟩)], [((4, 4), [36], true), ((7, 7), [84], true), ((13, 13), [110], true)], [17], [42, 56, 62, 68, 74, 91, 101, 119, 123], [], []⟩ Go.Proofs.Try.f6 [a0, a1] objs = law07_ExtentWaits [a0, a1] objs := by kernel_rfl
end Go.Ab.F
