/-
  THE RUNS OF THE PROGRAM'S FUNCTIONS. Written by a program (emit.py).
-/
import Derived.Test.YtijekkbagkpjdaaFnF
import Derived.Test.YtijekkbagkpjdaaAbsFast
import Derived.Test.YtijekkbagkpjdaaProg
import Derived.KernelRfl
set_option maxRecDepth 100000
set_option linter.unusedVariables false
namespace Go.Ab.F
open Go Go.Ab Go.Proofs
theorem extent_New_eq (a0 : A) (objs : Heap) : evalFF Go.Proofs.Try.prog (fun g => (fun _ _ => none)) (fun _ _ _ => none) ⟨[], [((2, 3), [], true)], [], [], [], []⟩ Go.Proofs.Try.f8 [a0] objs = extent_New [a0] objs := by kernel_rfl
theorem extent_Map_Alloc_eq (a0 a1 : A) (objs : Heap) : evalFF Go.Proofs.Try.prog (fun g => if g = 23 then extent_cut else (fun _ _ => none)) (fun _ _ _ => none) ⟨[(1, ⟨[32], [], [], true⟩)], [((8, 11), [], true)], [58], [], [], []⟩ Go.Proofs.Try.f11 [a0, a1] objs = extent_Map_Alloc [a0, a1] objs := by kernel_rfl
theorem law07_extentAlive_eq (objs : Heap) : evalFF Go.Proofs.Try.prog (fun g => if g = 8 then extent_New else if g = 12 then extent_Map_Free else if g = 9 then extent_Map_Count else if g = 11 then extent_Map_Alloc else (fun _ _ => none)) (fun _ _ _ => none) ⟨[], [], [6], [11, 15, 18, 21], [], []⟩ Go.Proofs.Try.f7 [] objs = law07_extentAlive [] objs := by kernel_rfl
theorem extent_Map_List_eq (a0 : A) (objs : Heap) : evalFF Go.Proofs.Try.prog (fun g => if g = 22 then (primClone 2 16) else (fun _ _ => none)) (fun _ _ _ => none) ⟨[], [], [7], [], [], []⟩ Go.Proofs.Try.f10 [a0] objs = extent_Map_List [a0] objs := by kernel_rfl
theorem extent_within_eq (a0 a1 : A) (objs : Heap) : evalFF Go.Proofs.Try.prog (fun g => if g = 36 then (slices_ContainsFunc_Sapi_Extent_api_Extent (En_extent_within)) else if g = 37 then extent_within_c1 else (fun _ _ => none)) (En_extent_within) ⟨[], [], [], [], [], []⟩ Go.Proofs.Try.f27 [a0, a1] objs = extent_within [a0, a1] objs := by kernel_rfl
theorem extent_Map_Commit_eq (a0 : A) (objs : Heap) : evalFF Go.Proofs.Try.prog (fun g => if g = 25 then extent_put else (fun _ _ => none)) (fun _ _ _ => none) ⟨[(0, ⟨[9], [], [], true⟩)], [], [19], [19], [], []⟩ Go.Proofs.Try.f19 [a0] objs = extent_Map_Commit [a0] objs := by kernel_rfl
theorem law07_ExtentWaits_eq (a0 a1 : A) (objs : Heap) : evalFF Go.Proofs.Try.prog (fun g => if g = 8 then extent_New else if g = 20 then ref07_Same else if g = 7 then law07_extentAlive else if g = 21 then extent_Map_Waiting else if g = 13 then extent_Map_Take else if g = 10 then extent_Map_List else if g = 18 then extent_Map_Later else if g = 12 then extent_Map_Free else if g = 9 then extent_Map_Count else if g = 19 then extent_Map_Commit else if g = 11 then extent_Map_Alloc else if g = 14 then extent_Map_All else (fun _ _ => none)) (fun _ _ _ => none) ⟨[(0, ⟨[113], [4], [], true⟩)], [((4, 4), [36], true), ((7, 7), [84], true), ((13, 13), [110], true)], [17], [42, 56, 62, 68, 74, 91, 101, 119, 123], [], []⟩ Go.Proofs.Try.f6 [a0, a1] objs = law07_ExtentWaits [a0, a1] objs := by kernel_rfl
end Go.Ab.F
