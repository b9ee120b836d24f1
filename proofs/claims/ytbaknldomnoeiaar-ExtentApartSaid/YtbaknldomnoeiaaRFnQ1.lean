/-
  THE RUNS OF THE PROGRAM'S FUNCTIONS. Written by a program (emit.py).
-/
import Derived.Test.YtbaknldomnoeiaaRFnF
import Derived.Test.YtbaknldomnoeiaaRAbsFast
import Derived.Test.YtbaknldomnoeiaaRProg
import Derived.KernelRfl
set_option maxRecDepth 100000
set_option linter.unusedVariables false
namespace Go.Ab.F
open Go Go.Ab Go.Proofs
theorem slices_ContainsFunc_Sapi_Extent_api_Extent_eq (En : String → CallFn) (a0 a1 : A) (objs : Heap) : evalFF Go.Proofs.Try.prog (fun g => if g = 32 then (slices_IndexFunc_Sapi_Extent_api_Extent En) else (fun _ _ => none)) En ⟨[], [], [], [], [], []⟩ Go.Proofs.Try.f27 [a0, a1] objs = slices_ContainsFunc_Sapi_Extent_api_Extent En [a0, a1] objs := by kernel_rfl
theorem extent_Map_taken_eq (a0 a1 : A) (objs : Heap) : evalFF Go.Proofs.Try.prog (fun g => if g = 24 then extent_meets else if g = 21 then extent_Map_there else (fun _ _ => none)) (fun _ _ _ => none) ⟨[], [], [], [], [], []⟩ Go.Proofs.Try.f18 [a0, a1] objs = extent_Map_taken [a0, a1] objs := by kernel_rfl
theorem extent_Map_All_eq (a0 a1 : A) (objs : Heap) : evalFF Go.Proofs.Try.prog (fun g => if g = 15 then extent_Map_Count else if g = 7 then extent_Map_Alloc else (fun _ _ => none)) (fun _ _ _ => none) ⟨[(0, ⟨[1, 6], [6], [(6, 2)], true⟩)], [], [], [18], [], []⟩ Go.Proofs.Try.f8 [a0, a1] objs = extent_Map_All [a0, a1] objs := by kernel_rfl
theorem extent_within_c1_eq (a0 a1 : A) (objs : Heap) : evalFF Go.Proofs.Try.prog (fun g => if g = 23 then extent_end else (fun _ _ => none)) (fun _ _ _ => none) ⟨[], [], [], [], [], []⟩ Go.Proofs.Try.f28 [a0, a1] objs = extent_within_c1 [a0, a1] objs := by kernel_rfl
theorem ref07_Same_eq (a0 a1 : A) (objs : Heap) : evalFF Go.Proofs.Try.prog (fun g => (fun _ _ => none)) (fun _ _ _ => none) ⟨[(0, ⟨[13], [4], [], true⟩)], [], [], [], [], []⟩ Go.Proofs.Try.f16 [a0, a1] objs = ref07_Same [a0, a1] objs := by kernel_rfl
theorem law07_ExtentWaits_eq (a0 a1 : A) (objs : Heap) : evalFF Go.Proofs.Try.prog (fun g => if g = 6 then extent_New else if g = 16 then ref07_Same else if g = 5 then law07_extentAlive else if g = 13 then extent_Map_Waiting else if g = 14 then extent_Map_Take else if g = 12 then extent_Map_List else if g = 10 then extent_Map_Later else if g = 9 then extent_Map_Free else if g = 15 then extent_Map_Count else if g = 11 then extent_Map_Commit else if g = 7 then extent_Map_Alloc else if g = 8 then extent_Map_All else (fun _ _ => none)) (fun _ _ _ => none) ⟨[(0, ⟨[113], [4], [], true⟩)], [((4, 4), [36], true), ((7, 7), [84], true), ((13, 13), [110], true)], [17], [42, 56, 62, 68, 74, 91, 101, 119, 123], [], []⟩ Go.Proofs.Try.f4 [a0, a1] objs = law07_ExtentWaits [a0, a1] objs := by kernel_rfl
end Go.Ab.F
