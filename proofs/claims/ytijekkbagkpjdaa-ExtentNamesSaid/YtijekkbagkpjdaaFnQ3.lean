/-
  THE RUNS OF THE PROGRAM'S FUNCTIONS. Written by a program (emit.py).
-/
import Derived.Test.YtijekkbagkpjdaaFnF
import Derived.Test.YtijekkbagkpjdaaAbsFast
import Derived.Test.YtijekkbagkpjdaaProg
import Derived.KernelRfl
set_option maxRecDepth 100000
set_option linter.unusedVariables false
namespace Go.Ab.F
open Go Go.Ab Go.Proofs
theorem extent_cut_eq (a0 a1 : A) (objs : Heap) : evalFF Go.Proofs.Try.prog (fun g => if g = 32 then extent_end else (fun _ _ => none)) (fun _ _ _ => none) ⟨[(0, ⟨[5, 10], [5], [(5, 2)], true⟩)], [((4, 10), [5], true), ((5, 5), [25], true), ((7, 8), [5], true)], [], [], [(10, [(5, false)])], []⟩ Go.Proofs.Try.f23 [a0, a1] objs = extent_cut [a0, a1] objs := by kernel_rfl
theorem extent_Map_there_eq (a0 a1 : A) (objs : Heap) : evalFF Go.Proofs.Try.prog (fun g => (fun _ _ => none)) (fun _ _ _ => none) ⟨[], [], [], [], [], []⟩ Go.Proofs.Try.f26 [a0, a1] objs = extent_Map_there [a0, a1] objs := by kernel_rfl
theorem extent_meets_c1_eq (a0 a1 : A) (objs : Heap) : evalFF Go.Proofs.Try.prog (fun g => if g = 32 then extent_end else (fun _ _ => none)) (fun _ _ _ => none) ⟨[], [], [], [], [], []⟩ Go.Proofs.Try.f43 [a0, a1] objs = extent_meets_c1 [a0, a1] objs := by kernel_rfl
theorem slices_IndexFunc_Sapi_Extent_api_Extent_eq (En : String → CallFn) (a0 a1 : A) (objs : Heap) : evalFF Go.Proofs.Try.prog (fun g => (fun _ _ => none)) En ⟨[(0, ⟨[8], [4], [], true⟩)], [], [], [], [], []⟩ Go.Proofs.Try.f46 [a0, a1] objs = slices_IndexFunc_Sapi_Extent_api_Extent En [a0, a1] objs := by kernel_rfl
theorem extent_Map_Free_eq (a0 a1 : A) (objs : Heap) : evalFF Go.Proofs.Try.prog (fun g => if g = 25 then extent_put else if g = 24 then extent_Map_taken else (fun _ _ => none)) (fun _ _ _ => none) ⟨[], [], [15], [15], [], []⟩ Go.Proofs.Try.f12 [a0, a1] objs = extent_Map_Free [a0, a1] objs := by kernel_rfl
theorem law07_ExtentNames_eq (objs : Heap) : evalFF Go.Proofs.Try.prog (fun g => if g = 8 then extent_New else if g = 7 then law07_extentAlive else if g = 10 then extent_Map_List else if g = 9 then extent_Map_Count else (fun _ _ => none)) (fun _ _ _ => none) ⟨[], [], [7, 12], [], [], []⟩ Go.Proofs.Try.f3 [] objs = law07_ExtentNames [] objs := by kernel_rfl
end Go.Ab.F
