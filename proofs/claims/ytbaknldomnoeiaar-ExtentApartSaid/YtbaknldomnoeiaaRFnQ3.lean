/-
  THE RUNS OF THE PROGRAM'S FUNCTIONS. Written by a program (emit.py).
-/
import Derived.Test.YtbaknldomnoeiaaRFnF
import Derived.Test.YtbaknldomnoeiaaRAbsFast
import Derived.Test.YtbaknldomnoeiaaRProg
import Derived.KernelRfl
set_option maxRecDepth 100000
set_option linter.unusedVariables false
namespace Go.Ab.F
open Go Go.Ab Go.Proofs
theorem extent_New_eq (a0 : A) (objs : Heap) : evalFF Go.Proofs.Try.prog (fun g => (fun _ _ => none)) (fun _ _ _ => none) ⟨[], [((2, 3), [], true)], [], [], [], []⟩ Go.Proofs.Try.f6 [a0] objs = extent_New [a0] objs := by kernel_rfl
theorem extent_cut_eq (a0 a1 : A) (objs : Heap) : evalFF Go.Proofs.Try.prog (fun g => if g = 23 then extent_end else (fun _ _ => none)) (fun _ _ _ => none) ⟨[(0, ⟨[5, 10], [5], [(5, 2)], true⟩)], [((4, 10), [5], true), ((5, 5), [25], true), ((7, 8), [5], true)], [], [], [(10, [(5, false)])], []⟩ Go.Proofs.Try.f17 [a0, a1] objs = extent_cut [a0, a1] objs := by kernel_rfl
theorem extent_Map_Alloc_eq (a0 a1 : A) (objs : Heap) : evalFF Go.Proofs.Try.prog (fun g => if g = 17 then extent_cut else (fun _ _ => none)) (fun _ _ _ => none) ⟨[(1, ⟨[32], [], [], true⟩)], [((8, 11), [], true)], [58], [], [], []⟩ Go.Proofs.Try.f7 [a0, a1] objs = extent_Map_Alloc [a0, a1] objs := by kernel_rfl
theorem extent_Map_Commit_eq (a0 : A) (objs : Heap) : evalFF Go.Proofs.Try.prog (fun g => if g = 19 then extent_put else (fun _ _ => none)) (fun _ _ _ => none) ⟨[(0, ⟨[9], [], [], true⟩)], [], [19], [19], [], []⟩ Go.Proofs.Try.f11 [a0] objs = extent_Map_Commit [a0] objs := by kernel_rfl
theorem extent_Map_List_eq (a0 : A) (objs : Heap) : evalFF Go.Proofs.Try.prog (fun g => if g = 20 then (primClone 2 16) else (fun _ _ => none)) (fun _ _ _ => none) ⟨[], [], [7], [], [], []⟩ Go.Proofs.Try.f12 [a0] objs = extent_Map_List [a0] objs := by kernel_rfl
theorem extent_within_eq (a0 a1 : A) (objs : Heap) : evalFF Go.Proofs.Try.prog (fun g => if g = 27 then (slices_ContainsFunc_Sapi_Extent_api_Extent (En_extent_within)) else if g = 28 then extent_within_c1 else (fun _ _ => none)) (En_extent_within) ⟨[], [], [], [], [], []⟩ Go.Proofs.Try.f22 [a0, a1] objs = extent_within [a0, a1] objs := by kernel_rfl
end Go.Ab.F
