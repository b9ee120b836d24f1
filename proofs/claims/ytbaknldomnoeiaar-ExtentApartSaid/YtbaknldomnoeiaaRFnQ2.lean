/-
  THE RUNS OF THE PROGRAM'S FUNCTIONS. Written by a program (emit.py).
-/
import Derived.Test.YtbaknldomnoeiaaRFnF
import Derived.Test.YtbaknldomnoeiaaRAbsFast
import Derived.Test.YtbaknldomnoeiaaRProg
import Derived.KernelRfl
set_option maxRecDepth 100000
set_option linter.unusedVariables false
namespace Go.Ab.F
open Go Go.Ab Go.Proofs
theorem extent_Map_there_eq (a0 a1 : A) (objs : Heap) : evalFF Go.Proofs.Try.prog (fun g => (fun _ _ => none)) (fun _ _ _ => none) ⟨[], [], [], [], [], []⟩ Go.Proofs.Try.f21 [a0, a1] objs = extent_Map_there [a0, a1] objs := by kernel_rfl
theorem extent_meets_c1_eq (a0 a1 : A) (objs : Heap) : evalFF Go.Proofs.Try.prog (fun g => if g = 23 then extent_end else (fun _ _ => none)) (fun _ _ _ => none) ⟨[], [], [], [], [], []⟩ Go.Proofs.Try.f29 [a0, a1] objs = extent_meets_c1 [a0, a1] objs := by kernel_rfl
theorem slices_IndexFunc_Sapi_Extent_api_Extent_eq (En : String → CallFn) (a0 a1 : A) (objs : Heap) : evalFF Go.Proofs.Try.prog (fun g => (fun _ _ => none)) En ⟨[(0, ⟨[8], [4], [], true⟩)], [], [], [], [], []⟩ Go.Proofs.Try.f32 [a0, a1] objs = slices_IndexFunc_Sapi_Extent_api_Extent En [a0, a1] objs := by kernel_rfl
theorem extent_put_eq (a0 a1 : A) (objs : Heap) : evalFF Go.Proofs.Try.prog (fun g => if g = 25 then (primInsert 2 16) else if g = 26 then (primDelete 2 16) else if g = 23 then extent_end else (fun _ _ => none)) (fun _ _ _ => none) ⟨[(0, ⟨[5], [5], [(0, 2)], true⟩)], [((2, 2), [19], true), ((5, 5), [45], true), ((5, 7), [0], true), ((8, 8), [81], true), ((8, 10), [0], true)], [26, 65, 100], [26, 65, 100], [], []⟩ Go.Proofs.Try.f19 [a0, a1] objs = extent_put [a0, a1] objs := by kernel_rfl
theorem extent_Map_Free_eq (a0 a1 : A) (objs : Heap) : evalFF Go.Proofs.Try.prog (fun g => if g = 19 then extent_put else if g = 18 then extent_Map_taken else (fun _ _ => none)) (fun _ _ _ => none) ⟨[], [], [15], [15], [], []⟩ Go.Proofs.Try.f9 [a0, a1] objs = extent_Map_Free [a0, a1] objs := by kernel_rfl
theorem extent_Map_Take_eq (a0 a1 : A) (objs : Heap) : evalFF Go.Proofs.Try.prog (fun g => if g = 22 then extent_within else if g = 17 then extent_cut else if g = 21 then extent_Map_there else (fun _ _ => none)) (fun _ _ _ => none) ⟨[], [((1, 1), [17], true)], [24], [], [], []⟩ Go.Proofs.Try.f14 [a0, a1] objs = extent_Map_Take [a0, a1] objs := by kernel_rfl
end Go.Ab.F
