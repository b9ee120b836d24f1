/-
  THE RUNS OF THE PROGRAM'S FUNCTIONS. Written by a program (emit.py).
-/
import Derived.Test.YtijekkbagkpjdaaFnF
import Derived.Test.YtijekkbagkpjdaaAbsFast
import Derived.Test.YtijekkbagkpjdaaProg
import Derived.KernelRfl
set_option maxRecDepth 100000
set_option linter.unusedVariables false
namespace Go.Ab.F
open Go Go.Ab Go.Proofs
theorem extent_Map_taken_eq (a0 a1 : A) (objs : Heap) : evalFF Go.Proofs.Try.prog (fun g => if g = 33 then extent_meets else if g = 26 then extent_Map_there else (fun _ _ => none)) (fun _ _ _ => none) ⟨[], [], [], [], [], []⟩ Go.Proofs.Try.f24 [a0, a1] objs = extent_Map_taken [a0, a1] objs := by kernel_rfl
theorem extent_put_eq (a0 a1 : A) (objs : Heap) : evalFF Go.Proofs.Try.prog (fun g => if g = 34 then (primInsert 2 16) else if g = 35 then (primDelete 2 16) else if g = 32 then extent_end else (fun _ _ => none)) (fun _ _ _ => none) ⟨[(0, ⟨[5], [5], [(0, 2)], true⟩)], [((2, 2), [19], true), ((5, 5), [45], true), ((5, 7), [0], true), ((8, 8), [81], true), ((8, 10), [0], true)], [26, 65, 100], [26, 65, 100], [], []⟩ Go.Proofs.Try.f25 [a0, a1] objs = extent_put [a0, a1] objs := by kernel_rfl
theorem extent_Map_Take_eq (a0 a1 : A) (objs : Heap) : evalFF Go.Proofs.Try.prog (fun g => if g = 27 then extent_within else if g = 23 then extent_cut else if g = 26 then extent_Map_there else (fun _ _ => none)) (fun _ _ _ => none) ⟨[], [((1, 1), [17], true)], [24], [], [], []⟩ Go.Proofs.Try.f13 [a0, a1] objs = extent_Map_Take [a0, a1] objs := by kernel_rfl
theorem extent_Map_All_eq (a0 a1 : A) (objs : Heap) : evalFF Go.Proofs.Try.prog (fun g => if g = 9 then extent_Map_Count else if g = 11 then extent_Map_Alloc else (fun _ _ => none)) (fun _ _ _ => none) ⟨[(0, ⟨[1, 6], [6], [(6, 2)], true⟩)], [], [], [18], [], []⟩ Go.Proofs.Try.f14 [a0, a1] objs = extent_Map_All [a0, a1] objs := by kernel_rfl
theorem ref07_Same_eq (a0 a1 : A) (objs : Heap) : evalFF Go.Proofs.Try.prog (fun g => (fun _ _ => none)) (fun _ _ _ => none) ⟨[(0, ⟨[13], [4], [], true⟩)], [], [], [], [], []⟩ Go.Proofs.Try.f20 [a0, a1] objs = ref07_Same [a0, a1] objs := by kernel_rfl
theorem extent_Map_Waiting_eq (a0 : A) (objs : Heap) : evalFF Go.Proofs.Try.prog (fun g => if g = 22 then (primClone 2 16) else (fun _ _ => none)) (fun _ _ _ => none) ⟨[], [], [7], [], [], []⟩ Go.Proofs.Try.f21 [a0] objs = extent_Map_Waiting [a0] objs := by kernel_rfl
end Go.Ab.F
