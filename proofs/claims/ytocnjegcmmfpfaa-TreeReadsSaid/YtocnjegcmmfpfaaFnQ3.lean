/-
 THE RUNS OF THE PROGRAM'S FUNCTIONS. Written by a program (emit.py).
-/
import Derived.Test.YtocnjegcmmfpfaaFnF
import Derived.Test.YtocnjegcmmfpfaaAbsDefer
import Derived.Test.YtocnjegcmmfpfaaProg
import Derived.KernelRfl
set_option maxRecDepth 100000
set_option linter.unusedVariables false
namespace Go.Ab.F
open Go Go.Ab Go.Proofs
theorem qiO (a0 : A) (objs : Heap) : evalFF Go.Proofs.Try.prog (fun g => (fun _ _ => none)) (fun _ _ _ => none) ⟨[], [], [], [], [], []⟩ Go.Proofs.Try.f10 [a0] objs = qbd [a0] objs := by kernel_rfl
theorem qhZ (a0 a1 : A) (objs : Heap) : evalFF Go.Proofs.Try.prog (fun g => if g = 52 then qbq else (fun _ _ => none)) (fun _ _ _ => none) ⟨[], [], [], [], [], []⟩ Go.Proofs.Try.f35 [a0, a1] objs = qbM [a0, a1] objs := by kernel_rfl
theorem qiP (a0 a1 : A) (objs : Heap) : evalFF Go.Proofs.Try.prog (fun g => if g = 29 then qa6 else if g = 28 then qaU else if g = 27 then qar else (fun _ _ => none)) (fun _ _ _ => none) ⟨[(0, ⟨[6], [6], [], true⟩)], [], [], [], [], []⟩ Go.Proofs.Try.f14 [a0, a1] objs = qbn [a0, a1] objs := by kernel_rfl
theorem qhb (En : String → CallFn) (self : CallFn) (a0 a1 a2 : A) (objs : Heap) : evalFF Go.Proofs.Try.prog (fun g => if g = 28 then qaU else if g = 25 then self else if g = 27 then qar else (fun _ _ => none)) En ⟨[(0, ⟨[18], [6], [], true⟩), (2, ⟨[50], [6], [], true⟩)], [((5, 5), [39], true)], [], [37, 57], [], []⟩ Go.Proofs.Try.f25 [a0, a1, a2] objs = qaL En self [a0, a1, a2] objs := by kernel_rfl
theorem qhe (a0 a1 a2 : A) (objs : Heap) : evalFF Go.Proofs.Try.prog (fun g => if g = 25 then (qbZ (qak) big) else if g = 26 then qaF else (fun _ _ => none)) (qak) ⟨[], [], [], [14], [], []⟩ Go.Proofs.Try.f12 [a0, a1, a2] objs = qaG [a0, a1, a2] objs := by kernel_rfl
theorem qhR (objs : Heap) : evalFF Go.Proofs.Try.prog (fun g => if g = 24 then qiT else if g = 12 then qaG else if g = 17 then qaW else if g = 16 then qb8 else if g = 10 then qbd else (fun _ _ => none)) (fun _ _ _ => none) ⟨[], [((2, 2), [11], true)], [], [], [], []⟩ Go.Proofs.Try.f8 [] objs = qc4 [] objs := by kernel_rfl
theorem qkM (a0 a1 : A) (objs : Heap) : evalFF Go.Proofs.Try.prog (fun g => (fun _ _ => none)) (fun _ _ _ => none) ⟨[(0, ⟨[5], [4], [], true⟩)], [((1, 1), [19], true)], [], [], [], []⟩ Go.Proofs.Try.f47 [a0, a1] objs = qd3 [a0, a1] objs := by kernel_rfl
theorem qfN (a0 a1 : A) (objs : Heap) : evalFF Go.Proofs.Try.prog (fun g => (fun _ _ => none)) (fun _ _ _ => none) ⟨[], [], [], [], [], []⟩ Go.Proofs.Try.f51 [a0, a1] objs = qat [a0, a1] objs := by kernel_rfl
theorem qdA (En : String → CallFn) (a0 a1 : A) (objs : Heap) : evalFF Go.Proofs.Try.prog (fun g => (fun _ _ => none)) En ⟨[(0, ⟨[8], [4], [], true⟩)], [], [], [], [], []⟩ Go.Proofs.Try.f63 [a0, a1] objs = qao En [a0, a1] objs := by kernel_rfl
theorem qhT (a0 a1 : A) (objs : Heap) : evalFF Go.Proofs.Try.prog (fun g => if g = 20 then tree_Of else if g = 11 then qcn else if g = 19 then qc2 else if g = 22 then qeb else if g = 23 then qec else if g = 21 then qeG else if g = 8 then qc4 else if g = 12 then qaG else if g = 17 then qaW else if g = 16 then qb8 else if g = 10 then qbd else if g = 18 then qbe else (fun _ _ => none)) (fun _ _ _ => none) ⟨[], [((10, 10), [60], true)], [], [], [], []⟩ Go.Proofs.Try.f7 [a0, a1] objs = qc5 [a0, a1] objs := by kernel_rfl
end Go.Ab.F
