/-
 THE RUNS OF THE PROGRAM'S FUNCTIONS. Written by a program (emit.py).
-/
import Derived.Test.YtocnjegcmmfpfaaFnF
import Derived.Test.YtocnjegcmmfpfaaAbsDefer
import Derived.Test.YtocnjegcmmfpfaaProg
import Derived.KernelRfl
set_option maxRecDepth 100000
set_option linter.unusedVariables false
namespace Go.Ab.F
open Go Go.Ab Go.Proofs
theorem qmt (objs : Heap) : evalFF Go.Proofs.Try.prog (fun g => (fun _ _ => none)) (fun _ _ _ => none) ⟨[], [], [], [], [], []⟩ Go.Proofs.Try.f24 [] objs = qiT [] objs := by kernel_rfl
theorem qfP (a0 : A) (objs : Heap) : evalFF Go.Proofs.Try.prog (fun g => (fun _ _ => none)) (fun _ _ _ => none) ⟨[], [], [], [], [], []⟩ Go.Proofs.Try.f36 [a0] objs = qb5 [a0] objs := by kernel_rfl
theorem qda (a0 a1 : A) (objs : Heap) : evalFF Go.Proofs.Try.prog (fun g => if g = 36 then qb5 else if g = 35 then qbM else (fun _ _ => none)) (fun _ _ _ => none) ⟨[(0, ⟨[7, 8], [7], [], true⟩)], [], [], [], [], []⟩ Go.Proofs.Try.f29 [a0, a1] objs = qa6 [a0, a1] objs := by kernel_rfl
theorem qhd (a0 : A) (objs : Heap) : evalFF Go.Proofs.Try.prog (fun g => if g = 37 then (qa8 1 8) else if g = 38 then (qa8 2 16) else if g = 53 then (qa8 1 8) else (fun _ _ => none)) (fun _ _ _ => none) ⟨[], [], [7, 12, 17], [], [], []⟩ Go.Proofs.Try.f39 [a0] objs = qbm [a0] objs := by kernel_rfl
theorem qiL (self : CallFn) (a0 a1 a2 : A) (objs : Heap) : evalFF Go.Proofs.Try.prog (fun g => if g = 40 then (qaO 1 8) else if g = 41 then (qaO 2 16) else if g = 43 then (qaO 1 8) else if g = 29 then qa6 else if g = 28 then qaU else if g = 42 then qan else if g = 31 then self else if g = 27 then qar else if g = 39 then qbm else (fun _ _ => none)) (fun _ _ _ => none) ⟨[], [((12, 13), [], true)], [17, 47, 55, 61, 100, 109, 115], [47, 55, 61, 100, 109, 115], [(7, [(9, true)]), (13, [(9, true)])], [1000047, 1000055, 1000100, 1000109]⟩ Go.Proofs.Try.f31 [a0, a1, a2] objs = qaQ self [a0, a1, a2] objs := by kernel_rfl
theorem qhf (a0 : A) (objs : Heap) : evalFF Go.Proofs.Try.prog (fun g => if g = 30 then (qbT big) else (fun _ _ => none)) (fun _ _ _ => none) ⟨[], [], [7], [7], [], []⟩ Go.Proofs.Try.f16 [a0] objs = qb8 [a0] objs := by kernel_rfl
theorem qcH (a0 : A) (objs : Heap) : evalFF Go.Proofs.Try.prog (fun g => if g = 67 then (qbW 2 16) else (fun _ _ => none)) (fun _ _ _ => none) ⟨[(0, ⟨[3, 11], [3], [], true⟩), (2, ⟨[6, 27], [6], [], true⟩)], [((4, 7), [3], true)], [24], [24], [], []⟩ Go.Proofs.Try.f60 [a0] objs = qal [a0] objs := by kernel_rfl
theorem qiM (self : CallFn) (a0 a1 : A) (objs : Heap) : evalFF Go.Proofs.Try.prog (fun g => if g = 44 then (qaT 1 8) else if g = 45 then (qaT 2 16) else if g = 29 then qa6 else if g = 28 then qaU else if g = 46 then qb0 else if g = 27 then qar else if g = 32 then self else if g = 39 then qbm else (fun _ _ => none)) (fun _ _ _ => none) ⟨[], [((3, 5), [], true), ((9, 10), [], true)], [10, 32, 40], [32, 40, 80], [(5, [(5, true)])], [1000032, 1000040]⟩ Go.Proofs.Try.f32 [a0, a1] objs = qaR self [a0, a1] objs := by kernel_rfl
theorem qlH (a0 a1 : A) (objs : Heap) : evalFF Go.Proofs.Try.prog (fun g => (fun _ _ => none)) (fun _ _ _ => none) ⟨[(0, ⟨[5, 11], [5], [], true⟩)], [((4, 6), [5], true)], [], [], [], []⟩ Go.Proofs.Try.f23 [a0, a1] objs = qec [a0, a1] objs := by kernel_rfl
theorem qjt (a0 a1 a2 a3 : A) (objs : Heap) : evalFF Go.Proofs.Try.prog (fun g => (fun _ _ => none)) (fun _ _ _ => none) ⟨[(0, ⟨[17], [8], [], true⟩)], [((4, 4), [45], true)], [], [], [], []⟩ Go.Proofs.Try.f48 [a0, a1, a2, a3] objs = qc6 [a0, a1, a2, a3] objs := by kernel_rfl
end Go.Ab.F
