/-
 THE RUNS OF THE PROGRAM'S FUNCTIONS. Written by a program (emit.py).
-/
import Derived.Test.YtocnjegcmmfpfaaFnF
import Derived.Test.YtocnjegcmmfpfaaAbsDefer
import Derived.Test.YtocnjegcmmfpfaaProg
import Derived.KernelRfl
set_option maxRecDepth 100000
set_option linter.unusedVariables false
namespace Go.Ab.F
open Go Go.Ab Go.Proofs
theorem qi6 (a0 : A) (objs : Heap) : evalFF Go.Proofs.Try.prog (fun g => (fun _ _ => none)) (fun _ _ _ => none) ⟨[], [], [], [], [], []⟩ Go.Proofs.Try.f27 [a0] objs = qar [a0] objs := by kernel_rfl
theorem qiK (a0 a1 : A) (objs : Heap) : evalFF Go.Proofs.Try.prog (fun g => if g = 29 then qa6 else (fun _ _ => none)) (fun _ _ _ => none) ⟨[], [((2, 3), [5], true)], [], [], [], []⟩ Go.Proofs.Try.f28 [a0, a1] objs = qaU [a0, a1] objs := by kernel_rfl
theorem qhc (a0 : A) (objs : Heap) : evalFF Go.Proofs.Try.prog (fun g => if g = 37 then (qa8 1 8) else if g = 38 then (qa8 2 16) else if g = 53 then (qa8 1 8) else if g = 27 then qar else (fun _ _ => none)) (fun _ _ _ => none) ⟨[], [], [37, 44, 53, 60, 72, 80, 89, 97], [], [], [1000080, 1000097]⟩ Go.Proofs.Try.f42 [a0] objs = qan [a0] objs := by kernel_rfl
theorem qiN (a0 a1 a2 : A) (objs : Heap) : evalFF Go.Proofs.Try.prog (fun g => if g = 31 then (qdD big) else if g = 14 then qbn else (fun _ _ => none)) (fun _ _ _ => none) ⟨[], [((2, 4), [7], true), ((6, 7), [10], true)], [], [], [], []⟩ Go.Proofs.Try.f17 [a0, a1, a2] objs = qaW [a0, a1, a2] objs := by kernel_rfl
theorem qfU (a0 a1 a2 : A) (objs : Heap) : evalFF Go.Proofs.Try.prog (fun g => (fun _ _ => none)) (fun _ _ _ => none) ⟨[], [((1, 2), [], true)], [], [], [], []⟩ Go.Proofs.Try.f26 [a0, a1, a2] objs = qaF [a0, a1, a2] objs := by kernel_rfl
theorem qi4 (a0 a1 : A) (objs : Heap) : evalFF Go.Proofs.Try.prog (fun g => if g = 44 then (qaT 1 8) else if g = 62 then (qaT 1 8) else if g = 60 then qal else if g = 61 then qam else if g = 37 then (qa8 1 8) else if g = 42 then qan else if g = 27 then qar else (fun _ _ => none)) (fun _ _ _ => none) ⟨[], [((3, 4), [], true)], [29, 73, 86, 104, 113, 143], [47, 72, 85, 104, 113], [(4, [(6, true)]), (5, [(6, true)]), (9, [(0, true)])], [1000104, 1000113, 1000143]⟩ Go.Proofs.Try.f46 [a0, a1] objs = qb0 [a0, a1] objs := by kernel_rfl
theorem qiR (a0 a1 : A) (objs : Heap) : evalFF Go.Proofs.Try.prog (fun g => if g = 27 then qar else if g = 32 then (qdE big) else if g = 14 then qbn else (fun _ _ => none)) (fun _ _ _ => none) ⟨[], [((5, 5), [33], true), ((5, 6), [7], true)], [], [], [], []⟩ Go.Proofs.Try.f18 [a0, a1] objs = qbe [a0, a1] objs := by kernel_rfl
theorem qkO (a0 a1 : A) (objs : Heap) : evalFF Go.Proofs.Try.prog (fun g => (fun _ _ => none)) (fun _ _ _ => none) ⟨[(0, ⟨[13], [4], [], true⟩)], [], [], [], [], []⟩ Go.Proofs.Try.f11 [a0, a1] objs = qcn [a0, a1] objs := by kernel_rfl
theorem tree_Of_eq (a0 : A) (objs : Heap) : evalFF Go.Proofs.Try.prog (fun g => if g = 34 then (qaz big) else (fun _ _ => none)) (fun _ _ _ => none) ⟨[], [((3, 3), [24], true)], [], [11], [], []⟩ Go.Proofs.Try.f20 [a0] objs = tree_Of [a0] objs := by kernel_rfl
end Go.Ab.F
