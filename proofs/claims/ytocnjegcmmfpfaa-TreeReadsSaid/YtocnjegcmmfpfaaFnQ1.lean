/-
 THE RUNS OF THE PROGRAM'S FUNCTIONS. Written by a program (emit.py).
-/
import Derived.Test.YtocnjegcmmfpfaaFnF
import Derived.Test.YtocnjegcmmfpfaaAbsDefer
import Derived.Test.YtocnjegcmmfpfaaProg
import Derived.KernelRfl
set_option maxRecDepth 100000
set_option linter.unusedVariables false
namespace Go.Ab.F
open Go Go.Ab Go.Proofs
theorem qh7 (a0 : A) (objs : Heap) : evalFF Go.Proofs.Try.prog (fun g => (fun _ _ => none)) (fun _ _ _ => none) ⟨[], [], [], [], [], []⟩ Go.Proofs.Try.f52 [a0] objs = qbq [a0] objs := by kernel_rfl
theorem qi5 (self : CallFn) (a0 a1 : A) (objs : Heap) : evalFF Go.Proofs.Try.prog (fun g => if g = 37 then (qa8 1 8) else if g = 38 then (qa8 2 16) else if g = 30 then self else (fun _ _ => none)) (fun _ _ _ => none) ⟨[(0, ⟨[1, 29], [1], [], true⟩)], [], [15, 20, 48], [48], [(2, [(1, false)])], []⟩ Go.Proofs.Try.f30 [a0, a1] objs = qaV self [a0, a1] objs := by kernel_rfl
theorem qlF (a0 a1 a2 : A) (objs : Heap) : evalFF Go.Proofs.Try.prog (fun g => (fun _ _ => none)) (fun _ _ _ => none) ⟨[(0, ⟨[7, 8, 14], [7, 8], [], true⟩)], [((5, 10), [7, 8], true), ((6, 6), [25], true), ((6, 8), [7, 8], true), ((12, 13), [7], true)], [], [], [], []⟩ Go.Proofs.Try.f22 [a0, a1, a2] objs = qeb [a0, a1, a2] objs := by kernel_rfl
theorem qcW (a0 : A) (objs : Heap) : evalFF Go.Proofs.Try.prog (fun g => if g = 68 then (qbW 1 8) else (fun _ _ => none)) (fun _ _ _ => none) ⟨[(0, ⟨[3, 11], [3], [], true⟩), (2, ⟨[6, 27], [6], [], true⟩)], [((4, 7), [3], true)], [24], [24], [], []⟩ Go.Proofs.Try.f61 [a0] objs = qam [a0] objs := by kernel_rfl
theorem qkK (self : CallFn) (a0 a1 : A) (objs : Heap) : evalFF Go.Proofs.Try.prog (fun g => if g = 33 then self else if g = 48 then qc6 else if g = 47 then qd3 else (fun _ _ => none)) (fun _ _ _ => none) ⟨[(0, ⟨[9, 46], [9], [], true⟩), (2, ⟨[9, 11, 12, 68], [4, 5, 6, 7, 9, 11, 12], [], true⟩), (4, ⟨[19], [4, 5, 6, 7], [], true⟩)], [((1, 1), [33], true), ((19, 19), [96], true)], [], [], [(9, [(9, false)])], []⟩ Go.Proofs.Try.f33 [a0, a1] objs = qba self [a0, a1] objs := by kernel_rfl
theorem qkQ (a0 : A) (objs : Heap) : evalFF Go.Proofs.Try.prog (fun g => if g = 33 then (qcm big) else (fun _ _ => none)) (fun _ _ _ => none) ⟨[], [((2, 2), [22], true)], [], [], [], []⟩ Go.Proofs.Try.f19 [a0] objs = qc2 [a0] objs := by kernel_rfl
theorem qgR (a0 a1 a2 : A) (objs : Heap) : evalFF Go.Proofs.Try.prog (fun g => (fun _ _ => none)) (fun _ _ _ => none) ⟨[(0, ⟨[7], [6], [], true⟩)], [((1, 1), [21], true)], [], [], [], []⟩ Go.Proofs.Try.f49 [a0, a1, a2] objs = qbc [a0, a1, a2] objs := by kernel_rfl
theorem qd9 (En : String → CallFn) (a0 a1 : A) (objs : Heap) : evalFF Go.Proofs.Try.prog (fun g => if g = 63 then (qao En) else (fun _ _ => none)) En ⟨[], [], [], [], [], []⟩ Go.Proofs.Try.f50 [a0, a1] objs = qav En [a0, a1] objs := by kernel_rfl
theorem qgP (self : CallFn) (a0 a1 a2 a3 : A) (objs : Heap) : evalFF Go.Proofs.Try.prog (fun g => if g = 50 then (qav (qau)) else if g = 37 then (qa8 1 8) else if g = 38 then (qa8 2 16) else if g = 51 then qat else if g = 34 then self else if g = 49 then qbc else (fun _ _ => none)) (qau) ⟨[(0, ⟨[132], [], [], true⟩)], [((1, 1), [48], true), ((7, 7), [], true), ((9, 10), [], true), ((11, 11), [], true), ((18, 19), [], true), ((20, 21), [], true)], [70, 73], [170], [(22, [(0, false), (10, true)])], [1000170]⟩ Go.Proofs.Try.f34 [a0, a1, a2, a3] objs = qaj self [a0, a1, a2, a3] objs := by kernel_rfl
theorem qkS (a0 : A) (objs : Heap) : evalFF Go.Proofs.Try.prog (fun g => (fun _ _ => none)) (fun _ _ _ => none) ⟨[(0, ⟨[3, 9], [3], [], true⟩)], [], [], [], [(5, [(3, false)])], []⟩ Go.Proofs.Try.f21 [a0] objs = qeG [a0] objs := by kernel_rfl
end Go.Ab.F
