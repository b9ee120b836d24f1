/-
 THAT THE PROGRAM'S FUNCTIONS ARE WHAT THEIR WALKS COME TO. Written by a program (emit.py).
-/
import Derived.Test.YtocnjegcmmfpfaaFnQ0
import Derived.Test.YtocnjegcmmfpfaaFnQ1
import Derived.Test.YtocnjegcmmfpfaaFnQ2
import Derived.Test.YtocnjegcmmfpfaaFnQ3
import Derived.Test.YtocnjegcmmfpfaaFnW
import Derived.Test.YtocnjegcmmfpfaaAbsDefer
import Derived.KernelRfl
set_option maxRecDepth 100000
set_option linter.unusedVariables false
namespace Go.Ab.F
open Go Go.Ab Go.Proofs
noncomputable abbrev PP : Program := Go.Proofs.Try.prog
theorem mix_ok : PP.follows .mixedOrders = true := by kernel_rfl
theorem qkB : qab PP 24 := qa7 (fn := Go.Proofs.Try.f24) (by kernel_rfl) (by kernel_rfl) (by kernel_rfl)
theorem qms : SoundFn PP 24 (qiT) := by
 exact fn_ok (P := PP) (fn := Go.Proofs.Try.f24) 0 mix_ok (by kernel_rfl) (SoundTab.nil) (SoundNames.nil') (fun args objs hl => match args, hl with | [], _ => (qaf _ _ _).trans (qmt objs)) (fun args objs hl => by cases args with | nil => exact absurd rfl hl | cons a r => rfl)
theorem qf0 : qab PP 10 := qa7 (fn := Go.Proofs.Try.f10) (by kernel_rfl) (by kernel_rfl) (by kernel_rfl)
theorem qfK : SoundFn PP 10 (qbd) := by
 exact fn_ok (P := PP) (fn := Go.Proofs.Try.f10) 1 mix_ok (by kernel_rfl) (SoundTab.nil) (SoundNames.nil') (fun args objs hl => match args, hl with | [a0], _ => (qaf _ _ _).trans (qiO a0 objs)) (fun args objs hl => match args, hl with | [], _ => rfl | [_], hl => absurd rfl hl | _ :: _ :: _, _ => rfl)
theorem qbh : qab PP 27 := qa7 (fn := Go.Proofs.Try.f27) (by kernel_rfl) (by kernel_rfl) (by kernel_rfl)
theorem qbw : SoundFn PP 27 (qar) := by
 exact fn_ok (P := PP) (fn := Go.Proofs.Try.f27) 1 mix_ok (by kernel_rfl) (SoundTab.nil) (SoundNames.nil') (fun args objs hl => match args, hl with | [a0], _ => (qaf _ _ _).trans (qi6 a0 objs)) (fun args objs hl => match args, hl with | [], _ => rfl | [_], hl => absurd rfl hl | _ :: _ :: _, _ => rfl)
theorem qgq : qab PP 52 := qa7 (fn := Go.Proofs.Try.f52) (by kernel_rfl) (by kernel_rfl) (by kernel_rfl)
theorem qh6 : SoundFn PP 52 (qbq) := by
 exact fn_ok (P := PP) (fn := Go.Proofs.Try.f52) 1 mix_ok (by kernel_rfl) (SoundTab.nil) (SoundNames.nil') (fun args objs hl => match args, hl with | [a0], _ => (qaf _ _ _).trans (qh7 a0 objs)) (fun args objs hl => match args, hl with | [], _ => rfl | [_], hl => absurd rfl hl | _ :: _ :: _, _ => rfl)
theorem qgK : qab PP 35 := qa7 (fn := Go.Proofs.Try.f35) (by kernel_rfl) (by kernel_rfl) (by kernel_rfl)
theorem qhY : SoundFn PP 35 (qbM) := by
 exact fn_ok (P := PP) (fn := Go.Proofs.Try.f35) 2 mix_ok (by kernel_rfl) (SoundTab.cons qgq qh6 (SoundTab.nil)) (SoundNames.nil') (fun args objs hl => match args, hl with | [a0, a1], _ => (qaf _ _ _).trans (qhZ a0 a1 objs)) (fun args objs hl => match args, hl with | [], _ => rfl | [_], _ => rfl | [_, _], hl => absurd rfl hl | _ :: _ :: _ :: _, _ => rfl)
theorem qfi : qab PP 36 := qa7 (fn := Go.Proofs.Try.f36) (by kernel_rfl) (by kernel_rfl) (by kernel_rfl)
theorem qfO : SoundFn PP 36 (qb5) := by
 exact fn_ok (P := PP) (fn := Go.Proofs.Try.f36) 1 mix_ok (by kernel_rfl) (SoundTab.nil) (SoundNames.nil') (fun args objs hl => match args, hl with | [a0], _ => (qaf _ _ _).trans (qfP a0 objs)) (fun args objs hl => match args, hl with | [], _ => rfl | [_], hl => absurd rfl hl | _ :: _ :: _, _ => rfl)
theorem qaH : qab PP 29 := qa7 (fn := Go.Proofs.Try.f29) (by kernel_rfl) (by kernel_rfl) (by kernel_rfl)
theorem qaM : SoundFn PP 29 (qa6) := by
 exact fn_ok (P := PP) (fn := Go.Proofs.Try.f29) 2 mix_ok (by kernel_rfl) (SoundTab.cons qfi qfO (SoundTab.cons qgK qhY (SoundTab.nil))) (SoundNames.nil') (fun args objs hl => match args, hl with | [a0, a1], _ => (qaf _ _ _).trans (qda a0 a1 objs)) (fun args objs hl => match args, hl with | [], _ => rfl | [_], _ => rfl | [_, _], hl => absurd rfl hl | _ :: _ :: _ :: _, _ => rfl)
theorem qcs : qab PP 28 := qa7 (fn := Go.Proofs.Try.f28) (by kernel_rfl) (by kernel_rfl) (by kernel_rfl)
theorem qdi : SoundFn PP 28 (qaU) := by
 exact fn_ok (P := PP) (fn := Go.Proofs.Try.f28) 2 mix_ok (by kernel_rfl) (SoundTab.cons qaH qaM (SoundTab.nil)) (SoundNames.nil') (fun args objs hl => match args, hl with | [a0, a1], _ => (qaf _ _ _).trans (qiK a0 a1 objs)) (fun args objs hl => match args, hl with | [], _ => rfl | [_], _ => rfl | [_, _], hl => absurd rfl hl | _ :: _ :: _ :: _, _ => rfl)
theorem qf1 : qab PP 14 := qa7 (fn := Go.Proofs.Try.f14) (by kernel_rfl) (by kernel_rfl) (by kernel_rfl)
theorem qfL : SoundFn PP 14 (qbn) := by
 exact fn_ok (P := PP) (fn := Go.Proofs.Try.f14) 2 mix_ok (by kernel_rfl) (SoundTab.cons qaH qaM (SoundTab.cons qcs qdi (SoundTab.cons qbh qbw (SoundTab.nil)))) (SoundNames.nil') (fun args objs hl => match args, hl with | [a0, a1], _ => (qaf _ _ _).trans (qiP a0 a1 objs)) (fun args objs hl => match args, hl with | [], _ => rfl | [_], _ => rfl | [_, _], hl => absurd rfl hl | _ :: _ :: _ :: _, _ => rfl)
theorem qaS : SoundFn PP 37 (qa8 1 8) := clone37
theorem qaK : qab PP 37 := qa7 (fn := Go.Proofs.Try.f37) (by kernel_rfl) (by kernel_rfl) (by kernel_rfl)
theorem qaI : SoundFn PP 38 (qa8 2 16) := clone38
theorem qaD : qab PP 38 := qa7 (fn := Go.Proofs.Try.f38) (by kernel_rfl) (by kernel_rfl) (by kernel_rfl)
theorem qbD : SoundFn PP 53 (qa8 1 8) := clone53
theorem qby : qab PP 53 := qa7 (fn := Go.Proofs.Try.f53) (by kernel_rfl) (by kernel_rfl) (by kernel_rfl)
theorem qeo : qab PP 39 := qa7 (fn := Go.Proofs.Try.f39) (by kernel_rfl) (by kernel_rfl) (by kernel_rfl)
theorem qeW : SoundFn PP 39 (qbm) := by
 exact fn_ok (P := PP) (fn := Go.Proofs.Try.f39) 1 mix_ok (by kernel_rfl) (SoundTab.cons qaK qaS (SoundTab.cons qaD qaI (SoundTab.cons qby qbD (SoundTab.nil)))) (SoundNames.nil') (fun args objs hl => match args, hl with | [a0], _ => (qaf _ _ _).trans (qhd a0 objs)) (fun args objs hl => match args, hl with | [], _ => rfl | [_], hl => absurd rfl hl | _ :: _ :: _, _ => rfl)
theorem qdW : SoundFn PP 40 (qaO 1 8) := insert40
theorem qdG : qab PP 40 := qa7 (fn := Go.Proofs.Try.f40) (by kernel_rfl) (by kernel_rfl) (by kernel_rfl)
theorem qcx : SoundFn PP 41 (qaO 2 16) := insert41
theorem qcp : qab PP 41 := qa7 (fn := Go.Proofs.Try.f41) (by kernel_rfl) (by kernel_rfl) (by kernel_rfl)
theorem qen : qab PP 42 := qa7 (fn := Go.Proofs.Try.f42) (by kernel_rfl) (by kernel_rfl) (by kernel_rfl)
theorem qeT : SoundFn PP 42 (qan) := by
 exact fn_ok (P := PP) (fn := Go.Proofs.Try.f42) 1 mix_ok (by kernel_rfl) (SoundTab.cons qaK qaS (SoundTab.cons qaD qaI (SoundTab.cons qby qbD (SoundTab.cons qbh qbw (SoundTab.nil))))) (SoundNames.nil') (fun args objs hl => match args, hl with | [a0], _ => (qaf _ _ _).trans (qhc a0 objs)) (fun args objs hl => match args, hl with | [], _ => rfl | [_], hl => absurd rfl hl | _ :: _ :: _, _ => rfl)
theorem qcN : SoundFn PP 43 (qaO 1 8) := insert43
theorem qcu : qab PP 43 := qa7 (fn := Go.Proofs.Try.f43) (by kernel_rfl) (by kernel_rfl) (by kernel_rfl)
theorem qeU : qab PP 31 := qa7 (fn := Go.Proofs.Try.f31) (by kernel_rfl) (by kernel_rfl) (by kernel_rfl)
theorem qfS (self : CallFn) (hself : SoundFn PP 31 self) : SoundFn PP 31 (qaQ self) := by
 have me_call := qeU
 exact fn_ok (P := PP) (fn := Go.Proofs.Try.f31) 3 mix_ok (by kernel_rfl) (SoundTab.cons qdG qdW (SoundTab.cons qcp qcx (SoundTab.cons qcu qcN (SoundTab.cons qaH qaM (SoundTab.cons qcs qdi (SoundTab.cons qen qeT (SoundTab.cons me_call hself (SoundTab.cons qbh qbw (SoundTab.cons qeo qeW (SoundTab.nil)))))))))) (SoundNames.nil') (fun args objs hl => match args, hl with | [a0, a1, a2], _ => (qaf _ _ _).trans (qiL self a0 a1 a2 objs)) (fun args objs hl => match args, hl with | [], _ => rfl | [_], _ => rfl | [_, _], _ => rfl | [_, _, _], hl => absurd rfl hl | _ :: _ :: _ :: _ :: _, _ => rfl)
theorem qfH : ∀ n, SoundFn PP 31 (qdD n)
 | 0 => SoundFn.none 31
 | n + 1 => qfS _ (qfH n)
theorem qeY : qab PP 17 := qa7 (fn := Go.Proofs.Try.f17) (by kernel_rfl) (by kernel_rfl) (by kernel_rfl)
theorem qfJ : SoundFn PP 17 (qaW) := by
 exact fn_ok (P := PP) (fn := Go.Proofs.Try.f17) 3 mix_ok (by kernel_rfl) (SoundTab.cons qeU (qfH big) (SoundTab.cons qf1 qfL (SoundTab.nil))) (SoundNames.nil') (fun args objs hl => match args, hl with | [a0, a1, a2], _ => (qaf _ _ _).trans (qiN a0 a1 a2 objs)) (fun args objs hl => match args, hl with | [], _ => rfl | [_], _ => rfl | [_, _], _ => rfl | [_, _, _], hl => absurd rfl hl | _ :: _ :: _ :: _ :: _, _ => rfl)
theorem qdF : qab PP 26 := qa7 (fn := Go.Proofs.Try.f26) (by kernel_rfl) (by kernel_rfl) (by kernel_rfl)
theorem qe5 : SoundFn PP 26 (qaF) := by
 exact fn_ok (P := PP) (fn := Go.Proofs.Try.f26) 3 mix_ok (by kernel_rfl) (SoundTab.nil) (SoundNames.nil') (fun args objs hl => match args, hl with | [a0, a1, a2], _ => (qaf _ _ _).trans (qfU a0 a1 a2 objs)) (fun args objs hl => match args, hl with | [], _ => rfl | [_], _ => rfl | [_, _], _ => rfl | [_, _, _], hl => absurd rfl hl | _ :: _ :: _ :: _ :: _, _ => rfl)
theorem qem : qab PP 25 := qa7 (fn := Go.Proofs.Try.f25) (by kernel_rfl) (by kernel_rfl) (by kernel_rfl)
theorem qfr (En : String → CallFn) (hEn : SoundNames PP En) (self : CallFn) (hself : SoundFn PP 25 self) : SoundFn PP 25 (qaL En self) := by
 have me_call := qem
 exact fn_ok (P := PP) (fn := Go.Proofs.Try.f25) 3 mix_ok (by kernel_rfl) (SoundTab.cons qcs qdi (SoundTab.cons me_call hself (SoundTab.cons qbh qbw (SoundTab.nil)))) (hEn) (fun args objs hl => match args, hl with | [a0, a1, a2], _ => (qaf _ _ _).trans (qhb En self a0 a1 a2 objs)) (fun args objs hl => match args, hl with | [], _ => rfl | [_], _ => rfl | [_, _], _ => rfl | [_, _, _], hl => absurd rfl hl | _ :: _ :: _ :: _ :: _, _ => rfl)
theorem qeS (En : String → CallFn) (hEn : SoundNames PP En) : ∀ n, SoundFn PP 25 (qbZ En n)
 | 0 => SoundFn.none 25
 | n + 1 => qfr En hEn _ (qeS En hEn n)
theorem qep : qab PP 12 := qa7 (fn := Go.Proofs.Try.f12) (by kernel_rfl) (by kernel_rfl) (by kernel_rfl)
theorem qgr : SoundNames PP (qak) := SoundNames.cons (by kernel_rfl) qdF qe5 (SoundNames.nil)
theorem qeX : SoundFn PP 12 (qaG) := by
 have hEn := qgr; exact fn_ok (P := PP) (fn := Go.Proofs.Try.f12) 3 mix_ok (by kernel_rfl) (SoundTab.cons qem ((qeS (qak) hEn) big) (SoundTab.cons qdF qe5 (SoundTab.nil))) (hEn) (fun args objs hl => match args, hl with | [a0, a1, a2], _ => (qaf _ _ _).trans (qhe a0 a1 a2 objs)) (fun args objs hl => match args, hl with | [], _ => rfl | [_], _ => rfl | [_, _], _ => rfl | [_, _, _], hl => absurd rfl hl | _ :: _ :: _ :: _ :: _, _ => rfl)
theorem qeM : qab PP 30 := qa7 (fn := Go.Proofs.Try.f30) (by kernel_rfl) (by kernel_rfl) (by kernel_rfl)
theorem qfM (self : CallFn) (hself : SoundFn PP 30 self) : SoundFn PP 30 (qaV self) := by
 have me_call := qeM
 exact fn_ok (P := PP) (fn := Go.Proofs.Try.f30) 2 mix_ok (by kernel_rfl) (SoundTab.cons qaK qaS (SoundTab.cons qaD qaI (SoundTab.cons me_call hself (SoundTab.nil)))) (SoundNames.nil') (fun args objs hl => match args, hl with | [a0, a1], _ => (qaf _ _ _).trans (qi5 self a0 a1 objs)) (fun args objs hl => match args, hl with | [], _ => rfl | [_], _ => rfl | [_, _], hl => absurd rfl hl | _ :: _ :: _ :: _, _ => rfl)
theorem qfg : ∀ n, SoundFn PP 30 (qbT n)
 | 0 => SoundFn.none 30
 | n + 1 => qfM _ (qfg n)
theorem qeq : qab PP 16 := qa7 (fn := Go.Proofs.Try.f16) (by kernel_rfl) (by kernel_rfl) (by kernel_rfl)
theorem qeZ : SoundFn PP 16 (qb8) := by
 exact fn_ok (P := PP) (fn := Go.Proofs.Try.f16) 1 mix_ok (by kernel_rfl) (SoundTab.cons qeM (qfg big) (SoundTab.nil)) (SoundNames.nil') (fun args objs hl => match args, hl with | [a0], _ => (qaf _ _ _).trans (qhf a0 objs)) (fun args objs hl => match args, hl with | [], _ => rfl | [_], hl => absurd rfl hl | _ :: _ :: _, _ => rfl)
theorem qgJ : qab PP 8 := qa7 (fn := Go.Proofs.Try.f8) (by kernel_rfl) (by kernel_rfl) (by kernel_rfl)
theorem qhP : SoundFn PP 8 (qc4) := by
 exact fn_ok (P := PP) (fn := Go.Proofs.Try.f8) 0 mix_ok (by kernel_rfl) (SoundTab.cons qkB qms (SoundTab.cons qep qeX (SoundTab.cons qeY qfJ (SoundTab.cons qeq qeZ (SoundTab.cons qf0 qfK (SoundTab.nil)))))) (SoundNames.nil') (fun args objs hl => match args, hl with | [], _ => (qaf _ _ _).trans (qhR objs)) (fun args objs hl => by cases args with | nil => exact absurd rfl hl | cons a r => rfl)
theorem qjY : qab PP 22 := qa7 (fn := Go.Proofs.Try.f22) (by kernel_rfl) (by kernel_rfl) (by kernel_rfl)
theorem qlE : SoundFn PP 22 (qeb) := by
 exact fn_ok (P := PP) (fn := Go.Proofs.Try.f22) 3 mix_ok (by kernel_rfl) (SoundTab.nil) (SoundNames.nil') (fun args objs hl => match args, hl with | [a0, a1, a2], _ => (qaf _ _ _).trans (qlF a0 a1 a2 objs)) (fun args objs hl => match args, hl with | [], _ => rfl | [_], _ => rfl | [_, _], _ => rfl | [_, _, _], hl => absurd rfl hl | _ :: _ :: _ :: _ :: _, _ => rfl)
theorem qc1 : SoundFn PP 44 (qaT 1 8) := delete44
theorem qbQ : qab PP 44 := qa7 (fn := Go.Proofs.Try.f44) (by kernel_rfl) (by kernel_rfl) (by kernel_rfl)
theorem qcz : SoundFn PP 45 (qaT 2 16) := delete45
theorem qcq : qab PP 45 := qa7 (fn := Go.Proofs.Try.f45) (by kernel_rfl) (by kernel_rfl) (by kernel_rfl)
theorem qd7 : SoundFn PP 67 (qbW 2 16) := grow67
theorem qcy : qab PP 67 := qa7 (fn := Go.Proofs.Try.f67) (by kernel_rfl) (by kernel_rfl) (by kernel_rfl)
theorem qcr : qab PP 60 := qa7 (fn := Go.Proofs.Try.f60) (by kernel_rfl) (by kernel_rfl) (by kernel_rfl)
theorem qcB : SoundFn PP 60 (qal) := by
 exact fn_ok (P := PP) (fn := Go.Proofs.Try.f60) 1 mix_ok (by kernel_rfl) (SoundTab.cons qcy qd7 (SoundTab.nil)) (SoundNames.nil') (fun args objs hl => match args, hl with | [a0], _ => (qaf _ _ _).trans (qcH a0 objs)) (fun args objs hl => match args, hl with | [], _ => rfl | [_], hl => absurd rfl hl | _ :: _ :: _, _ => rfl)
theorem qdc : SoundFn PP 68 (qbW 1 8) := grow68
theorem qcO : qab PP 68 := qa7 (fn := Go.Proofs.Try.f68) (by kernel_rfl) (by kernel_rfl) (by kernel_rfl)
theorem qcw : qab PP 61 := qa7 (fn := Go.Proofs.Try.f61) (by kernel_rfl) (by kernel_rfl) (by kernel_rfl)
theorem qcQ : SoundFn PP 61 (qam) := by
 exact fn_ok (P := PP) (fn := Go.Proofs.Try.f61) 1 mix_ok (by kernel_rfl) (SoundTab.cons qcO qdc (SoundTab.nil)) (SoundNames.nil') (fun args objs hl => match args, hl with | [a0], _ => (qaf _ _ _).trans (qcW a0 objs)) (fun args objs hl => match args, hl with | [], _ => rfl | [_], hl => absurd rfl hl | _ :: _ :: _, _ => rfl)
theorem qcP : SoundFn PP 62 (qaT 1 8) := delete62
theorem qcv : qab PP 62 := qa7 (fn := Go.Proofs.Try.f62) (by kernel_rfl) (by kernel_rfl) (by kernel_rfl)
theorem qgS : qab PP 46 := qa7 (fn := Go.Proofs.Try.f46) (by kernel_rfl) (by kernel_rfl) (by kernel_rfl)
theorem qi3 : SoundFn PP 46 (qb0) := by
 exact fn_ok (P := PP) (fn := Go.Proofs.Try.f46) 2 mix_ok (by kernel_rfl) (SoundTab.cons qbQ qc1 (SoundTab.cons qcv qcP (SoundTab.cons qcr qcB (SoundTab.cons qcw qcQ (SoundTab.cons qaK qaS (SoundTab.cons qen qeT (SoundTab.cons qbh qbw (SoundTab.nil)))))))) (SoundNames.nil') (fun args objs hl => match args, hl with | [a0, a1], _ => (qaf _ _ _).trans (qi4 a0 a1 objs)) (fun args objs hl => match args, hl with | [], _ => rfl | [_], _ => rfl | [_, _], hl => absurd rfl hl | _ :: _ :: _ :: _, _ => rfl)
theorem qeV : qab PP 32 := qa7 (fn := Go.Proofs.Try.f32) (by kernel_rfl) (by kernel_rfl) (by kernel_rfl)
theorem qfT (self : CallFn) (hself : SoundFn PP 32 self) : SoundFn PP 32 (qaR self) := by
 have me_call := qeV
 exact fn_ok (P := PP) (fn := Go.Proofs.Try.f32) 2 mix_ok (by kernel_rfl) (SoundTab.cons qbQ qc1 (SoundTab.cons qcq qcz (SoundTab.cons qaH qaM (SoundTab.cons qcs qdi (SoundTab.cons qgS qi3 (SoundTab.cons qbh qbw (SoundTab.cons me_call hself (SoundTab.cons qeo qeW (SoundTab.nil))))))))) (SoundNames.nil') (fun args objs hl => match args, hl with | [a0, a1], _ => (qaf _ _ _).trans (qiM self a0 a1 objs)) (fun args objs hl => match args, hl with | [], _ => rfl | [_], _ => rfl | [_, _], hl => absurd rfl hl | _ :: _ :: _ :: _, _ => rfl)
theorem qfI : ∀ n, SoundFn PP 32 (qdE n)
 | 0 => SoundFn.none 32
 | n + 1 => qfT _ (qfI n)
theorem qhg : qab PP 18 := qa7 (fn := Go.Proofs.Try.f18) (by kernel_rfl) (by kernel_rfl) (by kernel_rfl)
theorem qiQ : SoundFn PP 18 (qbe) := by
 exact fn_ok (P := PP) (fn := Go.Proofs.Try.f18) 2 mix_ok (by kernel_rfl) (SoundTab.cons qbh qbw (SoundTab.cons qeV (qfI big) (SoundTab.cons qf1 qfL (SoundTab.nil)))) (SoundNames.nil') (fun args objs hl => match args, hl with | [a0, a1], _ => (qaf _ _ _).trans (qiR a0 a1 objs)) (fun args objs hl => match args, hl with | [], _ => rfl | [_], _ => rfl | [_, _], hl => absurd rfl hl | _ :: _ :: _ :: _, _ => rfl)
theorem qjZ : qab PP 23 := qa7 (fn := Go.Proofs.Try.f23) (by kernel_rfl) (by kernel_rfl) (by kernel_rfl)
theorem qlG : SoundFn PP 23 (qec) := by
 exact fn_ok (P := PP) (fn := Go.Proofs.Try.f23) 2 mix_ok (by kernel_rfl) (SoundTab.nil) (SoundNames.nil') (fun args objs hl => match args, hl with | [a0, a1], _ => (qaf _ _ _).trans (qlH a0 a1 objs)) (fun args objs hl => match args, hl with | [], _ => rfl | [_], _ => rfl | [_, _], hl => absurd rfl hl | _ :: _ :: _ :: _, _ => rfl)
theorem qju : qab PP 47 := qa7 (fn := Go.Proofs.Try.f47) (by kernel_rfl) (by kernel_rfl) (by kernel_rfl)
theorem qkL : SoundFn PP 47 (qd3) := by
 exact fn_ok (P := PP) (fn := Go.Proofs.Try.f47) 2 mix_ok (by kernel_rfl) (SoundTab.nil) (SoundNames.nil') (fun args objs hl => match args, hl with | [a0, a1], _ => (qaf _ _ _).trans (qkM a0 a1 objs)) (fun args objs hl => match args, hl with | [], _ => rfl | [_], _ => rfl | [_, _], hl => absurd rfl hl | _ :: _ :: _ :: _, _ => rfl)
theorem qid : qab PP 48 := qa7 (fn := Go.Proofs.Try.f48) (by kernel_rfl) (by kernel_rfl) (by kernel_rfl)
theorem qjs : SoundFn PP 48 (qc6) := by
 exact fn_ok (P := PP) (fn := Go.Proofs.Try.f48) 4 mix_ok (by kernel_rfl) (SoundTab.nil) (SoundNames.nil') (fun args objs hl => match args, hl with | [a0, a1, a2, a3], _ => (qaf _ _ _).trans (qjt a0 a1 a2 a3 objs)) (fun args objs hl => match args, hl with | [], _ => rfl | [_], _ => rfl | [_, _], _ => rfl | [_, _, _], _ => rfl | [_, _, _, _], hl => absurd rfl hl | _ :: _ :: _ :: _ :: _ :: _, _ => rfl)
theorem qg8 : qab PP 33 := qa7 (fn := Go.Proofs.Try.f33) (by kernel_rfl) (by kernel_rfl) (by kernel_rfl)
theorem qhy (self : CallFn) (hself : SoundFn PP 33 self) : SoundFn PP 33 (qba self) := by
 have me_call := qg8
 exact fn_ok (P := PP) (fn := Go.Proofs.Try.f33) 2 mix_ok (by kernel_rfl) (SoundTab.cons me_call hself (SoundTab.cons qid qjs (SoundTab.cons qju qkL (SoundTab.nil)))) (SoundNames.nil') (fun args objs hl => match args, hl with | [a0, a1], _ => (qaf _ _ _).trans (qkK self a0 a1 objs)) (fun args objs hl => match args, hl with | [], _ => rfl | [_], _ => rfl | [_, _], hl => absurd rfl hl | _ :: _ :: _ :: _, _ => rfl)
theorem qhz : ∀ n, SoundFn PP 33 (qcm n)
 | 0 => SoundFn.none 33
 | n + 1 => qhy _ (qhz n)
theorem qjw : qab PP 19 := qa7 (fn := Go.Proofs.Try.f19) (by kernel_rfl) (by kernel_rfl) (by kernel_rfl)
theorem qkP : SoundFn PP 19 (qc2) := by
 exact fn_ok (P := PP) (fn := Go.Proofs.Try.f19) 1 mix_ok (by kernel_rfl) (SoundTab.cons qg8 (qhz big) (SoundTab.nil)) (SoundNames.nil') (fun args objs hl => match args, hl with | [a0], _ => (qaf _ _ _).trans (qkQ a0 objs)) (fun args objs hl => match args, hl with | [], _ => rfl | [_], hl => absurd rfl hl | _ :: _ :: _, _ => rfl)
theorem qjv : qab PP 11 := qa7 (fn := Go.Proofs.Try.f11) (by kernel_rfl) (by kernel_rfl) (by kernel_rfl)
theorem qkN : SoundFn PP 11 (qcn) := by
 exact fn_ok (P := PP) (fn := Go.Proofs.Try.f11) 2 mix_ok (by kernel_rfl) (SoundTab.nil) (SoundNames.nil') (fun args objs hl => match args, hl with | [a0, a1], _ => (qaf _ _ _).trans (qkO a0 a1 objs)) (fun args objs hl => match args, hl with | [], _ => rfl | [_], _ => rfl | [_, _], hl => absurd rfl hl | _ :: _ :: _ :: _, _ => rfl)
theorem qfR : qab PP 49 := qa7 (fn := Go.Proofs.Try.f49) (by kernel_rfl) (by kernel_rfl) (by kernel_rfl)
theorem qgQ : SoundFn PP 49 (qbc) := by
 exact fn_ok (P := PP) (fn := Go.Proofs.Try.f49) 3 mix_ok (by kernel_rfl) (SoundTab.nil) (SoundNames.nil') (fun args objs hl => match args, hl with | [a0, a1, a2], _ => (qaf _ _ _).trans (qgR a0 a1 a2 objs)) (fun args objs hl => match args, hl with | [], _ => rfl | [_], _ => rfl | [_, _], _ => rfl | [_, _, _], hl => absurd rfl hl | _ :: _ :: _ :: _ :: _, _ => rfl)
theorem qds : qab PP 51 := qa7 (fn := Go.Proofs.Try.f51) (by kernel_rfl) (by kernel_rfl) (by kernel_rfl)
theorem qdV : SoundFn PP 51 (qat) := by
 exact fn_ok (P := PP) (fn := Go.Proofs.Try.f51) 2 mix_ok (by kernel_rfl) (SoundTab.nil) (SoundNames.nil') (fun args objs hl => match args, hl with | [a0, a1], _ => (qaf _ _ _).trans (qfN a0 a1 objs)) (fun args objs hl => match args, hl with | [], _ => rfl | [_], _ => rfl | [_, _], hl => absurd rfl hl | _ :: _ :: _ :: _, _ => rfl)
theorem qdb : qab PP 63 := qa7 (fn := Go.Proofs.Try.f63) (by kernel_rfl) (by kernel_rfl) (by kernel_rfl)
theorem qdz (En : String → CallFn) (hEn : SoundNames PP En) : SoundFn PP 63 (qao En) := by
 exact fn_ok (P := PP) (fn := Go.Proofs.Try.f63) 2 mix_ok (by kernel_rfl) (SoundTab.nil) (hEn) (fun args objs hl => match args, hl with | [a0, a1], _ => (qaf _ _ _).trans (qdA En a0 a1 objs)) (fun args objs hl => match args, hl with | [], _ => rfl | [_], _ => rfl | [_, _], hl => absurd rfl hl | _ :: _ :: _ :: _, _ => rfl)
theorem qcA : qab PP 50 := qa7 (fn := Go.Proofs.Try.f50) (by kernel_rfl) (by kernel_rfl) (by kernel_rfl)
theorem qd8 (En : String → CallFn) (hEn : SoundNames PP En) : SoundFn PP 50 (qav En) := by
 exact fn_ok (P := PP) (fn := Go.Proofs.Try.f50) 2 mix_ok (by kernel_rfl) (SoundTab.cons qdb (qdz En hEn) (SoundTab.nil)) (hEn) (fun args objs hl => match args, hl with | [a0, a1], _ => (qaf _ _ _).trans (qd9 En a0 a1 objs)) (fun args objs hl => match args, hl with | [], _ => rfl | [_], _ => rfl | [_, _], hl => absurd rfl hl | _ :: _ :: _ :: _, _ => rfl)
theorem qe4 : qab PP 34 := qa7 (fn := Go.Proofs.Try.f34) (by kernel_rfl) (by kernel_rfl) (by kernel_rfl)
theorem qfQ : SoundNames PP (qau) := SoundNames.cons (by kernel_rfl) qds qdV (SoundNames.nil)
theorem qfe (self : CallFn) (hself : SoundFn PP 34 self) : SoundFn PP 34 (qaj self) := by
 have me_call := qe4
 have hEn := qfQ; exact fn_ok (P := PP) (fn := Go.Proofs.Try.f34) 4 mix_ok (by kernel_rfl) (SoundTab.cons qcA (qd8 (qau) hEn) (SoundTab.cons qaK qaS (SoundTab.cons qaD qaI (SoundTab.cons qds qdV (SoundTab.cons me_call hself (SoundTab.cons qfR qgQ (SoundTab.nil))))))) (hEn) (fun args objs hl => match args, hl with | [a0, a1, a2, a3], _ => (qaf _ _ _).trans (qgP self a0 a1 a2 a3 objs)) (fun args objs hl => match args, hl with | [], _ => rfl | [_], _ => rfl | [_, _], _ => rfl | [_, _, _], _ => rfl | [_, _, _, _], hl => absurd rfl hl | _ :: _ :: _ :: _ :: _ :: _, _ => rfl)
theorem qeL : ∀ n, SoundFn PP 34 (qaz n)
 | 0 => SoundFn.none 34
 | n + 1 => qfe _ (qeL n)
theorem qlq : qab PP 20 := qa7 (fn := Go.Proofs.Try.f20) (by kernel_rfl) (by kernel_rfl) (by kernel_rfl)
theorem tree_Of_ok : SoundFn PP 20 (tree_Of) := by
 exact fn_ok (P := PP) (fn := Go.Proofs.Try.f20) 1 mix_ok (by kernel_rfl) (SoundTab.cons qe4 (qeL big) (SoundTab.nil)) (SoundNames.nil') (fun args objs hl => match args, hl with | [a0], _ => (qaf _ _ _).trans (tree_Of_eq a0 objs)) (fun args objs hl => match args, hl with | [], _ => rfl | [_], hl => absurd rfl hl | _ :: _ :: _, _ => rfl)
theorem qjx : qab PP 21 := qa7 (fn := Go.Proofs.Try.f21) (by kernel_rfl) (by kernel_rfl) (by kernel_rfl)
theorem qkR : SoundFn PP 21 (qeG) := by
 exact fn_ok (P := PP) (fn := Go.Proofs.Try.f21) 1 mix_ok (by kernel_rfl) (SoundTab.nil) (SoundNames.nil') (fun args objs hl => match args, hl with | [a0], _ => (qaf _ _ _).trans (qkS a0 objs)) (fun args objs hl => match args, hl with | [], _ => rfl | [_], hl => absurd rfl hl | _ :: _ :: _, _ => rfl)
theorem qhS : SoundFn PP 7 (qc5) := by
 exact fn_ok (P := PP) (fn := Go.Proofs.Try.f7) 2 mix_ok (by kernel_rfl) (SoundTab.cons qlq tree_Of_ok (SoundTab.cons qjv qkN (SoundTab.cons qjw qkP (SoundTab.cons qjY qlE (SoundTab.cons qjZ qlG (SoundTab.cons qjx qkR (SoundTab.cons qgJ qhP (SoundTab.cons qep qeX (SoundTab.cons qeY qfJ (SoundTab.cons qeq qeZ (SoundTab.cons qf0 qfK (SoundTab.cons qhg qiQ (SoundTab.nil))))))))))))) (SoundNames.nil') (fun args objs hl => match args, hl with | [a0, a1], _ => (qaf _ _ _).trans (qhT a0 a1 objs)) (fun args objs hl => match args, hl with | [], _ => rfl | [_], _ => rfl | [_, _], hl => absurd rfl hl | _ :: _ :: _ :: _, _ => rfl)
end Go.Ab.F
