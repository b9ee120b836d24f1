/- PROVED: the statement 'DirHolds' as it is given, for all its inputs; no condition beyond the given row's. The function is run over values without addresses (its plain law stands in TDirHolds); that this run is the program's is proved in the texts that are imported. -/
import Derived.Test.YtffjjeifgejplaaRows
import Derived.Test.YtffjjeifgejplaaTRead
import Derived.Test.YtffjjeifgejplaaTDirHolds
import Derived.WalkKit
import Derived.ProofKit
import Derived.OpenShut
import Derived.ChangeOld
import Derived.Below
namespace Go.Proofs.Ytffjjeifgejplaa.dirHolds
open Go.ChangeShapes Go.WideShapes Go.ChangeAt Go.RowKit
set_option linter.unusedVariables false


set_option maxRecDepth 10000 in
open Go.Ab Go.Ab.T Go.Ab.F in
theorem form_act (d : Nat) : Go.Ab.T.Form PP (d + 2) 70 actC okAct := by
  intro cs h
  obtain ⟨_, _, rfl, h1, _, _, rfl, h2, _, _, rfl, h3, rfl⟩ := gd_struct Try.underlying70 h
  obtain ⟨x, rfl, w1⟩ := form_i64 d _ h1
  obtain ⟨y, rfl, w2⟩ := form_i64 d _ h2
  obtain ⟨z, rfl, w3⟩ := form_u64 d _ h3
  exact ⟨⟨x, y, z⟩, rfl, w1, w2, w3⟩
set_option maxRecDepth 10000 in
open Go.Ab Go.Ab.T Go.Ab.F in
theorem form_acts (d : Nat) : Go.Ab.T.Form PP (d + 3) 68 (fun xs : List Go.Ab.T.Act => [mkF 3 (xs.map actC)]) (fun xs => xs.length ≤ maxLen ∧ ∀ x ∈ xs, okAct x) := form_slice Try.underlying68 (by kernel_rfl) (form_act d)

theorem own : ownKnob Try.prog.godebug = none := by kernel_rfl
theorem laidOut : laidOutB Try.prog = true := by kernel_rfl

set_option maxRecDepth 100000 in
theorem lifted (os : Os) (started : os.Started) (H : Type) (enc : TypeId × Value → H) :
    ReturnsInHanded {} Try.checked os 9 .any (Rows.dirHoldsSpec.pre6 enc Try.prog Try.f9 Rows.dirHoldsRow.domain false) (Rows.dirHoldsSpec.post enc Try.prog Try.f9 false true false false) := by
  refine returnsInHanded_of_change (C := Try.checked) own started (by kernel_rfl) Try.func9
    (ChangeSpec.witness6 (enc := enc) (C := Try.checked) false ⟨#[], #[.int .u64 0, .int .i64 0, .slice none 0 0], []⟩ 8 (by kernel_rfl) (by kernel_rfl) (by kernel_rfl) (by kernel_rfl)) ?_
  intro W base args ds gs before hval0 hW hcnd _
  have hval : ∀ (j : Nat) t v, Try.f9.params[j]? = some t → args[j]? = some v → Value.okWide Try.prog W .any base t v := hval0
  have hW' := hW
  obtain ⟨p, q, hA0, hV, rfl, hfz, hnd⟩ := hW
  have hA : DataW.TrodAll enc Try.prog W 0 (fun _ => true) true Try.f9.params.toList args.toList ds p := hA0
  rw [Try.params9] at hA hval
  obtain ⟨v0, vs0, d0, ds0, p0, q0, hargs, rfl, rfl, h0, r0⟩ := trodAll_cons hA
  obtain ⟨v1, vs1, d1, ds1, p1, q1, rfl, rfl, rfl, h1, r1⟩ := trodAll_cons r0
  obtain ⟨v2, vs2, d2, ds2, p2, q2, rfl, rfl, rfl, h2, r2⟩ := trodAll_cons r1
  obtain ⟨rfl, rfl, rfl⟩ := trodAll_nil r2
  obtain rfl : args = #[v0, v1, v2] := by cases args; simp_all
  obtain ⟨rfl, rfl⟩ := trodVars_none hV
  obtain ⟨a0, rfl, rfl, rfl, w0⟩ := open_int Try.underlying26 (hval 0 26 v0 rfl rfl) h0
  obtain ⟨a1, rfl, rfl, rfl, w1⟩ := open_int Try.underlying3 (hval 1 3 v1 rfl rfl) h1
  obtain ⟨b2, l2, c2, rfl⟩ := okWide_slice Try.underlying68 (hval 2 68 v2 rfl rfl)
  have k2 := h2
  have lt2 : ∀ x ∈ p2, x.block < W.heap.size := by obtain ⟨m, hm⟩ := k2; exact DataW.trod_lt m _ _ _ hm
  obtain ⟨fuel2, hf2⟩ := h2
  obtain ⟨_, one2, as2, len2, z2, g2⟩ := Go.Ab.trod_read fuel2 8 68 _ _ hf2 (by kernel_rfl)
  obtain ⟨t2, rfl, ok2⟩ := form_acts 5 _ g2
  clear hA0 hval0
  have hz : ∀ i (hi : i < [(.s (.int .u64 a0) : Go.Ab.A), (.s (.int .i64 a1) : Go.Ab.A), (Go.Ab.mkF 3 (t2.map Go.Ab.T.actC) : Go.Ab.A)].length), Go.Ab.Fz Try.prog W (Go.Ab.There W) (#[(.int .u64 a0 : Value), (.int .i64 a1 : Value), (.slice b2 l2 c2 : Value)].getD i undef) ([.s (.int .u64 a0), .s (.int .i64 a1), Go.Ab.mkF 3 (t2.map Go.Ab.T.actC)] : List Go.Ab.A)[i] := by
    intro i hi
    match i, hi with
    | 0, _ => exact .s _
    | 1, _ => exact .s _
    | 2, _ => exact z2 0 _ _ rfl rfl
  refine (Go.Ab.law_walk Go.Ab.F.law12_DirHolds_ok (Go.Ab.T.DirHolds_v a0 a1 t2 w0 w1 ok2) (Go.Ab.There W) (fun b o h => h) rfl hz).mono fun e W' ⟨he, bel⟩ => ?_
  subst he
  exact ⟨_, rfl, _, _, _, [], _, [], hW', trodAll_mk1 (shut_bool Try.underlying4 _), (trodAll_cons_mk (shut_int Try.underlying26 w0) (trodAll_cons_mk (shut_int Try.underlying3 w1) (trodAll_cons_mk (Below.trod laidOut (by kernel_rfl) (of_decide_eq_true (by kernel_rfl)) k2 bel lt2) trodAll_mk0))), rfl, bel.frame _, fun h => by cases h⟩

theorem over : Rows.dirHoldsRow.holds Try.pinned (OpenSpec.ofChange Rows.dirHoldsSpec) :=
  OpenClaim.holds_of_wide 9 Try.f9 rfl rfl rfl rfl rfl rfl rfl ⟨rfl, rfl, rfl, rfl, rfl⟩ rfl rfl rfl rfl rfl (by kernel_rfl) Try.func9 (by kernel_rfl)
    (of_decide_eq_true (by kernel_rfl)) (by unfold Func.isWrapper; first | (rw [if_pos (by decide +kernel)]; kernel_rfl) | (rw [if_neg (by decide +kernel)]; exact ⟨rfl, rfl⟩))
    (fun os started H enc _ => lifted os started H enc)

theorem proved : Rows.DirHoldsSaid := over
#print axioms proved
end Go.Proofs.Ytffjjeifgejplaa.dirHolds
