/- PROVED: the statement 'DirApart' as it is given, for all its inputs; no condition beyond the given row's. The function is run over values without addresses (its plain law stands in TDirApart); that this run is the program's is proved in the texts that are imported. -/
import Derived.Test.YtffjjeifgejplaaRows
import Derived.Test.YtffjjeifgejplaaTRead
import Derived.Test.YtffjjeifgejplaaTDirApart
import Derived.WalkKit
import Derived.ProofKit
import Derived.OpenShut
import Derived.ChangeOld
import Derived.Below
namespace Go.Proofs.Ytffjjeifgejplaa.dirApart
open Go.ChangeShapes Go.WideShapes Go.ChangeAt Go.RowKit
set_option linter.unusedVariables false


theorem own : ownKnob Try.prog.godebug = none := by kernel_rfl
theorem laidOut : laidOutB Try.prog = true := by kernel_rfl

set_option maxRecDepth 100000 in
theorem lifted (os : Os) (started : os.Started) (H : Type) (enc : TypeId × Value → H) :
    ReturnsInHanded {} Try.checked os 7 .any (Rows.dirApartSpec.pre6 enc Try.prog Try.f7 Rows.dirApartRow.domain false) (Rows.dirApartSpec.post enc Try.prog Try.f7 false true false false) := by
  refine returnsInHanded_of_change (C := Try.checked) own started (by kernel_rfl) Try.func7
    (ChangeSpec.witness6 (enc := enc) (C := Try.checked) false ⟨#[], #[.agg #[.int .i64 0, .int .i64 0], .agg #[.int .i64 0, .int .i64 0]], []⟩ 8 (by kernel_rfl) (by kernel_rfl) (by kernel_rfl) (by kernel_rfl)) ?_
  intro W base args ds gs before hval0 hW hcnd _
  have hval : ∀ (j : Nat) t v, Try.f7.params[j]? = some t → args[j]? = some v → Value.okWide Try.prog W .any base t v := hval0
  have hW' := hW
  obtain ⟨p, q, hA0, hV, rfl, hfz, hnd⟩ := hW
  have hA : DataW.TrodAll enc Try.prog W 0 (fun _ => true) true Try.f7.params.toList args.toList ds p := hA0
  rw [Try.params7] at hA hval
  obtain ⟨v0, vs0, d0, ds0, p0, q0, hargs, rfl, rfl, h0, r0⟩ := trodAll_cons hA
  obtain ⟨v1, vs1, d1, ds1, p1, q1, rfl, rfl, rfl, h1, r1⟩ := trodAll_cons r0
  obtain ⟨rfl, rfl, rfl⟩ := trodAll_nil r1
  obtain rfl : args = #[v0, v1] := by cases args; simp_all
  obtain ⟨rfl, rfl⟩ := trodVars_none hV
  obtain ⟨c0, rfl, _⟩ := Go.Ab.T.okWide_array Try.underlying52 (hval 0 52 v0 rfl rfl)
  have k0 := h0
  have lt0 : ∀ x ∈ p0, x.block < W.heap.size := by obtain ⟨m, hm⟩ := k0; exact DataW.trod_lt m _ _ _ hm
  obtain ⟨fuel0, hf0⟩ := h0
  obtain ⟨_, one0, as0, len0, z0, g0⟩ := Go.Ab.trod_read fuel0 8 52 _ _ hf0 (by kernel_rfl)
  obtain ⟨t0, rfl, ok0⟩ := Go.Ab.T.form_two Try.underlying52 (Go.Ab.T.form_i64 6) _ g0
  obtain ⟨c1, rfl, _⟩ := Go.Ab.T.okWide_array Try.underlying52 (hval 1 52 v1 rfl rfl)
  have k1 := h1
  have lt1 : ∀ x ∈ p1, x.block < W.heap.size := by obtain ⟨m, hm⟩ := k1; exact DataW.trod_lt m _ _ _ hm
  obtain ⟨fuel1, hf1⟩ := h1
  obtain ⟨_, one1, as1, len1, z1, g1⟩ := Go.Ab.trod_read fuel1 8 52 _ _ hf1 (by kernel_rfl)
  obtain ⟨t1, rfl, ok1⟩ := Go.Ab.T.form_two Try.underlying52 (Go.Ab.T.form_i64 6) _ g1
  clear hA0 hval0
  have hz : ∀ i (hi : i < [(.agg (Go.Ab.T.twoC t0) : Go.Ab.A), (.agg (Go.Ab.T.twoC t1) : Go.Ab.A)].length), Go.Ab.Fz Try.prog W (Go.Ab.There W) (#[(.agg c0 : Value), (.agg c1 : Value)].getD i undef) ([.agg (Go.Ab.T.twoC t0), .agg (Go.Ab.T.twoC t1)] : List Go.Ab.A)[i] := by
    intro i hi
    match i, hi with
    | 0, _ => exact Go.Ab.T.fz_agg len0 one0 z0
    | 1, _ => exact Go.Ab.T.fz_agg len1 one1 z1
  refine (Go.Ab.law_walk Go.Ab.F.law12_DirApart_ok (Go.Ab.T.DirApart_v t0 t1 ok0 ok1) (Go.Ab.There W) (fun b o h => h) rfl hz).mono fun e W' ⟨he, bel⟩ => ?_
  subst he
  exact ⟨_, rfl, _, _, _, [], _, [], hW', trodAll_mk1 (shut_bool Try.underlying4 _), (trodAll_cons_mk (Below.trod laidOut (by kernel_rfl) (of_decide_eq_true (by kernel_rfl)) k0 bel lt0) (trodAll_cons_mk (Below.trod laidOut (by kernel_rfl) (of_decide_eq_true (by kernel_rfl)) k1 bel lt1) trodAll_mk0)), rfl, bel.frame _, fun h => by cases h⟩

theorem over : Rows.dirApartRow.holds Try.pinned (OpenSpec.ofChange Rows.dirApartSpec) :=
  OpenClaim.holds_of_wide 7 Try.f7 rfl rfl rfl rfl rfl rfl rfl ⟨rfl, rfl, rfl, rfl, rfl⟩ rfl rfl rfl rfl rfl (by kernel_rfl) Try.func7 (by kernel_rfl)
    (of_decide_eq_true (by kernel_rfl)) (by unfold Func.isWrapper; first | (rw [if_pos (by decide +kernel)]; kernel_rfl) | (rw [if_neg (by decide +kernel)]; exact ⟨rfl, rfl⟩))
    (fun os started H enc _ => lifted os started H enc)

theorem proved : Rows.DirApartSaid := over
#print axioms proved
end Go.Proofs.Ytffjjeifgejplaa.dirApart
