/- PROVED: the statement 'TreeShapes' as it is given, for all its inputs; no condition beyond the given row's. The function is run over values without addresses (its plain law stands in TTreeShapes); that this run is the program's is proved in the texts that are imported. -/
import Derived.Test.YtocnjegcmmfpfaaRows
import Derived.Test.YtocnjegcmmfpfaaTAllA
import Derived.Test.YtocnjegcmmfpfaaFnE
import Derived.Test.YtocnjegcmmfpfaaTAllC
import Derived.WalkKit
import Derived.ProofKit
import Derived.OpenShut
import Derived.ChangeOld
import Derived.Below
import Derived.SizedLaws
namespace Go.Proofs.Ytocnjegcmmfpfaa.treeShapes
open Go.ChangeShapes Go.WideShapes Go.ChangeAt Go.RowKit
set_option linter.unusedVariables false
set_option maxRecDepth 10000 in
open Go.Ab Go.Ab.T Go.Ab.F in
theorem form_i64 (d : Nat) : Go.Ab.T.Form PP (d + 1) 3 (cellC .i64) (wfI .i64) := form_int Try.underlying3
set_option maxRecDepth 10000 in
open Go.Ab Go.Ab.T Go.Ab.F in
theorem form_u64 (d : Nat) : Go.Ab.T.Form PP (d + 1) 23 (cellC .u64) (wfI .u64) := form_int Try.underlying23
set_option maxRecDepth 10000 in
open Go.Ab Go.Ab.T Go.Ab.F in
theorem form_ext (d : Nat) : Go.Ab.T.Form PP (d + 2) 34 extentC (fun _ => True) := by
 intro cs h
 obtain ⟨_, _, rfl, h1, _, _, rfl, h2, rfl⟩ := gd_struct Try.underlying34 h
 obtain ⟨x, rfl, w1⟩ := form_i64 d _ h1
 obtain ⟨y, rfl, w2⟩ := form_i64 d _ h2
 exact ⟨⟨x, y⟩, rfl, trivial⟩
theorem wf_key {n : Int} (h : Go.Ab.T.wfI .u64 n) : 0 ≤ n ∧ n ≤ 18446744073709551615 := by
 simp [Go.Ab.T.wfI, Lit.wf, IntKind.min, IntKind.max, IntKind.bits, IntKind.signed] at h; omega
set_option maxRecDepth 10000 in
open Go.Ab Go.Ab.T Go.Ab.F in
theorem form_actt (d : Nat) : Go.Ab.T.Form PP (d + 3) 36 actTC (fun a => okK a.key) := by
 intro cs h
 obtain ⟨_, _, rfl, h1, _, _, rfl, h2, _, _, rfl, h3, rfl⟩ := gd_struct Try.underlying36 h
 obtain ⟨x, rfl, w1⟩ := form_i64 (d + 1) _ h1
 obtain ⟨y, rfl, w2⟩ := form_u64 (d + 1) _ h2
 obtain ⟨z, rfl, w3⟩ := form_ext d _ h3
 exact ⟨⟨x, y, z⟩, rfl, wf_key w2⟩
set_option maxRecDepth 10000 in
open Go.Ab Go.Ab.T Go.Ab.F in
theorem form_actts (d : Nat) : Go.Ab.T.Form PP (d + 4) 22 (fun xs : List Go.Ab.T.ActT => [mkF 4 (xs.map actTC)]) (fun xs => fitsM xs.length 32 ∧ ∀ x ∈ xs, okK x.key) := form_slice Try.underlying22 (by kernel_rfl) (by kernel_rfl) (form_actt d)
theorem own : ownKnob Try.prog.godebug = none := by kernel_rfl
theorem laidOut : laidOutB Try.prog = true := by kernel_rfl
set_option maxRecDepth 100000 in
theorem lifted (os : Os) (started : os.Started) (H : Type) (enc : TypeId × Value → H) :
 ReturnsInHanded {} Try.checked os 6 .any (Rows.treeShapesSpec.pre6 enc Try.prog Try.f6 Rows.treeShapesRow.domain false) (Rows.treeShapesSpec.post enc Try.prog Try.f6 false true false false) := by
 refine returnsInHanded_of_change_sized (C := Try.checked) own started (by kernel_rfl) Try.func6
  (ChangeSpec.witness6 (enc := enc) (C := Try.checked) false ⟨#[], #[.slice none 0 0], []⟩ 8 (by kernel_rfl) (by kernel_rfl) (by kernel_rfl) (by kernel_rfl)) ?_
 intro W base args ds gs before hval0 hW hcnd hwt0 _
 have hval : ∀ (j : Nat) t v, Try.f6.params[j]? = some t → args[j]? = some v → Value.okWide Try.prog W .any base t v := hval0
 have hW' := hW
 obtain ⟨p, q, hA0, hV, rfl, hfz, hnd⟩ := hW
 have hA : DataW.TrodAll enc Try.prog W 0 (fun _ => true) true Try.f6.params.toList args.toList ds p := hA0
 have hwt : ((DataW.weightsEach Try.prog (Try.f6.params.toList ++ Rows.treeShapesSpec.plain.varTypes Try.prog) (ds ++ gs)).all fun n => decide (n ≤ reachBytes)) = true := hwt0
 clear hwt0
 rw [Try.params6] at hA hval hwt
 obtain ⟨v0, vs0, d0, ds0, p0, q0, hargs, rfl, rfl, h0, r0⟩ := trodAll_cons hA
 obtain ⟨rfl, rfl, rfl⟩ := trodAll_nil r0
 obtain rfl : args = #[v0] := by cases args; simp_all
 obtain ⟨rfl, rfl⟩ := trodVars_none hV
 obtain ⟨b0, l0, c0, rfl⟩ := okWide_slice Try.underlying22 (hval 0 22 v0 rfl rfl)
 have k0 := h0
 have lt0 : ∀ x ∈ p0, x.block < W.heap.size := by obtain ⟨m, hm⟩ := k0; exact DataW.trod_lt m _ _ _ hm
 obtain ⟨fuel0, hf0⟩ := h0
 obtain ⟨_, one0, as0, len0, z0, g0⟩ := Go.Ab.trod_read fuel0 8 22 _ _ hf0 (by kernel_rfl) (fun k hk => of_decide_eq_true (List.all_eq_true.1 hwt k (DataW.weights_mem_each (j := 0) rfl rfl k hk)))
 obtain ⟨t0, rfl, ok0⟩ := form_actts 4 _ g0
 clear hA0 hval0
 have hz : ∀ i (hi : i < [(Go.Ab.mkF 4 (t0.map Go.Ab.T.actTC) : Go.Ab.A)].length), Go.Ab.Fz Try.prog W (Go.Ab.There W) (#[(.slice b0 l0 c0 : Value)].getD i undef) ([Go.Ab.mkF 4 (t0.map Go.Ab.T.actTC)] : List Go.Ab.A)[i] := by
  intro i hi
  match i, hi with
  | 0, _ => exact z0 0 _ _ rfl rfl
 refine (Go.Ab.law_walk Go.Ab.F.law08_TreeShapes_ok (Go.Ab.T.TreeShapes_v t0 ok0) (Go.Ab.There W) (fun b o h => h) rfl hz).mono fun e W' ⟨he, bel⟩ => ?_
 subst he
 exact ⟨_, rfl, _, _, _, [], _, [], hW', trodAll_mk1 (shut_bool Try.underlying4 _), (trodAll_cons_mk (Below.trod laidOut (by kernel_rfl) (of_decide_eq_true (by kernel_rfl)) k0 bel lt0) trodAll_mk0), rfl, bel.frame _, fun h => by cases h⟩
theorem over : Rows.treeShapesRow.holds Try.pinned (OpenSpec.ofChange Rows.treeShapesSpec) :=
 OpenClaim.holds_of_wide 6 Try.f6 rfl rfl rfl rfl rfl rfl rfl ⟨rfl, rfl, rfl, rfl, rfl⟩ rfl rfl rfl rfl rfl (by kernel_rfl) Try.func6 (by kernel_rfl)
  (of_decide_eq_true (by kernel_rfl)) (by unfold Func.isWrapper; first | (rw [if_pos (by decide +kernel)]; kernel_rfl) | (rw [if_neg (by decide +kernel)]; exact ⟨rfl, rfl⟩))
  (fun os started H enc _ => lifted os started H enc)
theorem proved : Rows.TreeShapesSaid := over
#print axioms proved
end Go.Proofs.Ytocnjegcmmfpfaa.treeShapes
