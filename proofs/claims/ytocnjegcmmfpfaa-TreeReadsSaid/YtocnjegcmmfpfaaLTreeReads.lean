/- PROVED: the statement 'TreeReads' as it is given, for all its inputs; no condition beyond the given row's. The function is run over values without addresses (its plain law stands in TTreeReads); that this run is the program's is proved in the texts that are imported. -/
import Derived.Test.YtocnjegcmmfpfaaRows
import Derived.Test.YtocnjegcmmfpfaaTAllA
import Derived.Test.YtocnjegcmmfpfaaFnE
import Derived.Test.YtocnjegcmmfpfaaTAllC
import Derived.WalkKit
import Derived.ProofKit
import Derived.OpenShut
import Derived.ChangeOld
import Derived.Below
import Derived.SizedLaws
namespace Go.Proofs.Ytocnjegcmmfpfaa.treeReads
open Go.ChangeShapes Go.WideShapes Go.ChangeAt Go.RowKit
set_option linter.unusedVariables false
set_option maxRecDepth 10000 in
open Go.Ab Go.Ab.T Go.Ab.F in
theorem ql8 (d : Nat) : Go.Ab.T.Form PP (d + 1) 3 (cellC .i64) (wfI .i64) := qnn Try.underlying3
set_option maxRecDepth 10000 in
open Go.Ab Go.Ab.T Go.Ab.F in
theorem form_u64 (d : Nat) : Go.Ab.T.Form PP (d + 1) 23 (cellC .u64) (wfI .u64) := qnn Try.underlying23
set_option maxRecDepth 10000 in
open Go.Ab Go.Ab.T Go.Ab.F in
theorem form_ext (d : Nat) : Go.Ab.T.Form PP (d + 2) 34 extentC (fun _ => True) := by
 intro cs h
 obtain ⟨_, _, rfl, h1, _, _, rfl, h2, rfl⟩ := qm5 Try.underlying34 h
 obtain ⟨x, rfl, w1⟩ := ql8 d _ h1
 obtain ⟨y, rfl, w2⟩ := ql8 d _ h2
 exact ⟨⟨x, y⟩, rfl, trivial⟩
theorem wf_key {n : Int} (h : Go.Ab.T.wfI .u64 n) : 0 ≤ n ∧ n ≤ 18446744073709551615 := by
 simp [Go.Ab.T.wfI, Lit.wf, IntKind.min, IntKind.max, IntKind.bits, IntKind.signed] at h; omega
set_option maxRecDepth 10000 in
open Go.Ab Go.Ab.T Go.Ab.F in
theorem form_keys (d : Nat) : Go.Ab.T.Form PP (d + 2) 65 (fun xs : List Int => [mkF 1 (xs.map (cellC .u64))]) (fun xs => fitsM xs.length 8 ∧ ∀ x ∈ xs, wfI .u64 x) := qgC Try.underlying65 (by kernel_rfl) (by kernel_rfl) (form_u64 d)
set_option maxRecDepth 10000 in
open Go.Ab Go.Ab.T Go.Ab.F in
theorem form_vals (d : Nat) : Go.Ab.T.Form PP (d + 3) 66 (fun xs : List Go.Ab.T.Extent => [mkF 2 (xs.map extentC)]) (fun xs => fitsM xs.length 16 ∧ ∀ x ∈ xs, True) := qgC Try.underlying66 (by kernel_rfl) (by kernel_rfl) (form_ext d)
set_option maxRecDepth 10000 in
open Go.Ab Go.Ab.T Go.Ab.F in
theorem form_kids (d : Nat) : Go.Ab.T.Form PP (d + 2) 84 (fun xs : List Int => [mkF 1 (xs.map (cellC .i64))]) (fun xs => fitsM xs.length 8 ∧ ∀ x ∈ xs, wfI .i64 x) := qgC Try.underlying84 (by kernel_rfl) (by kernel_rfl) (ql8 d)
set_option maxRecDepth 10000 in
open Go.Ab Go.Ab.T Go.Ab.F in
theorem form_nd (d : Nat) : Go.Ab.T.Form PP (d + 4) 86 nodeRC okNd := by
 intro cs h
 obtain ⟨_, _, rfl, h1, _, _, rfl, h2, _, _, rfl, h3, rfl⟩ := qm5 Try.underlying86 h
 obtain ⟨x, rfl, w1⟩ := form_keys (d + 1) _ h1
 obtain ⟨y, rfl, w2⟩ := form_vals d _ h2
 obtain ⟨z, rfl, w3⟩ := form_kids (d + 1) _ h3
 exact ⟨⟨x, y, z⟩, rfl, ⟨w1.1, fun k hk => wf_key (w1.2 k hk)⟩, w2.1, w3.1⟩
set_option maxRecDepth 10000 in
open Go.Ab Go.Ab.T Go.Ab.F in
theorem form_nodes (d : Nat) : Go.Ab.T.Form PP (d + 5) 41 (fun xs : List Go.Ab.T.NodeR => [mkF 3 (xs.map nodeRC)]) (fun xs => fitsM xs.length 72 ∧ ∀ x ∈ xs, okNd x) := qgC Try.underlying41 (by kernel_rfl) (by kernel_rfl) (form_nd d)
theorem own : ownKnob Try.prog.godebug = none := by kernel_rfl
theorem laidOut : laidOutB Try.prog = true := by kernel_rfl
set_option maxRecDepth 100000 in
theorem lifted (os : Os) (started : os.Started) (H : Type) (enc : TypeId × Value → H) :
 ReturnsInHanded {} Try.checked os 7 .any (Rows.treeReadsSpec.pre6 enc Try.prog Try.f7 Rows.treeReadsRow.domain false) (Rows.treeReadsSpec.post enc Try.prog Try.f7 false true false false) := by
 refine returnsInHanded_of_change_sized (C := Try.checked) own started (by kernel_rfl) Try.func7
  (ChangeSpec.witness6 (enc := enc) (C := Try.checked) false ⟨#[], #[.slice none 0 0, .int .u64 0], []⟩ 8 (by kernel_rfl) (by kernel_rfl) (by kernel_rfl) (by kernel_rfl)) ?_
 intro W base args ds gs before hval0 hW hcnd hwt0 _
 have hval : ∀ (j : Nat) t v, Try.f7.params[j]? = some t → args[j]? = some v → Value.okWide Try.prog W .any base t v := hval0
 have hW' := hW
 obtain ⟨p, q, hA0, hV, rfl, hfz, hnd⟩ := hW
 have hA : DataW.TrodAll enc Try.prog W 0 (fun _ => true) true Try.f7.params.toList args.toList ds p := hA0
 have hwt : ((DataW.weightsEach Try.prog (Try.f7.params.toList ++ Rows.treeReadsSpec.plain.varTypes Try.prog) (ds ++ gs)).all fun n => decide (n ≤ reachBytes)) = true := hwt0
 clear hwt0
 rw [Try.params7] at hA hval hwt
 obtain ⟨v0, vs0, d0, ds0, p0, q0, hargs, rfl, rfl, h0, r0⟩ := trodAll_cons hA
 obtain ⟨v1, vs1, d1, ds1, p1, q1, rfl, rfl, rfl, h1, r1⟩ := trodAll_cons r0
 obtain ⟨rfl, rfl, rfl⟩ := trodAll_nil r1
 obtain rfl : args = #[v0, v1] := by cases args; simp_all
 obtain ⟨rfl, rfl⟩ := trodVars_none hV
 obtain ⟨b0, l0, c0, rfl⟩ := okWide_slice Try.underlying41 (hval 0 41 v0 rfl rfl)
 have k0 := h0
 have lt0 : ∀ x ∈ p0, x.block < W.heap.size := by obtain ⟨m, hm⟩ := k0; exact DataW.trod_lt m _ _ _ hm
 obtain ⟨fuel0, hf0⟩ := h0
 obtain ⟨_, one0, as0, len0, z0, g0⟩ := Go.Ab.qh9 fuel0 8 41 _ _ hf0 (by kernel_rfl) (fun k hk => of_decide_eq_true (List.all_eq_true.1 hwt k (DataW.weights_mem_each (j := 0) rfl rfl k hk)))
 obtain ⟨t0, rfl, ok0⟩ := form_nodes 3 _ g0
 obtain ⟨a1, rfl, rfl, rfl, w1⟩ := open_int Try.underlying23 (hval 1 23 v1 rfl rfl) h1
 clear hA0 hval0
 have hz : ∀ i (hi : i < [(Go.Ab.mkF 3 (t0.map Go.Ab.T.nodeRC) : Go.Ab.A), (.s (.int .u64 a1) : Go.Ab.A)].length), Go.Ab.Fz Try.prog W (Go.Ab.There W) (#[(.slice b0 l0 c0 : Value), (.int .u64 a1 : Value)].getD i undef) ([Go.Ab.mkF 3 (t0.map Go.Ab.T.nodeRC), .s (.int .u64 a1)] : List Go.Ab.A)[i] := by
  intro i hi
  match i, hi with
  | 0, _ => exact z0 0 _ _ rfl rfl
  | 1, _ => exact .s _
 refine (Go.Ab.law_walk Go.Ab.F.qhS (Go.Ab.T.qn3 t0 a1 ok0 w1) (Go.Ab.There W) (fun b o h => h) rfl hz).mono fun e W' ⟨he, bel⟩ => ?_
 subst he
 exact ⟨_, rfl, _, _, _, [], _, [], hW', trodAll_mk1 (shut_bool Try.underlying4 _), (trodAll_cons_mk (Below.trod laidOut (by kernel_rfl) (of_decide_eq_true (by kernel_rfl)) k0 bel lt0) (trodAll_cons_mk (shut_int Try.underlying23 w1) trodAll_mk0)), rfl, bel.frame _, fun h => by cases h⟩
theorem over : Rows.treeReadsRow.holds Try.pinned (OpenSpec.ofChange Rows.treeReadsSpec) :=
 OpenClaim.holds_of_wide 7 Try.f7 rfl rfl rfl rfl rfl rfl rfl ⟨rfl, rfl, rfl, rfl, rfl⟩ rfl rfl rfl rfl rfl (by kernel_rfl) Try.func7 (by kernel_rfl)
  (of_decide_eq_true (by kernel_rfl)) (by unfold Func.isWrapper; first | (rw [if_pos (by decide +kernel)]; kernel_rfl) | (rw [if_neg (by decide +kernel)]; exact ⟨rfl, rfl⟩))
  (fun os started H enc _ => lifted os started H enc)
theorem proved : Rows.TreeReadsSaid := over
#print axioms proved
end Go.Proofs.Ytocnjegcmmfpfaa.treeReads
