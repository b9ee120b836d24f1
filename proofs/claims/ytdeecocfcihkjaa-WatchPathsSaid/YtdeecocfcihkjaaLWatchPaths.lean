/- PROVED: the statement 'WatchPaths' as it is given, for all its inputs; no condition beyond the given row's. The function is run over values without addresses (its plain law stands in TWatchPaths); that this run is the program's is proved in the texts that are imported. -/
import Derived.Test.YtdeecocfcihkjaaRows
import Derived.Test.YtdeecocfcihkjaaTAllB
import Derived.WalkKit
import Derived.ProofKit
import Derived.OpenShut
import Derived.ChangeOld
import Derived.Below
import Derived.SizedLaws
namespace Go.Proofs.Ytdeecocfcihkjaa.watchPaths
open Go.ChangeShapes Go.WideShapes Go.ChangeAt Go.RowKit
set_option linter.unusedVariables false


theorem own : ownKnob Try.prog.godebug = none := by kernel_rfl
theorem laidOut : laidOutB Try.prog = true := by kernel_rfl

set_option maxRecDepth 100000 in
theorem lifted (os : Os) (started : os.Started) (H : Type) (enc : TypeId × Value → H) :
    ReturnsInHanded {} Try.checked os 4 .any (Rows.watchPathsSpec.pre6 enc Try.prog Try.f4 Rows.watchPathsRow.domain false) (Rows.watchPathsSpec.post enc Try.prog Try.f4 false true false false) := by
  refine returnsInHanded_of_change_sized (C := Try.checked) own started (by kernel_rfl) Try.func4
    (ChangeSpec.witness6 (enc := enc) (C := Try.checked) false ⟨#[], #[.slice none 0 0, .int .u64 0], []⟩ 8 (by kernel_rfl) (by kernel_rfl) (by kernel_rfl) (by kernel_rfl)) ?_
  intro W base args ds gs before hval0 hW hcnd hwt0 _
  have hval : ∀ (j : Nat) t v, Try.f4.params[j]? = some t → args[j]? = some v → Value.okWide Try.prog W .any base t v := hval0
  have hW' := hW
  obtain ⟨p, q, hA0, hV, rfl, hfz, hnd⟩ := hW
  have hA : DataW.TrodAll enc Try.prog W 0 (fun _ => true) true Try.f4.params.toList args.toList ds p := hA0
  have hwt : ((DataW.weightsEach Try.prog (Try.f4.params.toList ++ Rows.watchPathsSpec.plain.varTypes Try.prog) (ds ++ gs)).all fun n => decide (n ≤ reachBytes)) = true := hwt0
  clear hwt0
  rw [Try.params4] at hA hval hwt
  obtain ⟨v0, vs0, d0, ds0, p0, q0, hargs, rfl, rfl, h0, r0⟩ := trodAll_cons hA
  obtain ⟨v1, vs1, d1, ds1, p1, q1, rfl, rfl, rfl, h1, r1⟩ := trodAll_cons r0
  obtain ⟨rfl, rfl, rfl⟩ := trodAll_nil r1
  obtain rfl : args = #[v0, v1] := by cases args; simp_all
  obtain ⟨rfl, rfl⟩ := trodVars_none hV
  obtain ⟨b0, l0, c0, rfl⟩ := okWide_slice Try.underlying22 (hval 0 22 v0 rfl rfl)
  have k0 := h0
  have lt0 : ∀ x ∈ p0, x.block < W.heap.size := by obtain ⟨m, hm⟩ := k0; exact DataW.trod_lt m _ _ _ hm
  obtain ⟨fuel0, hf0⟩ := h0
  obtain ⟨_, one0, as0, len0, z0, g0⟩ := Go.Ab.trod_read fuel0 8 22 _ _ hf0 (by kernel_rfl) (fun k hk => of_decide_eq_true (List.all_eq_true.1 hwt k (DataW.weights_mem_each (j := 0) rfl rfl k hk)))
  obtain ⟨t0, rfl, ok0⟩ := Go.Ab.T.form_things 2 _ g0
  obtain ⟨a1, rfl, rfl, rfl, w1⟩ := open_int Try.underlying26 (hval 1 26 v1 rfl rfl) h1
  clear hA0 hval0
  have hz : ∀ i (hi : i < [(Go.Ab.mkF 26 (t0.map Go.Ab.T.thingC) : Go.Ab.A), (.s (.int .u64 a1) : Go.Ab.A)].length), Go.Ab.Fz Try.prog W (Go.Ab.There W) (#[(.slice b0 l0 c0 : Value), (.int .u64 a1 : Value)].getD i undef) ([Go.Ab.mkF 26 (t0.map Go.Ab.T.thingC), .s (.int .u64 a1)] : List Go.Ab.A)[i] := by
    intro i hi
    match i, hi with
    | 0, _ => exact z0 0 _ _ rfl rfl
    | 1, _ => exact .s _
  refine (Go.Ab.law_walk Go.Ab.F.law23_WatchPaths_ok (Go.Ab.T.WatchPaths_v t0 a1 ok0 w1) (Go.Ab.There W) (fun b o h => h) rfl hz).mono fun e W' ⟨he, bel⟩ => ?_
  subst he
  exact ⟨_, rfl, _, _, _, [], _, [], hW', trodAll_mk1 (shut_bool Try.underlying4 _), (trodAll_cons_mk (Below.trod laidOut (by kernel_rfl) (of_decide_eq_true (by kernel_rfl)) k0 bel lt0) (trodAll_cons_mk (shut_int Try.underlying26 w1) trodAll_mk0)), rfl, bel.frame _, fun h => by cases h⟩

theorem over : Rows.watchPathsRow.holds Try.pinned (OpenSpec.ofChange Rows.watchPathsSpec) :=
  OpenClaim.holds_of_wide 4 Try.f4 rfl rfl rfl rfl rfl rfl rfl ⟨rfl, rfl, rfl, rfl, rfl⟩ rfl rfl rfl rfl rfl (by kernel_rfl) Try.func4 (by kernel_rfl)
    (of_decide_eq_true (by kernel_rfl)) (by unfold Func.isWrapper; first | (rw [if_pos (by decide +kernel)]; kernel_rfl) | (rw [if_neg (by decide +kernel)]; exact ⟨rfl, rfl⟩))
    (fun os started H enc _ => lifted os started H enc)

theorem proved : Rows.WatchPathsSaid := over
#print axioms proved
end Go.Proofs.Ytdeecocfcihkjaa.watchPaths
