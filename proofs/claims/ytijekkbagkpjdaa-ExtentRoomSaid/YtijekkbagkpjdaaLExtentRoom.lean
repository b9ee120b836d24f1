/- PROVED: the statement 'ExtentRoom' as it is given, for all its inputs; no condition beyond the given row's. The function is run over values without addresses (its plain law stands in TExtentRoom); that this run is the program's is proved in the texts that are imported. -/
import Derived.Test.YtijekkbagkpjdaaRows
import Derived.Test.YtijekkbagkpjdaaTFormX
import Derived.Test.YtijekkbagkpjdaaFnE
import Derived.Test.YtijekkbagkpjdaaTRoom
import Derived.WalkKit
import Derived.ProofKit
import Derived.OpenShut
import Derived.ChangeOld
import Derived.Below
namespace Go.Proofs.Ytijekkbagkpjdaa.extentRoom
open Go.ChangeShapes Go.WideShapes Go.ChangeAt Go.RowKit
set_option linter.unusedVariables false


set_option maxRecDepth 10000 in
open Go.Ab Go.Ab.T Go.Ab.F in
theorem form_i64 (d : Nat) : Go.Ab.T.Form PP (d + 1) 3 (cellC .i64) (wfI .i64) := form_int Try.underlying3
set_option maxRecDepth 10000 in
open Go.Ab Go.Ab.T Go.Ab.F in
theorem form_ext (d : Nat) : Go.Ab.T.Form PP (d + 2) 30 extentC (fun _ => True) := by
  intro cs h
  obtain ⟨_, _, rfl, h1, _, _, rfl, h2, rfl⟩ := gd_struct Try.underlying30 h
  obtain ⟨x, rfl, w1⟩ := form_i64 d _ h1
  obtain ⟨y, rfl, w2⟩ := form_i64 d _ h2
  exact ⟨⟨x, y⟩, rfl, trivial⟩
set_option maxRecDepth 10000 in
open Go.Ab Go.Ab.T Go.Ab.F in
theorem form_actx (d : Nat) : Go.Ab.T.Form PP (d + 3) 32 actXC (fun _ => True) := by
  intro cs h
  obtain ⟨_, _, rfl, h1, _, _, rfl, h2, _, _, rfl, h3, rfl⟩ := gd_struct Try.underlying32 h
  obtain ⟨x, rfl, w1⟩ := form_i64 (d + 1) _ h1
  obtain ⟨y, rfl, w2⟩ := form_i64 (d + 1) _ h2
  obtain ⟨z, rfl, w3⟩ := form_ext d _ h3
  exact ⟨⟨x, y, z⟩, rfl, trivial⟩
set_option maxRecDepth 10000 in
open Go.Ab Go.Ab.T Go.Ab.F in
theorem form_actxs (d : Nat) : Go.Ab.T.Form PP (d + 4) 28 (fun xs : List Go.Ab.T.ActX => [mkF 4 (xs.map actXC)]) (fun xs => xs.length ≤ maxLen ∧ ∀ x ∈ xs, True) := form_slice Try.underlying28 (by kernel_rfl) (form_actx d)

theorem own : ownKnob Try.prog.godebug = none := by kernel_rfl
theorem laidOut : laidOutB Try.prog = true := by kernel_rfl

set_option maxRecDepth 100000 in
theorem lifted (os : Os) (started : os.Started) (H : Type) (enc : TypeId × Value → H) :
    ReturnsInHanded {} Try.checked os 4 .any (Rows.extentRoomSpec.pre6 enc Try.prog Try.f4 Rows.extentRoomRow.domain false) (Rows.extentRoomSpec.post enc Try.prog Try.f4 false true false false) := by
  refine returnsInHanded_of_change (C := Try.checked) own started (by kernel_rfl) Try.func4
    (ChangeSpec.witness6 (enc := enc) (C := Try.checked) false ⟨#[], #[.int .i64 0, .slice none 0 0, .int .i64 0], []⟩ 8 (by kernel_rfl) (by kernel_rfl) (by kernel_rfl) (by kernel_rfl)) ?_
  intro W base args ds gs before hval0 hW hcnd _
  have hval : ∀ (j : Nat) t v, Try.f4.params[j]? = some t → args[j]? = some v → Value.okWide Try.prog W .any base t v := hval0
  have hW' := hW
  obtain ⟨p, q, hA0, hV, rfl, hfz, hnd⟩ := hW
  have hA : DataW.TrodAll enc Try.prog W 0 (fun _ => true) true Try.f4.params.toList args.toList ds p := hA0
  rw [Try.params4] at hA hval
  obtain ⟨v0, vs0, d0, ds0, p0, q0, hargs, rfl, rfl, h0, r0⟩ := trodAll_cons hA
  obtain ⟨v1, vs1, d1, ds1, p1, q1, rfl, rfl, rfl, h1, r1⟩ := trodAll_cons r0
  obtain ⟨v2, vs2, d2, ds2, p2, q2, rfl, rfl, rfl, h2, r2⟩ := trodAll_cons r1
  obtain ⟨rfl, rfl, rfl⟩ := trodAll_nil r2
  obtain rfl : args = #[v0, v1, v2] := by cases args; simp_all
  obtain ⟨rfl, rfl⟩ := trodVars_none hV
  obtain ⟨a0, rfl, rfl, rfl, w0⟩ := open_int Try.underlying3 (hval 0 3 v0 rfl rfl) h0
  obtain ⟨b1, l1, c1, rfl⟩ := okWide_slice Try.underlying28 (hval 1 28 v1 rfl rfl)
  have k1 := h1
  have lt1 : ∀ x ∈ p1, x.block < W.heap.size := by obtain ⟨m, hm⟩ := k1; exact DataW.trod_lt m _ _ _ hm
  obtain ⟨fuel1, hf1⟩ := h1
  obtain ⟨_, one1, as1, len1, z1, g1⟩ := Go.Ab.trod_read fuel1 8 28 _ _ hf1 (by kernel_rfl)
  obtain ⟨t1, rfl, ok1⟩ := form_actxs 4 _ g1
  obtain ⟨a2, rfl, rfl, rfl, w2⟩ := open_int Try.underlying3 (hval 2 3 v2 rfl rfl) h2
  clear hA0 hval0
  have hz : ∀ i (hi : i < [(.s (.int .i64 a0) : Go.Ab.A), (Go.Ab.mkF 4 (t1.map Go.Ab.T.actXC) : Go.Ab.A), (.s (.int .i64 a2) : Go.Ab.A)].length), Go.Ab.Fz Try.prog W (Go.Ab.There W) (#[(.int .i64 a0 : Value), (.slice b1 l1 c1 : Value), (.int .i64 a2 : Value)].getD i undef) ([.s (.int .i64 a0), Go.Ab.mkF 4 (t1.map Go.Ab.T.actXC), .s (.int .i64 a2)] : List Go.Ab.A)[i] := by
    intro i hi
    match i, hi with
    | 0, _ => exact .s _
    | 1, _ => exact z1 0 _ _ rfl rfl
    | 2, _ => exact .s _
  refine (Go.Ab.law_walk Go.Ab.F.law07_ExtentRoom_ok (Go.Ab.T.ExtentRoom_v a0 t1 a2 w0 ok1 w2) (Go.Ab.There W) (fun b o h => h) rfl hz).mono fun e W' ⟨he, bel⟩ => ?_
  subst he
  exact ⟨_, rfl, _, _, _, [], _, [], hW', trodAll_mk1 (shut_bool Try.underlying4 _), (trodAll_cons_mk (shut_int Try.underlying3 w0) (trodAll_cons_mk (Below.trod laidOut (by kernel_rfl) (of_decide_eq_true (by kernel_rfl)) k1 bel lt1) (trodAll_cons_mk (shut_int Try.underlying3 w2) trodAll_mk0))), rfl, bel.frame _, fun h => by cases h⟩

theorem over : Rows.extentRoomRow.holds Try.pinned (OpenSpec.ofChange Rows.extentRoomSpec) :=
  OpenClaim.holds_of_wide 4 Try.f4 rfl rfl rfl rfl rfl rfl rfl ⟨rfl, rfl, rfl, rfl, rfl⟩ rfl rfl rfl rfl rfl (by kernel_rfl) Try.func4 (by kernel_rfl)
    (of_decide_eq_true (by kernel_rfl)) (by unfold Func.isWrapper; first | (rw [if_pos (by decide +kernel)]; kernel_rfl) | (rw [if_neg (by decide +kernel)]; exact ⟨rfl, rfl⟩))
    (fun os started H enc _ => lifted os started H enc)

theorem proved : Rows.ExtentRoomSaid := over
#print axioms proved
end Go.Proofs.Ytijekkbagkpjdaa.extentRoom
