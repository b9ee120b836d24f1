import Derived.Test.YtiogidfeboeenaaGreatAbsDel
import Derived.Test.YtiogidfeboeenaaGreatProg
import Derived.KernelRfl
set_option maxRecDepth 100000
set_option maxHeartbeats 4000000
set_option linter.unusedSimpArgs false
set_option linter.unusedVariables false
namespace Go.Ab
open Go
noncomputable abbrev PQ : Program := Go.Proofs.Tryz.prog

theorem clone29 : SoundFn PQ 29 (primClone 2 16) := by
  intro args objs R objs' hk w F ρ vs i ha
  unfold primClone at hk
  split at hk <;> try (cases hk; done)
  rename_i x
  split at hk <;> try (cases hk; done)
  rename_i rows hrows
  split at hk <;> try (cases hk; done)
  rename_i hcond
  simp only [Option.some.injEq, Prod.mk.injEq] at hk
  obtain ⟨rfl, rfl⟩ := hk
  obtain ⟨hsz, hrel⟩ := ha
  have hx := hrel 0 (by simp)
  obtain ⟨xv, rfl⟩ : ∃ xv, vs = #[xv] := by
    simp at hsz
    exact Array.size_eq_one_iff.1 hsz
  simp at hx
  obtain ⟨a, c, us, rfl, hw, hc, hrun, -⟩ := rowsOf_spec i hx hrows
  have hu : PQ.underlying 39 = some (.slice 71) := by kernel_rfl
  have hie : PQ.info? 71 = some Go.Proofs.Tryz.t71 := by kernel_rfl
  have hz2 : (zeroT PQ 71).map List.length = some 2 := by kernel_rfl
  obtain ⟨w1, v, w2, b1, b2, F', ρ', i', t', r'⟩ := clone_some (ty := 39) i hx hu hie (sz := 2) rfl (by decide) (by decide) hz2 hrows hcond.1
  refine calls_of_body (fn := Go.Proofs.Tryz.f29) (by kernel_rfl) rfl 8 rfl fun a0 hz hd he => ?_
  have he0 := he 0 (by simp)
  simp at he0
  refine wp_seq (wp_regionL rfl ?_)
  refine L_assign rfl ?_
  refine L_end ?_
  refine wp_seq (wp_seq (wp_regionL rfl ?_))
  refine L_move (v := .slice a rows.length c) (by simp [eval_put_ne, he0]) ?_
  refine L_nil hu (eval_put_eq (by rw [size_put, hz]; decide)) ?_
  refine L_end ?_
  cases a with
  | none =>
    have hus : us = [] := by
      have h1 := hrun w (fun _ _ => rfl) rows.length (Nat.le_refl _)
      simp only [Builtin.firstCells, Sem.run_pure, Result.ok.injEq, and_true] at h1
      have h2 := congrArg Array.toList h1
      rw [List.take_of_length_le (by rw [hc.1, flat_len rows hw]; omega)] at h2
      exact h2.symm
    have hr0 : rows = [] := by
      have h1 := hc.1
      rw [hus, flat_len rows hw] at h1
      simp at h1
      exact List.length_eq_zero_iff.1 (by omega)
    subst hr0
    refine wp_cond_true (eval_put_eq (by rw [size_put, size_put, hz]; decide)) (wp_seq (wp_regionL rfl ?_))
    refine L_assign rfl ?_
    refine L_end ?_
    refine wp_ret (ret_one (t := 2) (v := .slice none 0 0) rfl hd (eval_put_eq (by rw [size_put, size_put, size_put, hz]; decide)) ?_)
    obtain ⟨ρ1, i1, t1, r1⟩ := i.addEmpty 1 (show 0 < 2 by decide) none
    exact ⟨F, ρ1, _, i1, t1, _, r1, rfl, rfl⟩
  | some b =>
    refine wp_cond_false (eval_put_eq (by rw [size_put, size_put, hz]; decide)) (wp_skip ?_)
    refine wp_seq (wp_regionL rfl ?_)
    refine L_lit b1 ?_
    refine L_move (v := .slice (some b) rows.length c) (by simp [eval_put_ne, he0]) ?_
    refine L_append (vx := .slice (some ⟨w.heap.size, 0, none⟩) 0 0) (vy := .slice (some b) rows.length c) (v := v) (w' := w2) ?_ (eval_put_eq (by simp only [size_put, hz]; decide)) b2 ?_
    · rw [eval_put_ne (by decide)]; exact eval_put_eq (by simp only [size_put, hz]; decide)
    refine L_assign (eval_put_eq (by simp only [size_put, hz]; decide)) ?_
    refine L_end ?_
    refine wp_ret (ret_one (t := 2) (v := v) rfl (by simp only [defers_put]; exact hd) (eval_put_eq (by simp only [size_put, hz]; decide)) ?_)
    exact ⟨F', ρ', _, i', t', _, r', rfl, rfl⟩

theorem clone30 : SoundFn PQ 30 (primClone 2 16) := by
  intro args objs R objs' hk w F ρ vs i ha
  unfold primClone at hk
  split at hk <;> try (cases hk; done)
  rename_i x
  split at hk <;> try (cases hk; done)
  rename_i rows hrows
  split at hk <;> try (cases hk; done)
  rename_i hcond
  simp only [Option.some.injEq, Prod.mk.injEq] at hk
  obtain ⟨rfl, rfl⟩ := hk
  obtain ⟨hsz, hrel⟩ := ha
  have hx := hrel 0 (by simp)
  obtain ⟨xv, rfl⟩ : ∃ xv, vs = #[xv] := by
    simp at hsz
    exact Array.size_eq_one_iff.1 hsz
  simp at hx
  obtain ⟨a, c, us, rfl, hw, hc, hrun, -⟩ := rowsOf_spec i hx hrows
  have hu : PQ.underlying 44 = some (.slice 52) := by kernel_rfl
  have hie : PQ.info? 52 = some Go.Proofs.Tryz.t52 := by kernel_rfl
  have hz2 : (zeroT PQ 52).map List.length = some 2 := by kernel_rfl
  obtain ⟨w1, v, w2, b1, b2, F', ρ', i', t', r'⟩ := clone_some (ty := 44) i hx hu hie (sz := 2) rfl (by decide) (by decide) hz2 hrows hcond.1
  refine calls_of_body (fn := Go.Proofs.Tryz.f30) (by kernel_rfl) rfl 8 rfl fun a0 hz hd he => ?_
  have he0 := he 0 (by simp)
  simp at he0
  refine wp_seq (wp_regionL rfl ?_)
  refine L_assign rfl ?_
  refine L_end ?_
  refine wp_seq (wp_seq (wp_regionL rfl ?_))
  refine L_move (v := .slice a rows.length c) (by simp [eval_put_ne, he0]) ?_
  refine L_nil hu (eval_put_eq (by rw [size_put, hz]; decide)) ?_
  refine L_end ?_
  cases a with
  | none =>
    have hus : us = [] := by
      have h1 := hrun w (fun _ _ => rfl) rows.length (Nat.le_refl _)
      simp only [Builtin.firstCells, Sem.run_pure, Result.ok.injEq, and_true] at h1
      have h2 := congrArg Array.toList h1
      rw [List.take_of_length_le (by rw [hc.1, flat_len rows hw]; omega)] at h2
      exact h2.symm
    have hr0 : rows = [] := by
      have h1 := hc.1
      rw [hus, flat_len rows hw] at h1
      simp at h1
      exact List.length_eq_zero_iff.1 (by omega)
    subst hr0
    refine wp_cond_true (eval_put_eq (by rw [size_put, size_put, hz]; decide)) (wp_seq (wp_regionL rfl ?_))
    refine L_assign rfl ?_
    refine L_end ?_
    refine wp_ret (ret_one (t := 2) (v := .slice none 0 0) rfl hd (eval_put_eq (by rw [size_put, size_put, size_put, hz]; decide)) ?_)
    obtain ⟨ρ1, i1, t1, r1⟩ := i.addEmpty 1 (show 0 < 2 by decide) none
    exact ⟨F, ρ1, _, i1, t1, _, r1, rfl, rfl⟩
  | some b =>
    refine wp_cond_false (eval_put_eq (by rw [size_put, size_put, hz]; decide)) (wp_skip ?_)
    refine wp_seq (wp_regionL rfl ?_)
    refine L_lit b1 ?_
    refine L_move (v := .slice (some b) rows.length c) (by simp [eval_put_ne, he0]) ?_
    refine L_append (vx := .slice (some ⟨w.heap.size, 0, none⟩) 0 0) (vy := .slice (some b) rows.length c) (v := v) (w' := w2) ?_ (eval_put_eq (by simp only [size_put, hz]; decide)) b2 ?_
    · rw [eval_put_ne (by decide)]; exact eval_put_eq (by simp only [size_put, hz]; decide)
    refine L_assign (eval_put_eq (by simp only [size_put, hz]; decide)) ?_
    refine L_end ?_
    refine wp_ret (ret_one (t := 2) (v := v) rfl (by simp only [defers_put]; exact hd) (eval_put_eq (by simp only [size_put, hz]; decide)) ?_)
    exact ⟨F', ρ', _, i', t', _, r', rfl, rfl⟩

theorem clone31 : SoundFn PQ 31 (primClone 1 1) := by
  intro args objs R objs' hk w F ρ vs i ha
  unfold primClone at hk
  split at hk <;> try (cases hk; done)
  rename_i x
  split at hk <;> try (cases hk; done)
  rename_i rows hrows
  split at hk <;> try (cases hk; done)
  rename_i hcond
  simp only [Option.some.injEq, Prod.mk.injEq] at hk
  obtain ⟨rfl, rfl⟩ := hk
  obtain ⟨hsz, hrel⟩ := ha
  have hx := hrel 0 (by simp)
  obtain ⟨xv, rfl⟩ : ∃ xv, vs = #[xv] := by
    simp at hsz
    exact Array.size_eq_one_iff.1 hsz
  simp at hx
  obtain ⟨a, c, us, rfl, hw, hc, hrun, -⟩ := rowsOf_spec i hx hrows
  have hu : PQ.underlying 33 = some (.slice 5) := by kernel_rfl
  have hie : PQ.info? 5 = some Go.Proofs.Tryz.t5 := by kernel_rfl
  have hz2 : (zeroT PQ 5).map List.length = some 1 := by kernel_rfl
  obtain ⟨w1, v, w2, b1, b2, F', ρ', i', t', r'⟩ := clone_some (ty := 33) i hx hu hie (sz := 1) rfl (by decide) (by decide) hz2 hrows hcond.1
  refine calls_of_body (fn := Go.Proofs.Tryz.f31) (by kernel_rfl) rfl 8 rfl fun a0 hz hd he => ?_
  have he0 := he 0 (by simp)
  simp at he0
  refine wp_seq (wp_regionL rfl ?_)
  refine L_assign rfl ?_
  refine L_end ?_
  refine wp_seq (wp_seq (wp_regionL rfl ?_))
  refine L_move (v := .slice a rows.length c) (by simp [eval_put_ne, he0]) ?_
  refine L_nil hu (eval_put_eq (by rw [size_put, hz]; decide)) ?_
  refine L_end ?_
  cases a with
  | none =>
    have hus : us = [] := by
      have h1 := hrun w (fun _ _ => rfl) rows.length (Nat.le_refl _)
      simp only [Builtin.firstCells, Sem.run_pure, Result.ok.injEq, and_true] at h1
      have h2 := congrArg Array.toList h1
      rw [List.take_of_length_le (by rw [hc.1, flat_len rows hw]; omega)] at h2
      exact h2.symm
    have hr0 : rows = [] := by
      have h1 := hc.1
      rw [hus, flat_len rows hw] at h1
      simp at h1
      exact List.length_eq_zero_iff.1 (by omega)
    subst hr0
    refine wp_cond_true (eval_put_eq (by rw [size_put, size_put, hz]; decide)) (wp_seq (wp_regionL rfl ?_))
    refine L_assign rfl ?_
    refine L_end ?_
    refine wp_ret (ret_one (t := 2) (v := .slice none 0 0) rfl hd (eval_put_eq (by rw [size_put, size_put, size_put, hz]; decide)) ?_)
    obtain ⟨ρ1, i1, t1, r1⟩ := i.addEmpty 1 (show 0 < 1 by decide) none
    exact ⟨F, ρ1, _, i1, t1, _, r1, rfl, rfl⟩
  | some b =>
    refine wp_cond_false (eval_put_eq (by rw [size_put, size_put, hz]; decide)) (wp_skip ?_)
    refine wp_seq (wp_regionL rfl ?_)
    refine L_lit b1 ?_
    refine L_move (v := .slice (some b) rows.length c) (by simp [eval_put_ne, he0]) ?_
    refine L_append (vx := .slice (some ⟨w.heap.size, 0, none⟩) 0 0) (vy := .slice (some b) rows.length c) (v := v) (w' := w2) ?_ (eval_put_eq (by simp only [size_put, hz]; decide)) b2 ?_
    · rw [eval_put_ne (by decide)]; exact eval_put_eq (by simp only [size_put, hz]; decide)
    refine L_assign (eval_put_eq (by simp only [size_put, hz]; decide)) ?_
    refine L_end ?_
    refine wp_ret (ret_one (t := 2) (v := v) rfl (by simp only [defers_put]; exact hd) (eval_put_eq (by simp only [size_put, hz]; decide)) ?_)
    exact ⟨F', ρ', _, i', t', _, r', rfl, rfl⟩

theorem insert89 : SoundFn PQ 89 (primInsert 2 16) := by
  intro args objs R objs' hk w F ρ vs i ha
  unfold primInsert at hk
  split at hk <;> try (cases hk; done)
  rename_i id ver sz' lo len i0 vid vver vsz vlo m
  split at hk <;> try (cases hk; done)
  rename_i ob new hob hnew
  split at hk <;> try (cases hk; done)
  rename_i hcond
  obtain ⟨hver, hsz', hle, h0, hil, hok, hvid, hm0⟩ := hcond
  cases hk
  subst hsz'
  obtain ⟨ni, rfl⟩ := Int.eq_ofNat_of_zero_le h0
  have hil : ni ≤ len := by omega
  obtain ⟨hsz, hrel⟩ := ha
  obtain ⟨v0, v1, v2, rfl⟩ : ∃ v0 v1 v2, vs = #[v0, v1, v2] := by
    simp at hsz
    exact arr3 hsz
  have r0 := hrel 0 (by simp)
  have r1 := hrel 1 (by simp)
  have r2 := hrel 2 (by simp)
  simp at r0 r1 r2
  obtain rfl := r1.s_inv
  obtain ⟨a, c, rfl, hlc, hsp⟩ := Span.of i r0 hob hver hle
  have hobsz : ob.sz = 2 := by
    obtain ⟨a2, c2, hh, _, _, _, _, hy⟩ := r0.osl_inv
    rw [((hy ob hob).2 hver.symm).1, (i.obj id ob hob).sz]
  -- what comes in
  obtain ⟨vob, hvob, hvver, rfl, hvle, rfl⟩ : ∃ vob, objs[vid]? = some (.live vob) ∧ vob.ver = vver ∧ vsz = 2 ∧ vlo + m ≤ vob.rows.length ∧ new = (vob.rows.drop vlo).take m := by
    unfold rowsOf at hnew
    simp only at hnew
    split at hnew <;> try (cases hnew; done)
    rename_i vob hvob
    split at hnew <;> try (cases hnew; done)
    rename_i hc
    cases hnew
    exact ⟨vob, hvob, hc.1, hc.2.1, hc.2.2, rfl⟩
  obtain ⟨va, vc, rfl, hvlc, hvsp⟩ := Span.of i r2 hvob hvver hvle
  obtain ⟨vb, vo, vl, rfl, vsp⟩ := hvsp (by omega)
  generalize hnewd : (vob.rows.drop vlo).take m = new at *
  have hnlen : new.length = m := by rw [← hnewd]; simp; omega
  have hvll := vsp.llen
  have hvc : m * 2 ≤ vc * 2 := Nat.mul_le_mul_right _ hvlc
  let us : List Value := vl.take (m * 2)
  have hul : us.length = m * 2 := by simp only [us, List.length_take]; omega
  have urel : RelC PQ w F ρ objs us new.flatten := vsp.rel
  have hu : PQ.underlying 44 = some (.slice 52) := by kernel_rfl
  have hui : PQ.underlying 3 = some (.int .i64) := by kernel_rfl
  have hie : PQ.info? 52 = some Go.Proofs.Tryz.t52 := by kernel_rfl
  have hz2 : (zeroT PQ 52).map List.length = some 2 := by kernel_rfl
  have hz3 := hz2
  rw [Option.map_eq_some_iff] at hz3
  obtain ⟨zz, hzz, hzl⟩ := hz3
  obtain ⟨zv, hzv, hzr, rfl⟩ := zeroT_rel hzz w F ρ objs
  have hzs : zv.cells.size = 2 := by simpa using hzl
  generalize hold : (ob.rows.drop lo).take len = old at *
  have holen : old.length = len := by rw [← hold]; simp; omega
  have hrl : (old.take ni ++ new ++ old.drop ni).length = len + m := by simp; omega
  simp only [Int.toNat_natCast, hnlen] at hok ⊢
  rw [← hver]
  have hnm62 : len + m < 4611686018427387904 := by
    obtain ⟨_, h2⟩ := hok
    have : (2:Nat)^62 = 4611686018427387904 := by decide
    omega
  have hwr : ∀ x : Int, 0 ≤ x → x < 9223372036854775808 → IntKind.i64.wrap x = x := fun x h1 h2 => by
    have key : IntKind.i64.wrap x = (let m := x % 18446744073709551616; if m ≥ 9223372036854775808 then m - 18446744073709551616 else m) := by
      simp [IntKind.wrap, IntKind.bits, IntKind.signed]
    rw [key]
    have : x % 18446744073709551616 = x := by omega
    simp only [this]; rw [if_neg (by omega)]
  obtain ⟨vx, hvx⟩ := run_slice_any (P := PQ) (w := w) (a := a) (n := len) (c := c) (l := ni) (m := len) (hi := none) (mx := none) hu hie hil (Nat.le_refl _) hlc (.inr ⟨rfl, rfl, rfl⟩)
  have hone : ∀ v ∈ us, v.oneCell' = true := urel.one
  refine calls_of_body (fn := Go.Proofs.Tryz.f89) (by kernel_rfl) rfl 95 rfl fun a0 hz hd he => ?_
  have he0 := he 0 (by simp)
  have he1 := he 1 (by simp)
  have he2 := he 2 (by simp)
  simp at he0 he1 he2
  refine wp_seq (wp_regionL rfl (L_assign rfl (L_end ?_)))
  refine wp_seq (wp_regionL rfl ?_)
  refine L_move (v := .slice a len c) (by simp [eval_put_ne, eval_put_eq, eval_put_none, size_put, hz, he0, he1, he2]) ?_
  refine L_move (v := .int .i64 ni) (by simp [eval_put_ne, eval_put_eq, eval_put_none, size_put, hz, he0, he1, he2]) ?_
  refine L_slice (vx := .slice a len c) (vlo := some (.int .i64 ni)) (vhi := none) (vmx := none) (v := vx) (by simp [eval_put_ne, eval_put_eq, eval_put_none, size_put, hz, he0, he1, he2]) (by simp [eval_put_ne, eval_put_eq, eval_put_none, size_put, hz, he0, he1, he2]) (by simp [eval_put_ne, eval_put_eq, eval_put_none, size_put, hz, he0, he1, he2]) (by simp [eval_put_ne, eval_put_eq, eval_put_none, size_put, hz, he0, he1, he2]) hvx ?_
  refine L_end ?_
  refine wp_seq (wp_regionL rfl ?_)
  refine L_move (v := .slice (some ⟨vb, vo, none⟩) m vc) (by simp [eval_put_ne, eval_put_eq, eval_put_none, size_put, hz, he0, he1, he2]) ?_
  refine L_len hu (b := some ⟨vb, vo, none⟩) (n := m) (c := vc) (by simp [eval_put_ne, eval_put_eq, eval_put_none, size_put, hz, he0, he1, he2]) ?_
  refine L_assign (v := .int .i64 m) (by simp [eval_put_ne, eval_put_eq, eval_put_none, size_put, hz, he0, he1, he2]) ?_
  refine L_end ?_
  refine wp_seq (wp_seq (wp_regionL rfl ?_))
  refine L_move (v := .int .i64 m) (by simp [eval_put_ne, eval_put_eq, eval_put_none, size_put, hz, he0, he1, he2]) ?_
  refine L_eqInt (m := m) (n := 0) (by simp [eval_put_ne, eval_put_eq, eval_put_none, size_put, hz, he0, he1, he2]) rfl ?_
  refine L_end ?_
  have hd1 : ((m : Int) == 0) = false := by simp; omega
  refine wp_cond_false (by simp [eval_put_ne, eval_put_eq, eval_put_none, size_put, hz, he0, he1, he2, hd1]) (wp_skip ?_)
  refine wp_seq (wp_regionL rfl ?_)
  refine L_move (v := .slice a len c) (by simp [eval_put_ne, eval_put_eq, eval_put_none, size_put, hz, he0, he1, he2]) ?_
  refine L_len hu (b := a) (n := len) (c := c) (by simp [eval_put_ne, eval_put_eq, eval_put_none, size_put, hz, he0, he1, he2]) ?_
  refine L_assign (v := .int .i64 len) (by simp [eval_put_ne, eval_put_eq, eval_put_none, size_put, hz, he0, he1, he2]) ?_
  refine L_end ?_
  refine wp_seq (wp_seq (wp_regionL rfl ?_))
  refine L_move (v := .int .i64 ni) (by simp [eval_put_ne, eval_put_eq, eval_put_none, size_put, hz, he0, he1, he2]) ?_
  refine L_move (v := .int .i64 len) (by simp [eval_put_ne, eval_put_eq, eval_put_none, size_put, hz, he0, he1, he2]) ?_
  refine L_eqInt (m := ni) (n := len) (by simp [eval_put_ne, eval_put_eq, eval_put_none, size_put, hz, he0, he1, he2]) (by simp [eval_put_ne, eval_put_eq, eval_put_none, size_put, hz, he0, he1, he2]) ?_
  refine L_end ?_
  by_cases hin : ni = len
  · -- at the end
    subst hin
    refine wp_cond_true (by simp [eval_put_ne, eval_put_eq, eval_put_none, size_put, hz, he0, he1, he2]) (wp_seq (wp_regionL rfl ?_))
    refine L_move (v := .slice a ni c) (by simp [eval_put_ne, eval_put_eq, eval_put_none, size_put, hz, he0, he1, he2]) ?_
    refine L_move (v := .slice (some ⟨vb, vo, none⟩) m vc) (by simp [eval_put_ne, eval_put_eq, eval_put_none, size_put, hz, he0, he1, he2]) ?_
    have hok2 : appendOk (ni + new.length) 16 := ⟨Nat.le_trans (Nat.mul_le_mul_right _ (by omega)) hok.1, by rw [hnlen]; obtain ⟨_, h2⟩ := hok; omega⟩
    have hy := sound_append (ty := 44) (at_ := none) (k := fun a h => some (a, h)) (r := (A.osl id (ver + 1) 2 0 (ni + new.length), objs.set id (.live ⟨ver + 1, ob.sz, old ++ new⟩))) i r0 r2 hu hu (by kernel_rfl : sizeT PQ 52 = some 2) (by rw [show PQ.bytesOf 52 = 16 from by kernel_rfl]; decide) hz2 (by
      have hb : PQ.bytesOf 52 = 16 := by kernel_rfl
      unfold oAppend
      have hr2 : rowsOf 2 (.osl vid vver 2 vlo m) objs = some new := by simp [rowsOf, hvob, hvver, hvle, hnewd]
      rw [hr2]
      simp only [hob]
      rw [if_pos ⟨hver, trivial, hle, by rw [hb]; exact hok2⟩, hold])
    obtain ⟨nx, v, w2, F', ρ', h', a', e1, e2, e3, e4, e5, e6⟩ := hy
    simp only [Option.some.injEq, Prod.mk.injEq] at e6
    obtain ⟨rfl, rfl⟩ := e6
    rw [Sem.run_bind] at e1
    cases hap : (Builtin.append_ #[44, 44] 44 #[.slice a ni c, .slice (some ⟨vb, vo, none⟩) m vc]).run PQ w with
    | halt x y => rw [hap] at e1; cases e1
    | ok uu w3 =>
      rw [hap] at e1
      simp only [Result.andThen_ok, Sem.run_pure, Result.ok.injEq] at e1
      obtain ⟨rfl, rfl⟩ := e1
      have huv : uu = v := by rcases e2 with h | ⟨h, _⟩ <;> cases h; rfl
      subst huv
      refine L_append (vx := .slice a ni c) (vy := .slice (some ⟨vb, vo, none⟩) m vc) (v := uu) (w' := w3) (by simp [eval_put_ne, eval_put_eq, eval_put_none, size_put, hz, he0, he1, he2]) (by simp [eval_put_ne, eval_put_eq, eval_put_none, size_put, hz, he0, he1, he2]) hap ?_
      refine L_assign (v := uu) (by simp [eval_put_ne, eval_put_eq, eval_put_none, size_put, hz, he0, he1, he2]) ?_
      refine L_end ?_
      refine wp_ret (ret_one (t := 6) (v := uu) rfl (by simp only [defers_put]; exact hd) (by simp [eval_put_ne, eval_put_eq, eval_put_none, size_put, hz, he0, he1, he2]) ?_)
      have t1 : old.take ni = old := List.take_of_length_le (by omega)
      have t2 : old.drop ni = [] := List.drop_eq_nil_of_le (by omega)
      rw [t1, t2, List.append_nil, hver]
      rw [hnlen] at e3
      exact ⟨F', ρ', _, e4, e5, _, e3, rfl, rfl⟩
  · have hd2 : ((ni : Int) == (len : Int)) = false := by simp; omega
    refine wp_cond_false (by simp [eval_put_ne, eval_put_eq, eval_put_none, size_put, hz, he0, he1, he2, hd2]) (wp_skip ?_)
    obtain ⟨b, o, l, rfl, sp⟩ := hsp (by omega)
    have hll := sp.llen
    have hcl : len * 2 ≤ c * 2 := Nat.mul_le_mul_right _ hlc
    have his : ni * 2 ≤ len * 2 := Nat.mul_le_mul_right _ hil
    have hid : (len - ni) * 2 = len * 2 - ni * 2 := Nat.sub_mul _ _ _
    let ds : List Value := (l.drop (ni * 2)).take ((len - ni) * 2)
    have hdl : ds.length = (len - ni) * 2 := by simp only [ds, List.length_take, List.length_drop]; omega
    have drel : RelC PQ w F ρ objs ds (old.drop ni).flatten := by
      have h1 := sp.rel.sub (ni * 2) ((len - ni) * 2)
      rw [flat_drop ni _ sp.width]
      have e1 : (old.flatten.drop (ni * 2)).take ((len - ni) * 2) = old.flatten.drop (ni * 2) := List.take_of_length_le (by rw [List.length_drop, flat_len _ sp.width, holen]; omega)
      rw [e1] at h1
      have e2 : ((l.take (len * 2)).drop (ni * 2)).take ((len - ni) * 2) = ds := by
        simp only [ds]; rw [List.drop_take, List.take_take]; congr 1; omega
      rwa [e2] at h1
    have prel : RelC PQ w F ρ objs (l.take (ni * 2)) (old.take ni).flatten := by
      rw [flat_take ni _ sp.width]
      have h1 := sp.rel.sub 0 (ni * 2)
      simp only [List.drop_zero] at h1
      rwa [List.take_take, Nat.min_eq_left (by omega)] at h1
    have allrel : RelC PQ w F ρ objs (l.take (ni * 2) ++ us ++ ds) (old.take ni ++ new ++ old.drop ni).flatten := by
      rw [List.flatten_append, List.flatten_append]
      exact (prel.append urel).append drel
    have hwid : ∀ row ∈ old.take ni ++ new ++ old.drop ni, row.length = 2 := fun row hr => by
      rcases List.mem_append.1 hr with hr | hr
      · rcases List.mem_append.1 hr with hr | hr
        · exact sp.width _ (List.mem_of_mem_take hr)
        · exact vsp.width _ hr
      · exact sp.width _ (List.mem_of_mem_drop hr)
    have hrun : ∀ (w1 : World) (xa : Option Addr) (xc : Nat), xa = some ⟨vb, vo, none⟩ → Blk w1 vb vo vl → (Builtin.firstCells 2 m (.slice xa m xc)).run PQ w1 = .ok us.toArray w1 := fun w1 xa xc hx hb => by
      subst hx
      have := Blk.read (P := PQ) (sz := 2) (k := 0) (n := m) (len := m) (c := xc) hb (by omega)
      simpa only [Nat.add_zero, List.drop_zero] using this
    refine wp_seq (wp_seq (wp_regionL rfl ?_))
    refine L_move (v := .int .i64 len) (by simp [eval_put_ne, eval_put_eq, eval_put_none, size_put, hz, he0, he1, he2]) ?_
    refine L_move (v := .int .i64 m) (by simp [eval_put_ne, eval_put_eq, eval_put_none, size_put, hz, he0, he1, he2]) ?_
    refine L_add (m := len) (n := m) (by simp [eval_put_ne, eval_put_eq, eval_put_none, size_put, hz, he0, he1, he2]) (by simp [eval_put_ne, eval_put_eq, eval_put_none, size_put, hz, he0, he1, he2]) (hwr _ (by omega) (by omega)) ?_
    refine L_move (v := .slice (some ⟨b, o, none⟩) len c) (by simp [eval_put_ne, eval_put_eq, eval_put_none, size_put, hz, he0, he1, he2]) ?_
    refine L_cap hu (b := some ⟨b, o, none⟩) (n := len) (c := c) (by simp [eval_put_ne, eval_put_eq, eval_put_none, size_put, hz, he0, he1, he2]) ?_
    refine L_gtInt (m := (len : Int) + (m : Int)) (n := c) (by simp [eval_put_ne, eval_put_eq, eval_put_none, size_put, hz, he0, he1, he2]) (by simp [eval_put_ne, eval_put_eq, eval_put_none, size_put, hz, he0, he1, he2]) ?_
    refine L_end ?_
    by_cases hgt : c < len + m
    · -- new memory
      have hd3 : decide ((c : Int) < (len : Int) + (m : Int)) = true := by simp; omega
      refine wp_cond_true (by simp [eval_put_ne, eval_put_eq, eval_put_none, size_put, hz, he0, he1, he2, hd3]) (wp_seq (wp_regionL rfl ?_))
      have hok2 : appendOk (ni + (len + m - ni)) 16 := ⟨Nat.le_trans (Nat.mul_le_mul_right _ (by omega)) hok.1, by obtain ⟨_, h2⟩ := hok; omega⟩
      have hfirst : ∀ d, (Builtin.firstCells 2 ni (.slice (some ⟨b, o, none⟩) ni c)).run PQ { w with drawn := d } = .ok (l.take (ni * 2)).toArray { w with drawn := d } := fun d => by
        have := Blk.read (P := PQ) (w := { w with drawn := d }) (sz := 2) (k := 0) (n := ni) (len := ni) (c := c) (l := l) (fun j v hv => sp.blk j v hv) (by omega)
        simpa only [Nat.add_zero, List.drop_zero] using this
      obtain ⟨nc, hnc, happ⟩ := run_append_made (P := PQ) (w := w) (t := 44) (u := 3) (ty := 44) (a := some ⟨b, o, none⟩) (len := ni) (cap := c) (n := len + m - ni) (vs := l.take (ni * 2)) hu hui hie hzv (by decide) (by omega) hok2 (by omega) (by decide) hfirst
      rw [show ni + (len + m - ni) = len + m by omega] at happ hnc
      let l2 : List Value := l.take (ni * 2) ++ (Builtin.zeroCells zv.cells (len + m - ni)).toList ++ (Builtin.zeroCells zv.cells (nc - (len + m))).toList
      have hl2 : l2.length = nc * 2 := by
        simp only [l2, List.length_append, List.length_take, Array.length_toList, zeroCells_size, hzs]
        have e1 : (len + m - ni) * 2 = (len + m) * 2 - ni * 2 := Nat.sub_mul _ _ _
        have e2 : (nc - (len + m)) * 2 = nc * 2 - (len + m) * 2 := Nat.sub_mul _ _ _
        have e3 : (len + m) * 2 ≤ nc * 2 := Nat.mul_le_mul_right _ hnc
        have e4 : (len + m) * 2 = len * 2 + m * 2 := Nat.add_mul _ _ _
        omega
      have hnb0 : ∀ j, World.cell? { w with drawn := w.drawn + 1, heap := w.heap.push (.cells ((l.take (ni * 2)).toArray ++ Builtin.zeroCells zv.cells (len + m - ni) ++ Builtin.zeroCells zv.cells (nc - (len + m))) 52) } ⟨w.heap.size, j, none⟩ = l2[j]? := fun j => by
        rw [cell_alloc_new { w with drawn := w.drawn + 1 } _ 52 j, ← Array.getElem?_toList]
        simp only [l2, Array.toList_append]
      have ht0 : Thaw { w with drawn := w.drawn + 1, heap := w.heap.push (.cells ((l.take (ni * 2)).toArray ++ Builtin.zeroCells zv.cells (len + m - ni) ++ Builtin.zeroCells zv.cells (nc - (len + m))) 52) } w.heap.size := fun _ => frozen_alloc_new { w with drawn := w.drawn + 1 } _ 52 _
      have up : Upd (fun _ _ => False) w { w with drawn := w.drawn + 1, heap := w.heap.push (.cells ((l.take (ni * 2)).toArray ++ Builtin.zeroCells zv.cells (len + m - ni) ++ Builtin.zeroCells zv.cells (nc - (len + m))) 52) } := (upd_drew _ w).trans (upd_alloc _ { w with drawn := w.drawn + 1 } _) fun _ _ _ h => h
      generalize hwA : ({ w with drawn := w.drawn + 1, heap := w.heap.push (.cells ((l.take (ni * 2)).toArray ++ Builtin.zeroCells zv.cells (len + m - ni) ++ Builtin.zeroCells zv.cells (nc - (len + m))) 52) } : World) = wA at *
      have hbA : Blk wA w.heap.size 0 l2 := fun j v hv => by rw [Nat.zero_add, hnb0]; exact hv
      have hlm : (len + m) * 2 = len * 2 + m * 2 := Nat.add_mul _ _ _
      have hlnc : (len + m) * 2 ≤ nc * 2 := Nat.mul_le_mul_right _ hnc
      have hnim : (ni + m) * 2 = ni * 2 + m * 2 := Nat.add_mul _ _ _
      refine L_move (v := .slice (some ⟨b, o, none⟩) len c) (by simp [eval_put_ne, eval_put_eq, eval_put_none, size_put, hz, he0, he1, he2]) ?_
      refine L_move (v := .int .i64 ni) (by simp [eval_put_ne, eval_put_eq, eval_put_none, size_put, hz, he0, he1, he2]) ?_
      refine L_slice (vx := .slice (some ⟨b, o, none⟩) len c) (vlo := none) (vhi := some (.int .i64 ni)) (vmx := none) (v := .slice (some ⟨b, o, none⟩) ni c) (by simp [eval_put_ne, eval_put_eq, eval_put_none, size_put, hz, he0, he1, he2]) (by simp [eval_put_ne, eval_put_eq, eval_put_none, size_put, hz, he0, he1, he2]) (by simp [eval_put_ne, eval_put_eq, eval_put_none, size_put, hz, he0, he1, he2]) (by simp [eval_put_ne, eval_put_eq, eval_put_none, size_put, hz, he0, he1, he2]) (run_slice_hi hu hie (by omega) (by omega)) ?_
      refine L_move (v := .int .i64 len) (by simp [eval_put_ne, eval_put_eq, eval_put_none, size_put, hz, he0, he1, he2]) ?_
      refine L_move (v := .int .i64 m) (by simp [eval_put_ne, eval_put_eq, eval_put_none, size_put, hz, he0, he1, he2]) ?_
      refine L_add (m := len) (n := m) (by simp [eval_put_ne, eval_put_eq, eval_put_none, size_put, hz, he0, he1, he2]) (by simp [eval_put_ne, eval_put_eq, eval_put_none, size_put, hz, he0, he1, he2]) (hwr _ (by omega) (by omega)) ?_
      refine L_move (v := .int .i64 ni) (by simp [eval_put_ne, eval_put_eq, eval_put_none, size_put, hz, he0, he1, he2]) ?_
      refine L_sub (m := (len : Int) + (m : Int)) (n := ni) (by simp [eval_put_ne, eval_put_eq, eval_put_none, size_put, hz, he0, he1, he2]) (by simp [eval_put_ne, eval_put_eq, eval_put_none, size_put, hz, he0, he1, he2]) (hwr _ (by omega) (by omega)) ?_
      rw [show ((len : Int) + (m : Int) - (ni : Int)) = ((len + m - ni : Nat) : Int) by omega]
      refine L_append (vx := .slice (some ⟨b, o, none⟩) ni c) (vy := .int .i64 ((len + m - ni : Nat) : Int)) (v := .slice (some ⟨w.heap.size, 0, none⟩) (len + m) nc) (w' := wA) (by simp [eval_put_ne, eval_put_eq, eval_put_none, size_put, hz, he0, he1, he2]) (by simp [eval_put_ne, eval_put_eq, eval_put_none, size_put, hz, he0, he1, he2]) happ ?_
      refine L_assign (v := .slice (some ⟨w.heap.size, 0, none⟩) (len + m) nc) (by simp [eval_put_ne, eval_put_eq, eval_put_none, size_put, hz, he0, he1, he2]) ?_
      refine L_end ?_
      -- the new ones
      have hvA : Blk wA vb vo vl := vsp.blk.upd up fun _ _ h => h
      obtain ⟨wBr, wBb, wBu, wBt⟩ := Blk.write (P := PQ) (w := wA) (l := l2) (us := us) (k := ni * 2) hbA ht0 (by omega) hone
      have hcp1 := run_copy_in (P := PQ) (w := wA) (t := 44) (u := 44) (ty := 3) (a := ⟨w.heap.size, 0 + ni * 2, none⟩) (n1 := len + m - ni) (c1 := nc - ni) (n2 := m) (c2 := vc) (m := m) hu hie (by omega) (hrun wA _ vc rfl hvA) wBr
      generalize hwB : World.setCells wA w.heap.size (0 + ni * 2) us = wB at *
      refine wp_seq (wp_regionL rfl ?_)
      refine L_move (v := .slice (some ⟨w.heap.size, 0, none⟩) (len + m) nc) (by simp [eval_put_ne, eval_put_eq, eval_put_none, size_put, hz, he0, he1, he2]) ?_
      refine L_move (v := .int .i64 ni) (by simp [eval_put_ne, eval_put_eq, eval_put_none, size_put, hz, he0, he1, he2]) ?_
      refine L_slice (vx := .slice (some ⟨w.heap.size, 0, none⟩) (len + m) nc) (vlo := some (.int .i64 ni)) (vhi := none) (vmx := none) (v := .slice (some ⟨w.heap.size, 0 + ni * 2, none⟩) (len + m - ni) (nc - ni)) (by simp [eval_put_ne, eval_put_eq, eval_put_none, size_put, hz, he0, he1, he2]) (by simp [eval_put_ne, eval_put_eq, eval_put_none, size_put, hz, he0, he1, he2]) (by simp [eval_put_ne, eval_put_eq, eval_put_none, size_put, hz, he0, he1, he2]) (by simp [eval_put_ne, eval_put_eq, eval_put_none, size_put, hz, he0, he1, he2]) (run_slice_lo hu hie (by omega) (by omega)) ?_
      refine L_move (v := .slice (some ⟨vb, vo, none⟩) m vc) (by simp [eval_put_ne, eval_put_eq, eval_put_none, size_put, hz, he0, he1, he2]) ?_
      refine L_copy (vx := .slice (some ⟨w.heap.size, 0 + ni * 2, none⟩) (len + m - ni) (nc - ni)) (vy := .slice (some ⟨vb, vo, none⟩) m vc) (v := goInt m) (w' := wB) (by simp [eval_put_ne, eval_put_eq, eval_put_none, size_put, hz, he0, he1, he2]) (by simp [eval_put_ne, eval_put_eq, eval_put_none, size_put, hz, he0, he1, he2]) hcp1 ?_
      refine L_end ?_
      -- the ones behind
      let l3 : List Value := l2.take (ni * 2) ++ us ++ l2.drop (ni * 2 + us.length)
      have hl3 : l3.length = nc * 2 := by simp only [l3, List.length_append, List.length_take, List.length_drop, hul, hl2]; omega
      have hnl : b ≠ w.heap.size := by
        have := sp.blk.lt (by rw [hll]; have := Nat.mul_le_mul_right 2 (show 1 ≤ c by omega); omega)
        omega
      have hsA : Blk wA b o l := sp.blk.upd up fun _ _ h => h
      have hsB : Blk wB b o l := hsA.upd wBu fun j _ h => hnl h.1
      have ud : Upd (fun _ _ => False) wB { wB with drawn := wB.drawn + 1 } := upd_drew _ wB
      have hsC : Blk { wB with drawn := wB.drawn + 1 } b o l := hsB.upd ud fun _ _ h => h
      have hbC : Blk { wB with drawn := wB.drawn + 1 } w.heap.size 0 l3 := Blk.upd wBb ud fun _ _ h => h
      have htC : Thaw { wB with drawn := wB.drawn + 1 } w.heap.size := wBt
      refine wp_seq (wp_region_any (by kernel_rfl) ?_)
      generalize hwC : ({ wB with drawn := wB.drawn + 1 } : World) = wC at *
      obtain ⟨wDr, wDb, wDu, wDt⟩ := Blk.write (P := PQ) (w := wC) (l := l3) (us := ds) (k := (ni + m) * 2) hbC htC (by omega) drel.one
      have hrd : (Builtin.firstCells 2 (len - ni) (.slice (some ⟨b, o + ni * 2, none⟩) (len - ni) (c - ni))).run PQ wC = .ok ds.toArray wC := Blk.read (P := PQ) (sz := 2) (k := ni * 2) hsC (by omega)
      have hcp2 := run_copy_in (P := PQ) (w := wC) (t := 44) (u := 44) (ty := 3) (a := ⟨w.heap.size, 0 + (ni + m) * 2, none⟩) (n1 := len + m - (ni + m)) (c1 := nc - (ni + m)) (n2 := len - ni) (c2 := c - ni) (m := len - ni) hu hie (by omega) hrd wDr
      generalize hwD : World.setCells wC w.heap.size (0 + (ni + m) * 2) ds = wD at *
      simp only [Nat.zero_add] at hcp2
      have PS := (PanicSafe.body (P := PQ) (fn := Go.Proofs.Tryz.f89) (R := CEnd PQ w F ρ objs (fun a h' => Out.ok (.osl id (ob.ver + 1) 2 0 (len + m)) = .ok a ∧ h' = objs.set id (.live ⟨ob.ver + 1, ob.sz, old.take ni ++ new ++ old.drop ni⟩)) (fun a h' => Out.ok (.osl id (ob.ver + 1) 2 0 (len + m)) = .pan a ∧ h' = objs.set id (.live ⟨ob.ver + 1, ob.sz, old.take ni ++ new ++ old.drop ni⟩))))
      refine A_take (i := 0) (v := .slice (some ⟨w.heap.size, 0, none⟩) (len + m) nc) (by first | exact PS.then | exact PS.then.then | exact PS.then.then.then) rfl (by kernel_rfl) (by kernel_rfl) (by kernel_rfl) rfl (fun w' => by simp [execOp, eval_put_ne, eval_put_eq, eval_put_none, size_put, hz, he0, he1, he2]) ?_
      refine A_take (i := 1) (v := .int .i64 ni) (by first | exact PS.then | exact PS.then.then | exact PS.then.then.then) rfl (by kernel_rfl) (by kernel_rfl) (by kernel_rfl) rfl (fun w' => by simp [execOp, eval_put_ne, eval_put_eq, eval_put_none, size_put, hz, he0, he1, he2]) ?_
      refine A_take (i := 2) (v := .int .i64 m) (by first | exact PS.then | exact PS.then.then | exact PS.then.then.then) rfl (by kernel_rfl) (by kernel_rfl) (by kernel_rfl) rfl (fun w' => by simp [execOp, eval_put_ne, eval_put_eq, eval_put_none, size_put, hz, he0, he1, he2]) ?_
      refine A_take (i := 3) (v := .int .i64 ((ni + m : Nat) : Int)) (by first | exact PS.then | exact PS.then.then | exact PS.then.then.then) rfl (by kernel_rfl) (by kernel_rfl) (by kernel_rfl) rfl (fun w' => by simp [execOp, eval_put_ne, eval_put_eq, eval_put_none, size_put, hz, he0, he1, he2, eqGuard, binOp, Op.intArith, hwr ((ni : Int) + (m : Int)) (by omega) (by omega)]) ?_
      refine A_take (i := 4) (v := .slice (some ⟨w.heap.size, 0 + (ni + m) * 2, none⟩) (len + m - (ni + m)) (nc - (ni + m))) (by first | exact PS.then | exact PS.then.then | exact PS.then.then.then) rfl (by kernel_rfl) (by kernel_rfl) (by kernel_rfl) rfl (fun w' => by
        have hx2 : (Instr.sliceAt 44 (.slice (some ⟨w.heap.size, 0, none⟩) (len + m) nc) (some (.int .i64 ((ni : Int) + (m : Int)))) none none).run PQ w' = .ok (.slice (some ⟨w.heap.size, 0 + (ni + m) * 2, none⟩) (len + m - (ni + m)) (nc - (ni + m))) w' := by
          rw [show ((ni : Int) + (m : Int)) = ((ni + m : Nat) : Int) by omega]
          exact run_slice_lo hu hie (by omega) (by omega)
        simp [execOp, eval_put_ne, eval_put_eq, eval_put_none, size_put, hz, he0, he1, he2, hx2]) ?_
      refine A_take (i := 5) (v := .slice (some ⟨b, o, none⟩) len c) (by first | exact PS.then | exact PS.then.then | exact PS.then.then.then) rfl (by kernel_rfl) (by kernel_rfl) (by kernel_rfl) rfl (fun w' => by simp [execOp, eval_put_ne, eval_put_eq, eval_put_none, size_put, hz, he0, he1, he2]) ?_
      refine A_take (i := 6) (v := .int .i64 ni) (by first | exact PS.then | exact PS.then.then | exact PS.then.then.then) rfl (by kernel_rfl) (by kernel_rfl) (by kernel_rfl) rfl (fun w' => by simp [execOp, eval_put_ne, eval_put_eq, eval_put_none, size_put, hz, he0, he1, he2]) ?_
      refine A_take (i := 7) (v := .slice (some ⟨b, o + ni * 2, none⟩) (len - ni) (c - ni)) (by first | exact PS.then | exact PS.then.then | exact PS.then.then.then) rfl (by kernel_rfl) (by kernel_rfl) (by kernel_rfl) rfl (fun w' => by
        have hx2 : (Instr.sliceAt 44 (.slice (some ⟨b, o, none⟩) len c) (some (.int .i64 ni)) none none).run PQ w' = .ok (.slice (some ⟨b, o + ni * 2, none⟩) (len - ni) (c - ni)) w' := run_slice_lo hu hie hil (by omega)
        simp [execOp, eval_put_ne, eval_put_eq, eval_put_none, size_put, hz, he0, he1, he2, hx2]) ?_
      refine A_only (i := 8) (v := goInt (len - ni : Nat)) (w' := wD) rfl (by kernel_rfl) rfl (by simp [execOp, eval_put_ne, eval_put_eq, eval_put_none, size_put, hz, he0, he1, he2, resolve, invoke, builtin, hcp2, -Nat.mul_one]) ?_
      refine wpAny_done (by kernel_rfl) ?_ _
      refine wp_seq (wp_regionL rfl ?_)
      refine L_move (v := .slice (some ⟨w.heap.size, 0, none⟩) (len + m) nc) (by simp [eval_put_ne, eval_put_eq, eval_put_none, size_put, hz, he0, he1, he2]) ?_
      refine L_assign (v := .slice (some ⟨w.heap.size, 0, none⟩) (len + m) nc) (by simp [eval_put_ne, eval_put_eq, eval_put_none, size_put, hz, he0, he1, he2]) ?_
      refine L_end ?_
      refine wp_ret (ret_one (t := 6) (v := .slice (some ⟨w.heap.size, 0, none⟩) (len + m) nc) rfl (by simp only [defers_put]; exact hd) (by simp [eval_put_ne, eval_put_eq, eval_put_none, size_put, hz, he0, he1, he2]) ?_)
      have uall : Upd (fun _ _ => False) w wD := by
        have u1 : Upd (fun _ _ => False) w wB := up.trans wBu fun k o hk h => by obtain ⟨rfl, _⟩ := h; exact absurd hk (Nat.lt_irrefl _)
        have u2 : Upd (fun _ _ => False) w wC := u1.trans ud fun _ _ _ h => h
        exact u2.trans wDu fun k o hk h => by obtain ⟨rfl, _⟩ := h; exact absurd hk (Nat.lt_irrefl _)
      have hpre : ∀ (j : Nat) v, (l.take (ni * 2) ++ us ++ ds)[j]? = some v → (l3.take ((ni + m) * 2) ++ ds ++ l3.drop ((ni + m) * 2 + ds.length))[j]? = some v := by
        intro j v hv
        have hA : (l.take (ni * 2)).length = ni * 2 := by simp; omega
        have hB : (l2.take (ni * 2)) = l.take (ni * 2) := by
          simp only [l2]
          rw [List.append_assoc, List.take_append_of_le_length (by omega)]
          exact List.take_of_length_le (by omega)
        have hC : l3.take ((ni + m) * 2) = l.take (ni * 2) ++ us := by
          simp only [l3, hB]
          rw [List.take_append_of_le_length (by simp only [List.length_append, hA, hul]; omega)]
          exact List.take_of_length_le (by simp only [List.length_append, hA, hul]; omega)
        rw [hC]
        rw [List.getElem?_append_left (List.getElem?_eq_some_iff.1 hv).1]
        exact hv
      have hDl : (l3.take ((ni + m) * 2) ++ ds ++ l3.drop ((ni + m) * 2 + ds.length)).length = nc * 2 := by
        simp only [List.length_append, List.length_take, List.length_drop, hdl, hl3]; omega
      obtain ⟨ρ1, i1, t1, q1⟩ := i.move hob hobsz (w' := wD) (b := w.heap.size) (c := nc) (rows' := old.take ni ++ new ++ old.drop ni) (vs := l.take (ni * 2) ++ us ++ ds) uall (Nat.le_refl _) hDl wDb wDt hwid (by omega) allrel (fun j v hv => wDb j v (hpre j v hv))
      rw [hrl] at q1
      exact ⟨F, ρ1, _, i1, t1, _, q1, rfl, rfl⟩
    · -- there is room
      have hgt : len + m ≤ c := by omega
      have hd3 : decide ((c : Int) < (len : Int) + (m : Int)) = false := by simp; omega
      refine wp_cond_false (by simp [eval_put_ne, eval_put_eq, eval_put_none, size_put, hz, he0, he1, he2, hd3]) (wp_skip ?_)
      have hlm : (len + m) * 2 = len * 2 + m * 2 := Nat.add_mul _ _ _
      have hlnc : (len + m) * 2 ≤ c * 2 := Nat.mul_le_mul_right _ hgt
      have hnim : (ni + m) * 2 = ni * 2 + m * 2 := Nat.add_mul _ _ _
      refine wp_seq (wp_regionL rfl ?_)
      refine L_move (v := .slice (some ⟨b, o, none⟩) len c) (by simp [eval_put_ne, eval_put_eq, eval_put_none, size_put, hz, he0, he1, he2]) ?_
      refine L_move (v := .int .i64 len) (by simp [eval_put_ne, eval_put_eq, eval_put_none, size_put, hz, he0, he1, he2]) ?_
      refine L_move (v := .int .i64 m) (by simp [eval_put_ne, eval_put_eq, eval_put_none, size_put, hz, he0, he1, he2]) ?_
      refine L_add (m := len) (n := m) (by simp [eval_put_ne, eval_put_eq, eval_put_none, size_put, hz, he0, he1, he2]) (by simp [eval_put_ne, eval_put_eq, eval_put_none, size_put, hz, he0, he1, he2]) (hwr _ (by omega) (by omega)) ?_
      rw [show ((len : Int) + (m : Int)) = ((len + m : Nat) : Int) by omega]
      refine L_slice (vx := .slice (some ⟨b, o, none⟩) len c) (vlo := none) (vhi := some (.int .i64 ((len + m : Nat) : Int))) (vmx := none) (v := .slice (some ⟨b, o, none⟩) (len + m) c) (by simp [eval_put_ne, eval_put_eq, eval_put_none, size_put, hz, he0, he1, he2]) (by simp [eval_put_ne, eval_put_eq, eval_put_none, size_put, hz, he0, he1, he2]) (by simp [eval_put_ne, eval_put_eq, eval_put_none, size_put, hz, he0, he1, he2]) (by simp [eval_put_ne, eval_put_eq, eval_put_none, size_put, hz, he0, he1, he2]) (run_slice_hi hu hie (by omega) (by omega)) ?_
      refine L_assign (v := .slice (some ⟨b, o, none⟩) (len + m) c) (by simp [eval_put_ne, eval_put_eq, eval_put_none, size_put, hz, he0, he1, he2]) ?_
      refine L_end ?_
      have hb0 := sp.blk 0 _ (List.getElem?_eq_getElem (by rw [hll]; have := Nat.mul_le_mul_right 2 (show 1 ≤ c by omega); omega))
      have hv0 := vsp.blk 0 _ (List.getElem?_eq_getElem (by rw [hvll]; have := Nat.mul_le_mul_right 2 (show 1 ≤ vc by omega); omega))
      have hapart : ∀ j k, j < vc * 2 → k < c * 2 → ¬ (vb = b ∧ vo + j = o + k) := by
        rintro j k hj hk ⟨rfl, hee⟩
        have g1 := vsp.inreg j hj
        have g2 := sp.inreg k hk
        rw [← hee] at g2
        exact i.disj vid id vob ob hvid hvob hob _ _ g1 g2
      have hov : (Extern.SlicesOverlaps.overlaps #[44, 44] #[4] #[.slice (some ⟨vb, vo, none⟩) m vc, .slice (some ⟨b, o + (ni + m) * 2, none⟩) (len + m - (ni + m)) (c - (ni + m))]).run PQ w = .ok (.bool false) w :=
        run_overlaps hu hie vsp.thaw sp.thaw (shape_of_cell hv0) (shape_of_cell hb0) (by
          show ¬ (vb = b ∧ vo < o + (ni + m) * 2 + (len + m - (ni + m)) * 2 ∧ o + (ni + m) * 2 < vo + m * 2)
          rintro ⟨rfl, h1, h2⟩
          have e1 : (len + m - (ni + m)) * 2 = (len + m) * 2 - (ni + m) * 2 := Nat.sub_mul _ _ _
          by_cases hcmp : vo ≤ o + (ni + m) * 2
          · exact hapart (o + (ni + m) * 2 - vo) ((ni + m) * 2) (by omega) (by omega) ⟨rfl, by omega⟩
          · exact hapart 0 (vo - o) (by omega) (by omega) ⟨rfl, by omega⟩)
      refine wp_seq (wp_seq (wp_regionL rfl ?_))
      refine L_move (v := .slice (some ⟨vb, vo, none⟩) m vc) (by simp [eval_put_ne, eval_put_eq, eval_put_none, size_put, hz, he0, he1, he2]) ?_
      refine L_move (v := .slice (some ⟨b, o, none⟩) (len + m) c) (by simp [eval_put_ne, eval_put_eq, eval_put_none, size_put, hz, he0, he1, he2]) ?_
      refine L_move (v := .int .i64 ni) (by simp [eval_put_ne, eval_put_eq, eval_put_none, size_put, hz, he0, he1, he2]) ?_
      refine L_move (v := .int .i64 m) (by simp [eval_put_ne, eval_put_eq, eval_put_none, size_put, hz, he0, he1, he2]) ?_
      refine L_add (m := ni) (n := m) (by simp [eval_put_ne, eval_put_eq, eval_put_none, size_put, hz, he0, he1, he2]) (by simp [eval_put_ne, eval_put_eq, eval_put_none, size_put, hz, he0, he1, he2]) (hwr _ (by omega) (by omega)) ?_
      rw [show ((ni : Int) + (m : Int)) = ((ni + m : Nat) : Int) by omega]
      refine L_slice (vx := .slice (some ⟨b, o, none⟩) (len + m) c) (vlo := some (.int .i64 ((ni + m : Nat) : Int))) (vhi := none) (vmx := none) (v := .slice (some ⟨b, o + (ni + m) * 2, none⟩) (len + m - (ni + m)) (c - (ni + m))) (by simp [eval_put_ne, eval_put_eq, eval_put_none, size_put, hz, he0, he1, he2]) (by simp [eval_put_ne, eval_put_eq, eval_put_none, size_put, hz, he0, he1, he2]) (by simp [eval_put_ne, eval_put_eq, eval_put_none, size_put, hz, he0, he1, he2]) (by simp [eval_put_ne, eval_put_eq, eval_put_none, size_put, hz, he0, he1, he2]) (run_slice_lo hu hie (by omega) (by omega)) ?_
      refine L_extern (fn := Go.Proofs.Tryz.f111) (e := Extern.SlicesOverlaps.overlaps #[44, 44] #[4]) (vx := .slice (some ⟨vb, vo, none⟩) m vc) (vy := .slice (some ⟨b, o + (ni + m) * 2, none⟩) (len + m - (ni + m)) (c - (ni + m))) (v := .bool false) (by kernel_rfl) (by kernel_rfl) (by kernel_rfl) (by kernel_rfl) (by kernel_rfl) (by simp [eval_put_ne, eval_put_eq, eval_put_none, size_put, hz, he0, he1, he2]) (by simp [eval_put_ne, eval_put_eq, eval_put_none, size_put, hz, he0, he1, he2]) hov ?_
      refine L_not (b := false) (by simp [eval_put_ne, eval_put_eq, eval_put_none, size_put, hz, he0, he1, he2]) ?_
      refine L_end ?_
      refine wp_cond_true (by simp [eval_put_ne, eval_put_eq, eval_put_none, size_put, hz, he0, he1, he2]) ?_
      -- the ones behind move up
      have ud : Upd (fun b' o' => b' = b ∧ o ≤ o' ∧ o' < o + l.length) w { w with drawn := w.drawn + 1 } := upd_drew _ w
      have hs0 : Blk { w with drawn := w.drawn + 1 } b o l := fun j v hv => sp.blk j v hv
      have ht0 : Thaw { w with drawn := w.drawn + 1 } b := sp.thaw
      have hvw0 : Blk { w with drawn := w.drawn + 1 } vb vo vl := fun j v hv => vsp.blk j v hv
      refine wp_seq (wp_region_any (by kernel_rfl) ?_)
      generalize hwA : ({ w with drawn := w.drawn + 1 } : World) = wA at *
      obtain ⟨wBr, wBb, wBu, wBt⟩ := Blk.write (P := PQ) (w := wA) (l := l) (us := ds) (k := (ni + m) * 2) hs0 ht0 (by omega) drel.one
      have hrd : (Builtin.firstCells 2 (len - ni) (.slice (some ⟨b, o + ni * 2, none⟩) (len + m - ni) (c - ni))).run PQ wA = .ok ds.toArray wA := Blk.read (P := PQ) (sz := 2) (k := ni * 2) hs0 (by omega)
      have hcp1 := run_copy_in (P := PQ) (w := wA) (t := 44) (u := 44) (ty := 3) (a := ⟨b, o + (ni + m) * 2, none⟩) (n1 := len + m - (ni + m)) (c1 := c - (ni + m)) (n2 := len + m - ni) (c2 := c - ni) (m := len - ni) hu hie (by omega) hrd wBr
      generalize hwB : World.setCells wA b (o + (ni + m) * 2) ds = wB at *
      have PS := (PanicSafe.body (P := PQ) (fn := Go.Proofs.Tryz.f89) (R := CEnd PQ w F ρ objs (fun a h' => Out.ok (.osl id (ob.ver + 1) 2 0 (len + m)) = .ok a ∧ h' = objs.set id (.live ⟨ob.ver + 1, ob.sz, old.take ni ++ new ++ old.drop ni⟩)) (fun a h' => Out.ok (.osl id (ob.ver + 1) 2 0 (len + m)) = .pan a ∧ h' = objs.set id (.live ⟨ob.ver + 1, ob.sz, old.take ni ++ new ++ old.drop ni⟩))))
      refine A_take (i := 0) (v := .slice (some ⟨b, o, none⟩) (len + m) c) (by first | exact PS.then | exact PS.then.then | exact PS.then.then.then) rfl (by kernel_rfl) (by kernel_rfl) (by kernel_rfl) rfl (fun w' => by simp [execOp, eval_put_ne, eval_put_eq, eval_put_none, size_put, hz, he0, he1, he2]) ?_
      refine A_take (i := 1) (v := .int .i64 ni) (by first | exact PS.then | exact PS.then.then | exact PS.then.then.then) rfl (by kernel_rfl) (by kernel_rfl) (by kernel_rfl) rfl (fun w' => by simp [execOp, eval_put_ne, eval_put_eq, eval_put_none, size_put, hz, he0, he1, he2]) ?_
      refine A_take (i := 2) (v := .int .i64 m) (by first | exact PS.then | exact PS.then.then | exact PS.then.then.then) rfl (by kernel_rfl) (by kernel_rfl) (by kernel_rfl) rfl (fun w' => by simp [execOp, eval_put_ne, eval_put_eq, eval_put_none, size_put, hz, he0, he1, he2]) ?_
      refine A_take (i := 3) (v := .int .i64 ((ni + m : Nat) : Int)) (by first | exact PS.then | exact PS.then.then | exact PS.then.then.then) rfl (by kernel_rfl) (by kernel_rfl) (by kernel_rfl) rfl (fun w' => by simp [execOp, eval_put_ne, eval_put_eq, eval_put_none, size_put, hz, he0, he1, he2, eqGuard, binOp, Op.intArith, hwr ((ni : Int) + (m : Int)) (by omega) (by omega)]) ?_
      refine A_take (i := 4) (v := .slice (some ⟨b, o + (ni + m) * 2, none⟩) (len + m - (ni + m)) (c - (ni + m))) (by first | exact PS.then | exact PS.then.then | exact PS.then.then.then) rfl (by kernel_rfl) (by kernel_rfl) (by kernel_rfl) rfl (fun w' => by
        have hx2 : (Instr.sliceAt 44 (.slice (some ⟨b, o, none⟩) (len + m) c) (some (.int .i64 ((ni : Int) + (m : Int)))) none none).run PQ w' = .ok (.slice (some ⟨b, o + (ni + m) * 2, none⟩) (len + m - (ni + m)) (c - (ni + m))) w' := by
          rw [show ((ni : Int) + (m : Int)) = ((ni + m : Nat) : Int) by omega]
          exact run_slice_lo hu hie (by omega) (by omega)
        simp [execOp, eval_put_ne, eval_put_eq, eval_put_none, size_put, hz, he0, he1, he2, hx2]) ?_
      refine A_take (i := 5) (v := .slice (some ⟨b, o, none⟩) (len + m) c) (by first | exact PS.then | exact PS.then.then | exact PS.then.then.then) rfl (by kernel_rfl) (by kernel_rfl) (by kernel_rfl) rfl (fun w' => by simp [execOp, eval_put_ne, eval_put_eq, eval_put_none, size_put, hz, he0, he1, he2]) ?_
      refine A_take (i := 6) (v := .int .i64 ni) (by first | exact PS.then | exact PS.then.then | exact PS.then.then.then) rfl (by kernel_rfl) (by kernel_rfl) (by kernel_rfl) rfl (fun w' => by simp [execOp, eval_put_ne, eval_put_eq, eval_put_none, size_put, hz, he0, he1, he2]) ?_
      refine A_take (i := 7) (v := .slice (some ⟨b, o + ni * 2, none⟩) (len + m - ni) (c - ni)) (by first | exact PS.then | exact PS.then.then | exact PS.then.then.then) rfl (by kernel_rfl) (by kernel_rfl) (by kernel_rfl) rfl (fun w' => by
        have hx2 : (Instr.sliceAt 44 (.slice (some ⟨b, o, none⟩) (len + m) c) (some (.int .i64 ni)) none none).run PQ w' = .ok (.slice (some ⟨b, o + ni * 2, none⟩) (len + m - ni) (c - ni)) w' := run_slice_lo hu hie (by omega) (by omega)
        simp [execOp, eval_put_ne, eval_put_eq, eval_put_none, size_put, hz, he0, he1, he2, hx2]) ?_
      refine A_only (i := 8) (v := goInt (len - ni : Nat)) (w' := wB) rfl (by kernel_rfl) rfl (by simp [execOp, eval_put_ne, eval_put_eq, eval_put_none, size_put, hz, he0, he1, he2, resolve, invoke, builtin, hcp1, -Nat.mul_one]) ?_
      refine wpAny_done (by kernel_rfl) ?_ _
      -- the new ones
      let l1 : List Value := l.take ((ni + m) * 2) ++ ds ++ l.drop ((ni + m) * 2 + ds.length)
      have hl1 : l1.length = l.length := by simp only [l1, List.length_append, List.length_take, List.length_drop, hdl, hll]; omega
      have hvB : Blk wB vb vo vl := hvw0.upd wBu (fun j hj h => hapart j (vo + j - o) (by omega) (by omega) ⟨h.1, by omega⟩)
      obtain ⟨wCr, wCb, wCu, wCt⟩ := Blk.write (P := PQ) (w := wB) (l := l1) (us := us) (k := ni * 2) wBb wBt (by omega) hone
      have hcp2 := run_copy_in (P := PQ) (w := wB) (t := 44) (u := 44) (ty := 3) (a := ⟨b, o + ni * 2, none⟩) (n1 := len + m - ni) (c1 := c - ni) (n2 := m) (c2 := vc) (m := m) hu hie (by omega) (hrun wB _ vc rfl hvB) wCr
      generalize hwC : World.setCells wB b (o + ni * 2) us = wC at *
      refine wp_seq (wp_regionL rfl ?_)
      refine L_move (v := .slice (some ⟨b, o, none⟩) (len + m) c) (by simp [eval_put_ne, eval_put_eq, eval_put_none, size_put, hz, he0, he1, he2]) ?_
      refine L_move (v := .int .i64 ni) (by simp [eval_put_ne, eval_put_eq, eval_put_none, size_put, hz, he0, he1, he2]) ?_
      refine L_slice (vx := .slice (some ⟨b, o, none⟩) (len + m) c) (vlo := some (.int .i64 ni)) (vhi := none) (vmx := none) (v := .slice (some ⟨b, o + ni * 2, none⟩) (len + m - ni) (c - ni)) (by simp [eval_put_ne, eval_put_eq, eval_put_none, size_put, hz, he0, he1, he2]) (by simp [eval_put_ne, eval_put_eq, eval_put_none, size_put, hz, he0, he1, he2]) (by simp [eval_put_ne, eval_put_eq, eval_put_none, size_put, hz, he0, he1, he2]) (by simp [eval_put_ne, eval_put_eq, eval_put_none, size_put, hz, he0, he1, he2]) (run_slice_lo hu hie (by omega) (by omega)) ?_
      refine L_move (v := .slice (some ⟨vb, vo, none⟩) m vc) (by simp [eval_put_ne, eval_put_eq, eval_put_none, size_put, hz, he0, he1, he2]) ?_
      refine L_copy (vx := .slice (some ⟨b, o + ni * 2, none⟩) (len + m - ni) (c - ni)) (vy := .slice (some ⟨vb, vo, none⟩) m vc) (v := goInt m) (w' := wC) (by simp [eval_put_ne, eval_put_eq, eval_put_none, size_put, hz, he0, he1, he2]) (by simp [eval_put_ne, eval_put_eq, eval_put_none, size_put, hz, he0, he1, he2]) hcp2 ?_
      refine L_end ?_
      refine wp_seq (wp_regionL rfl ?_)
      refine L_move (v := .slice (some ⟨b, o, none⟩) (len + m) c) (by simp [eval_put_ne, eval_put_eq, eval_put_none, size_put, hz, he0, he1, he2]) ?_
      refine L_assign (v := .slice (some ⟨b, o, none⟩) (len + m) c) (by simp [eval_put_ne, eval_put_eq, eval_put_none, size_put, hz, he0, he1, he2]) ?_
      refine L_end ?_
      refine wp_ret (ret_one (t := 6) (v := .slice (some ⟨b, o, none⟩) (len + m) c) rfl (by simp only [defers_put]; exact hd) (by simp [eval_put_ne, eval_put_eq, eval_put_none, size_put, hz, he0, he1, he2]) ?_)
      rw [hl1] at wCu
      have uall : Upd (fun b' o' => b' = b ∧ o ≤ o' ∧ o' < o + l.length) w wC := (ud.trans wBu fun _ _ _ h => h).trans wCu fun _ _ _ h => h
      have hpre : ∀ (j : Nat) v, (l.take (ni * 2) ++ us ++ ds)[j]? = some v → (l1.take (ni * 2) ++ us ++ l1.drop (ni * 2 + us.length))[j]? = some v := by
        intro j v hv
        have hA : (l.take (ni * 2)).length = ni * 2 := by simp; omega
        have hB : l1.take (ni * 2) = l.take (ni * 2) := by
          simp only [l1]
          rw [List.append_assoc, List.take_append_of_le_length (by simp; omega), List.take_take, Nat.min_eq_left (by omega)]
        have hC : l1.drop (ni * 2 + us.length) = ds ++ l.drop ((ni + m) * 2 + ds.length) := by
          simp only [l1, hul]
          rw [← hnim, List.append_assoc, List.drop_append_of_le_length (by simp; omega)]
          rw [List.drop_eq_nil_of_le (by simp; omega), List.nil_append]
        rw [hB, hC, ← List.append_assoc, List.getElem?_append_left (List.getElem?_eq_some_iff.1 hv).1]
        exact hv
      obtain ⟨ρ1, i1, t1, q1⟩ := sp.put i hob (w' := wC) (rows' := old.take ni ++ new ++ old.drop ni) (vs := l.take (ni * 2) ++ us ++ ds) uall hwid (by omega) allrel (fun j v hv => wCb j v (hpre j v hv))
      rw [hrl] at q1
      exact ⟨F, ρ1, _, i1, t1, _, q1, rfl, rfl⟩

theorem insert105 : SoundFn PQ 105 (primInsert 26 272) := by
  intro args objs R objs' hk w F ρ vs i ha
  unfold primInsert at hk
  split at hk <;> try (cases hk; done)
  rename_i id ver sz' lo len i0 vid vver vsz vlo m
  split at hk <;> try (cases hk; done)
  rename_i ob new hob hnew
  split at hk <;> try (cases hk; done)
  rename_i hcond
  obtain ⟨hver, hsz', hle, h0, hil, hok, hvid, hm0⟩ := hcond
  cases hk
  subst hsz'
  obtain ⟨ni, rfl⟩ := Int.eq_ofNat_of_zero_le h0
  have hil : ni ≤ len := by omega
  obtain ⟨hsz, hrel⟩ := ha
  obtain ⟨v0, v1, v2, rfl⟩ : ∃ v0 v1 v2, vs = #[v0, v1, v2] := by
    simp at hsz
    exact arr3 hsz
  have r0 := hrel 0 (by simp)
  have r1 := hrel 1 (by simp)
  have r2 := hrel 2 (by simp)
  simp at r0 r1 r2
  obtain rfl := r1.s_inv
  obtain ⟨a, c, rfl, hlc, hsp⟩ := Span.of i r0 hob hver hle
  have hobsz : ob.sz = 26 := by
    obtain ⟨a2, c2, hh, _, _, _, _, hy⟩ := r0.osl_inv
    rw [((hy ob hob).2 hver.symm).1, (i.obj id ob hob).sz]
  -- what comes in
  obtain ⟨vob, hvob, hvver, rfl, hvle, rfl⟩ : ∃ vob, objs[vid]? = some (.live vob) ∧ vob.ver = vver ∧ vsz = 26 ∧ vlo + m ≤ vob.rows.length ∧ new = (vob.rows.drop vlo).take m := by
    unfold rowsOf at hnew
    simp only at hnew
    split at hnew <;> try (cases hnew; done)
    rename_i vob hvob
    split at hnew <;> try (cases hnew; done)
    rename_i hc
    cases hnew
    exact ⟨vob, hvob, hc.1, hc.2.1, hc.2.2, rfl⟩
  obtain ⟨va, vc, rfl, hvlc, hvsp⟩ := Span.of i r2 hvob hvver hvle
  obtain ⟨vb, vo, vl, rfl, vsp⟩ := hvsp (by omega)
  generalize hnewd : (vob.rows.drop vlo).take m = new at *
  have hnlen : new.length = m := by rw [← hnewd]; simp; omega
  have hvll := vsp.llen
  have hvc : m * 26 ≤ vc * 26 := Nat.mul_le_mul_right _ hvlc
  let us : List Value := vl.take (m * 26)
  have hul : us.length = m * 26 := by simp only [us, List.length_take]; omega
  have urel : RelC PQ w F ρ objs us new.flatten := vsp.rel
  have hu : PQ.underlying 23 = some (.slice 50) := by kernel_rfl
  have hui : PQ.underlying 3 = some (.int .i64) := by kernel_rfl
  have hie : PQ.info? 50 = some Go.Proofs.Tryz.t50 := by kernel_rfl
  have hz2 : (zeroT PQ 50).map List.length = some 26 := by kernel_rfl
  have hz3 := hz2
  rw [Option.map_eq_some_iff] at hz3
  obtain ⟨zz, hzz, hzl⟩ := hz3
  obtain ⟨zv, hzv, hzr, rfl⟩ := zeroT_rel hzz w F ρ objs
  have hzs : zv.cells.size = 26 := by simpa using hzl
  generalize hold : (ob.rows.drop lo).take len = old at *
  have holen : old.length = len := by rw [← hold]; simp; omega
  have hrl : (old.take ni ++ new ++ old.drop ni).length = len + m := by simp; omega
  simp only [Int.toNat_natCast, hnlen] at hok ⊢
  rw [← hver]
  have hnm62 : len + m < 4611686018427387904 := by
    obtain ⟨_, h2⟩ := hok
    have : (2:Nat)^62 = 4611686018427387904 := by decide
    omega
  have hwr : ∀ x : Int, 0 ≤ x → x < 9223372036854775808 → IntKind.i64.wrap x = x := fun x h1 h2 => by
    have key : IntKind.i64.wrap x = (let m := x % 18446744073709551616; if m ≥ 9223372036854775808 then m - 18446744073709551616 else m) := by
      simp [IntKind.wrap, IntKind.bits, IntKind.signed]
    rw [key]
    have : x % 18446744073709551616 = x := by omega
    simp only [this]; rw [if_neg (by omega)]
  obtain ⟨vx, hvx⟩ := run_slice_any (P := PQ) (w := w) (a := a) (n := len) (c := c) (l := ni) (m := len) (hi := none) (mx := none) hu hie hil (Nat.le_refl _) hlc (.inr ⟨rfl, rfl, rfl⟩)
  have hone : ∀ v ∈ us, v.oneCell' = true := urel.one
  refine calls_of_body (fn := Go.Proofs.Tryz.f105) (by kernel_rfl) rfl 95 rfl fun a0 hz hd he => ?_
  have he0 := he 0 (by simp)
  have he1 := he 1 (by simp)
  have he2 := he 2 (by simp)
  simp at he0 he1 he2
  refine wp_seq (wp_regionL rfl (L_assign rfl (L_end ?_)))
  refine wp_seq (wp_regionL rfl ?_)
  refine L_move (v := .slice a len c) (by simp [eval_put_ne, eval_put_eq, eval_put_none, size_put, hz, he0, he1, he2]) ?_
  refine L_move (v := .int .i64 ni) (by simp [eval_put_ne, eval_put_eq, eval_put_none, size_put, hz, he0, he1, he2]) ?_
  refine L_slice (vx := .slice a len c) (vlo := some (.int .i64 ni)) (vhi := none) (vmx := none) (v := vx) (by simp [eval_put_ne, eval_put_eq, eval_put_none, size_put, hz, he0, he1, he2]) (by simp [eval_put_ne, eval_put_eq, eval_put_none, size_put, hz, he0, he1, he2]) (by simp [eval_put_ne, eval_put_eq, eval_put_none, size_put, hz, he0, he1, he2]) (by simp [eval_put_ne, eval_put_eq, eval_put_none, size_put, hz, he0, he1, he2]) hvx ?_
  refine L_end ?_
  refine wp_seq (wp_regionL rfl ?_)
  refine L_move (v := .slice (some ⟨vb, vo, none⟩) m vc) (by simp [eval_put_ne, eval_put_eq, eval_put_none, size_put, hz, he0, he1, he2]) ?_
  refine L_len hu (b := some ⟨vb, vo, none⟩) (n := m) (c := vc) (by simp [eval_put_ne, eval_put_eq, eval_put_none, size_put, hz, he0, he1, he2]) ?_
  refine L_assign (v := .int .i64 m) (by simp [eval_put_ne, eval_put_eq, eval_put_none, size_put, hz, he0, he1, he2]) ?_
  refine L_end ?_
  refine wp_seq (wp_seq (wp_regionL rfl ?_))
  refine L_move (v := .int .i64 m) (by simp [eval_put_ne, eval_put_eq, eval_put_none, size_put, hz, he0, he1, he2]) ?_
  refine L_eqInt (m := m) (n := 0) (by simp [eval_put_ne, eval_put_eq, eval_put_none, size_put, hz, he0, he1, he2]) rfl ?_
  refine L_end ?_
  have hd1 : ((m : Int) == 0) = false := by simp; omega
  refine wp_cond_false (by simp [eval_put_ne, eval_put_eq, eval_put_none, size_put, hz, he0, he1, he2, hd1]) (wp_skip ?_)
  refine wp_seq (wp_regionL rfl ?_)
  refine L_move (v := .slice a len c) (by simp [eval_put_ne, eval_put_eq, eval_put_none, size_put, hz, he0, he1, he2]) ?_
  refine L_len hu (b := a) (n := len) (c := c) (by simp [eval_put_ne, eval_put_eq, eval_put_none, size_put, hz, he0, he1, he2]) ?_
  refine L_assign (v := .int .i64 len) (by simp [eval_put_ne, eval_put_eq, eval_put_none, size_put, hz, he0, he1, he2]) ?_
  refine L_end ?_
  refine wp_seq (wp_seq (wp_regionL rfl ?_))
  refine L_move (v := .int .i64 ni) (by simp [eval_put_ne, eval_put_eq, eval_put_none, size_put, hz, he0, he1, he2]) ?_
  refine L_move (v := .int .i64 len) (by simp [eval_put_ne, eval_put_eq, eval_put_none, size_put, hz, he0, he1, he2]) ?_
  refine L_eqInt (m := ni) (n := len) (by simp [eval_put_ne, eval_put_eq, eval_put_none, size_put, hz, he0, he1, he2]) (by simp [eval_put_ne, eval_put_eq, eval_put_none, size_put, hz, he0, he1, he2]) ?_
  refine L_end ?_
  by_cases hin : ni = len
  · -- at the end
    subst hin
    refine wp_cond_true (by simp [eval_put_ne, eval_put_eq, eval_put_none, size_put, hz, he0, he1, he2]) (wp_seq (wp_regionL rfl ?_))
    refine L_move (v := .slice a ni c) (by simp [eval_put_ne, eval_put_eq, eval_put_none, size_put, hz, he0, he1, he2]) ?_
    refine L_move (v := .slice (some ⟨vb, vo, none⟩) m vc) (by simp [eval_put_ne, eval_put_eq, eval_put_none, size_put, hz, he0, he1, he2]) ?_
    have hok2 : appendOk (ni + new.length) 272 := ⟨Nat.le_trans (Nat.mul_le_mul_right _ (by omega)) hok.1, by rw [hnlen]; obtain ⟨_, h2⟩ := hok; omega⟩
    have hy := sound_append (ty := 23) (at_ := none) (k := fun a h => some (a, h)) (r := (A.osl id (ver + 1) 26 0 (ni + new.length), objs.set id (.live ⟨ver + 1, ob.sz, old ++ new⟩))) i r0 r2 hu hu (by kernel_rfl : sizeT PQ 50 = some 26) (by rw [show PQ.bytesOf 50 = 272 from by kernel_rfl]; decide) hz2 (by
      have hb : PQ.bytesOf 50 = 272 := by kernel_rfl
      unfold oAppend
      have hr2 : rowsOf 26 (.osl vid vver 26 vlo m) objs = some new := by simp [rowsOf, hvob, hvver, hvle, hnewd]
      rw [hr2]
      simp only [hob]
      rw [if_pos ⟨hver, trivial, hle, by rw [hb]; exact hok2⟩, hold])
    obtain ⟨nx, v, w2, F', ρ', h', a', e1, e2, e3, e4, e5, e6⟩ := hy
    simp only [Option.some.injEq, Prod.mk.injEq] at e6
    obtain ⟨rfl, rfl⟩ := e6
    rw [Sem.run_bind] at e1
    cases hap : (Builtin.append_ #[23, 23] 23 #[.slice a ni c, .slice (some ⟨vb, vo, none⟩) m vc]).run PQ w with
    | halt x y => rw [hap] at e1; cases e1
    | ok uu w3 =>
      rw [hap] at e1
      simp only [Result.andThen_ok, Sem.run_pure, Result.ok.injEq] at e1
      obtain ⟨rfl, rfl⟩ := e1
      have huv : uu = v := by rcases e2 with h | ⟨h, _⟩ <;> cases h; rfl
      subst huv
      refine L_append (vx := .slice a ni c) (vy := .slice (some ⟨vb, vo, none⟩) m vc) (v := uu) (w' := w3) (by simp [eval_put_ne, eval_put_eq, eval_put_none, size_put, hz, he0, he1, he2]) (by simp [eval_put_ne, eval_put_eq, eval_put_none, size_put, hz, he0, he1, he2]) hap ?_
      refine L_assign (v := uu) (by simp [eval_put_ne, eval_put_eq, eval_put_none, size_put, hz, he0, he1, he2]) ?_
      refine L_end ?_
      refine wp_ret (ret_one (t := 6) (v := uu) rfl (by simp only [defers_put]; exact hd) (by simp [eval_put_ne, eval_put_eq, eval_put_none, size_put, hz, he0, he1, he2]) ?_)
      have t1 : old.take ni = old := List.take_of_length_le (by omega)
      have t2 : old.drop ni = [] := List.drop_eq_nil_of_le (by omega)
      rw [t1, t2, List.append_nil, hver]
      rw [hnlen] at e3
      exact ⟨F', ρ', _, e4, e5, _, e3, rfl, rfl⟩
  · have hd2 : ((ni : Int) == (len : Int)) = false := by simp; omega
    refine wp_cond_false (by simp [eval_put_ne, eval_put_eq, eval_put_none, size_put, hz, he0, he1, he2, hd2]) (wp_skip ?_)
    obtain ⟨b, o, l, rfl, sp⟩ := hsp (by omega)
    have hll := sp.llen
    have hcl : len * 26 ≤ c * 26 := Nat.mul_le_mul_right _ hlc
    have his : ni * 26 ≤ len * 26 := Nat.mul_le_mul_right _ hil
    have hid : (len - ni) * 26 = len * 26 - ni * 26 := Nat.sub_mul _ _ _
    let ds : List Value := (l.drop (ni * 26)).take ((len - ni) * 26)
    have hdl : ds.length = (len - ni) * 26 := by simp only [ds, List.length_take, List.length_drop]; omega
    have drel : RelC PQ w F ρ objs ds (old.drop ni).flatten := by
      have h1 := sp.rel.sub (ni * 26) ((len - ni) * 26)
      rw [flat_drop ni _ sp.width]
      have e1 : (old.flatten.drop (ni * 26)).take ((len - ni) * 26) = old.flatten.drop (ni * 26) := List.take_of_length_le (by rw [List.length_drop, flat_len _ sp.width, holen]; omega)
      rw [e1] at h1
      have e2 : ((l.take (len * 26)).drop (ni * 26)).take ((len - ni) * 26) = ds := by
        simp only [ds]; rw [List.drop_take, List.take_take]; congr 1; omega
      rwa [e2] at h1
    have prel : RelC PQ w F ρ objs (l.take (ni * 26)) (old.take ni).flatten := by
      rw [flat_take ni _ sp.width]
      have h1 := sp.rel.sub 0 (ni * 26)
      simp only [List.drop_zero] at h1
      rwa [List.take_take, Nat.min_eq_left (by omega)] at h1
    have allrel : RelC PQ w F ρ objs (l.take (ni * 26) ++ us ++ ds) (old.take ni ++ new ++ old.drop ni).flatten := by
      rw [List.flatten_append, List.flatten_append]
      exact (prel.append urel).append drel
    have hwid : ∀ row ∈ old.take ni ++ new ++ old.drop ni, row.length = 26 := fun row hr => by
      rcases List.mem_append.1 hr with hr | hr
      · rcases List.mem_append.1 hr with hr | hr
        · exact sp.width _ (List.mem_of_mem_take hr)
        · exact vsp.width _ hr
      · exact sp.width _ (List.mem_of_mem_drop hr)
    have hrun : ∀ (w1 : World) (xa : Option Addr) (xc : Nat), xa = some ⟨vb, vo, none⟩ → Blk w1 vb vo vl → (Builtin.firstCells 26 m (.slice xa m xc)).run PQ w1 = .ok us.toArray w1 := fun w1 xa xc hx hb => by
      subst hx
      have := Blk.read (P := PQ) (sz := 26) (k := 0) (n := m) (len := m) (c := xc) hb (by omega)
      simpa only [Nat.add_zero, List.drop_zero] using this
    refine wp_seq (wp_seq (wp_regionL rfl ?_))
    refine L_move (v := .int .i64 len) (by simp [eval_put_ne, eval_put_eq, eval_put_none, size_put, hz, he0, he1, he2]) ?_
    refine L_move (v := .int .i64 m) (by simp [eval_put_ne, eval_put_eq, eval_put_none, size_put, hz, he0, he1, he2]) ?_
    refine L_add (m := len) (n := m) (by simp [eval_put_ne, eval_put_eq, eval_put_none, size_put, hz, he0, he1, he2]) (by simp [eval_put_ne, eval_put_eq, eval_put_none, size_put, hz, he0, he1, he2]) (hwr _ (by omega) (by omega)) ?_
    refine L_move (v := .slice (some ⟨b, o, none⟩) len c) (by simp [eval_put_ne, eval_put_eq, eval_put_none, size_put, hz, he0, he1, he2]) ?_
    refine L_cap hu (b := some ⟨b, o, none⟩) (n := len) (c := c) (by simp [eval_put_ne, eval_put_eq, eval_put_none, size_put, hz, he0, he1, he2]) ?_
    refine L_gtInt (m := (len : Int) + (m : Int)) (n := c) (by simp [eval_put_ne, eval_put_eq, eval_put_none, size_put, hz, he0, he1, he2]) (by simp [eval_put_ne, eval_put_eq, eval_put_none, size_put, hz, he0, he1, he2]) ?_
    refine L_end ?_
    by_cases hgt : c < len + m
    · -- new memory
      have hd3 : decide ((c : Int) < (len : Int) + (m : Int)) = true := by simp; omega
      refine wp_cond_true (by simp [eval_put_ne, eval_put_eq, eval_put_none, size_put, hz, he0, he1, he2, hd3]) (wp_seq (wp_regionL rfl ?_))
      have hok2 : appendOk (ni + (len + m - ni)) 272 := ⟨Nat.le_trans (Nat.mul_le_mul_right _ (by omega)) hok.1, by obtain ⟨_, h2⟩ := hok; omega⟩
      have hfirst : ∀ d, (Builtin.firstCells 26 ni (.slice (some ⟨b, o, none⟩) ni c)).run PQ { w with drawn := d } = .ok (l.take (ni * 26)).toArray { w with drawn := d } := fun d => by
        have := Blk.read (P := PQ) (w := { w with drawn := d }) (sz := 26) (k := 0) (n := ni) (len := ni) (c := c) (l := l) (fun j v hv => sp.blk j v hv) (by omega)
        simpa only [Nat.add_zero, List.drop_zero] using this
      obtain ⟨nc, hnc, happ⟩ := run_append_made (P := PQ) (w := w) (t := 23) (u := 3) (ty := 23) (a := some ⟨b, o, none⟩) (len := ni) (cap := c) (n := len + m - ni) (vs := l.take (ni * 26)) hu hui hie hzv (by decide) (by omega) hok2 (by omega) (by decide) hfirst
      rw [show ni + (len + m - ni) = len + m by omega] at happ hnc
      let l2 : List Value := l.take (ni * 26) ++ (Builtin.zeroCells zv.cells (len + m - ni)).toList ++ (Builtin.zeroCells zv.cells (nc - (len + m))).toList
      have hl2 : l2.length = nc * 26 := by
        simp only [l2, List.length_append, List.length_take, Array.length_toList, zeroCells_size, hzs]
        have e1 : (len + m - ni) * 26 = (len + m) * 26 - ni * 26 := Nat.sub_mul _ _ _
        have e2 : (nc - (len + m)) * 26 = nc * 26 - (len + m) * 26 := Nat.sub_mul _ _ _
        have e3 : (len + m) * 26 ≤ nc * 26 := Nat.mul_le_mul_right _ hnc
        have e4 : (len + m) * 26 = len * 26 + m * 26 := Nat.add_mul _ _ _
        omega
      have hnb0 : ∀ j, World.cell? { w with drawn := w.drawn + 1, heap := w.heap.push (.cells ((l.take (ni * 26)).toArray ++ Builtin.zeroCells zv.cells (len + m - ni) ++ Builtin.zeroCells zv.cells (nc - (len + m))) 50) } ⟨w.heap.size, j, none⟩ = l2[j]? := fun j => by
        rw [cell_alloc_new { w with drawn := w.drawn + 1 } _ 50 j, ← Array.getElem?_toList]
        simp only [l2, Array.toList_append]
      have ht0 : Thaw { w with drawn := w.drawn + 1, heap := w.heap.push (.cells ((l.take (ni * 26)).toArray ++ Builtin.zeroCells zv.cells (len + m - ni) ++ Builtin.zeroCells zv.cells (nc - (len + m))) 50) } w.heap.size := fun _ => frozen_alloc_new { w with drawn := w.drawn + 1 } _ 50 _
      have up : Upd (fun _ _ => False) w { w with drawn := w.drawn + 1, heap := w.heap.push (.cells ((l.take (ni * 26)).toArray ++ Builtin.zeroCells zv.cells (len + m - ni) ++ Builtin.zeroCells zv.cells (nc - (len + m))) 50) } := (upd_drew _ w).trans (upd_alloc _ { w with drawn := w.drawn + 1 } _) fun _ _ _ h => h
      generalize hwA : ({ w with drawn := w.drawn + 1, heap := w.heap.push (.cells ((l.take (ni * 26)).toArray ++ Builtin.zeroCells zv.cells (len + m - ni) ++ Builtin.zeroCells zv.cells (nc - (len + m))) 50) } : World) = wA at *
      have hbA : Blk wA w.heap.size 0 l2 := fun j v hv => by rw [Nat.zero_add, hnb0]; exact hv
      have hlm : (len + m) * 26 = len * 26 + m * 26 := Nat.add_mul _ _ _
      have hlnc : (len + m) * 26 ≤ nc * 26 := Nat.mul_le_mul_right _ hnc
      have hnim : (ni + m) * 26 = ni * 26 + m * 26 := Nat.add_mul _ _ _
      refine L_move (v := .slice (some ⟨b, o, none⟩) len c) (by simp [eval_put_ne, eval_put_eq, eval_put_none, size_put, hz, he0, he1, he2]) ?_
      refine L_move (v := .int .i64 ni) (by simp [eval_put_ne, eval_put_eq, eval_put_none, size_put, hz, he0, he1, he2]) ?_
      refine L_slice (vx := .slice (some ⟨b, o, none⟩) len c) (vlo := none) (vhi := some (.int .i64 ni)) (vmx := none) (v := .slice (some ⟨b, o, none⟩) ni c) (by simp [eval_put_ne, eval_put_eq, eval_put_none, size_put, hz, he0, he1, he2]) (by simp [eval_put_ne, eval_put_eq, eval_put_none, size_put, hz, he0, he1, he2]) (by simp [eval_put_ne, eval_put_eq, eval_put_none, size_put, hz, he0, he1, he2]) (by simp [eval_put_ne, eval_put_eq, eval_put_none, size_put, hz, he0, he1, he2]) (run_slice_hi hu hie (by omega) (by omega)) ?_
      refine L_move (v := .int .i64 len) (by simp [eval_put_ne, eval_put_eq, eval_put_none, size_put, hz, he0, he1, he2]) ?_
      refine L_move (v := .int .i64 m) (by simp [eval_put_ne, eval_put_eq, eval_put_none, size_put, hz, he0, he1, he2]) ?_
      refine L_add (m := len) (n := m) (by simp [eval_put_ne, eval_put_eq, eval_put_none, size_put, hz, he0, he1, he2]) (by simp [eval_put_ne, eval_put_eq, eval_put_none, size_put, hz, he0, he1, he2]) (hwr _ (by omega) (by omega)) ?_
      refine L_move (v := .int .i64 ni) (by simp [eval_put_ne, eval_put_eq, eval_put_none, size_put, hz, he0, he1, he2]) ?_
      refine L_sub (m := (len : Int) + (m : Int)) (n := ni) (by simp [eval_put_ne, eval_put_eq, eval_put_none, size_put, hz, he0, he1, he2]) (by simp [eval_put_ne, eval_put_eq, eval_put_none, size_put, hz, he0, he1, he2]) (hwr _ (by omega) (by omega)) ?_
      rw [show ((len : Int) + (m : Int) - (ni : Int)) = ((len + m - ni : Nat) : Int) by omega]
      refine L_append (vx := .slice (some ⟨b, o, none⟩) ni c) (vy := .int .i64 ((len + m - ni : Nat) : Int)) (v := .slice (some ⟨w.heap.size, 0, none⟩) (len + m) nc) (w' := wA) (by simp [eval_put_ne, eval_put_eq, eval_put_none, size_put, hz, he0, he1, he2]) (by simp [eval_put_ne, eval_put_eq, eval_put_none, size_put, hz, he0, he1, he2]) happ ?_
      refine L_assign (v := .slice (some ⟨w.heap.size, 0, none⟩) (len + m) nc) (by simp [eval_put_ne, eval_put_eq, eval_put_none, size_put, hz, he0, he1, he2]) ?_
      refine L_end ?_
      -- the new ones
      have hvA : Blk wA vb vo vl := vsp.blk.upd up fun _ _ h => h
      obtain ⟨wBr, wBb, wBu, wBt⟩ := Blk.write (P := PQ) (w := wA) (l := l2) (us := us) (k := ni * 26) hbA ht0 (by omega) hone
      have hcp1 := run_copy_in (P := PQ) (w := wA) (t := 23) (u := 23) (ty := 3) (a := ⟨w.heap.size, 0 + ni * 26, none⟩) (n1 := len + m - ni) (c1 := nc - ni) (n2 := m) (c2 := vc) (m := m) hu hie (by omega) (hrun wA _ vc rfl hvA) wBr
      generalize hwB : World.setCells wA w.heap.size (0 + ni * 26) us = wB at *
      refine wp_seq (wp_regionL rfl ?_)
      refine L_move (v := .slice (some ⟨w.heap.size, 0, none⟩) (len + m) nc) (by simp [eval_put_ne, eval_put_eq, eval_put_none, size_put, hz, he0, he1, he2]) ?_
      refine L_move (v := .int .i64 ni) (by simp [eval_put_ne, eval_put_eq, eval_put_none, size_put, hz, he0, he1, he2]) ?_
      refine L_slice (vx := .slice (some ⟨w.heap.size, 0, none⟩) (len + m) nc) (vlo := some (.int .i64 ni)) (vhi := none) (vmx := none) (v := .slice (some ⟨w.heap.size, 0 + ni * 26, none⟩) (len + m - ni) (nc - ni)) (by simp [eval_put_ne, eval_put_eq, eval_put_none, size_put, hz, he0, he1, he2]) (by simp [eval_put_ne, eval_put_eq, eval_put_none, size_put, hz, he0, he1, he2]) (by simp [eval_put_ne, eval_put_eq, eval_put_none, size_put, hz, he0, he1, he2]) (by simp [eval_put_ne, eval_put_eq, eval_put_none, size_put, hz, he0, he1, he2]) (run_slice_lo hu hie (by omega) (by omega)) ?_
      refine L_move (v := .slice (some ⟨vb, vo, none⟩) m vc) (by simp [eval_put_ne, eval_put_eq, eval_put_none, size_put, hz, he0, he1, he2]) ?_
      refine L_copy (vx := .slice (some ⟨w.heap.size, 0 + ni * 26, none⟩) (len + m - ni) (nc - ni)) (vy := .slice (some ⟨vb, vo, none⟩) m vc) (v := goInt m) (w' := wB) (by simp [eval_put_ne, eval_put_eq, eval_put_none, size_put, hz, he0, he1, he2]) (by simp [eval_put_ne, eval_put_eq, eval_put_none, size_put, hz, he0, he1, he2]) hcp1 ?_
      refine L_end ?_
      -- the ones behind
      let l3 : List Value := l2.take (ni * 26) ++ us ++ l2.drop (ni * 26 + us.length)
      have hl3 : l3.length = nc * 26 := by simp only [l3, List.length_append, List.length_take, List.length_drop, hul, hl2]; omega
      have hnl : b ≠ w.heap.size := by
        have := sp.blk.lt (by rw [hll]; have := Nat.mul_le_mul_right 26 (show 1 ≤ c by omega); omega)
        omega
      have hsA : Blk wA b o l := sp.blk.upd up fun _ _ h => h
      have hsB : Blk wB b o l := hsA.upd wBu fun j _ h => hnl h.1
      have ud : Upd (fun _ _ => False) wB { wB with drawn := wB.drawn + 1 } := upd_drew _ wB
      have hsC : Blk { wB with drawn := wB.drawn + 1 } b o l := hsB.upd ud fun _ _ h => h
      have hbC : Blk { wB with drawn := wB.drawn + 1 } w.heap.size 0 l3 := Blk.upd wBb ud fun _ _ h => h
      have htC : Thaw { wB with drawn := wB.drawn + 1 } w.heap.size := wBt
      refine wp_seq (wp_region_any (by kernel_rfl) ?_)
      generalize hwC : ({ wB with drawn := wB.drawn + 1 } : World) = wC at *
      obtain ⟨wDr, wDb, wDu, wDt⟩ := Blk.write (P := PQ) (w := wC) (l := l3) (us := ds) (k := (ni + m) * 26) hbC htC (by omega) drel.one
      have hrd : (Builtin.firstCells 26 (len - ni) (.slice (some ⟨b, o + ni * 26, none⟩) (len - ni) (c - ni))).run PQ wC = .ok ds.toArray wC := Blk.read (P := PQ) (sz := 26) (k := ni * 26) hsC (by omega)
      have hcp2 := run_copy_in (P := PQ) (w := wC) (t := 23) (u := 23) (ty := 3) (a := ⟨w.heap.size, 0 + (ni + m) * 26, none⟩) (n1 := len + m - (ni + m)) (c1 := nc - (ni + m)) (n2 := len - ni) (c2 := c - ni) (m := len - ni) hu hie (by omega) hrd wDr
      generalize hwD : World.setCells wC w.heap.size (0 + (ni + m) * 26) ds = wD at *
      simp only [Nat.zero_add] at hcp2
      have PS := (PanicSafe.body (P := PQ) (fn := Go.Proofs.Tryz.f105) (R := CEnd PQ w F ρ objs (fun a h' => Out.ok (.osl id (ob.ver + 1) 26 0 (len + m)) = .ok a ∧ h' = objs.set id (.live ⟨ob.ver + 1, ob.sz, old.take ni ++ new ++ old.drop ni⟩)) (fun a h' => Out.ok (.osl id (ob.ver + 1) 26 0 (len + m)) = .pan a ∧ h' = objs.set id (.live ⟨ob.ver + 1, ob.sz, old.take ni ++ new ++ old.drop ni⟩))))
      refine A_take (i := 0) (v := .slice (some ⟨w.heap.size, 0, none⟩) (len + m) nc) (by first | exact PS.then | exact PS.then.then | exact PS.then.then.then) rfl (by kernel_rfl) (by kernel_rfl) (by kernel_rfl) rfl (fun w' => by simp [execOp, eval_put_ne, eval_put_eq, eval_put_none, size_put, hz, he0, he1, he2]) ?_
      refine A_take (i := 1) (v := .int .i64 ni) (by first | exact PS.then | exact PS.then.then | exact PS.then.then.then) rfl (by kernel_rfl) (by kernel_rfl) (by kernel_rfl) rfl (fun w' => by simp [execOp, eval_put_ne, eval_put_eq, eval_put_none, size_put, hz, he0, he1, he2]) ?_
      refine A_take (i := 2) (v := .int .i64 m) (by first | exact PS.then | exact PS.then.then | exact PS.then.then.then) rfl (by kernel_rfl) (by kernel_rfl) (by kernel_rfl) rfl (fun w' => by simp [execOp, eval_put_ne, eval_put_eq, eval_put_none, size_put, hz, he0, he1, he2]) ?_
      refine A_take (i := 3) (v := .int .i64 ((ni + m : Nat) : Int)) (by first | exact PS.then | exact PS.then.then | exact PS.then.then.then) rfl (by kernel_rfl) (by kernel_rfl) (by kernel_rfl) rfl (fun w' => by simp [execOp, eval_put_ne, eval_put_eq, eval_put_none, size_put, hz, he0, he1, he2, eqGuard, binOp, Op.intArith, hwr ((ni : Int) + (m : Int)) (by omega) (by omega)]) ?_
      refine A_take (i := 4) (v := .slice (some ⟨w.heap.size, 0 + (ni + m) * 26, none⟩) (len + m - (ni + m)) (nc - (ni + m))) (by first | exact PS.then | exact PS.then.then | exact PS.then.then.then) rfl (by kernel_rfl) (by kernel_rfl) (by kernel_rfl) rfl (fun w' => by
        have hx2 : (Instr.sliceAt 23 (.slice (some ⟨w.heap.size, 0, none⟩) (len + m) nc) (some (.int .i64 ((ni : Int) + (m : Int)))) none none).run PQ w' = .ok (.slice (some ⟨w.heap.size, 0 + (ni + m) * 26, none⟩) (len + m - (ni + m)) (nc - (ni + m))) w' := by
          rw [show ((ni : Int) + (m : Int)) = ((ni + m : Nat) : Int) by omega]
          exact run_slice_lo hu hie (by omega) (by omega)
        simp [execOp, eval_put_ne, eval_put_eq, eval_put_none, size_put, hz, he0, he1, he2, hx2]) ?_
      refine A_take (i := 5) (v := .slice (some ⟨b, o, none⟩) len c) (by first | exact PS.then | exact PS.then.then | exact PS.then.then.then) rfl (by kernel_rfl) (by kernel_rfl) (by kernel_rfl) rfl (fun w' => by simp [execOp, eval_put_ne, eval_put_eq, eval_put_none, size_put, hz, he0, he1, he2]) ?_
      refine A_take (i := 6) (v := .int .i64 ni) (by first | exact PS.then | exact PS.then.then | exact PS.then.then.then) rfl (by kernel_rfl) (by kernel_rfl) (by kernel_rfl) rfl (fun w' => by simp [execOp, eval_put_ne, eval_put_eq, eval_put_none, size_put, hz, he0, he1, he2]) ?_
      refine A_take (i := 7) (v := .slice (some ⟨b, o + ni * 26, none⟩) (len - ni) (c - ni)) (by first | exact PS.then | exact PS.then.then | exact PS.then.then.then) rfl (by kernel_rfl) (by kernel_rfl) (by kernel_rfl) rfl (fun w' => by
        have hx2 : (Instr.sliceAt 23 (.slice (some ⟨b, o, none⟩) len c) (some (.int .i64 ni)) none none).run PQ w' = .ok (.slice (some ⟨b, o + ni * 26, none⟩) (len - ni) (c - ni)) w' := run_slice_lo hu hie hil (by omega)
        simp [execOp, eval_put_ne, eval_put_eq, eval_put_none, size_put, hz, he0, he1, he2, hx2]) ?_
      refine A_only (i := 8) (v := goInt (len - ni : Nat)) (w' := wD) rfl (by kernel_rfl) rfl (by simp [execOp, eval_put_ne, eval_put_eq, eval_put_none, size_put, hz, he0, he1, he2, resolve, invoke, builtin, hcp2, -Nat.mul_one]) ?_
      refine wpAny_done (by kernel_rfl) ?_ _
      refine wp_seq (wp_regionL rfl ?_)
      refine L_move (v := .slice (some ⟨w.heap.size, 0, none⟩) (len + m) nc) (by simp [eval_put_ne, eval_put_eq, eval_put_none, size_put, hz, he0, he1, he2]) ?_
      refine L_assign (v := .slice (some ⟨w.heap.size, 0, none⟩) (len + m) nc) (by simp [eval_put_ne, eval_put_eq, eval_put_none, size_put, hz, he0, he1, he2]) ?_
      refine L_end ?_
      refine wp_ret (ret_one (t := 6) (v := .slice (some ⟨w.heap.size, 0, none⟩) (len + m) nc) rfl (by simp only [defers_put]; exact hd) (by simp [eval_put_ne, eval_put_eq, eval_put_none, size_put, hz, he0, he1, he2]) ?_)
      have uall : Upd (fun _ _ => False) w wD := by
        have u1 : Upd (fun _ _ => False) w wB := up.trans wBu fun k o hk h => by obtain ⟨rfl, _⟩ := h; exact absurd hk (Nat.lt_irrefl _)
        have u2 : Upd (fun _ _ => False) w wC := u1.trans ud fun _ _ _ h => h
        exact u2.trans wDu fun k o hk h => by obtain ⟨rfl, _⟩ := h; exact absurd hk (Nat.lt_irrefl _)
      have hpre : ∀ (j : Nat) v, (l.take (ni * 26) ++ us ++ ds)[j]? = some v → (l3.take ((ni + m) * 26) ++ ds ++ l3.drop ((ni + m) * 26 + ds.length))[j]? = some v := by
        intro j v hv
        have hA : (l.take (ni * 26)).length = ni * 26 := by simp; omega
        have hB : (l2.take (ni * 26)) = l.take (ni * 26) := by
          simp only [l2]
          rw [List.append_assoc, List.take_append_of_le_length (by omega)]
          exact List.take_of_length_le (by omega)
        have hC : l3.take ((ni + m) * 26) = l.take (ni * 26) ++ us := by
          simp only [l3, hB]
          rw [List.take_append_of_le_length (by simp only [List.length_append, hA, hul]; omega)]
          exact List.take_of_length_le (by simp only [List.length_append, hA, hul]; omega)
        rw [hC]
        rw [List.getElem?_append_left (List.getElem?_eq_some_iff.1 hv).1]
        exact hv
      have hDl : (l3.take ((ni + m) * 26) ++ ds ++ l3.drop ((ni + m) * 26 + ds.length)).length = nc * 26 := by
        simp only [List.length_append, List.length_take, List.length_drop, hdl, hl3]; omega
      obtain ⟨ρ1, i1, t1, q1⟩ := i.move hob hobsz (w' := wD) (b := w.heap.size) (c := nc) (rows' := old.take ni ++ new ++ old.drop ni) (vs := l.take (ni * 26) ++ us ++ ds) uall (Nat.le_refl _) hDl wDb wDt hwid (by omega) allrel (fun j v hv => wDb j v (hpre j v hv))
      rw [hrl] at q1
      exact ⟨F, ρ1, _, i1, t1, _, q1, rfl, rfl⟩
    · -- there is room
      have hgt : len + m ≤ c := by omega
      have hd3 : decide ((c : Int) < (len : Int) + (m : Int)) = false := by simp; omega
      refine wp_cond_false (by simp [eval_put_ne, eval_put_eq, eval_put_none, size_put, hz, he0, he1, he2, hd3]) (wp_skip ?_)
      have hlm : (len + m) * 26 = len * 26 + m * 26 := Nat.add_mul _ _ _
      have hlnc : (len + m) * 26 ≤ c * 26 := Nat.mul_le_mul_right _ hgt
      have hnim : (ni + m) * 26 = ni * 26 + m * 26 := Nat.add_mul _ _ _
      refine wp_seq (wp_regionL rfl ?_)
      refine L_move (v := .slice (some ⟨b, o, none⟩) len c) (by simp [eval_put_ne, eval_put_eq, eval_put_none, size_put, hz, he0, he1, he2]) ?_
      refine L_move (v := .int .i64 len) (by simp [eval_put_ne, eval_put_eq, eval_put_none, size_put, hz, he0, he1, he2]) ?_
      refine L_move (v := .int .i64 m) (by simp [eval_put_ne, eval_put_eq, eval_put_none, size_put, hz, he0, he1, he2]) ?_
      refine L_add (m := len) (n := m) (by simp [eval_put_ne, eval_put_eq, eval_put_none, size_put, hz, he0, he1, he2]) (by simp [eval_put_ne, eval_put_eq, eval_put_none, size_put, hz, he0, he1, he2]) (hwr _ (by omega) (by omega)) ?_
      rw [show ((len : Int) + (m : Int)) = ((len + m : Nat) : Int) by omega]
      refine L_slice (vx := .slice (some ⟨b, o, none⟩) len c) (vlo := none) (vhi := some (.int .i64 ((len + m : Nat) : Int))) (vmx := none) (v := .slice (some ⟨b, o, none⟩) (len + m) c) (by simp [eval_put_ne, eval_put_eq, eval_put_none, size_put, hz, he0, he1, he2]) (by simp [eval_put_ne, eval_put_eq, eval_put_none, size_put, hz, he0, he1, he2]) (by simp [eval_put_ne, eval_put_eq, eval_put_none, size_put, hz, he0, he1, he2]) (by simp [eval_put_ne, eval_put_eq, eval_put_none, size_put, hz, he0, he1, he2]) (run_slice_hi hu hie (by omega) (by omega)) ?_
      refine L_assign (v := .slice (some ⟨b, o, none⟩) (len + m) c) (by simp [eval_put_ne, eval_put_eq, eval_put_none, size_put, hz, he0, he1, he2]) ?_
      refine L_end ?_
      have hb0 := sp.blk 0 _ (List.getElem?_eq_getElem (by rw [hll]; have := Nat.mul_le_mul_right 26 (show 1 ≤ c by omega); omega))
      have hv0 := vsp.blk 0 _ (List.getElem?_eq_getElem (by rw [hvll]; have := Nat.mul_le_mul_right 26 (show 1 ≤ vc by omega); omega))
      have hapart : ∀ j k, j < vc * 26 → k < c * 26 → ¬ (vb = b ∧ vo + j = o + k) := by
        rintro j k hj hk ⟨rfl, hee⟩
        have g1 := vsp.inreg j hj
        have g2 := sp.inreg k hk
        rw [← hee] at g2
        exact i.disj vid id vob ob hvid hvob hob _ _ g1 g2
      have hov : (Extern.SlicesOverlaps.overlaps #[23, 23] #[4] #[.slice (some ⟨vb, vo, none⟩) m vc, .slice (some ⟨b, o + (ni + m) * 26, none⟩) (len + m - (ni + m)) (c - (ni + m))]).run PQ w = .ok (.bool false) w :=
        run_overlaps hu hie vsp.thaw sp.thaw (shape_of_cell hv0) (shape_of_cell hb0) (by
          show ¬ (vb = b ∧ vo < o + (ni + m) * 26 + (len + m - (ni + m)) * 26 ∧ o + (ni + m) * 26 < vo + m * 26)
          rintro ⟨rfl, h1, h2⟩
          have e1 : (len + m - (ni + m)) * 26 = (len + m) * 26 - (ni + m) * 26 := Nat.sub_mul _ _ _
          by_cases hcmp : vo ≤ o + (ni + m) * 26
          · exact hapart (o + (ni + m) * 26 - vo) ((ni + m) * 26) (by omega) (by omega) ⟨rfl, by omega⟩
          · exact hapart 0 (vo - o) (by omega) (by omega) ⟨rfl, by omega⟩)
      refine wp_seq (wp_seq (wp_regionL rfl ?_))
      refine L_move (v := .slice (some ⟨vb, vo, none⟩) m vc) (by simp [eval_put_ne, eval_put_eq, eval_put_none, size_put, hz, he0, he1, he2]) ?_
      refine L_move (v := .slice (some ⟨b, o, none⟩) (len + m) c) (by simp [eval_put_ne, eval_put_eq, eval_put_none, size_put, hz, he0, he1, he2]) ?_
      refine L_move (v := .int .i64 ni) (by simp [eval_put_ne, eval_put_eq, eval_put_none, size_put, hz, he0, he1, he2]) ?_
      refine L_move (v := .int .i64 m) (by simp [eval_put_ne, eval_put_eq, eval_put_none, size_put, hz, he0, he1, he2]) ?_
      refine L_add (m := ni) (n := m) (by simp [eval_put_ne, eval_put_eq, eval_put_none, size_put, hz, he0, he1, he2]) (by simp [eval_put_ne, eval_put_eq, eval_put_none, size_put, hz, he0, he1, he2]) (hwr _ (by omega) (by omega)) ?_
      rw [show ((ni : Int) + (m : Int)) = ((ni + m : Nat) : Int) by omega]
      refine L_slice (vx := .slice (some ⟨b, o, none⟩) (len + m) c) (vlo := some (.int .i64 ((ni + m : Nat) : Int))) (vhi := none) (vmx := none) (v := .slice (some ⟨b, o + (ni + m) * 26, none⟩) (len + m - (ni + m)) (c - (ni + m))) (by simp [eval_put_ne, eval_put_eq, eval_put_none, size_put, hz, he0, he1, he2]) (by simp [eval_put_ne, eval_put_eq, eval_put_none, size_put, hz, he0, he1, he2]) (by simp [eval_put_ne, eval_put_eq, eval_put_none, size_put, hz, he0, he1, he2]) (by simp [eval_put_ne, eval_put_eq, eval_put_none, size_put, hz, he0, he1, he2]) (run_slice_lo hu hie (by omega) (by omega)) ?_
      refine L_extern (fn := Go.Proofs.Tryz.f135) (e := Extern.SlicesOverlaps.overlaps #[23, 23] #[4]) (vx := .slice (some ⟨vb, vo, none⟩) m vc) (vy := .slice (some ⟨b, o + (ni + m) * 26, none⟩) (len + m - (ni + m)) (c - (ni + m))) (v := .bool false) (by kernel_rfl) (by kernel_rfl) (by kernel_rfl) (by kernel_rfl) (by kernel_rfl) (by simp [eval_put_ne, eval_put_eq, eval_put_none, size_put, hz, he0, he1, he2]) (by simp [eval_put_ne, eval_put_eq, eval_put_none, size_put, hz, he0, he1, he2]) hov ?_
      refine L_not (b := false) (by simp [eval_put_ne, eval_put_eq, eval_put_none, size_put, hz, he0, he1, he2]) ?_
      refine L_end ?_
      refine wp_cond_true (by simp [eval_put_ne, eval_put_eq, eval_put_none, size_put, hz, he0, he1, he2]) ?_
      -- the ones behind move up
      have ud : Upd (fun b' o' => b' = b ∧ o ≤ o' ∧ o' < o + l.length) w { w with drawn := w.drawn + 1 } := upd_drew _ w
      have hs0 : Blk { w with drawn := w.drawn + 1 } b o l := fun j v hv => sp.blk j v hv
      have ht0 : Thaw { w with drawn := w.drawn + 1 } b := sp.thaw
      have hvw0 : Blk { w with drawn := w.drawn + 1 } vb vo vl := fun j v hv => vsp.blk j v hv
      refine wp_seq (wp_region_any (by kernel_rfl) ?_)
      generalize hwA : ({ w with drawn := w.drawn + 1 } : World) = wA at *
      obtain ⟨wBr, wBb, wBu, wBt⟩ := Blk.write (P := PQ) (w := wA) (l := l) (us := ds) (k := (ni + m) * 26) hs0 ht0 (by omega) drel.one
      have hrd : (Builtin.firstCells 26 (len - ni) (.slice (some ⟨b, o + ni * 26, none⟩) (len + m - ni) (c - ni))).run PQ wA = .ok ds.toArray wA := Blk.read (P := PQ) (sz := 26) (k := ni * 26) hs0 (by omega)
      have hcp1 := run_copy_in (P := PQ) (w := wA) (t := 23) (u := 23) (ty := 3) (a := ⟨b, o + (ni + m) * 26, none⟩) (n1 := len + m - (ni + m)) (c1 := c - (ni + m)) (n2 := len + m - ni) (c2 := c - ni) (m := len - ni) hu hie (by omega) hrd wBr
      generalize hwB : World.setCells wA b (o + (ni + m) * 26) ds = wB at *
      have PS := (PanicSafe.body (P := PQ) (fn := Go.Proofs.Tryz.f105) (R := CEnd PQ w F ρ objs (fun a h' => Out.ok (.osl id (ob.ver + 1) 26 0 (len + m)) = .ok a ∧ h' = objs.set id (.live ⟨ob.ver + 1, ob.sz, old.take ni ++ new ++ old.drop ni⟩)) (fun a h' => Out.ok (.osl id (ob.ver + 1) 26 0 (len + m)) = .pan a ∧ h' = objs.set id (.live ⟨ob.ver + 1, ob.sz, old.take ni ++ new ++ old.drop ni⟩))))
      refine A_take (i := 0) (v := .slice (some ⟨b, o, none⟩) (len + m) c) (by first | exact PS.then | exact PS.then.then | exact PS.then.then.then) rfl (by kernel_rfl) (by kernel_rfl) (by kernel_rfl) rfl (fun w' => by simp [execOp, eval_put_ne, eval_put_eq, eval_put_none, size_put, hz, he0, he1, he2]) ?_
      refine A_take (i := 1) (v := .int .i64 ni) (by first | exact PS.then | exact PS.then.then | exact PS.then.then.then) rfl (by kernel_rfl) (by kernel_rfl) (by kernel_rfl) rfl (fun w' => by simp [execOp, eval_put_ne, eval_put_eq, eval_put_none, size_put, hz, he0, he1, he2]) ?_
      refine A_take (i := 2) (v := .int .i64 m) (by first | exact PS.then | exact PS.then.then | exact PS.then.then.then) rfl (by kernel_rfl) (by kernel_rfl) (by kernel_rfl) rfl (fun w' => by simp [execOp, eval_put_ne, eval_put_eq, eval_put_none, size_put, hz, he0, he1, he2]) ?_
      refine A_take (i := 3) (v := .int .i64 ((ni + m : Nat) : Int)) (by first | exact PS.then | exact PS.then.then | exact PS.then.then.then) rfl (by kernel_rfl) (by kernel_rfl) (by kernel_rfl) rfl (fun w' => by simp [execOp, eval_put_ne, eval_put_eq, eval_put_none, size_put, hz, he0, he1, he2, eqGuard, binOp, Op.intArith, hwr ((ni : Int) + (m : Int)) (by omega) (by omega)]) ?_
      refine A_take (i := 4) (v := .slice (some ⟨b, o + (ni + m) * 26, none⟩) (len + m - (ni + m)) (c - (ni + m))) (by first | exact PS.then | exact PS.then.then | exact PS.then.then.then) rfl (by kernel_rfl) (by kernel_rfl) (by kernel_rfl) rfl (fun w' => by
        have hx2 : (Instr.sliceAt 23 (.slice (some ⟨b, o, none⟩) (len + m) c) (some (.int .i64 ((ni : Int) + (m : Int)))) none none).run PQ w' = .ok (.slice (some ⟨b, o + (ni + m) * 26, none⟩) (len + m - (ni + m)) (c - (ni + m))) w' := by
          rw [show ((ni : Int) + (m : Int)) = ((ni + m : Nat) : Int) by omega]
          exact run_slice_lo hu hie (by omega) (by omega)
        simp [execOp, eval_put_ne, eval_put_eq, eval_put_none, size_put, hz, he0, he1, he2, hx2]) ?_
      refine A_take (i := 5) (v := .slice (some ⟨b, o, none⟩) (len + m) c) (by first | exact PS.then | exact PS.then.then | exact PS.then.then.then) rfl (by kernel_rfl) (by kernel_rfl) (by kernel_rfl) rfl (fun w' => by simp [execOp, eval_put_ne, eval_put_eq, eval_put_none, size_put, hz, he0, he1, he2]) ?_
      refine A_take (i := 6) (v := .int .i64 ni) (by first | exact PS.then | exact PS.then.then | exact PS.then.then.then) rfl (by kernel_rfl) (by kernel_rfl) (by kernel_rfl) rfl (fun w' => by simp [execOp, eval_put_ne, eval_put_eq, eval_put_none, size_put, hz, he0, he1, he2]) ?_
      refine A_take (i := 7) (v := .slice (some ⟨b, o + ni * 26, none⟩) (len + m - ni) (c - ni)) (by first | exact PS.then | exact PS.then.then | exact PS.then.then.then) rfl (by kernel_rfl) (by kernel_rfl) (by kernel_rfl) rfl (fun w' => by
        have hx2 : (Instr.sliceAt 23 (.slice (some ⟨b, o, none⟩) (len + m) c) (some (.int .i64 ni)) none none).run PQ w' = .ok (.slice (some ⟨b, o + ni * 26, none⟩) (len + m - ni) (c - ni)) w' := run_slice_lo hu hie (by omega) (by omega)
        simp [execOp, eval_put_ne, eval_put_eq, eval_put_none, size_put, hz, he0, he1, he2, hx2]) ?_
      refine A_only (i := 8) (v := goInt (len - ni : Nat)) (w' := wB) rfl (by kernel_rfl) rfl (by simp [execOp, eval_put_ne, eval_put_eq, eval_put_none, size_put, hz, he0, he1, he2, resolve, invoke, builtin, hcp1, -Nat.mul_one]) ?_
      refine wpAny_done (by kernel_rfl) ?_ _
      -- the new ones
      let l1 : List Value := l.take ((ni + m) * 26) ++ ds ++ l.drop ((ni + m) * 26 + ds.length)
      have hl1 : l1.length = l.length := by simp only [l1, List.length_append, List.length_take, List.length_drop, hdl, hll]; omega
      have hvB : Blk wB vb vo vl := hvw0.upd wBu (fun j hj h => hapart j (vo + j - o) (by omega) (by omega) ⟨h.1, by omega⟩)
      obtain ⟨wCr, wCb, wCu, wCt⟩ := Blk.write (P := PQ) (w := wB) (l := l1) (us := us) (k := ni * 26) wBb wBt (by omega) hone
      have hcp2 := run_copy_in (P := PQ) (w := wB) (t := 23) (u := 23) (ty := 3) (a := ⟨b, o + ni * 26, none⟩) (n1 := len + m - ni) (c1 := c - ni) (n2 := m) (c2 := vc) (m := m) hu hie (by omega) (hrun wB _ vc rfl hvB) wCr
      generalize hwC : World.setCells wB b (o + ni * 26) us = wC at *
      refine wp_seq (wp_regionL rfl ?_)
      refine L_move (v := .slice (some ⟨b, o, none⟩) (len + m) c) (by simp [eval_put_ne, eval_put_eq, eval_put_none, size_put, hz, he0, he1, he2]) ?_
      refine L_move (v := .int .i64 ni) (by simp [eval_put_ne, eval_put_eq, eval_put_none, size_put, hz, he0, he1, he2]) ?_
      refine L_slice (vx := .slice (some ⟨b, o, none⟩) (len + m) c) (vlo := some (.int .i64 ni)) (vhi := none) (vmx := none) (v := .slice (some ⟨b, o + ni * 26, none⟩) (len + m - ni) (c - ni)) (by simp [eval_put_ne, eval_put_eq, eval_put_none, size_put, hz, he0, he1, he2]) (by simp [eval_put_ne, eval_put_eq, eval_put_none, size_put, hz, he0, he1, he2]) (by simp [eval_put_ne, eval_put_eq, eval_put_none, size_put, hz, he0, he1, he2]) (by simp [eval_put_ne, eval_put_eq, eval_put_none, size_put, hz, he0, he1, he2]) (run_slice_lo hu hie (by omega) (by omega)) ?_
      refine L_move (v := .slice (some ⟨vb, vo, none⟩) m vc) (by simp [eval_put_ne, eval_put_eq, eval_put_none, size_put, hz, he0, he1, he2]) ?_
      refine L_copy (vx := .slice (some ⟨b, o + ni * 26, none⟩) (len + m - ni) (c - ni)) (vy := .slice (some ⟨vb, vo, none⟩) m vc) (v := goInt m) (w' := wC) (by simp [eval_put_ne, eval_put_eq, eval_put_none, size_put, hz, he0, he1, he2]) (by simp [eval_put_ne, eval_put_eq, eval_put_none, size_put, hz, he0, he1, he2]) hcp2 ?_
      refine L_end ?_
      refine wp_seq (wp_regionL rfl ?_)
      refine L_move (v := .slice (some ⟨b, o, none⟩) (len + m) c) (by simp [eval_put_ne, eval_put_eq, eval_put_none, size_put, hz, he0, he1, he2]) ?_
      refine L_assign (v := .slice (some ⟨b, o, none⟩) (len + m) c) (by simp [eval_put_ne, eval_put_eq, eval_put_none, size_put, hz, he0, he1, he2]) ?_
      refine L_end ?_
      refine wp_ret (ret_one (t := 6) (v := .slice (some ⟨b, o, none⟩) (len + m) c) rfl (by simp only [defers_put]; exact hd) (by simp [eval_put_ne, eval_put_eq, eval_put_none, size_put, hz, he0, he1, he2]) ?_)
      rw [hl1] at wCu
      have uall : Upd (fun b' o' => b' = b ∧ o ≤ o' ∧ o' < o + l.length) w wC := (ud.trans wBu fun _ _ _ h => h).trans wCu fun _ _ _ h => h
      have hpre : ∀ (j : Nat) v, (l.take (ni * 26) ++ us ++ ds)[j]? = some v → (l1.take (ni * 26) ++ us ++ l1.drop (ni * 26 + us.length))[j]? = some v := by
        intro j v hv
        have hA : (l.take (ni * 26)).length = ni * 26 := by simp; omega
        have hB : l1.take (ni * 26) = l.take (ni * 26) := by
          simp only [l1]
          rw [List.append_assoc, List.take_append_of_le_length (by simp; omega), List.take_take, Nat.min_eq_left (by omega)]
        have hC : l1.drop (ni * 26 + us.length) = ds ++ l.drop ((ni + m) * 26 + ds.length) := by
          simp only [l1, hul]
          rw [← hnim, List.append_assoc, List.drop_append_of_le_length (by simp; omega)]
          rw [List.drop_eq_nil_of_le (by simp; omega), List.nil_append]
        rw [hB, hC, ← List.append_assoc, List.getElem?_append_left (List.getElem?_eq_some_iff.1 hv).1]
        exact hv
      obtain ⟨ρ1, i1, t1, q1⟩ := sp.put i hob (w' := wC) (rows' := old.take ni ++ new ++ old.drop ni) (vs := l.take (ni * 26) ++ us ++ ds) uall hwid (by omega) allrel (fun j v hv => wCb j v (hpre j v hv))
      rw [hrl] at q1
      exact ⟨F, ρ1, _, i1, t1, _, q1, rfl, rfl⟩

end Go.Ab
