import Derived.Test.YtdeecocfcihkjaaAbsDel
import Derived.Test.YtdeecocfcihkjaaProg
import Derived.KernelRfl
set_option maxRecDepth 100000
set_option maxHeartbeats 4000000
set_option linter.unusedSimpArgs false
set_option linter.unusedVariables false
namespace Go.Ab
open Go
noncomputable abbrev PQ : Program := Go.Proofs.Try.prog

theorem clone61 : SoundFn PQ 61 (primClone 2 16) := by
  intro args objs R objs' hk w F ρ vs i ha
  unfold primClone at hk
  split at hk <;> try (cases hk; done)
  rename_i x
  split at hk <;> try (cases hk; done)
  rename_i rows hrows
  split at hk <;> try (cases hk; done)
  rename_i hcond
  simp only [Option.some.injEq, Prod.mk.injEq] at hk
  obtain ⟨rfl, rfl⟩ := hk
  obtain ⟨hsz, hrel⟩ := ha
  have hx := hrel 0 (by simp)
  obtain ⟨xv, rfl⟩ : ∃ xv, vs = #[xv] := by
    simp at hsz
    exact Array.size_eq_one_iff.1 hsz
  simp at hx
  obtain ⟨a, c, us, rfl, hw, hc, hrun, -⟩ := rowsOf_spec i hx hrows
  have hu : PQ.underlying 27 = some (.slice 71) := by kernel_rfl
  have hie : PQ.info? 71 = some Go.Proofs.Try.t71 := by kernel_rfl
  have hz2 : (zeroT PQ 71).map List.length = some 2 := by kernel_rfl
  obtain ⟨w1, v, w2, b1, b2, F', ρ', i', t', r'⟩ := clone_some (ty := 27) i hx hu hie (sz := 2) rfl (by decide) (by decide) hz2 hrows hcond.1
  refine calls_of_body (fn := Go.Proofs.Try.f61) (by kernel_rfl) rfl 8 rfl fun a0 hz hd he => ?_
  have he0 := he 0 (by simp)
  simp at he0
  refine wp_seq (wp_regionL rfl ?_)
  refine L_assign rfl ?_
  refine L_end ?_
  refine wp_seq (wp_seq (wp_regionL rfl ?_))
  refine L_move (v := .slice a rows.length c) (by simp [eval_put_ne, he0]) ?_
  refine L_nil hu (eval_put_eq (by rw [size_put, hz]; decide)) ?_
  refine L_end ?_
  cases a with
  | none =>
    have hus : us = [] := by
      have h1 := hrun w (fun _ _ => rfl) rows.length (Nat.le_refl _)
      simp only [Builtin.firstCells, Sem.run_pure, Result.ok.injEq, and_true] at h1
      have h2 := congrArg Array.toList h1
      rw [List.take_of_length_le (by rw [hc.1, flat_len rows hw]; omega)] at h2
      exact h2.symm
    have hr0 : rows = [] := by
      have h1 := hc.1
      rw [hus, flat_len rows hw] at h1
      simp at h1
      exact List.length_eq_zero_iff.1 (by omega)
    subst hr0
    refine wp_cond_true (eval_put_eq (by rw [size_put, size_put, hz]; decide)) (wp_seq (wp_regionL rfl ?_))
    refine L_assign rfl ?_
    refine L_end ?_
    refine wp_ret (ret_one (t := 2) (v := .slice none 0 0) rfl hd (eval_put_eq (by rw [size_put, size_put, size_put, hz]; decide)) ?_)
    obtain ⟨ρ1, i1, t1, r1⟩ := i.addEmpty 1 (show 0 < 2 by decide) none
    exact ⟨F, ρ1, _, i1, t1, _, r1, rfl, rfl⟩
  | some b =>
    refine wp_cond_false (eval_put_eq (by rw [size_put, size_put, hz]; decide)) (wp_skip ?_)
    refine wp_seq (wp_regionL rfl ?_)
    refine L_lit b1 ?_
    refine L_move (v := .slice (some b) rows.length c) (by simp [eval_put_ne, he0]) ?_
    refine L_append (vx := .slice (some ⟨w.heap.size, 0, none⟩) 0 0) (vy := .slice (some b) rows.length c) (v := v) (w' := w2) ?_ (eval_put_eq (by simp only [size_put, hz]; decide)) b2 ?_
    · rw [eval_put_ne (by decide)]; exact eval_put_eq (by simp only [size_put, hz]; decide)
    refine L_assign (eval_put_eq (by simp only [size_put, hz]; decide)) ?_
    refine L_end ?_
    refine wp_ret (ret_one (t := 2) (v := v) rfl (by simp only [defers_put]; exact hd) (eval_put_eq (by simp only [size_put, hz]; decide)) ?_)
    exact ⟨F', ρ', _, i', t', _, r', rfl, rfl⟩

theorem clone62 : SoundFn PQ 62 (primClone 2 16) := by
  intro args objs R objs' hk w F ρ vs i ha
  unfold primClone at hk
  split at hk <;> try (cases hk; done)
  rename_i x
  split at hk <;> try (cases hk; done)
  rename_i rows hrows
  split at hk <;> try (cases hk; done)
  rename_i hcond
  simp only [Option.some.injEq, Prod.mk.injEq] at hk
  obtain ⟨rfl, rfl⟩ := hk
  obtain ⟨hsz, hrel⟩ := ha
  have hx := hrel 0 (by simp)
  obtain ⟨xv, rfl⟩ : ∃ xv, vs = #[xv] := by
    simp at hsz
    exact Array.size_eq_one_iff.1 hsz
  simp at hx
  obtain ⟨a, c, us, rfl, hw, hc, hrun, -⟩ := rowsOf_spec i hx hrows
  have hu : PQ.underlying 30 = some (.slice 54) := by kernel_rfl
  have hie : PQ.info? 54 = some Go.Proofs.Try.t54 := by kernel_rfl
  have hz2 : (zeroT PQ 54).map List.length = some 2 := by kernel_rfl
  obtain ⟨w1, v, w2, b1, b2, F', ρ', i', t', r'⟩ := clone_some (ty := 30) i hx hu hie (sz := 2) rfl (by decide) (by decide) hz2 hrows hcond.1
  refine calls_of_body (fn := Go.Proofs.Try.f62) (by kernel_rfl) rfl 8 rfl fun a0 hz hd he => ?_
  have he0 := he 0 (by simp)
  simp at he0
  refine wp_seq (wp_regionL rfl ?_)
  refine L_assign rfl ?_
  refine L_end ?_
  refine wp_seq (wp_seq (wp_regionL rfl ?_))
  refine L_move (v := .slice a rows.length c) (by simp [eval_put_ne, he0]) ?_
  refine L_nil hu (eval_put_eq (by rw [size_put, hz]; decide)) ?_
  refine L_end ?_
  cases a with
  | none =>
    have hus : us = [] := by
      have h1 := hrun w (fun _ _ => rfl) rows.length (Nat.le_refl _)
      simp only [Builtin.firstCells, Sem.run_pure, Result.ok.injEq, and_true] at h1
      have h2 := congrArg Array.toList h1
      rw [List.take_of_length_le (by rw [hc.1, flat_len rows hw]; omega)] at h2
      exact h2.symm
    have hr0 : rows = [] := by
      have h1 := hc.1
      rw [hus, flat_len rows hw] at h1
      simp at h1
      exact List.length_eq_zero_iff.1 (by omega)
    subst hr0
    refine wp_cond_true (eval_put_eq (by rw [size_put, size_put, hz]; decide)) (wp_seq (wp_regionL rfl ?_))
    refine L_assign rfl ?_
    refine L_end ?_
    refine wp_ret (ret_one (t := 2) (v := .slice none 0 0) rfl hd (eval_put_eq (by rw [size_put, size_put, size_put, hz]; decide)) ?_)
    obtain ⟨ρ1, i1, t1, r1⟩ := i.addEmpty 1 (show 0 < 2 by decide) none
    exact ⟨F, ρ1, _, i1, t1, _, r1, rfl, rfl⟩
  | some b =>
    refine wp_cond_false (eval_put_eq (by rw [size_put, size_put, hz]; decide)) (wp_skip ?_)
    refine wp_seq (wp_regionL rfl ?_)
    refine L_lit b1 ?_
    refine L_move (v := .slice (some b) rows.length c) (by simp [eval_put_ne, he0]) ?_
    refine L_append (vx := .slice (some ⟨w.heap.size, 0, none⟩) 0 0) (vy := .slice (some b) rows.length c) (v := v) (w' := w2) ?_ (eval_put_eq (by simp only [size_put, hz]; decide)) b2 ?_
    · rw [eval_put_ne (by decide)]; exact eval_put_eq (by simp only [size_put, hz]; decide)
    refine L_assign (eval_put_eq (by simp only [size_put, hz]; decide)) ?_
    refine L_end ?_
    refine wp_ret (ret_one (t := 2) (v := v) rfl (by simp only [defers_put]; exact hd) (eval_put_eq (by simp only [size_put, hz]; decide)) ?_)
    exact ⟨F', ρ', _, i', t', _, r', rfl, rfl⟩

theorem clone63 : SoundFn PQ 63 (primClone 1 1) := by
  intro args objs R objs' hk w F ρ vs i ha
  unfold primClone at hk
  split at hk <;> try (cases hk; done)
  rename_i x
  split at hk <;> try (cases hk; done)
  rename_i rows hrows
  split at hk <;> try (cases hk; done)
  rename_i hcond
  simp only [Option.some.injEq, Prod.mk.injEq] at hk
  obtain ⟨rfl, rfl⟩ := hk
  obtain ⟨hsz, hrel⟩ := ha
  have hx := hrel 0 (by simp)
  obtain ⟨xv, rfl⟩ : ∃ xv, vs = #[xv] := by
    simp at hsz
    exact Array.size_eq_one_iff.1 hsz
  simp at hx
  obtain ⟨a, c, us, rfl, hw, hc, hrun, -⟩ := rowsOf_spec i hx hrows
  have hu : PQ.underlying 31 = some (.slice 5) := by kernel_rfl
  have hie : PQ.info? 5 = some Go.Proofs.Try.t5 := by kernel_rfl
  have hz2 : (zeroT PQ 5).map List.length = some 1 := by kernel_rfl
  obtain ⟨w1, v, w2, b1, b2, F', ρ', i', t', r'⟩ := clone_some (ty := 31) i hx hu hie (sz := 1) rfl (by decide) (by decide) hz2 hrows hcond.1
  refine calls_of_body (fn := Go.Proofs.Try.f63) (by kernel_rfl) rfl 8 rfl fun a0 hz hd he => ?_
  have he0 := he 0 (by simp)
  simp at he0
  refine wp_seq (wp_regionL rfl ?_)
  refine L_assign rfl ?_
  refine L_end ?_
  refine wp_seq (wp_seq (wp_regionL rfl ?_))
  refine L_move (v := .slice a rows.length c) (by simp [eval_put_ne, he0]) ?_
  refine L_nil hu (eval_put_eq (by rw [size_put, hz]; decide)) ?_
  refine L_end ?_
  cases a with
  | none =>
    have hus : us = [] := by
      have h1 := hrun w (fun _ _ => rfl) rows.length (Nat.le_refl _)
      simp only [Builtin.firstCells, Sem.run_pure, Result.ok.injEq, and_true] at h1
      have h2 := congrArg Array.toList h1
      rw [List.take_of_length_le (by rw [hc.1, flat_len rows hw]; omega)] at h2
      exact h2.symm
    have hr0 : rows = [] := by
      have h1 := hc.1
      rw [hus, flat_len rows hw] at h1
      simp at h1
      exact List.length_eq_zero_iff.1 (by omega)
    subst hr0
    refine wp_cond_true (eval_put_eq (by rw [size_put, size_put, hz]; decide)) (wp_seq (wp_regionL rfl ?_))
    refine L_assign rfl ?_
    refine L_end ?_
    refine wp_ret (ret_one (t := 2) (v := .slice none 0 0) rfl hd (eval_put_eq (by rw [size_put, size_put, size_put, hz]; decide)) ?_)
    obtain ⟨ρ1, i1, t1, r1⟩ := i.addEmpty 1 (show 0 < 1 by decide) none
    exact ⟨F, ρ1, _, i1, t1, _, r1, rfl, rfl⟩
  | some b =>
    refine wp_cond_false (eval_put_eq (by rw [size_put, size_put, hz]; decide)) (wp_skip ?_)
    refine wp_seq (wp_regionL rfl ?_)
    refine L_lit b1 ?_
    refine L_move (v := .slice (some b) rows.length c) (by simp [eval_put_ne, he0]) ?_
    refine L_append (vx := .slice (some ⟨w.heap.size, 0, none⟩) 0 0) (vy := .slice (some b) rows.length c) (v := v) (w' := w2) ?_ (eval_put_eq (by simp only [size_put, hz]; decide)) b2 ?_
    · rw [eval_put_ne (by decide)]; exact eval_put_eq (by simp only [size_put, hz]; decide)
    refine L_assign (eval_put_eq (by simp only [size_put, hz]; decide)) ?_
    refine L_end ?_
    refine wp_ret (ret_one (t := 2) (v := v) rfl (by simp only [defers_put]; exact hd) (eval_put_eq (by simp only [size_put, hz]; decide)) ?_)
    exact ⟨F', ρ', _, i', t', _, r', rfl, rfl⟩

theorem clone29 : SoundFn PQ 29 (primClone 1 8) := by
  intro args objs R objs' hk w F ρ vs i ha
  unfold primClone at hk
  split at hk <;> try (cases hk; done)
  rename_i x
  split at hk <;> try (cases hk; done)
  rename_i rows hrows
  split at hk <;> try (cases hk; done)
  rename_i hcond
  simp only [Option.some.injEq, Prod.mk.injEq] at hk
  obtain ⟨rfl, rfl⟩ := hk
  obtain ⟨hsz, hrel⟩ := ha
  have hx := hrel 0 (by simp)
  obtain ⟨xv, rfl⟩ : ∃ xv, vs = #[xv] := by
    simp at hsz
    exact Array.size_eq_one_iff.1 hsz
  simp at hx
  obtain ⟨a, c, us, rfl, hw, hc, hrun, -⟩ := rowsOf_spec i hx hrows
  have hu : PQ.underlying 39 = some (.slice 26) := by kernel_rfl
  have hie : PQ.info? 26 = some Go.Proofs.Try.t26 := by kernel_rfl
  have hz2 : (zeroT PQ 26).map List.length = some 1 := by kernel_rfl
  obtain ⟨w1, v, w2, b1, b2, F', ρ', i', t', r'⟩ := clone_some (ty := 39) i hx hu hie (sz := 1) rfl (by decide) (by decide) hz2 hrows hcond.1
  refine calls_of_body (fn := Go.Proofs.Try.f29) (by kernel_rfl) rfl 8 rfl fun a0 hz hd he => ?_
  have he0 := he 0 (by simp)
  simp at he0
  refine wp_seq (wp_regionL rfl ?_)
  refine L_assign rfl ?_
  refine L_end ?_
  refine wp_seq (wp_seq (wp_regionL rfl ?_))
  refine L_move (v := .slice a rows.length c) (by simp [eval_put_ne, he0]) ?_
  refine L_nil hu (eval_put_eq (by rw [size_put, hz]; decide)) ?_
  refine L_end ?_
  cases a with
  | none =>
    have hus : us = [] := by
      have h1 := hrun w (fun _ _ => rfl) rows.length (Nat.le_refl _)
      simp only [Builtin.firstCells, Sem.run_pure, Result.ok.injEq, and_true] at h1
      have h2 := congrArg Array.toList h1
      rw [List.take_of_length_le (by rw [hc.1, flat_len rows hw]; omega)] at h2
      exact h2.symm
    have hr0 : rows = [] := by
      have h1 := hc.1
      rw [hus, flat_len rows hw] at h1
      simp at h1
      exact List.length_eq_zero_iff.1 (by omega)
    subst hr0
    refine wp_cond_true (eval_put_eq (by rw [size_put, size_put, hz]; decide)) (wp_seq (wp_regionL rfl ?_))
    refine L_assign rfl ?_
    refine L_end ?_
    refine wp_ret (ret_one (t := 2) (v := .slice none 0 0) rfl hd (eval_put_eq (by rw [size_put, size_put, size_put, hz]; decide)) ?_)
    obtain ⟨ρ1, i1, t1, r1⟩ := i.addEmpty 1 (show 0 < 1 by decide) none
    exact ⟨F, ρ1, _, i1, t1, _, r1, rfl, rfl⟩
  | some b =>
    refine wp_cond_false (eval_put_eq (by rw [size_put, size_put, hz]; decide)) (wp_skip ?_)
    refine wp_seq (wp_regionL rfl ?_)
    refine L_lit b1 ?_
    refine L_move (v := .slice (some b) rows.length c) (by simp [eval_put_ne, he0]) ?_
    refine L_append (vx := .slice (some ⟨w.heap.size, 0, none⟩) 0 0) (vy := .slice (some b) rows.length c) (v := v) (w' := w2) ?_ (eval_put_eq (by simp only [size_put, hz]; decide)) b2 ?_
    · rw [eval_put_ne (by decide)]; exact eval_put_eq (by simp only [size_put, hz]; decide)
    refine L_assign (eval_put_eq (by simp only [size_put, hz]; decide)) ?_
    refine L_end ?_
    refine wp_ret (ret_one (t := 2) (v := v) rfl (by simp only [defers_put]; exact hd) (eval_put_eq (by simp only [size_put, hz]; decide)) ?_)
    exact ⟨F', ρ', _, i', t', _, r', rfl, rfl⟩

end Go.Ab
