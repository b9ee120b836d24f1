import Derived.Test.YtocnjegcmmfpfaaAbsGrow
import Derived.Test.YtocnjegcmmfpfaaProg
import Derived.KernelRfl
set_option maxRecDepth 100000
set_option maxHeartbeats 4000000
set_option linter.unusedSimpArgs false
set_option linter.unusedVariables false
namespace Go.Ab
open Go
noncomputable abbrev PQ : Program := Go.Proofs.Try.prog
attribute [local simp] qbU qaw qlc qaA
theorem clone37 : SoundFn PQ 37 (qa8 1 8) := by
 intro args objs R objs' hk w F ρ vs i ha
 unfold qa8 at hk
 split at hk <;> try (cases hk; done)
 rename_i x
 split at hk <;> try (cases hk; done)
 rename_i rows hrows
 split at hk <;> try (cases hk; done)
 rename_i hcond
 simp only [Option.some.injEq, Prod.mk.injEq] at hk
 obtain ⟨rfl, rfl⟩ := hk
 obtain ⟨hsz, hrel⟩ := ha
 have hx := hrel 0 (by simp)
 obtain ⟨xv, rfl⟩ : ∃ xv, vs = #[xv] := by
  simp at hsz
  exact Array.size_eq_one_iff.1 hsz
 simp at hx
 obtain ⟨a, c, us, rfl, hw, hc, hrun, -⟩ := qce i hx hrows
 have hu : PQ.underlying 65 = some (.slice 23) := by kernel_rfl
 have hie : PQ.info? 23 = some Go.Proofs.Try.t23 := by kernel_rfl
 have hz2 : (zeroT PQ 23).map List.length = some 1 := by kernel_rfl
 obtain ⟨w1, v, w2, b1, b2, F', ρ', i', t', r'⟩ := qim (ty := 65) i hx hu hie (sz := 1) rfl (by decide) (by decide) hz2 hrows hcond.1
 refine qbp (fn := Go.Proofs.Try.f37) (by kernel_rfl) rfl 8 rfl fun a0 Z hd he => ?_
 have E := he 0 (by simp)
 simp at E
 refine wp_seq (qa1 rfl ?_)
 refine qag rfl ?_
 refine L_end ?_
 refine wp_seq (wp_seq (qa1 rfl ?_))
 refine L_move (v := .slice a rows.length c) (by simp [qbU, E]) ?_
 refine L_nil hu (qaw (by rw [qaA, Z]; decide)) ?_
 refine L_end ?_
 cases a with
 | none =>
   have hus : us = [] := by
    have h1 := hrun w (fun _ _ => rfl) rows.length (Nat.le_refl _)
    simp only [Builtin.firstCells, Sem.run_pure, Result.ok.injEq, and_true] at h1
    have h2 := congrArg Array.toList h1
    rw [List.take_of_length_le (by rw [hc.1, qb4 rows hw]; omega)] at h2
    exact h2.symm
   have hr0 : rows = [] := by
    have h1 := hc.1
    rw [hus, qb4 rows hw] at h1
    simp at h1
    exact List.length_eq_zero_iff.1 (by omega)
   subst hr0
   refine wp_cond_true (qaw (by rw [qaA, qaA, Z]; decide)) (wp_seq (qa1 rfl ?_))
   refine qag rfl ?_
   refine L_end ?_
   refine wp_ret (ret_one (t := 2) (v := .slice none 0 0) rfl hd (qaw (by rw [qaA, qaA, qaA, Z]; decide)) ?_)
   obtain ⟨ρ1, i1, t1, r1⟩ := i.addEmpty 1 (show 0 < 1 by decide) none
   exact ⟨F, ρ1, _, i1, t1, _, r1, rfl, rfl⟩
 | some b =>
   refine wp_cond_false (qaw (by rw [qaA, qaA, Z]; decide)) (wp_skip ?_)
   refine wp_seq (qa1 rfl ?_)
   refine L_lit b1 ?_
   refine L_move (v := .slice (some b) rows.length c) (by simp [qbU, E]) ?_
   refine qdU (vx := .slice (some ⟨w.heap.size, 0, none⟩) 0 0) (vy := .slice (some b) rows.length c) (v := v) (w' := w2) ?_ (qaw (by simp only [qaA, Z]; decide)) b2 ?_
   · rw [qbU (by decide)]; exact qaw (by simp only [qaA, Z]; decide)
   refine qag (qaw (by simp only [qaA, Z]; decide)) ?_
   refine L_end ?_
   refine wp_ret (ret_one (t := 2) (v := v) rfl (by simp only [qaP]; exact hd) (qaw (by simp only [qaA, Z]; decide)) ?_)
   exact ⟨F', ρ', _, i', t', _, r', rfl, rfl⟩
theorem clone38 : SoundFn PQ 38 (qa8 2 16) := by
 intro args objs R objs' hk w F ρ vs i ha
 unfold qa8 at hk
 split at hk <;> try (cases hk; done)
 rename_i x
 split at hk <;> try (cases hk; done)
 rename_i rows hrows
 split at hk <;> try (cases hk; done)
 rename_i hcond
 simp only [Option.some.injEq, Prod.mk.injEq] at hk
 obtain ⟨rfl, rfl⟩ := hk
 obtain ⟨hsz, hrel⟩ := ha
 have hx := hrel 0 (by simp)
 obtain ⟨xv, rfl⟩ : ∃ xv, vs = #[xv] := by
  simp at hsz
  exact Array.size_eq_one_iff.1 hsz
 simp at hx
 obtain ⟨a, c, us, rfl, hw, hc, hrun, -⟩ := qce i hx hrows
 have hu : PQ.underlying 66 = some (.slice 34) := by kernel_rfl
 have hie : PQ.info? 34 = some Go.Proofs.Try.t34 := by kernel_rfl
 have hz2 : (zeroT PQ 34).map List.length = some 2 := by kernel_rfl
 obtain ⟨w1, v, w2, b1, b2, F', ρ', i', t', r'⟩ := qim (ty := 66) i hx hu hie (sz := 2) rfl (by decide) (by decide) hz2 hrows hcond.1
 refine qbp (fn := Go.Proofs.Try.f38) (by kernel_rfl) rfl 8 rfl fun a0 Z hd he => ?_
 have E := he 0 (by simp)
 simp at E
 refine wp_seq (qa1 rfl ?_)
 refine qag rfl ?_
 refine L_end ?_
 refine wp_seq (wp_seq (qa1 rfl ?_))
 refine L_move (v := .slice a rows.length c) (by simp [qbU, E]) ?_
 refine L_nil hu (qaw (by rw [qaA, Z]; decide)) ?_
 refine L_end ?_
 cases a with
 | none =>
   have hus : us = [] := by
    have h1 := hrun w (fun _ _ => rfl) rows.length (Nat.le_refl _)
    simp only [Builtin.firstCells, Sem.run_pure, Result.ok.injEq, and_true] at h1
    have h2 := congrArg Array.toList h1
    rw [List.take_of_length_le (by rw [hc.1, qb4 rows hw]; omega)] at h2
    exact h2.symm
   have hr0 : rows = [] := by
    have h1 := hc.1
    rw [hus, qb4 rows hw] at h1
    simp at h1
    exact List.length_eq_zero_iff.1 (by omega)
   subst hr0
   refine wp_cond_true (qaw (by rw [qaA, qaA, Z]; decide)) (wp_seq (qa1 rfl ?_))
   refine qag rfl ?_
   refine L_end ?_
   refine wp_ret (ret_one (t := 2) (v := .slice none 0 0) rfl hd (qaw (by rw [qaA, qaA, qaA, Z]; decide)) ?_)
   obtain ⟨ρ1, i1, t1, r1⟩ := i.addEmpty 1 (show 0 < 2 by decide) none
   exact ⟨F, ρ1, _, i1, t1, _, r1, rfl, rfl⟩
 | some b =>
   refine wp_cond_false (qaw (by rw [qaA, qaA, Z]; decide)) (wp_skip ?_)
   refine wp_seq (qa1 rfl ?_)
   refine L_lit b1 ?_
   refine L_move (v := .slice (some b) rows.length c) (by simp [qbU, E]) ?_
   refine qdU (vx := .slice (some ⟨w.heap.size, 0, none⟩) 0 0) (vy := .slice (some b) rows.length c) (v := v) (w' := w2) ?_ (qaw (by simp only [qaA, Z]; decide)) b2 ?_
   · rw [qbU (by decide)]; exact qaw (by simp only [qaA, Z]; decide)
   refine qag (qaw (by simp only [qaA, Z]; decide)) ?_
   refine L_end ?_
   refine wp_ret (ret_one (t := 2) (v := v) rfl (by simp only [qaP]; exact hd) (qaw (by simp only [qaA, Z]; decide)) ?_)
   exact ⟨F', ρ', _, i', t', _, r', rfl, rfl⟩
theorem clone53 : SoundFn PQ 53 (qa8 1 8) := by
 intro args objs R objs' hk w F ρ vs i ha
 unfold qa8 at hk
 split at hk <;> try (cases hk; done)
 rename_i x
 split at hk <;> try (cases hk; done)
 rename_i rows hrows
 split at hk <;> try (cases hk; done)
 rename_i hcond
 simp only [Option.some.injEq, Prod.mk.injEq] at hk
 obtain ⟨rfl, rfl⟩ := hk
 obtain ⟨hsz, hrel⟩ := ha
 have hx := hrel 0 (by simp)
 obtain ⟨xv, rfl⟩ : ∃ xv, vs = #[xv] := by
  simp at hsz
  exact Array.size_eq_one_iff.1 hsz
 simp at hx
 obtain ⟨a, c, us, rfl, hw, hc, hrun, -⟩ := qce i hx hrows
 have hu : PQ.underlying 67 = some (.slice 60) := by kernel_rfl
 have hie : PQ.info? 60 = some Go.Proofs.Try.t60 := by kernel_rfl
 have hz2 : (zeroT PQ 60).map List.length = some 1 := by kernel_rfl
 obtain ⟨w1, v, w2, b1, b2, F', ρ', i', t', r'⟩ := qim (ty := 67) i hx hu hie (sz := 1) rfl (by decide) (by decide) hz2 hrows hcond.1
 refine qbp (fn := Go.Proofs.Try.f53) (by kernel_rfl) rfl 8 rfl fun a0 Z hd he => ?_
 have E := he 0 (by simp)
 simp at E
 refine wp_seq (qa1 rfl ?_)
 refine qag rfl ?_
 refine L_end ?_
 refine wp_seq (wp_seq (qa1 rfl ?_))
 refine L_move (v := .slice a rows.length c) (by simp [qbU, E]) ?_
 refine L_nil hu (qaw (by rw [qaA, Z]; decide)) ?_
 refine L_end ?_
 cases a with
 | none =>
   have hus : us = [] := by
    have h1 := hrun w (fun _ _ => rfl) rows.length (Nat.le_refl _)
    simp only [Builtin.firstCells, Sem.run_pure, Result.ok.injEq, and_true] at h1
    have h2 := congrArg Array.toList h1
    rw [List.take_of_length_le (by rw [hc.1, qb4 rows hw]; omega)] at h2
    exact h2.symm
   have hr0 : rows = [] := by
    have h1 := hc.1
    rw [hus, qb4 rows hw] at h1
    simp at h1
    exact List.length_eq_zero_iff.1 (by omega)
   subst hr0
   refine wp_cond_true (qaw (by rw [qaA, qaA, Z]; decide)) (wp_seq (qa1 rfl ?_))
   refine qag rfl ?_
   refine L_end ?_
   refine wp_ret (ret_one (t := 2) (v := .slice none 0 0) rfl hd (qaw (by rw [qaA, qaA, qaA, Z]; decide)) ?_)
   obtain ⟨ρ1, i1, t1, r1⟩ := i.addEmpty 1 (show 0 < 1 by decide) none
   exact ⟨F, ρ1, _, i1, t1, _, r1, rfl, rfl⟩
 | some b =>
   refine wp_cond_false (qaw (by rw [qaA, qaA, Z]; decide)) (wp_skip ?_)
   refine wp_seq (qa1 rfl ?_)
   refine L_lit b1 ?_
   refine L_move (v := .slice (some b) rows.length c) (by simp [qbU, E]) ?_
   refine qdU (vx := .slice (some ⟨w.heap.size, 0, none⟩) 0 0) (vy := .slice (some b) rows.length c) (v := v) (w' := w2) ?_ (qaw (by simp only [qaA, Z]; decide)) b2 ?_
   · rw [qbU (by decide)]; exact qaw (by simp only [qaA, Z]; decide)
   refine qag (qaw (by simp only [qaA, Z]; decide)) ?_
   refine L_end ?_
   refine wp_ret (ret_one (t := 2) (v := v) rfl (by simp only [qaP]; exact hd) (qaw (by simp only [qaA, Z]; decide)) ?_)
   exact ⟨F', ρ', _, i', t', _, r', rfl, rfl⟩
theorem insert40 : SoundFn PQ 40 (qaO 1 8) := by
 intro args objs R objs' hk w F ρ vs i ha
 unfold qaO at hk
 split at hk <;> try (cases hk; done)
 rename_i id ver sz' lo len i0 vid vver vsz vlo m
 split at hk <;> try (cases hk; done)
 rename_i ob new hob hnew
 split at hk <;> try (cases hk; done)
 rename_i hcond
 obtain ⟨hver, hsz', hle, h0, hil, hok, hvid, hm0⟩ := hcond
 cases hk
 subst hsz'
 obtain ⟨ni, rfl⟩ := Int.eq_ofNat_of_zero_le h0
 have hil : ni ≤ len := by omega
 obtain ⟨hsz, hrel⟩ := ha
 obtain ⟨v0, v1, v2, rfl⟩ : ∃ v0 v1 v2, vs = #[v0, v1, v2] := by
  simp at hsz
  exact arr3 hsz
 have r0 := hrel 0 (by simp)
 have r1 := hrel 1 (by simp)
 have r2 := hrel 2 (by simp)
 simp at r0 r1 r2
 obtain rfl := r1.s_inv
 obtain ⟨a, c, rfl, hlc, hsp⟩ := Span.of i r0 hob hver hle
 have hobsz : ob.sz = 1 := by
  obtain ⟨a2, c2, hh, _, _, _, _, hy⟩ := r0.osl_inv
  rw [((hy ob hob).2 hver.symm).1, (i.obj id ob hob).sz]
 obtain ⟨vob, hvob, hvver, rfl, hvle, rfl⟩ : ∃ vob, objs[vid]? = some (.live vob) ∧ vob.ver = vver ∧ vsz = 1 ∧ vlo + m ≤ vob.rows.length ∧ new = (vob.rows.drop vlo).take m := by
  unfold rowsOf at hnew
  simp only at hnew
  split at hnew <;> try (cases hnew; done)
  rename_i vob hvob
  split at hnew <;> try (cases hnew; done)
  rename_i hc
  cases hnew
  exact ⟨vob, hvob, hc.1, hc.2.1, hc.2.2, rfl⟩
 obtain ⟨va, vc, rfl, hvlc, hvsp⟩ := Span.of i r2 hvob hvver hvle
 obtain ⟨vb, vo, vl, rfl, vsp⟩ := hvsp (by omega)
 generalize hnewd : (vob.rows.drop vlo).take m = new at *
 have hnlen : new.length = m := by rw [← hnewd]; simp; omega
 have hvll := vsp.llen
 have hvc : m * 1 ≤ vc * 1 := Nat.mul_le_mul_right _ hvlc
 let us : List Value := vl.take (m * 1)
 have hul : us.length = m * 1 := by simp only [us, List.length_take]; omega
 have urel : RelC PQ w F ρ objs us new.flatten := vsp.rel
 have hu : PQ.underlying 65 = some (.slice 23) := by kernel_rfl
 have hui : PQ.underlying 3 = some (.int .i64) := by kernel_rfl
 have hie : PQ.info? 23 = some Go.Proofs.Try.t23 := by kernel_rfl
 have hz2 : (zeroT PQ 23).map List.length = some 1 := by kernel_rfl
 have hz3 := hz2
 rw [Option.map_eq_some_iff] at hz3
 obtain ⟨zz, hzz, hzl⟩ := hz3
 obtain ⟨zv, hzv, hzr, rfl⟩ := qbH hzz w F ρ objs
 have hzs : zv.cells.size = 1 := by simpa using hzl
 generalize hold : (ob.rows.drop lo).take len = old at *
 have holen : old.length = len := by rw [← hold]; simp; omega
 have hrl : (old.take ni ++ new ++ old.drop ni).length = len + m := by simp; omega
 simp only [Int.toNat_natCast, hnlen] at hok ⊢
 rw [← hver]
 have hnm62 : len + m < 4611686018427387904 := by
  obtain ⟨_, h2⟩ := hok
  have : (2:Nat)^62 = 4611686018427387904 := by decide
  omega
 have hwr : ∀ x : Int, 0 ≤ x → x < 9223372036854775808 → IntKind.i64.wrap x = x := fun x h1 h2 => by
  have key : IntKind.i64.wrap x = (let m := x % 18446744073709551616; if m ≥ 9223372036854775808 then m - 18446744073709551616 else m) := by
   simp [IntKind.wrap, IntKind.bits, IntKind.signed]
  rw [key]
  have : x % 18446744073709551616 = x := by omega
  simp only [this]; rw [if_neg (by omega)]
 obtain ⟨vx, hvx⟩ := qcY (P := PQ) (w := w) (a := a) (n := len) (c := c) (l := ni) (m := len) (hi := none) (mx := none) hu hie hil (Nat.le_refl _) hlc (.inr ⟨rfl, rfl, rfl⟩)
 have hone : ∀ v ∈ us, v.oneCell' = true := urel.one
 refine qbp (fn := Go.Proofs.Try.f40) (by kernel_rfl) rfl 95 rfl fun a0 Z hd he => ?_
 have E := he 0 (by simp)
 have G := he 1 (by simp)
 have J := he 2 (by simp)
 simp at E G J
 refine wp_seq (qa1 rfl (qag rfl (L_end ?_)))
 refine wp_seq (qa1 rfl ?_)
 refine L_move (v := .slice a len c) (by simp [Z,E,G,J]) ?_
 refine L_move (v := .int .i64 ni) (by simp [Z,E,G,J]) ?_
 refine L_slice (vx := .slice a len c) (vlo := some (.int .i64 ni)) (vhi := none) (vmx := none) (v := vx) (by simp [Z,E,G,J]) (by simp [Z,E,G,J]) (by simp [Z,E,G,J]) (by simp [Z,E,G,J]) hvx ?_
 refine L_end ?_
 refine wp_seq (qa1 rfl ?_)
 refine L_move (v := .slice (some ⟨vb, vo, none⟩) m vc) (by simp [Z,E,G,J]) ?_
 refine L_len hu (b := some ⟨vb, vo, none⟩) (n := m) (c := vc) (by simp [Z,E,G,J]) ?_
 refine qag (v := .int .i64 m) (by simp [Z,E,G,J]) ?_
 refine L_end ?_
 refine wp_seq (wp_seq (qa1 rfl ?_))
 refine L_move (v := .int .i64 m) (by simp [Z,E,G,J]) ?_
 refine L_eqInt (m := m) (n := 0) (by simp [Z,E,G,J]) rfl ?_
 refine L_end ?_
 have hd1 : ((m : Int) == 0) = false := by simp; omega
 refine wp_cond_false (by simp [Z,E,G,J, hd1]) (wp_skip ?_)
 refine wp_seq (qa1 rfl ?_)
 refine L_move (v := .slice a len c) (by simp [Z,E,G,J]) ?_
 refine L_len hu (b := a) (n := len) (c := c) (by simp [Z,E,G,J]) ?_
 refine qag (v := .int .i64 len) (by simp [Z,E,G,J]) ?_
 refine L_end ?_
 refine wp_seq (wp_seq (qa1 rfl ?_))
 refine L_move (v := .int .i64 ni) (by simp [Z,E,G,J]) ?_
 refine L_move (v := .int .i64 len) (by simp [Z,E,G,J]) ?_
 refine L_eqInt (m := ni) (n := len) (by simp [Z,E,G,J]) (by simp [Z,E,G,J]) ?_
 refine L_end ?_
 by_cases hin : ni = len
 ·
  subst hin
  refine wp_cond_true (by simp [Z,E,G,J]) (wp_seq (qa1 rfl ?_))
  refine L_move (v := .slice a ni c) (by simp [Z,E,G,J]) ?_
  refine L_move (v := .slice (some ⟨vb, vo, none⟩) m vc) (by simp [Z,E,G,J]) ?_
  have hok2 : qa4 (ni + new.length) 8 := ⟨Nat.le_trans (Nat.mul_le_mul_right _ (by omega)) hok.1, by rw [hnlen]; obtain ⟨_, h2⟩ := hok; omega⟩
  have hy := qdt (ty := 65) (at_ := none) (k := fun a h => some (a, h)) (r := (A.osl id (ver + 1) 1 0 (ni + new.length), objs.set id (.live ⟨ver + 1, ob.sz, old ++ new⟩))) i r0 r2 hu hu (by kernel_rfl : sizeT PQ 23 = some 1) (by rw [show PQ.bytesOf 23 = 8 from by kernel_rfl]; decide) hz2 (by
   have hb : PQ.bytesOf 23 = 8 := by kernel_rfl
   unfold oAppend
   have hr2 : rowsOf 1 (.osl vid vver 1 vlo m) objs = some new := by simp [rowsOf, hvob, hvver, hvle, hnewd]
   rw [hr2]
   simp only [hob]
   rw [if_pos ⟨hver, trivial, hle, by rw [hb]; exact hok2⟩, hold])
  obtain ⟨nx, v, w2, F', ρ', h', a', e1, e2, e3, e4, e5, e6⟩ := hy
  simp only [Option.some.injEq, Prod.mk.injEq] at e6
  obtain ⟨rfl, rfl⟩ := e6
  rw [Sem.run_bind] at e1
  cases hap : (Builtin.append_ #[65, 65] 65 #[.slice a ni c, .slice (some ⟨vb, vo, none⟩) m vc]).run PQ w with
  | halt x y => rw [hap] at e1; cases e1
  | ok uu w3 =>
    rw [hap] at e1
    simp only [Result.andThen_ok, Sem.run_pure, Result.ok.injEq] at e1
    obtain ⟨rfl, rfl⟩ := e1
    have huv : uu = v := by rcases e2 with h | ⟨h, _⟩ <;> cases h; rfl
    subst huv
    refine qdU (vx := .slice a ni c) (vy := .slice (some ⟨vb, vo, none⟩) m vc) (v := uu) (w' := w3) (by simp [Z,E,G,J]) (by simp [Z,E,G,J]) hap ?_
    refine qag (v := uu) (by simp [Z,E,G,J]) ?_
    refine L_end ?_
    refine wp_ret (ret_one (t := 6) (v := uu) rfl (by simp only [qaP]; exact hd) (by simp [Z,E,G,J]) ?_)
    have t1 : old.take ni = old := List.take_of_length_le (by omega)
    have t2 : old.drop ni = [] := List.drop_eq_nil_of_le (by omega)
    rw [t1, t2, List.append_nil, hver]
    rw [hnlen] at e3
    exact ⟨F', ρ', _, e4, e5, _, e3, rfl, rfl⟩
 · have hd2 : ((ni : Int) == (len : Int)) = false := by simp; omega
   refine wp_cond_false (by simp [Z,E,G,J, hd2]) (wp_skip ?_)
   obtain ⟨b, o, l, rfl, sp⟩ := hsp (by omega)
   have hll := sp.llen
   have hcl : len * 1 ≤ c * 1 := Nat.mul_le_mul_right _ hlc
   have his : ni * 1 ≤ len * 1 := Nat.mul_le_mul_right _ hil
   have hid : (len - ni) * 1 = len * 1 - ni * 1 := Nat.sub_mul _ _ _
   let ds : List Value := (l.drop (ni * 1)).take ((len - ni) * 1)
   have hdl : ds.length = (len - ni) * 1 := by simp only [ds, List.length_take, List.length_drop]; omega
   have drel : RelC PQ w F ρ objs ds (old.drop ni).flatten := by
    have h1 := sp.rel.sub (ni * 1) ((len - ni) * 1)
    rw [qdR ni _ sp.width]
    have e1 : (old.flatten.drop (ni * 1)).take ((len - ni) * 1) = old.flatten.drop (ni * 1) := List.take_of_length_le (by rw [List.length_drop, qb4 _ sp.width, holen]; omega)
    rw [e1] at h1
    have e2 : ((l.take (len * 1)).drop (ni * 1)).take ((len - ni) * 1) = ds := by
     simp only [ds]; rw [List.drop_take, List.take_take]; congr 1; omega
    rwa [e2] at h1
   have prel : RelC PQ w F ρ objs (l.take (ni * 1)) (old.take ni).flatten := by
    rw [qdg ni _ sp.width]
    have h1 := sp.rel.sub 0 (ni * 1)
    simp only [List.drop_zero] at h1
    rwa [List.take_take, Nat.min_eq_left (by omega)] at h1
   have allrel : RelC PQ w F ρ objs (l.take (ni * 1) ++ us ++ ds) (old.take ni ++ new ++ old.drop ni).flatten := by
    rw [List.flatten_append, List.flatten_append]
    exact (prel.append urel).append drel
   have hwid : ∀ row ∈ old.take ni ++ new ++ old.drop ni, row.length = 1 := fun row hr => by
    rcases List.mem_append.1 hr with hr | hr
    · rcases List.mem_append.1 hr with hr | hr
      · exact sp.width _ (List.mem_of_mem_take hr)
      · exact vsp.width _ hr
    · exact sp.width _ (List.mem_of_mem_drop hr)
   have hrun : ∀ (w1 : World) (xa : Option Addr) (xc : Nat), xa = some ⟨vb, vo, none⟩ → Blk w1 vb vo vl → (Builtin.firstCells 1 m (.slice xa m xc)).run PQ w1 = .ok us.toArray w1 := fun w1 xa xc hx hb => by
    subst hx
    have := Blk.read (P := PQ) (sz := 1) (k := 0) (n := m) (len := m) (c := xc) hb (by omega)
    simpa only [Nat.add_zero, List.drop_zero] using this
   refine wp_seq (wp_seq (qa1 rfl ?_))
   refine L_move (v := .int .i64 len) (by simp [Z,E,G,J]) ?_
   refine L_move (v := .int .i64 m) (by simp [Z,E,G,J]) ?_
   refine L_add (m := len) (n := m) (by simp [Z,E,G,J]) (by simp [Z,E,G,J]) (hwr _ (by omega) (by omega)) ?_
   refine L_move (v := .slice (some ⟨b, o, none⟩) len c) (by simp [Z,E,G,J]) ?_
   refine L_cap hu (b := some ⟨b, o, none⟩) (n := len) (c := c) (by simp [Z,E,G,J]) ?_
   refine L_gtInt (m := (len : Int) + (m : Int)) (n := c) (by simp [Z,E,G,J]) (by simp [Z,E,G,J]) ?_
   refine L_end ?_
   by_cases hgt : c < len + m
   ·
    have hd3 : decide ((c : Int) < (len : Int) + (m : Int)) = true := by simp; omega
    refine wp_cond_true (by simp [Z,E,G,J, hd3]) (wp_seq (qa1 rfl ?_))
    have hok2 : qa4 (ni + (len + m - ni)) 8 := ⟨Nat.le_trans (Nat.mul_le_mul_right _ (by omega)) hok.1, by obtain ⟨_, h2⟩ := hok; omega⟩
    have hfirst : ∀ d, (Builtin.firstCells 1 ni (.slice (some ⟨b, o, none⟩) ni c)).run PQ { w with drawn := d } = .ok (l.take (ni * 1)).toArray { w with drawn := d } := fun d => by
     have := Blk.read (P := PQ) (w := { w with drawn := d }) (sz := 1) (k := 0) (n := ni) (len := ni) (c := c) (l := l) (fun j v hv => sp.blk j v hv) (by omega)
     simpa only [Nat.add_zero, List.drop_zero] using this
    obtain ⟨nc, hnc, happ⟩ := qcI (P := PQ) (w := w) (t := 65) (u := 3) (ty := 65) (a := some ⟨b, o, none⟩) (len := ni) (cap := c) (n := len + m - ni) (vs := l.take (ni * 1)) hu hui hie hzv (by decide) (by omega) hok2 (by omega) (by decide) hfirst
    rw [show ni + (len + m - ni) = len + m by omega] at happ hnc
    let l2 : List Value := l.take (ni * 1) ++ (Builtin.zeroCells zv.cells (len + m - ni)).toList ++ (Builtin.zeroCells zv.cells (nc - (len + m))).toList
    have hl2 : l2.length = nc * 1 := by
     simp only [l2, List.length_append, List.length_take, Array.length_toList, qbk, hzs]
     have e1 : (len + m - ni) * 1 = (len + m) * 1 - ni * 1 := Nat.sub_mul _ _ _
     have e2 : (nc - (len + m)) * 1 = nc * 1 - (len + m) * 1 := Nat.sub_mul _ _ _
     have e3 : (len + m) * 1 ≤ nc * 1 := Nat.mul_le_mul_right _ hnc
     have e4 : (len + m) * 1 = len * 1 + m * 1 := Nat.add_mul _ _ _
     omega
    have hnb0 : ∀ j, World.cell? { w with drawn := w.drawn + 1, heap := w.heap.push (.cells ((l.take (ni * 1)).toArray ++ Builtin.zeroCells zv.cells (len + m - ni) ++ Builtin.zeroCells zv.cells (nc - (len + m))) 23) } ⟨w.heap.size, j, none⟩ = l2[j]? := fun j => by
     rw [qdh { w with drawn := w.drawn + 1 } _ 23 j, ← Array.getElem?_toList]
     simp only [l2, Array.toList_append]
    have ht0 : Thaw { w with drawn := w.drawn + 1, heap := w.heap.push (.cells ((l.take (ni * 1)).toArray ++ Builtin.zeroCells zv.cells (len + m - ni) ++ Builtin.zeroCells zv.cells (nc - (len + m))) 23) } w.heap.size := fun _ => qcl { w with drawn := w.drawn + 1 } _ 23 _
    have up : Upd (fun _ _ => False) w { w with drawn := w.drawn + 1, heap := w.heap.push (.cells ((l.take (ni * 1)).toArray ++ Builtin.zeroCells zv.cells (len + m - ni) ++ Builtin.zeroCells zv.cells (nc - (len + m))) 23) } := (qbV _ w).trans (qfd _ { w with drawn := w.drawn + 1 } _) fun _ _ _ h => h
    generalize hwA : ({ w with drawn := w.drawn + 1, heap := w.heap.push (.cells ((l.take (ni * 1)).toArray ++ Builtin.zeroCells zv.cells (len + m - ni) ++ Builtin.zeroCells zv.cells (nc - (len + m))) 23) } : World) = wA at *
    have hbA : Blk wA w.heap.size 0 l2 := fun j v hv => by rw [Nat.zero_add, hnb0]; exact hv
    have hlm : (len + m) * 1 = len * 1 + m * 1 := Nat.add_mul _ _ _
    have hlnc : (len + m) * 1 ≤ nc * 1 := Nat.mul_le_mul_right _ hnc
    have hnim : (ni + m) * 1 = ni * 1 + m * 1 := Nat.add_mul _ _ _
    refine L_move (v := .slice (some ⟨b, o, none⟩) len c) (by simp [Z,E,G,J]) ?_
    refine L_move (v := .int .i64 ni) (by simp [Z,E,G,J]) ?_
    refine L_slice (vx := .slice (some ⟨b, o, none⟩) len c) (vlo := none) (vhi := some (.int .i64 ni)) (vmx := none) (v := .slice (some ⟨b, o, none⟩) ni c) (by simp [Z,E,G,J]) (by simp [Z,E,G,J]) (by simp [Z,E,G,J]) (by simp [Z,E,G,J]) (qbz hu hie (by omega) (by omega)) ?_
    refine L_move (v := .int .i64 len) (by simp [Z,E,G,J]) ?_
    refine L_move (v := .int .i64 m) (by simp [Z,E,G,J]) ?_
    refine L_add (m := len) (n := m) (by simp [Z,E,G,J]) (by simp [Z,E,G,J]) (hwr _ (by omega) (by omega)) ?_
    refine L_move (v := .int .i64 ni) (by simp [Z,E,G,J]) ?_
    refine L_sub (m := (len : Int) + (m : Int)) (n := ni) (by simp [Z,E,G,J]) (by simp [Z,E,G,J]) (hwr _ (by omega) (by omega)) ?_
    rw [show ((len : Int) + (m : Int) - (ni : Int)) = ((len + m - ni : Nat) : Int) by omega]
    refine qdU (vx := .slice (some ⟨b, o, none⟩) ni c) (vy := .int .i64 ((len + m - ni : Nat) : Int)) (v := .slice (some ⟨w.heap.size, 0, none⟩) (len + m) nc) (w' := wA) (by simp [Z,E,G,J]) (by simp [Z,E,G,J]) happ ?_
    refine qag (v := .slice (some ⟨w.heap.size, 0, none⟩) (len + m) nc) (by simp [Z,E,G,J]) ?_
    refine L_end ?_
    have hvA : Blk wA vb vo vl := vsp.blk.upd up fun _ _ h => h
    obtain ⟨wBr, wBb, wBu, wBt⟩ := Blk.write (P := PQ) (w := wA) (l := l2) (us := us) (k := ni * 1) hbA ht0 (by omega) hone
    have hcp1 := qbC (P := PQ) (w := wA) (t := 65) (u := 65) (ty := 3) (a := ⟨w.heap.size, 0 + ni * 1, none⟩) (n1 := len + m - ni) (c1 := nc - ni) (n2 := m) (c2 := vc) (m := m) hu hie (by omega) (hrun wA _ vc rfl hvA) wBr
    generalize hwB : World.setCells wA w.heap.size (0 + ni * 1) us = wB at *
    refine wp_seq (qa1 rfl ?_)
    refine L_move (v := .slice (some ⟨w.heap.size, 0, none⟩) (len + m) nc) (by simp [Z,E,G,J]) ?_
    refine L_move (v := .int .i64 ni) (by simp [Z,E,G,J]) ?_
    refine L_slice (vx := .slice (some ⟨w.heap.size, 0, none⟩) (len + m) nc) (vlo := some (.int .i64 ni)) (vhi := none) (vmx := none) (v := .slice (some ⟨w.heap.size, 0 + ni * 1, none⟩) (len + m - ni) (nc - ni)) (by simp [Z,E,G,J]) (by simp [Z,E,G,J]) (by simp [Z,E,G,J]) (by simp [Z,E,G,J]) (qap hu hie (by omega) (by omega)) ?_
    refine L_move (v := .slice (some ⟨vb, vo, none⟩) m vc) (by simp [Z,E,G,J]) ?_
    refine L_copy (vx := .slice (some ⟨w.heap.size, 0 + ni * 1, none⟩) (len + m - ni) (nc - ni)) (vy := .slice (some ⟨vb, vo, none⟩) m vc) (v := goInt m) (w' := wB) (by simp [Z,E,G,J]) (by simp [Z,E,G,J]) hcp1 ?_
    refine L_end ?_
    let l3 : List Value := l2.take (ni * 1) ++ us ++ l2.drop (ni * 1 + us.length)
    have hl3 : l3.length = nc * 1 := by simp only [l3, List.length_append, List.length_take, List.length_drop, hul, hl2]; omega
    have hnl : b ≠ w.heap.size := by
     have := sp.blk.lt (by rw [hll]; have := Nat.mul_le_mul_right 1 (show 1 ≤ c by omega); omega)
     omega
    have hsA : Blk wA b o l := sp.blk.upd up fun _ _ h => h
    have hsB : Blk wB b o l := hsA.upd wBu fun j _ h => hnl h.1
    have ud : Upd (fun _ _ => False) wB { wB with drawn := wB.drawn + 1 } := qbV _ wB
    have hsC : Blk { wB with drawn := wB.drawn + 1 } b o l := hsB.upd ud fun _ _ h => h
    have hbC : Blk { wB with drawn := wB.drawn + 1 } w.heap.size 0 l3 := Blk.upd wBb ud fun _ _ h => h
    have htC : Thaw { wB with drawn := wB.drawn + 1 } w.heap.size := wBt
    refine wp_seq (wp_region_any (by kernel_rfl) ?_)
    generalize hwC : ({ wB with drawn := wB.drawn + 1 } : World) = wC at *
    obtain ⟨wDr, wDb, wDu, wDt⟩ := Blk.write (P := PQ) (w := wC) (l := l3) (us := ds) (k := (ni + m) * 1) hbC htC (by omega) drel.one
    have hrd : (Builtin.firstCells 1 (len - ni) (.slice (some ⟨b, o + ni * 1, none⟩) (len - ni) (c - ni))).run PQ wC = .ok ds.toArray wC := Blk.read (P := PQ) (sz := 1) (k := ni * 1) hsC (by omega)
    have hcp2 := qbC (P := PQ) (w := wC) (t := 65) (u := 65) (ty := 3) (a := ⟨w.heap.size, 0 + (ni + m) * 1, none⟩) (n1 := len + m - (ni + m)) (c1 := nc - (ni + m)) (n2 := len - ni) (c2 := c - ni) (m := len - ni) hu hie (by omega) hrd wDr
    generalize hwD : World.setCells wC w.heap.size (0 + (ni + m) * 1) ds = wD at *
    simp only [Nat.zero_add] at hcp2
    have PS := (PanicSafe.body (P := PQ) (fn := Go.Proofs.Try.f40) (R := CEnd PQ w F ρ objs (fun a h' => Out.ok (.osl id (ob.ver + 1) 1 0 (len + m)) = .ok a ∧ h' = objs.set id (.live ⟨ob.ver + 1, ob.sz, old.take ni ++ new ++ old.drop ni⟩)) (fun a h' => Out.ok (.osl id (ob.ver + 1) 1 0 (len + m)) = .pan a ∧ h' = objs.set id (.live ⟨ob.ver + 1, ob.sz, old.take ni ++ new ++ old.drop ni⟩))))
    refine A_take (i := 0) (v := .slice (some ⟨w.heap.size, 0, none⟩) (len + m) nc) (by first | exact PS.then | exact PS.then.then | exact PS.then.then.then) rfl (by kernel_rfl) (by kernel_rfl) (by kernel_rfl) rfl (fun w' => by simp [execOp,Z,E,G,J]) ?_
    refine A_take (i := 1) (v := .int .i64 ni) (by first | exact PS.then | exact PS.then.then | exact PS.then.then.then) rfl (by kernel_rfl) (by kernel_rfl) (by kernel_rfl) rfl (fun w' => by simp [execOp,Z,E,G,J]) ?_
    refine A_take (i := 2) (v := .int .i64 m) (by first | exact PS.then | exact PS.then.then | exact PS.then.then.then) rfl (by kernel_rfl) (by kernel_rfl) (by kernel_rfl) rfl (fun w' => by simp [execOp,Z,E,G,J]) ?_
    refine A_take (i := 3) (v := .int .i64 ((ni + m : Nat) : Int)) (by first | exact PS.then | exact PS.then.then | exact PS.then.then.then) rfl (by kernel_rfl) (by kernel_rfl) (by kernel_rfl) rfl (fun w' => by simp [execOp,Z,E,G,J, eqGuard, binOp, Op.intArith, hwr ((ni : Int) + (m : Int)) (by omega) (by omega)]) ?_
    refine A_take (i := 4) (v := .slice (some ⟨w.heap.size, 0 + (ni + m) * 1, none⟩) (len + m - (ni + m)) (nc - (ni + m))) (by first | exact PS.then | exact PS.then.then | exact PS.then.then.then) rfl (by kernel_rfl) (by kernel_rfl) (by kernel_rfl) rfl (fun w' => by
     have hx2 : (Instr.sliceAt 65 (.slice (some ⟨w.heap.size, 0, none⟩) (len + m) nc) (some (.int .i64 ((ni : Int) + (m : Int)))) none none).run PQ w' = .ok (.slice (some ⟨w.heap.size, 0 + (ni + m) * 1, none⟩) (len + m - (ni + m)) (nc - (ni + m))) w' := by
      rw [show ((ni : Int) + (m : Int)) = ((ni + m : Nat) : Int) by omega]
      exact qap hu hie (by omega) (by omega)
     simp [execOp,Z,E,G,J, hx2]) ?_
    refine A_take (i := 5) (v := .slice (some ⟨b, o, none⟩) len c) (by first | exact PS.then | exact PS.then.then | exact PS.then.then.then) rfl (by kernel_rfl) (by kernel_rfl) (by kernel_rfl) rfl (fun w' => by simp [execOp,Z,E,G,J]) ?_
    refine A_take (i := 6) (v := .int .i64 ni) (by first | exact PS.then | exact PS.then.then | exact PS.then.then.then) rfl (by kernel_rfl) (by kernel_rfl) (by kernel_rfl) rfl (fun w' => by simp [execOp,Z,E,G,J]) ?_
    refine A_take (i := 7) (v := .slice (some ⟨b, o + ni * 1, none⟩) (len - ni) (c - ni)) (by first | exact PS.then | exact PS.then.then | exact PS.then.then.then) rfl (by kernel_rfl) (by kernel_rfl) (by kernel_rfl) rfl (fun w' => by
     have hx2 : (Instr.sliceAt 65 (.slice (some ⟨b, o, none⟩) len c) (some (.int .i64 ni)) none none).run PQ w' = .ok (.slice (some ⟨b, o + ni * 1, none⟩) (len - ni) (c - ni)) w' := qap hu hie hil (by omega)
     simp [execOp,Z,E,G,J, hx2]) ?_
    refine A_only (i := 8) (v := goInt (len - ni : Nat)) (w' := wD) rfl (by kernel_rfl) rfl (by simp [execOp,Z,E,G,J, resolve, invoke, builtin, hcp2, -Nat.mul_one]) ?_
    refine wpAny_done (by kernel_rfl) ?_ _
    refine wp_seq (qa1 rfl ?_)
    refine L_move (v := .slice (some ⟨w.heap.size, 0, none⟩) (len + m) nc) (by simp [Z,E,G,J]) ?_
    refine qag (v := .slice (some ⟨w.heap.size, 0, none⟩) (len + m) nc) (by simp [Z,E,G,J]) ?_
    refine L_end ?_
    refine wp_ret (ret_one (t := 6) (v := .slice (some ⟨w.heap.size, 0, none⟩) (len + m) nc) rfl (by simp only [qaP]; exact hd) (by simp [Z,E,G,J]) ?_)
    have uall : Upd (fun _ _ => False) w wD := by
     have u1 : Upd (fun _ _ => False) w wB := up.trans wBu fun k o hk h => by obtain ⟨rfl, _⟩ := h; exact absurd hk (Nat.lt_irrefl _)
     have u2 : Upd (fun _ _ => False) w wC := u1.trans ud fun _ _ _ h => h
     exact u2.trans wDu fun k o hk h => by obtain ⟨rfl, _⟩ := h; exact absurd hk (Nat.lt_irrefl _)
    have hpre : ∀ (j : Nat) v, (l.take (ni * 1) ++ us ++ ds)[j]? = some v → (l3.take ((ni + m) * 1) ++ ds ++ l3.drop ((ni + m) * 1 + ds.length))[j]? = some v := by
     intro j v hv
     have hA : (l.take (ni * 1)).length = ni * 1 := by simp; omega
     have hB : (l2.take (ni * 1)) = l.take (ni * 1) := by
      simp only [l2]
      rw [List.append_assoc, List.take_append_of_le_length (by omega)]
      exact List.take_of_length_le (by omega)
     have hC : l3.take ((ni + m) * 1) = l.take (ni * 1) ++ us := by
      simp only [l3, hB]
      rw [List.take_append_of_le_length (by simp only [List.length_append, hA, hul]; omega)]
      exact List.take_of_length_le (by simp only [List.length_append, hA, hul]; omega)
     rw [hC]
     rw [List.getElem?_append_left (List.getElem?_eq_some_iff.1 hv).1]
     exact hv
    have hDl : (l3.take ((ni + m) * 1) ++ ds ++ l3.drop ((ni + m) * 1 + ds.length)).length = nc * 1 := by
     simp only [List.length_append, List.length_take, List.length_drop, hdl, hl3]; omega
    obtain ⟨ρ1, i1, t1, q1⟩ := i.move hob hobsz (w' := wD) (b := w.heap.size) (c := nc) (rows' := old.take ni ++ new ++ old.drop ni) (vs := l.take (ni * 1) ++ us ++ ds) uall (Nat.le_refl _) hDl wDb wDt hwid (by omega) allrel (fun j v hv => wDb j v (hpre j v hv))
    rw [hrl] at q1
    exact ⟨F, ρ1, _, i1, t1, _, q1, rfl, rfl⟩
   ·
    have hgt : len + m ≤ c := by omega
    have hd3 : decide ((c : Int) < (len : Int) + (m : Int)) = false := by simp; omega
    refine wp_cond_false (by simp [Z,E,G,J, hd3]) (wp_skip ?_)
    have hlm : (len + m) * 1 = len * 1 + m * 1 := Nat.add_mul _ _ _
    have hlnc : (len + m) * 1 ≤ c * 1 := Nat.mul_le_mul_right _ hgt
    have hnim : (ni + m) * 1 = ni * 1 + m * 1 := Nat.add_mul _ _ _
    refine wp_seq (qa1 rfl ?_)
    refine L_move (v := .slice (some ⟨b, o, none⟩) len c) (by simp [Z,E,G,J]) ?_
    refine L_move (v := .int .i64 len) (by simp [Z,E,G,J]) ?_
    refine L_move (v := .int .i64 m) (by simp [Z,E,G,J]) ?_
    refine L_add (m := len) (n := m) (by simp [Z,E,G,J]) (by simp [Z,E,G,J]) (hwr _ (by omega) (by omega)) ?_
    rw [show ((len : Int) + (m : Int)) = ((len + m : Nat) : Int) by omega]
    refine L_slice (vx := .slice (some ⟨b, o, none⟩) len c) (vlo := none) (vhi := some (.int .i64 ((len + m : Nat) : Int))) (vmx := none) (v := .slice (some ⟨b, o, none⟩) (len + m) c) (by simp [Z,E,G,J]) (by simp [Z,E,G,J]) (by simp [Z,E,G,J]) (by simp [Z,E,G,J]) (qbz hu hie (by omega) (by omega)) ?_
    refine qag (v := .slice (some ⟨b, o, none⟩) (len + m) c) (by simp [Z,E,G,J]) ?_
    refine L_end ?_
    have hb0 := sp.blk 0 _ (List.getElem?_eq_getElem (by rw [hll]; have := Nat.mul_le_mul_right 1 (show 1 ≤ c by omega); omega))
    have hv0 := vsp.blk 0 _ (List.getElem?_eq_getElem (by rw [hvll]; have := Nat.mul_le_mul_right 1 (show 1 ≤ vc by omega); omega))
    have hapart : ∀ j k, j < vc * 1 → k < c * 1 → ¬ (vb = b ∧ vo + j = o + k) := by
     rintro j k hj hk ⟨rfl, hee⟩
     have g1 := vsp.inreg j hj
     have g2 := sp.inreg k hk
     rw [← hee] at g2
     exact i.disj vid id vob ob hvid hvob hob _ _ g1 g2
    have hov : (Extern.SlicesOverlaps.overlaps #[65, 65] #[4] #[.slice (some ⟨vb, vo, none⟩) m vc, .slice (some ⟨b, o + (ni + m) * 1, none⟩) (len + m - (ni + m)) (c - (ni + m))]).run PQ w = .ok (.bool false) w :=
     qfZ hu hie vsp.thaw sp.thaw (qcX hv0) (qcX hb0) (by
      show ¬ (vb = b ∧ vo < o + (ni + m) * 1 + (len + m - (ni + m)) * 1 ∧ o + (ni + m) * 1 < vo + m * 1)
      rintro ⟨rfl, h1, h2⟩
      have e1 : (len + m - (ni + m)) * 1 = (len + m) * 1 - (ni + m) * 1 := Nat.sub_mul _ _ _
      by_cases hcmp : vo ≤ o + (ni + m) * 1
      · exact hapart (o + (ni + m) * 1 - vo) ((ni + m) * 1) (by omega) (by omega) ⟨rfl, by omega⟩
      · exact hapart 0 (vo - o) (by omega) (by omega) ⟨rfl, by omega⟩)
    refine wp_seq (wp_seq (qa1 rfl ?_))
    refine L_move (v := .slice (some ⟨vb, vo, none⟩) m vc) (by simp [Z,E,G,J]) ?_
    refine L_move (v := .slice (some ⟨b, o, none⟩) (len + m) c) (by simp [Z,E,G,J]) ?_
    refine L_move (v := .int .i64 ni) (by simp [Z,E,G,J]) ?_
    refine L_move (v := .int .i64 m) (by simp [Z,E,G,J]) ?_
    refine L_add (m := ni) (n := m) (by simp [Z,E,G,J]) (by simp [Z,E,G,J]) (hwr _ (by omega) (by omega)) ?_
    rw [show ((ni : Int) + (m : Int)) = ((ni + m : Nat) : Int) by omega]
    refine L_slice (vx := .slice (some ⟨b, o, none⟩) (len + m) c) (vlo := some (.int .i64 ((ni + m : Nat) : Int))) (vhi := none) (vmx := none) (v := .slice (some ⟨b, o + (ni + m) * 1, none⟩) (len + m - (ni + m)) (c - (ni + m))) (by simp [Z,E,G,J]) (by simp [Z,E,G,J]) (by simp [Z,E,G,J]) (by simp [Z,E,G,J]) (qap hu hie (by omega) (by omega)) ?_
    refine qlm (fn := Go.Proofs.Try.f54) (e := Extern.SlicesOverlaps.overlaps #[65, 65] #[4]) (vx := .slice (some ⟨vb, vo, none⟩) m vc) (vy := .slice (some ⟨b, o + (ni + m) * 1, none⟩) (len + m - (ni + m)) (c - (ni + m))) (v := .bool false) (by kernel_rfl) (by kernel_rfl) (by kernel_rfl) (by kernel_rfl) (by kernel_rfl) (by simp [Z,E,G,J]) (by simp [Z,E,G,J]) hov ?_
    refine L_not (b := false) (by simp [Z,E,G,J]) ?_
    refine L_end ?_
    refine wp_cond_true (by simp [Z,E,G,J]) ?_
    have ud : Upd (fun b' o' => b' = b ∧ o ≤ o' ∧ o' < o + l.length) w { w with drawn := w.drawn + 1 } := qbV _ w
    have hs0 : Blk { w with drawn := w.drawn + 1 } b o l := fun j v hv => sp.blk j v hv
    have ht0 : Thaw { w with drawn := w.drawn + 1 } b := sp.thaw
    have hvw0 : Blk { w with drawn := w.drawn + 1 } vb vo vl := fun j v hv => vsp.blk j v hv
    refine wp_seq (wp_region_any (by kernel_rfl) ?_)
    generalize hwA : ({ w with drawn := w.drawn + 1 } : World) = wA at *
    obtain ⟨wBr, wBb, wBu, wBt⟩ := Blk.write (P := PQ) (w := wA) (l := l) (us := ds) (k := (ni + m) * 1) hs0 ht0 (by omega) drel.one
    have hrd : (Builtin.firstCells 1 (len - ni) (.slice (some ⟨b, o + ni * 1, none⟩) (len + m - ni) (c - ni))).run PQ wA = .ok ds.toArray wA := Blk.read (P := PQ) (sz := 1) (k := ni * 1) hs0 (by omega)
    have hcp1 := qbC (P := PQ) (w := wA) (t := 65) (u := 65) (ty := 3) (a := ⟨b, o + (ni + m) * 1, none⟩) (n1 := len + m - (ni + m)) (c1 := c - (ni + m)) (n2 := len + m - ni) (c2 := c - ni) (m := len - ni) hu hie (by omega) hrd wBr
    generalize hwB : World.setCells wA b (o + (ni + m) * 1) ds = wB at *
    have PS := (PanicSafe.body (P := PQ) (fn := Go.Proofs.Try.f40) (R := CEnd PQ w F ρ objs (fun a h' => Out.ok (.osl id (ob.ver + 1) 1 0 (len + m)) = .ok a ∧ h' = objs.set id (.live ⟨ob.ver + 1, ob.sz, old.take ni ++ new ++ old.drop ni⟩)) (fun a h' => Out.ok (.osl id (ob.ver + 1) 1 0 (len + m)) = .pan a ∧ h' = objs.set id (.live ⟨ob.ver + 1, ob.sz, old.take ni ++ new ++ old.drop ni⟩))))
    refine A_take (i := 0) (v := .slice (some ⟨b, o, none⟩) (len + m) c) (by first | exact PS.then | exact PS.then.then | exact PS.then.then.then) rfl (by kernel_rfl) (by kernel_rfl) (by kernel_rfl) rfl (fun w' => by simp [execOp,Z,E,G,J]) ?_
    refine A_take (i := 1) (v := .int .i64 ni) (by first | exact PS.then | exact PS.then.then | exact PS.then.then.then) rfl (by kernel_rfl) (by kernel_rfl) (by kernel_rfl) rfl (fun w' => by simp [execOp,Z,E,G,J]) ?_
    refine A_take (i := 2) (v := .int .i64 m) (by first | exact PS.then | exact PS.then.then | exact PS.then.then.then) rfl (by kernel_rfl) (by kernel_rfl) (by kernel_rfl) rfl (fun w' => by simp [execOp,Z,E,G,J]) ?_
    refine A_take (i := 3) (v := .int .i64 ((ni + m : Nat) : Int)) (by first | exact PS.then | exact PS.then.then | exact PS.then.then.then) rfl (by kernel_rfl) (by kernel_rfl) (by kernel_rfl) rfl (fun w' => by simp [execOp,Z,E,G,J, eqGuard, binOp, Op.intArith, hwr ((ni : Int) + (m : Int)) (by omega) (by omega)]) ?_
    refine A_take (i := 4) (v := .slice (some ⟨b, o + (ni + m) * 1, none⟩) (len + m - (ni + m)) (c - (ni + m))) (by first | exact PS.then | exact PS.then.then | exact PS.then.then.then) rfl (by kernel_rfl) (by kernel_rfl) (by kernel_rfl) rfl (fun w' => by
     have hx2 : (Instr.sliceAt 65 (.slice (some ⟨b, o, none⟩) (len + m) c) (some (.int .i64 ((ni : Int) + (m : Int)))) none none).run PQ w' = .ok (.slice (some ⟨b, o + (ni + m) * 1, none⟩) (len + m - (ni + m)) (c - (ni + m))) w' := by
      rw [show ((ni : Int) + (m : Int)) = ((ni + m : Nat) : Int) by omega]
      exact qap hu hie (by omega) (by omega)
     simp [execOp,Z,E,G,J, hx2]) ?_
    refine A_take (i := 5) (v := .slice (some ⟨b, o, none⟩) (len + m) c) (by first | exact PS.then | exact PS.then.then | exact PS.then.then.then) rfl (by kernel_rfl) (by kernel_rfl) (by kernel_rfl) rfl (fun w' => by simp [execOp,Z,E,G,J]) ?_
    refine A_take (i := 6) (v := .int .i64 ni) (by first | exact PS.then | exact PS.then.then | exact PS.then.then.then) rfl (by kernel_rfl) (by kernel_rfl) (by kernel_rfl) rfl (fun w' => by simp [execOp,Z,E,G,J]) ?_
    refine A_take (i := 7) (v := .slice (some ⟨b, o + ni * 1, none⟩) (len + m - ni) (c - ni)) (by first | exact PS.then | exact PS.then.then | exact PS.then.then.then) rfl (by kernel_rfl) (by kernel_rfl) (by kernel_rfl) rfl (fun w' => by
     have hx2 : (Instr.sliceAt 65 (.slice (some ⟨b, o, none⟩) (len + m) c) (some (.int .i64 ni)) none none).run PQ w' = .ok (.slice (some ⟨b, o + ni * 1, none⟩) (len + m - ni) (c - ni)) w' := qap hu hie (by omega) (by omega)
     simp [execOp,Z,E,G,J, hx2]) ?_
    refine A_only (i := 8) (v := goInt (len - ni : Nat)) (w' := wB) rfl (by kernel_rfl) rfl (by simp [execOp,Z,E,G,J, resolve, invoke, builtin, hcp1, -Nat.mul_one]) ?_
    refine wpAny_done (by kernel_rfl) ?_ _
    let l1 : List Value := l.take ((ni + m) * 1) ++ ds ++ l.drop ((ni + m) * 1 + ds.length)
    have hl1 : l1.length = l.length := by simp only [l1, List.length_append, List.length_take, List.length_drop, hdl, hll]; omega
    have hvB : Blk wB vb vo vl := hvw0.upd wBu (fun j hj h => hapart j (vo + j - o) (by omega) (by omega) ⟨h.1, by omega⟩)
    obtain ⟨wCr, wCb, wCu, wCt⟩ := Blk.write (P := PQ) (w := wB) (l := l1) (us := us) (k := ni * 1) wBb wBt (by omega) hone
    have hcp2 := qbC (P := PQ) (w := wB) (t := 65) (u := 65) (ty := 3) (a := ⟨b, o + ni * 1, none⟩) (n1 := len + m - ni) (c1 := c - ni) (n2 := m) (c2 := vc) (m := m) hu hie (by omega) (hrun wB _ vc rfl hvB) wCr
    generalize hwC : World.setCells wB b (o + ni * 1) us = wC at *
    refine wp_seq (qa1 rfl ?_)
    refine L_move (v := .slice (some ⟨b, o, none⟩) (len + m) c) (by simp [Z,E,G,J]) ?_
    refine L_move (v := .int .i64 ni) (by simp [Z,E,G,J]) ?_
    refine L_slice (vx := .slice (some ⟨b, o, none⟩) (len + m) c) (vlo := some (.int .i64 ni)) (vhi := none) (vmx := none) (v := .slice (some ⟨b, o + ni * 1, none⟩) (len + m - ni) (c - ni)) (by simp [Z,E,G,J]) (by simp [Z,E,G,J]) (by simp [Z,E,G,J]) (by simp [Z,E,G,J]) (qap hu hie (by omega) (by omega)) ?_
    refine L_move (v := .slice (some ⟨vb, vo, none⟩) m vc) (by simp [Z,E,G,J]) ?_
    refine L_copy (vx := .slice (some ⟨b, o + ni * 1, none⟩) (len + m - ni) (c - ni)) (vy := .slice (some ⟨vb, vo, none⟩) m vc) (v := goInt m) (w' := wC) (by simp [Z,E,G,J]) (by simp [Z,E,G,J]) hcp2 ?_
    refine L_end ?_
    refine wp_seq (qa1 rfl ?_)
    refine L_move (v := .slice (some ⟨b, o, none⟩) (len + m) c) (by simp [Z,E,G,J]) ?_
    refine qag (v := .slice (some ⟨b, o, none⟩) (len + m) c) (by simp [Z,E,G,J]) ?_
    refine L_end ?_
    refine wp_ret (ret_one (t := 6) (v := .slice (some ⟨b, o, none⟩) (len + m) c) rfl (by simp only [qaP]; exact hd) (by simp [Z,E,G,J]) ?_)
    rw [hl1] at wCu
    have uall : Upd (fun b' o' => b' = b ∧ o ≤ o' ∧ o' < o + l.length) w wC := (ud.trans wBu fun _ _ _ h => h).trans wCu fun _ _ _ h => h
    have hpre : ∀ (j : Nat) v, (l.take (ni * 1) ++ us ++ ds)[j]? = some v → (l1.take (ni * 1) ++ us ++ l1.drop (ni * 1 + us.length))[j]? = some v := by
     intro j v hv
     have hA : (l.take (ni * 1)).length = ni * 1 := by simp; omega
     have hB : l1.take (ni * 1) = l.take (ni * 1) := by
      simp only [l1]
      rw [List.append_assoc, List.take_append_of_le_length (by simp; omega), List.take_take, Nat.min_eq_left (by omega)]
     have hC : l1.drop (ni * 1 + us.length) = ds ++ l.drop ((ni + m) * 1 + ds.length) := by
      simp only [l1, hul]
      rw [← hnim, List.append_assoc, List.drop_append_of_le_length (by simp; omega)]
      rw [List.drop_eq_nil_of_le (by simp; omega), List.nil_append]
     rw [hB, hC, ← List.append_assoc, List.getElem?_append_left (List.getElem?_eq_some_iff.1 hv).1]
     exact hv
    obtain ⟨ρ1, i1, t1, q1⟩ := sp.put i hob (w' := wC) (rows' := old.take ni ++ new ++ old.drop ni) (vs := l.take (ni * 1) ++ us ++ ds) uall hwid (by omega) allrel (fun j v hv => wCb j v (hpre j v hv))
    rw [hrl] at q1
    exact ⟨F, ρ1, _, i1, t1, _, q1, rfl, rfl⟩
theorem insert41 : SoundFn PQ 41 (qaO 2 16) := by
 intro args objs R objs' hk w F ρ vs i ha
 unfold qaO at hk
 split at hk <;> try (cases hk; done)
 rename_i id ver sz' lo len i0 vid vver vsz vlo m
 split at hk <;> try (cases hk; done)
 rename_i ob new hob hnew
 split at hk <;> try (cases hk; done)
 rename_i hcond
 obtain ⟨hver, hsz', hle, h0, hil, hok, hvid, hm0⟩ := hcond
 cases hk
 subst hsz'
 obtain ⟨ni, rfl⟩ := Int.eq_ofNat_of_zero_le h0
 have hil : ni ≤ len := by omega
 obtain ⟨hsz, hrel⟩ := ha
 obtain ⟨v0, v1, v2, rfl⟩ : ∃ v0 v1 v2, vs = #[v0, v1, v2] := by
  simp at hsz
  exact arr3 hsz
 have r0 := hrel 0 (by simp)
 have r1 := hrel 1 (by simp)
 have r2 := hrel 2 (by simp)
 simp at r0 r1 r2
 obtain rfl := r1.s_inv
 obtain ⟨a, c, rfl, hlc, hsp⟩ := Span.of i r0 hob hver hle
 have hobsz : ob.sz = 2 := by
  obtain ⟨a2, c2, hh, _, _, _, _, hy⟩ := r0.osl_inv
  rw [((hy ob hob).2 hver.symm).1, (i.obj id ob hob).sz]
 obtain ⟨vob, hvob, hvver, rfl, hvle, rfl⟩ : ∃ vob, objs[vid]? = some (.live vob) ∧ vob.ver = vver ∧ vsz = 2 ∧ vlo + m ≤ vob.rows.length ∧ new = (vob.rows.drop vlo).take m := by
  unfold rowsOf at hnew
  simp only at hnew
  split at hnew <;> try (cases hnew; done)
  rename_i vob hvob
  split at hnew <;> try (cases hnew; done)
  rename_i hc
  cases hnew
  exact ⟨vob, hvob, hc.1, hc.2.1, hc.2.2, rfl⟩
 obtain ⟨va, vc, rfl, hvlc, hvsp⟩ := Span.of i r2 hvob hvver hvle
 obtain ⟨vb, vo, vl, rfl, vsp⟩ := hvsp (by omega)
 generalize hnewd : (vob.rows.drop vlo).take m = new at *
 have hnlen : new.length = m := by rw [← hnewd]; simp; omega
 have hvll := vsp.llen
 have hvc : m * 2 ≤ vc * 2 := Nat.mul_le_mul_right _ hvlc
 let us : List Value := vl.take (m * 2)
 have hul : us.length = m * 2 := by simp only [us, List.length_take]; omega
 have urel : RelC PQ w F ρ objs us new.flatten := vsp.rel
 have hu : PQ.underlying 66 = some (.slice 34) := by kernel_rfl
 have hui : PQ.underlying 3 = some (.int .i64) := by kernel_rfl
 have hie : PQ.info? 34 = some Go.Proofs.Try.t34 := by kernel_rfl
 have hz2 : (zeroT PQ 34).map List.length = some 2 := by kernel_rfl
 have hz3 := hz2
 rw [Option.map_eq_some_iff] at hz3
 obtain ⟨zz, hzz, hzl⟩ := hz3
 obtain ⟨zv, hzv, hzr, rfl⟩ := qbH hzz w F ρ objs
 have hzs : zv.cells.size = 2 := by simpa using hzl
 generalize hold : (ob.rows.drop lo).take len = old at *
 have holen : old.length = len := by rw [← hold]; simp; omega
 have hrl : (old.take ni ++ new ++ old.drop ni).length = len + m := by simp; omega
 simp only [Int.toNat_natCast, hnlen] at hok ⊢
 rw [← hver]
 have hnm62 : len + m < 4611686018427387904 := by
  obtain ⟨_, h2⟩ := hok
  have : (2:Nat)^62 = 4611686018427387904 := by decide
  omega
 have hwr : ∀ x : Int, 0 ≤ x → x < 9223372036854775808 → IntKind.i64.wrap x = x := fun x h1 h2 => by
  have key : IntKind.i64.wrap x = (let m := x % 18446744073709551616; if m ≥ 9223372036854775808 then m - 18446744073709551616 else m) := by
   simp [IntKind.wrap, IntKind.bits, IntKind.signed]
  rw [key]
  have : x % 18446744073709551616 = x := by omega
  simp only [this]; rw [if_neg (by omega)]
 obtain ⟨vx, hvx⟩ := qcY (P := PQ) (w := w) (a := a) (n := len) (c := c) (l := ni) (m := len) (hi := none) (mx := none) hu hie hil (Nat.le_refl _) hlc (.inr ⟨rfl, rfl, rfl⟩)
 have hone : ∀ v ∈ us, v.oneCell' = true := urel.one
 refine qbp (fn := Go.Proofs.Try.f41) (by kernel_rfl) rfl 95 rfl fun a0 Z hd he => ?_
 have E := he 0 (by simp)
 have G := he 1 (by simp)
 have J := he 2 (by simp)
 simp at E G J
 refine wp_seq (qa1 rfl (qag rfl (L_end ?_)))
 refine wp_seq (qa1 rfl ?_)
 refine L_move (v := .slice a len c) (by simp [Z,E,G,J]) ?_
 refine L_move (v := .int .i64 ni) (by simp [Z,E,G,J]) ?_
 refine L_slice (vx := .slice a len c) (vlo := some (.int .i64 ni)) (vhi := none) (vmx := none) (v := vx) (by simp [Z,E,G,J]) (by simp [Z,E,G,J]) (by simp [Z,E,G,J]) (by simp [Z,E,G,J]) hvx ?_
 refine L_end ?_
 refine wp_seq (qa1 rfl ?_)
 refine L_move (v := .slice (some ⟨vb, vo, none⟩) m vc) (by simp [Z,E,G,J]) ?_
 refine L_len hu (b := some ⟨vb, vo, none⟩) (n := m) (c := vc) (by simp [Z,E,G,J]) ?_
 refine qag (v := .int .i64 m) (by simp [Z,E,G,J]) ?_
 refine L_end ?_
 refine wp_seq (wp_seq (qa1 rfl ?_))
 refine L_move (v := .int .i64 m) (by simp [Z,E,G,J]) ?_
 refine L_eqInt (m := m) (n := 0) (by simp [Z,E,G,J]) rfl ?_
 refine L_end ?_
 have hd1 : ((m : Int) == 0) = false := by simp; omega
 refine wp_cond_false (by simp [Z,E,G,J, hd1]) (wp_skip ?_)
 refine wp_seq (qa1 rfl ?_)
 refine L_move (v := .slice a len c) (by simp [Z,E,G,J]) ?_
 refine L_len hu (b := a) (n := len) (c := c) (by simp [Z,E,G,J]) ?_
 refine qag (v := .int .i64 len) (by simp [Z,E,G,J]) ?_
 refine L_end ?_
 refine wp_seq (wp_seq (qa1 rfl ?_))
 refine L_move (v := .int .i64 ni) (by simp [Z,E,G,J]) ?_
 refine L_move (v := .int .i64 len) (by simp [Z,E,G,J]) ?_
 refine L_eqInt (m := ni) (n := len) (by simp [Z,E,G,J]) (by simp [Z,E,G,J]) ?_
 refine L_end ?_
 by_cases hin : ni = len
 ·
  subst hin
  refine wp_cond_true (by simp [Z,E,G,J]) (wp_seq (qa1 rfl ?_))
  refine L_move (v := .slice a ni c) (by simp [Z,E,G,J]) ?_
  refine L_move (v := .slice (some ⟨vb, vo, none⟩) m vc) (by simp [Z,E,G,J]) ?_
  have hok2 : qa4 (ni + new.length) 16 := ⟨Nat.le_trans (Nat.mul_le_mul_right _ (by omega)) hok.1, by rw [hnlen]; obtain ⟨_, h2⟩ := hok; omega⟩
  have hy := qdt (ty := 66) (at_ := none) (k := fun a h => some (a, h)) (r := (A.osl id (ver + 1) 2 0 (ni + new.length), objs.set id (.live ⟨ver + 1, ob.sz, old ++ new⟩))) i r0 r2 hu hu (by kernel_rfl : sizeT PQ 34 = some 2) (by rw [show PQ.bytesOf 34 = 16 from by kernel_rfl]; decide) hz2 (by
   have hb : PQ.bytesOf 34 = 16 := by kernel_rfl
   unfold oAppend
   have hr2 : rowsOf 2 (.osl vid vver 2 vlo m) objs = some new := by simp [rowsOf, hvob, hvver, hvle, hnewd]
   rw [hr2]
   simp only [hob]
   rw [if_pos ⟨hver, trivial, hle, by rw [hb]; exact hok2⟩, hold])
  obtain ⟨nx, v, w2, F', ρ', h', a', e1, e2, e3, e4, e5, e6⟩ := hy
  simp only [Option.some.injEq, Prod.mk.injEq] at e6
  obtain ⟨rfl, rfl⟩ := e6
  rw [Sem.run_bind] at e1
  cases hap : (Builtin.append_ #[66, 66] 66 #[.slice a ni c, .slice (some ⟨vb, vo, none⟩) m vc]).run PQ w with
  | halt x y => rw [hap] at e1; cases e1
  | ok uu w3 =>
    rw [hap] at e1
    simp only [Result.andThen_ok, Sem.run_pure, Result.ok.injEq] at e1
    obtain ⟨rfl, rfl⟩ := e1
    have huv : uu = v := by rcases e2 with h | ⟨h, _⟩ <;> cases h; rfl
    subst huv
    refine qdU (vx := .slice a ni c) (vy := .slice (some ⟨vb, vo, none⟩) m vc) (v := uu) (w' := w3) (by simp [Z,E,G,J]) (by simp [Z,E,G,J]) hap ?_
    refine qag (v := uu) (by simp [Z,E,G,J]) ?_
    refine L_end ?_
    refine wp_ret (ret_one (t := 6) (v := uu) rfl (by simp only [qaP]; exact hd) (by simp [Z,E,G,J]) ?_)
    have t1 : old.take ni = old := List.take_of_length_le (by omega)
    have t2 : old.drop ni = [] := List.drop_eq_nil_of_le (by omega)
    rw [t1, t2, List.append_nil, hver]
    rw [hnlen] at e3
    exact ⟨F', ρ', _, e4, e5, _, e3, rfl, rfl⟩
 · have hd2 : ((ni : Int) == (len : Int)) = false := by simp; omega
   refine wp_cond_false (by simp [Z,E,G,J, hd2]) (wp_skip ?_)
   obtain ⟨b, o, l, rfl, sp⟩ := hsp (by omega)
   have hll := sp.llen
   have hcl : len * 2 ≤ c * 2 := Nat.mul_le_mul_right _ hlc
   have his : ni * 2 ≤ len * 2 := Nat.mul_le_mul_right _ hil
   have hid : (len - ni) * 2 = len * 2 - ni * 2 := Nat.sub_mul _ _ _
   let ds : List Value := (l.drop (ni * 2)).take ((len - ni) * 2)
   have hdl : ds.length = (len - ni) * 2 := by simp only [ds, List.length_take, List.length_drop]; omega
   have drel : RelC PQ w F ρ objs ds (old.drop ni).flatten := by
    have h1 := sp.rel.sub (ni * 2) ((len - ni) * 2)
    rw [qdR ni _ sp.width]
    have e1 : (old.flatten.drop (ni * 2)).take ((len - ni) * 2) = old.flatten.drop (ni * 2) := List.take_of_length_le (by rw [List.length_drop, qb4 _ sp.width, holen]; omega)
    rw [e1] at h1
    have e2 : ((l.take (len * 2)).drop (ni * 2)).take ((len - ni) * 2) = ds := by
     simp only [ds]; rw [List.drop_take, List.take_take]; congr 1; omega
    rwa [e2] at h1
   have prel : RelC PQ w F ρ objs (l.take (ni * 2)) (old.take ni).flatten := by
    rw [qdg ni _ sp.width]
    have h1 := sp.rel.sub 0 (ni * 2)
    simp only [List.drop_zero] at h1
    rwa [List.take_take, Nat.min_eq_left (by omega)] at h1
   have allrel : RelC PQ w F ρ objs (l.take (ni * 2) ++ us ++ ds) (old.take ni ++ new ++ old.drop ni).flatten := by
    rw [List.flatten_append, List.flatten_append]
    exact (prel.append urel).append drel
   have hwid : ∀ row ∈ old.take ni ++ new ++ old.drop ni, row.length = 2 := fun row hr => by
    rcases List.mem_append.1 hr with hr | hr
    · rcases List.mem_append.1 hr with hr | hr
      · exact sp.width _ (List.mem_of_mem_take hr)
      · exact vsp.width _ hr
    · exact sp.width _ (List.mem_of_mem_drop hr)
   have hrun : ∀ (w1 : World) (xa : Option Addr) (xc : Nat), xa = some ⟨vb, vo, none⟩ → Blk w1 vb vo vl → (Builtin.firstCells 2 m (.slice xa m xc)).run PQ w1 = .ok us.toArray w1 := fun w1 xa xc hx hb => by
    subst hx
    have := Blk.read (P := PQ) (sz := 2) (k := 0) (n := m) (len := m) (c := xc) hb (by omega)
    simpa only [Nat.add_zero, List.drop_zero] using this
   refine wp_seq (wp_seq (qa1 rfl ?_))
   refine L_move (v := .int .i64 len) (by simp [Z,E,G,J]) ?_
   refine L_move (v := .int .i64 m) (by simp [Z,E,G,J]) ?_
   refine L_add (m := len) (n := m) (by simp [Z,E,G,J]) (by simp [Z,E,G,J]) (hwr _ (by omega) (by omega)) ?_
   refine L_move (v := .slice (some ⟨b, o, none⟩) len c) (by simp [Z,E,G,J]) ?_
   refine L_cap hu (b := some ⟨b, o, none⟩) (n := len) (c := c) (by simp [Z,E,G,J]) ?_
   refine L_gtInt (m := (len : Int) + (m : Int)) (n := c) (by simp [Z,E,G,J]) (by simp [Z,E,G,J]) ?_
   refine L_end ?_
   by_cases hgt : c < len + m
   ·
    have hd3 : decide ((c : Int) < (len : Int) + (m : Int)) = true := by simp; omega
    refine wp_cond_true (by simp [Z,E,G,J, hd3]) (wp_seq (qa1 rfl ?_))
    have hok2 : qa4 (ni + (len + m - ni)) 16 := ⟨Nat.le_trans (Nat.mul_le_mul_right _ (by omega)) hok.1, by obtain ⟨_, h2⟩ := hok; omega⟩
    have hfirst : ∀ d, (Builtin.firstCells 2 ni (.slice (some ⟨b, o, none⟩) ni c)).run PQ { w with drawn := d } = .ok (l.take (ni * 2)).toArray { w with drawn := d } := fun d => by
     have := Blk.read (P := PQ) (w := { w with drawn := d }) (sz := 2) (k := 0) (n := ni) (len := ni) (c := c) (l := l) (fun j v hv => sp.blk j v hv) (by omega)
     simpa only [Nat.add_zero, List.drop_zero] using this
    obtain ⟨nc, hnc, happ⟩ := qcI (P := PQ) (w := w) (t := 66) (u := 3) (ty := 66) (a := some ⟨b, o, none⟩) (len := ni) (cap := c) (n := len + m - ni) (vs := l.take (ni * 2)) hu hui hie hzv (by decide) (by omega) hok2 (by omega) (by decide) hfirst
    rw [show ni + (len + m - ni) = len + m by omega] at happ hnc
    let l2 : List Value := l.take (ni * 2) ++ (Builtin.zeroCells zv.cells (len + m - ni)).toList ++ (Builtin.zeroCells zv.cells (nc - (len + m))).toList
    have hl2 : l2.length = nc * 2 := by
     simp only [l2, List.length_append, List.length_take, Array.length_toList, qbk, hzs]
     have e1 : (len + m - ni) * 2 = (len + m) * 2 - ni * 2 := Nat.sub_mul _ _ _
     have e2 : (nc - (len + m)) * 2 = nc * 2 - (len + m) * 2 := Nat.sub_mul _ _ _
     have e3 : (len + m) * 2 ≤ nc * 2 := Nat.mul_le_mul_right _ hnc
     have e4 : (len + m) * 2 = len * 2 + m * 2 := Nat.add_mul _ _ _
     omega
    have hnb0 : ∀ j, World.cell? { w with drawn := w.drawn + 1, heap := w.heap.push (.cells ((l.take (ni * 2)).toArray ++ Builtin.zeroCells zv.cells (len + m - ni) ++ Builtin.zeroCells zv.cells (nc - (len + m))) 34) } ⟨w.heap.size, j, none⟩ = l2[j]? := fun j => by
     rw [qdh { w with drawn := w.drawn + 1 } _ 34 j, ← Array.getElem?_toList]
     simp only [l2, Array.toList_append]
    have ht0 : Thaw { w with drawn := w.drawn + 1, heap := w.heap.push (.cells ((l.take (ni * 2)).toArray ++ Builtin.zeroCells zv.cells (len + m - ni) ++ Builtin.zeroCells zv.cells (nc - (len + m))) 34) } w.heap.size := fun _ => qcl { w with drawn := w.drawn + 1 } _ 34 _
    have up : Upd (fun _ _ => False) w { w with drawn := w.drawn + 1, heap := w.heap.push (.cells ((l.take (ni * 2)).toArray ++ Builtin.zeroCells zv.cells (len + m - ni) ++ Builtin.zeroCells zv.cells (nc - (len + m))) 34) } := (qbV _ w).trans (qfd _ { w with drawn := w.drawn + 1 } _) fun _ _ _ h => h
    generalize hwA : ({ w with drawn := w.drawn + 1, heap := w.heap.push (.cells ((l.take (ni * 2)).toArray ++ Builtin.zeroCells zv.cells (len + m - ni) ++ Builtin.zeroCells zv.cells (nc - (len + m))) 34) } : World) = wA at *
    have hbA : Blk wA w.heap.size 0 l2 := fun j v hv => by rw [Nat.zero_add, hnb0]; exact hv
    have hlm : (len + m) * 2 = len * 2 + m * 2 := Nat.add_mul _ _ _
    have hlnc : (len + m) * 2 ≤ nc * 2 := Nat.mul_le_mul_right _ hnc
    have hnim : (ni + m) * 2 = ni * 2 + m * 2 := Nat.add_mul _ _ _
    refine L_move (v := .slice (some ⟨b, o, none⟩) len c) (by simp [Z,E,G,J]) ?_
    refine L_move (v := .int .i64 ni) (by simp [Z,E,G,J]) ?_
    refine L_slice (vx := .slice (some ⟨b, o, none⟩) len c) (vlo := none) (vhi := some (.int .i64 ni)) (vmx := none) (v := .slice (some ⟨b, o, none⟩) ni c) (by simp [Z,E,G,J]) (by simp [Z,E,G,J]) (by simp [Z,E,G,J]) (by simp [Z,E,G,J]) (qbz hu hie (by omega) (by omega)) ?_
    refine L_move (v := .int .i64 len) (by simp [Z,E,G,J]) ?_
    refine L_move (v := .int .i64 m) (by simp [Z,E,G,J]) ?_
    refine L_add (m := len) (n := m) (by simp [Z,E,G,J]) (by simp [Z,E,G,J]) (hwr _ (by omega) (by omega)) ?_
    refine L_move (v := .int .i64 ni) (by simp [Z,E,G,J]) ?_
    refine L_sub (m := (len : Int) + (m : Int)) (n := ni) (by simp [Z,E,G,J]) (by simp [Z,E,G,J]) (hwr _ (by omega) (by omega)) ?_
    rw [show ((len : Int) + (m : Int) - (ni : Int)) = ((len + m - ni : Nat) : Int) by omega]
    refine qdU (vx := .slice (some ⟨b, o, none⟩) ni c) (vy := .int .i64 ((len + m - ni : Nat) : Int)) (v := .slice (some ⟨w.heap.size, 0, none⟩) (len + m) nc) (w' := wA) (by simp [Z,E,G,J]) (by simp [Z,E,G,J]) happ ?_
    refine qag (v := .slice (some ⟨w.heap.size, 0, none⟩) (len + m) nc) (by simp [Z,E,G,J]) ?_
    refine L_end ?_
    have hvA : Blk wA vb vo vl := vsp.blk.upd up fun _ _ h => h
    obtain ⟨wBr, wBb, wBu, wBt⟩ := Blk.write (P := PQ) (w := wA) (l := l2) (us := us) (k := ni * 2) hbA ht0 (by omega) hone
    have hcp1 := qbC (P := PQ) (w := wA) (t := 66) (u := 66) (ty := 3) (a := ⟨w.heap.size, 0 + ni * 2, none⟩) (n1 := len + m - ni) (c1 := nc - ni) (n2 := m) (c2 := vc) (m := m) hu hie (by omega) (hrun wA _ vc rfl hvA) wBr
    generalize hwB : World.setCells wA w.heap.size (0 + ni * 2) us = wB at *
    refine wp_seq (qa1 rfl ?_)
    refine L_move (v := .slice (some ⟨w.heap.size, 0, none⟩) (len + m) nc) (by simp [Z,E,G,J]) ?_
    refine L_move (v := .int .i64 ni) (by simp [Z,E,G,J]) ?_
    refine L_slice (vx := .slice (some ⟨w.heap.size, 0, none⟩) (len + m) nc) (vlo := some (.int .i64 ni)) (vhi := none) (vmx := none) (v := .slice (some ⟨w.heap.size, 0 + ni * 2, none⟩) (len + m - ni) (nc - ni)) (by simp [Z,E,G,J]) (by simp [Z,E,G,J]) (by simp [Z,E,G,J]) (by simp [Z,E,G,J]) (qap hu hie (by omega) (by omega)) ?_
    refine L_move (v := .slice (some ⟨vb, vo, none⟩) m vc) (by simp [Z,E,G,J]) ?_
    refine L_copy (vx := .slice (some ⟨w.heap.size, 0 + ni * 2, none⟩) (len + m - ni) (nc - ni)) (vy := .slice (some ⟨vb, vo, none⟩) m vc) (v := goInt m) (w' := wB) (by simp [Z,E,G,J]) (by simp [Z,E,G,J]) hcp1 ?_
    refine L_end ?_
    let l3 : List Value := l2.take (ni * 2) ++ us ++ l2.drop (ni * 2 + us.length)
    have hl3 : l3.length = nc * 2 := by simp only [l3, List.length_append, List.length_take, List.length_drop, hul, hl2]; omega
    have hnl : b ≠ w.heap.size := by
     have := sp.blk.lt (by rw [hll]; have := Nat.mul_le_mul_right 2 (show 1 ≤ c by omega); omega)
     omega
    have hsA : Blk wA b o l := sp.blk.upd up fun _ _ h => h
    have hsB : Blk wB b o l := hsA.upd wBu fun j _ h => hnl h.1
    have ud : Upd (fun _ _ => False) wB { wB with drawn := wB.drawn + 1 } := qbV _ wB
    have hsC : Blk { wB with drawn := wB.drawn + 1 } b o l := hsB.upd ud fun _ _ h => h
    have hbC : Blk { wB with drawn := wB.drawn + 1 } w.heap.size 0 l3 := Blk.upd wBb ud fun _ _ h => h
    have htC : Thaw { wB with drawn := wB.drawn + 1 } w.heap.size := wBt
    refine wp_seq (wp_region_any (by kernel_rfl) ?_)
    generalize hwC : ({ wB with drawn := wB.drawn + 1 } : World) = wC at *
    obtain ⟨wDr, wDb, wDu, wDt⟩ := Blk.write (P := PQ) (w := wC) (l := l3) (us := ds) (k := (ni + m) * 2) hbC htC (by omega) drel.one
    have hrd : (Builtin.firstCells 2 (len - ni) (.slice (some ⟨b, o + ni * 2, none⟩) (len - ni) (c - ni))).run PQ wC = .ok ds.toArray wC := Blk.read (P := PQ) (sz := 2) (k := ni * 2) hsC (by omega)
    have hcp2 := qbC (P := PQ) (w := wC) (t := 66) (u := 66) (ty := 3) (a := ⟨w.heap.size, 0 + (ni + m) * 2, none⟩) (n1 := len + m - (ni + m)) (c1 := nc - (ni + m)) (n2 := len - ni) (c2 := c - ni) (m := len - ni) hu hie (by omega) hrd wDr
    generalize hwD : World.setCells wC w.heap.size (0 + (ni + m) * 2) ds = wD at *
    simp only [Nat.zero_add] at hcp2
    have PS := (PanicSafe.body (P := PQ) (fn := Go.Proofs.Try.f41) (R := CEnd PQ w F ρ objs (fun a h' => Out.ok (.osl id (ob.ver + 1) 2 0 (len + m)) = .ok a ∧ h' = objs.set id (.live ⟨ob.ver + 1, ob.sz, old.take ni ++ new ++ old.drop ni⟩)) (fun a h' => Out.ok (.osl id (ob.ver + 1) 2 0 (len + m)) = .pan a ∧ h' = objs.set id (.live ⟨ob.ver + 1, ob.sz, old.take ni ++ new ++ old.drop ni⟩))))
    refine A_take (i := 0) (v := .slice (some ⟨w.heap.size, 0, none⟩) (len + m) nc) (by first | exact PS.then | exact PS.then.then | exact PS.then.then.then) rfl (by kernel_rfl) (by kernel_rfl) (by kernel_rfl) rfl (fun w' => by simp [execOp,Z,E,G,J]) ?_
    refine A_take (i := 1) (v := .int .i64 ni) (by first | exact PS.then | exact PS.then.then | exact PS.then.then.then) rfl (by kernel_rfl) (by kernel_rfl) (by kernel_rfl) rfl (fun w' => by simp [execOp,Z,E,G,J]) ?_
    refine A_take (i := 2) (v := .int .i64 m) (by first | exact PS.then | exact PS.then.then | exact PS.then.then.then) rfl (by kernel_rfl) (by kernel_rfl) (by kernel_rfl) rfl (fun w' => by simp [execOp,Z,E,G,J]) ?_
    refine A_take (i := 3) (v := .int .i64 ((ni + m : Nat) : Int)) (by first | exact PS.then | exact PS.then.then | exact PS.then.then.then) rfl (by kernel_rfl) (by kernel_rfl) (by kernel_rfl) rfl (fun w' => by simp [execOp,Z,E,G,J, eqGuard, binOp, Op.intArith, hwr ((ni : Int) + (m : Int)) (by omega) (by omega)]) ?_
    refine A_take (i := 4) (v := .slice (some ⟨w.heap.size, 0 + (ni + m) * 2, none⟩) (len + m - (ni + m)) (nc - (ni + m))) (by first | exact PS.then | exact PS.then.then | exact PS.then.then.then) rfl (by kernel_rfl) (by kernel_rfl) (by kernel_rfl) rfl (fun w' => by
     have hx2 : (Instr.sliceAt 66 (.slice (some ⟨w.heap.size, 0, none⟩) (len + m) nc) (some (.int .i64 ((ni : Int) + (m : Int)))) none none).run PQ w' = .ok (.slice (some ⟨w.heap.size, 0 + (ni + m) * 2, none⟩) (len + m - (ni + m)) (nc - (ni + m))) w' := by
      rw [show ((ni : Int) + (m : Int)) = ((ni + m : Nat) : Int) by omega]
      exact qap hu hie (by omega) (by omega)
     simp [execOp,Z,E,G,J, hx2]) ?_
    refine A_take (i := 5) (v := .slice (some ⟨b, o, none⟩) len c) (by first | exact PS.then | exact PS.then.then | exact PS.then.then.then) rfl (by kernel_rfl) (by kernel_rfl) (by kernel_rfl) rfl (fun w' => by simp [execOp,Z,E,G,J]) ?_
    refine A_take (i := 6) (v := .int .i64 ni) (by first | exact PS.then | exact PS.then.then | exact PS.then.then.then) rfl (by kernel_rfl) (by kernel_rfl) (by kernel_rfl) rfl (fun w' => by simp [execOp,Z,E,G,J]) ?_
    refine A_take (i := 7) (v := .slice (some ⟨b, o + ni * 2, none⟩) (len - ni) (c - ni)) (by first | exact PS.then | exact PS.then.then | exact PS.then.then.then) rfl (by kernel_rfl) (by kernel_rfl) (by kernel_rfl) rfl (fun w' => by
     have hx2 : (Instr.sliceAt 66 (.slice (some ⟨b, o, none⟩) len c) (some (.int .i64 ni)) none none).run PQ w' = .ok (.slice (some ⟨b, o + ni * 2, none⟩) (len - ni) (c - ni)) w' := qap hu hie hil (by omega)
     simp [execOp,Z,E,G,J, hx2]) ?_
    refine A_only (i := 8) (v := goInt (len - ni : Nat)) (w' := wD) rfl (by kernel_rfl) rfl (by simp [execOp,Z,E,G,J, resolve, invoke, builtin, hcp2, -Nat.mul_one]) ?_
    refine wpAny_done (by kernel_rfl) ?_ _
    refine wp_seq (qa1 rfl ?_)
    refine L_move (v := .slice (some ⟨w.heap.size, 0, none⟩) (len + m) nc) (by simp [Z,E,G,J]) ?_
    refine qag (v := .slice (some ⟨w.heap.size, 0, none⟩) (len + m) nc) (by simp [Z,E,G,J]) ?_
    refine L_end ?_
    refine wp_ret (ret_one (t := 6) (v := .slice (some ⟨w.heap.size, 0, none⟩) (len + m) nc) rfl (by simp only [qaP]; exact hd) (by simp [Z,E,G,J]) ?_)
    have uall : Upd (fun _ _ => False) w wD := by
     have u1 : Upd (fun _ _ => False) w wB := up.trans wBu fun k o hk h => by obtain ⟨rfl, _⟩ := h; exact absurd hk (Nat.lt_irrefl _)
     have u2 : Upd (fun _ _ => False) w wC := u1.trans ud fun _ _ _ h => h
     exact u2.trans wDu fun k o hk h => by obtain ⟨rfl, _⟩ := h; exact absurd hk (Nat.lt_irrefl _)
    have hpre : ∀ (j : Nat) v, (l.take (ni * 2) ++ us ++ ds)[j]? = some v → (l3.take ((ni + m) * 2) ++ ds ++ l3.drop ((ni + m) * 2 + ds.length))[j]? = some v := by
     intro j v hv
     have hA : (l.take (ni * 2)).length = ni * 2 := by simp; omega
     have hB : (l2.take (ni * 2)) = l.take (ni * 2) := by
      simp only [l2]
      rw [List.append_assoc, List.take_append_of_le_length (by omega)]
      exact List.take_of_length_le (by omega)
     have hC : l3.take ((ni + m) * 2) = l.take (ni * 2) ++ us := by
      simp only [l3, hB]
      rw [List.take_append_of_le_length (by simp only [List.length_append, hA, hul]; omega)]
      exact List.take_of_length_le (by simp only [List.length_append, hA, hul]; omega)
     rw [hC]
     rw [List.getElem?_append_left (List.getElem?_eq_some_iff.1 hv).1]
     exact hv
    have hDl : (l3.take ((ni + m) * 2) ++ ds ++ l3.drop ((ni + m) * 2 + ds.length)).length = nc * 2 := by
     simp only [List.length_append, List.length_take, List.length_drop, hdl, hl3]; omega
    obtain ⟨ρ1, i1, t1, q1⟩ := i.move hob hobsz (w' := wD) (b := w.heap.size) (c := nc) (rows' := old.take ni ++ new ++ old.drop ni) (vs := l.take (ni * 2) ++ us ++ ds) uall (Nat.le_refl _) hDl wDb wDt hwid (by omega) allrel (fun j v hv => wDb j v (hpre j v hv))
    rw [hrl] at q1
    exact ⟨F, ρ1, _, i1, t1, _, q1, rfl, rfl⟩
   ·
    have hgt : len + m ≤ c := by omega
    have hd3 : decide ((c : Int) < (len : Int) + (m : Int)) = false := by simp; omega
    refine wp_cond_false (by simp [Z,E,G,J, hd3]) (wp_skip ?_)
    have hlm : (len + m) * 2 = len * 2 + m * 2 := Nat.add_mul _ _ _
    have hlnc : (len + m) * 2 ≤ c * 2 := Nat.mul_le_mul_right _ hgt
    have hnim : (ni + m) * 2 = ni * 2 + m * 2 := Nat.add_mul _ _ _
    refine wp_seq (qa1 rfl ?_)
    refine L_move (v := .slice (some ⟨b, o, none⟩) len c) (by simp [Z,E,G,J]) ?_
    refine L_move (v := .int .i64 len) (by simp [Z,E,G,J]) ?_
    refine L_move (v := .int .i64 m) (by simp [Z,E,G,J]) ?_
    refine L_add (m := len) (n := m) (by simp [Z,E,G,J]) (by simp [Z,E,G,J]) (hwr _ (by omega) (by omega)) ?_
    rw [show ((len : Int) + (m : Int)) = ((len + m : Nat) : Int) by omega]
    refine L_slice (vx := .slice (some ⟨b, o, none⟩) len c) (vlo := none) (vhi := some (.int .i64 ((len + m : Nat) : Int))) (vmx := none) (v := .slice (some ⟨b, o, none⟩) (len + m) c) (by simp [Z,E,G,J]) (by simp [Z,E,G,J]) (by simp [Z,E,G,J]) (by simp [Z,E,G,J]) (qbz hu hie (by omega) (by omega)) ?_
    refine qag (v := .slice (some ⟨b, o, none⟩) (len + m) c) (by simp [Z,E,G,J]) ?_
    refine L_end ?_
    have hb0 := sp.blk 0 _ (List.getElem?_eq_getElem (by rw [hll]; have := Nat.mul_le_mul_right 2 (show 1 ≤ c by omega); omega))
    have hv0 := vsp.blk 0 _ (List.getElem?_eq_getElem (by rw [hvll]; have := Nat.mul_le_mul_right 2 (show 1 ≤ vc by omega); omega))
    have hapart : ∀ j k, j < vc * 2 → k < c * 2 → ¬ (vb = b ∧ vo + j = o + k) := by
     rintro j k hj hk ⟨rfl, hee⟩
     have g1 := vsp.inreg j hj
     have g2 := sp.inreg k hk
     rw [← hee] at g2
     exact i.disj vid id vob ob hvid hvob hob _ _ g1 g2
    have hov : (Extern.SlicesOverlaps.overlaps #[66, 66] #[4] #[.slice (some ⟨vb, vo, none⟩) m vc, .slice (some ⟨b, o + (ni + m) * 2, none⟩) (len + m - (ni + m)) (c - (ni + m))]).run PQ w = .ok (.bool false) w :=
     qfZ hu hie vsp.thaw sp.thaw (qcX hv0) (qcX hb0) (by
      show ¬ (vb = b ∧ vo < o + (ni + m) * 2 + (len + m - (ni + m)) * 2 ∧ o + (ni + m) * 2 < vo + m * 2)
      rintro ⟨rfl, h1, h2⟩
      have e1 : (len + m - (ni + m)) * 2 = (len + m) * 2 - (ni + m) * 2 := Nat.sub_mul _ _ _
      by_cases hcmp : vo ≤ o + (ni + m) * 2
      · exact hapart (o + (ni + m) * 2 - vo) ((ni + m) * 2) (by omega) (by omega) ⟨rfl, by omega⟩
      · exact hapart 0 (vo - o) (by omega) (by omega) ⟨rfl, by omega⟩)
    refine wp_seq (wp_seq (qa1 rfl ?_))
    refine L_move (v := .slice (some ⟨vb, vo, none⟩) m vc) (by simp [Z,E,G,J]) ?_
    refine L_move (v := .slice (some ⟨b, o, none⟩) (len + m) c) (by simp [Z,E,G,J]) ?_
    refine L_move (v := .int .i64 ni) (by simp [Z,E,G,J]) ?_
    refine L_move (v := .int .i64 m) (by simp [Z,E,G,J]) ?_
    refine L_add (m := ni) (n := m) (by simp [Z,E,G,J]) (by simp [Z,E,G,J]) (hwr _ (by omega) (by omega)) ?_
    rw [show ((ni : Int) + (m : Int)) = ((ni + m : Nat) : Int) by omega]
    refine L_slice (vx := .slice (some ⟨b, o, none⟩) (len + m) c) (vlo := some (.int .i64 ((ni + m : Nat) : Int))) (vhi := none) (vmx := none) (v := .slice (some ⟨b, o + (ni + m) * 2, none⟩) (len + m - (ni + m)) (c - (ni + m))) (by simp [Z,E,G,J]) (by simp [Z,E,G,J]) (by simp [Z,E,G,J]) (by simp [Z,E,G,J]) (qap hu hie (by omega) (by omega)) ?_
    refine qlm (fn := Go.Proofs.Try.f56) (e := Extern.SlicesOverlaps.overlaps #[66, 66] #[4]) (vx := .slice (some ⟨vb, vo, none⟩) m vc) (vy := .slice (some ⟨b, o + (ni + m) * 2, none⟩) (len + m - (ni + m)) (c - (ni + m))) (v := .bool false) (by kernel_rfl) (by kernel_rfl) (by kernel_rfl) (by kernel_rfl) (by kernel_rfl) (by simp [Z,E,G,J]) (by simp [Z,E,G,J]) hov ?_
    refine L_not (b := false) (by simp [Z,E,G,J]) ?_
    refine L_end ?_
    refine wp_cond_true (by simp [Z,E,G,J]) ?_
    have ud : Upd (fun b' o' => b' = b ∧ o ≤ o' ∧ o' < o + l.length) w { w with drawn := w.drawn + 1 } := qbV _ w
    have hs0 : Blk { w with drawn := w.drawn + 1 } b o l := fun j v hv => sp.blk j v hv
    have ht0 : Thaw { w with drawn := w.drawn + 1 } b := sp.thaw
    have hvw0 : Blk { w with drawn := w.drawn + 1 } vb vo vl := fun j v hv => vsp.blk j v hv
    refine wp_seq (wp_region_any (by kernel_rfl) ?_)
    generalize hwA : ({ w with drawn := w.drawn + 1 } : World) = wA at *
    obtain ⟨wBr, wBb, wBu, wBt⟩ := Blk.write (P := PQ) (w := wA) (l := l) (us := ds) (k := (ni + m) * 2) hs0 ht0 (by omega) drel.one
    have hrd : (Builtin.firstCells 2 (len - ni) (.slice (some ⟨b, o + ni * 2, none⟩) (len + m - ni) (c - ni))).run PQ wA = .ok ds.toArray wA := Blk.read (P := PQ) (sz := 2) (k := ni * 2) hs0 (by omega)
    have hcp1 := qbC (P := PQ) (w := wA) (t := 66) (u := 66) (ty := 3) (a := ⟨b, o + (ni + m) * 2, none⟩) (n1 := len + m - (ni + m)) (c1 := c - (ni + m)) (n2 := len + m - ni) (c2 := c - ni) (m := len - ni) hu hie (by omega) hrd wBr
    generalize hwB : World.setCells wA b (o + (ni + m) * 2) ds = wB at *
    have PS := (PanicSafe.body (P := PQ) (fn := Go.Proofs.Try.f41) (R := CEnd PQ w F ρ objs (fun a h' => Out.ok (.osl id (ob.ver + 1) 2 0 (len + m)) = .ok a ∧ h' = objs.set id (.live ⟨ob.ver + 1, ob.sz, old.take ni ++ new ++ old.drop ni⟩)) (fun a h' => Out.ok (.osl id (ob.ver + 1) 2 0 (len + m)) = .pan a ∧ h' = objs.set id (.live ⟨ob.ver + 1, ob.sz, old.take ni ++ new ++ old.drop ni⟩))))
    refine A_take (i := 0) (v := .slice (some ⟨b, o, none⟩) (len + m) c) (by first | exact PS.then | exact PS.then.then | exact PS.then.then.then) rfl (by kernel_rfl) (by kernel_rfl) (by kernel_rfl) rfl (fun w' => by simp [execOp,Z,E,G,J]) ?_
    refine A_take (i := 1) (v := .int .i64 ni) (by first | exact PS.then | exact PS.then.then | exact PS.then.then.then) rfl (by kernel_rfl) (by kernel_rfl) (by kernel_rfl) rfl (fun w' => by simp [execOp,Z,E,G,J]) ?_
    refine A_take (i := 2) (v := .int .i64 m) (by first | exact PS.then | exact PS.then.then | exact PS.then.then.then) rfl (by kernel_rfl) (by kernel_rfl) (by kernel_rfl) rfl (fun w' => by simp [execOp,Z,E,G,J]) ?_
    refine A_take (i := 3) (v := .int .i64 ((ni + m : Nat) : Int)) (by first | exact PS.then | exact PS.then.then | exact PS.then.then.then) rfl (by kernel_rfl) (by kernel_rfl) (by kernel_rfl) rfl (fun w' => by simp [execOp,Z,E,G,J, eqGuard, binOp, Op.intArith, hwr ((ni : Int) + (m : Int)) (by omega) (by omega)]) ?_
    refine A_take (i := 4) (v := .slice (some ⟨b, o + (ni + m) * 2, none⟩) (len + m - (ni + m)) (c - (ni + m))) (by first | exact PS.then | exact PS.then.then | exact PS.then.then.then) rfl (by kernel_rfl) (by kernel_rfl) (by kernel_rfl) rfl (fun w' => by
     have hx2 : (Instr.sliceAt 66 (.slice (some ⟨b, o, none⟩) (len + m) c) (some (.int .i64 ((ni : Int) + (m : Int)))) none none).run PQ w' = .ok (.slice (some ⟨b, o + (ni + m) * 2, none⟩) (len + m - (ni + m)) (c - (ni + m))) w' := by
      rw [show ((ni : Int) + (m : Int)) = ((ni + m : Nat) : Int) by omega]
      exact qap hu hie (by omega) (by omega)
     simp [execOp,Z,E,G,J, hx2]) ?_
    refine A_take (i := 5) (v := .slice (some ⟨b, o, none⟩) (len + m) c) (by first | exact PS.then | exact PS.then.then | exact PS.then.then.then) rfl (by kernel_rfl) (by kernel_rfl) (by kernel_rfl) rfl (fun w' => by simp [execOp,Z,E,G,J]) ?_
    refine A_take (i := 6) (v := .int .i64 ni) (by first | exact PS.then | exact PS.then.then | exact PS.then.then.then) rfl (by kernel_rfl) (by kernel_rfl) (by kernel_rfl) rfl (fun w' => by simp [execOp,Z,E,G,J]) ?_
    refine A_take (i := 7) (v := .slice (some ⟨b, o + ni * 2, none⟩) (len + m - ni) (c - ni)) (by first | exact PS.then | exact PS.then.then | exact PS.then.then.then) rfl (by kernel_rfl) (by kernel_rfl) (by kernel_rfl) rfl (fun w' => by
     have hx2 : (Instr.sliceAt 66 (.slice (some ⟨b, o, none⟩) (len + m) c) (some (.int .i64 ni)) none none).run PQ w' = .ok (.slice (some ⟨b, o + ni * 2, none⟩) (len + m - ni) (c - ni)) w' := qap hu hie (by omega) (by omega)
     simp [execOp,Z,E,G,J, hx2]) ?_
    refine A_only (i := 8) (v := goInt (len - ni : Nat)) (w' := wB) rfl (by kernel_rfl) rfl (by simp [execOp,Z,E,G,J, resolve, invoke, builtin, hcp1, -Nat.mul_one]) ?_
    refine wpAny_done (by kernel_rfl) ?_ _
    let l1 : List Value := l.take ((ni + m) * 2) ++ ds ++ l.drop ((ni + m) * 2 + ds.length)
    have hl1 : l1.length = l.length := by simp only [l1, List.length_append, List.length_take, List.length_drop, hdl, hll]; omega
    have hvB : Blk wB vb vo vl := hvw0.upd wBu (fun j hj h => hapart j (vo + j - o) (by omega) (by omega) ⟨h.1, by omega⟩)
    obtain ⟨wCr, wCb, wCu, wCt⟩ := Blk.write (P := PQ) (w := wB) (l := l1) (us := us) (k := ni * 2) wBb wBt (by omega) hone
    have hcp2 := qbC (P := PQ) (w := wB) (t := 66) (u := 66) (ty := 3) (a := ⟨b, o + ni * 2, none⟩) (n1 := len + m - ni) (c1 := c - ni) (n2 := m) (c2 := vc) (m := m) hu hie (by omega) (hrun wB _ vc rfl hvB) wCr
    generalize hwC : World.setCells wB b (o + ni * 2) us = wC at *
    refine wp_seq (qa1 rfl ?_)
    refine L_move (v := .slice (some ⟨b, o, none⟩) (len + m) c) (by simp [Z,E,G,J]) ?_
    refine L_move (v := .int .i64 ni) (by simp [Z,E,G,J]) ?_
    refine L_slice (vx := .slice (some ⟨b, o, none⟩) (len + m) c) (vlo := some (.int .i64 ni)) (vhi := none) (vmx := none) (v := .slice (some ⟨b, o + ni * 2, none⟩) (len + m - ni) (c - ni)) (by simp [Z,E,G,J]) (by simp [Z,E,G,J]) (by simp [Z,E,G,J]) (by simp [Z,E,G,J]) (qap hu hie (by omega) (by omega)) ?_
    refine L_move (v := .slice (some ⟨vb, vo, none⟩) m vc) (by simp [Z,E,G,J]) ?_
    refine L_copy (vx := .slice (some ⟨b, o + ni * 2, none⟩) (len + m - ni) (c - ni)) (vy := .slice (some ⟨vb, vo, none⟩) m vc) (v := goInt m) (w' := wC) (by simp [Z,E,G,J]) (by simp [Z,E,G,J]) hcp2 ?_
    refine L_end ?_
    refine wp_seq (qa1 rfl ?_)
    refine L_move (v := .slice (some ⟨b, o, none⟩) (len + m) c) (by simp [Z,E,G,J]) ?_
    refine qag (v := .slice (some ⟨b, o, none⟩) (len + m) c) (by simp [Z,E,G,J]) ?_
    refine L_end ?_
    refine wp_ret (ret_one (t := 6) (v := .slice (some ⟨b, o, none⟩) (len + m) c) rfl (by simp only [qaP]; exact hd) (by simp [Z,E,G,J]) ?_)
    rw [hl1] at wCu
    have uall : Upd (fun b' o' => b' = b ∧ o ≤ o' ∧ o' < o + l.length) w wC := (ud.trans wBu fun _ _ _ h => h).trans wCu fun _ _ _ h => h
    have hpre : ∀ (j : Nat) v, (l.take (ni * 2) ++ us ++ ds)[j]? = some v → (l1.take (ni * 2) ++ us ++ l1.drop (ni * 2 + us.length))[j]? = some v := by
     intro j v hv
     have hA : (l.take (ni * 2)).length = ni * 2 := by simp; omega
     have hB : l1.take (ni * 2) = l.take (ni * 2) := by
      simp only [l1]
      rw [List.append_assoc, List.take_append_of_le_length (by simp; omega), List.take_take, Nat.min_eq_left (by omega)]
     have hC : l1.drop (ni * 2 + us.length) = ds ++ l.drop ((ni + m) * 2 + ds.length) := by
      simp only [l1, hul]
      rw [← hnim, List.append_assoc, List.drop_append_of_le_length (by simp; omega)]
      rw [List.drop_eq_nil_of_le (by simp; omega), List.nil_append]
     rw [hB, hC, ← List.append_assoc, List.getElem?_append_left (List.getElem?_eq_some_iff.1 hv).1]
     exact hv
    obtain ⟨ρ1, i1, t1, q1⟩ := sp.put i hob (w' := wC) (rows' := old.take ni ++ new ++ old.drop ni) (vs := l.take (ni * 2) ++ us ++ ds) uall hwid (by omega) allrel (fun j v hv => wCb j v (hpre j v hv))
    rw [hrl] at q1
    exact ⟨F, ρ1, _, i1, t1, _, q1, rfl, rfl⟩
theorem insert43 : SoundFn PQ 43 (qaO 1 8) := by
 intro args objs R objs' hk w F ρ vs i ha
 unfold qaO at hk
 split at hk <;> try (cases hk; done)
 rename_i id ver sz' lo len i0 vid vver vsz vlo m
 split at hk <;> try (cases hk; done)
 rename_i ob new hob hnew
 split at hk <;> try (cases hk; done)
 rename_i hcond
 obtain ⟨hver, hsz', hle, h0, hil, hok, hvid, hm0⟩ := hcond
 cases hk
 subst hsz'
 obtain ⟨ni, rfl⟩ := Int.eq_ofNat_of_zero_le h0
 have hil : ni ≤ len := by omega
 obtain ⟨hsz, hrel⟩ := ha
 obtain ⟨v0, v1, v2, rfl⟩ : ∃ v0 v1 v2, vs = #[v0, v1, v2] := by
  simp at hsz
  exact arr3 hsz
 have r0 := hrel 0 (by simp)
 have r1 := hrel 1 (by simp)
 have r2 := hrel 2 (by simp)
 simp at r0 r1 r2
 obtain rfl := r1.s_inv
 obtain ⟨a, c, rfl, hlc, hsp⟩ := Span.of i r0 hob hver hle
 have hobsz : ob.sz = 1 := by
  obtain ⟨a2, c2, hh, _, _, _, _, hy⟩ := r0.osl_inv
  rw [((hy ob hob).2 hver.symm).1, (i.obj id ob hob).sz]
 obtain ⟨vob, hvob, hvver, rfl, hvle, rfl⟩ : ∃ vob, objs[vid]? = some (.live vob) ∧ vob.ver = vver ∧ vsz = 1 ∧ vlo + m ≤ vob.rows.length ∧ new = (vob.rows.drop vlo).take m := by
  unfold rowsOf at hnew
  simp only at hnew
  split at hnew <;> try (cases hnew; done)
  rename_i vob hvob
  split at hnew <;> try (cases hnew; done)
  rename_i hc
  cases hnew
  exact ⟨vob, hvob, hc.1, hc.2.1, hc.2.2, rfl⟩
 obtain ⟨va, vc, rfl, hvlc, hvsp⟩ := Span.of i r2 hvob hvver hvle
 obtain ⟨vb, vo, vl, rfl, vsp⟩ := hvsp (by omega)
 generalize hnewd : (vob.rows.drop vlo).take m = new at *
 have hnlen : new.length = m := by rw [← hnewd]; simp; omega
 have hvll := vsp.llen
 have hvc : m * 1 ≤ vc * 1 := Nat.mul_le_mul_right _ hvlc
 let us : List Value := vl.take (m * 1)
 have hul : us.length = m * 1 := by simp only [us, List.length_take]; omega
 have urel : RelC PQ w F ρ objs us new.flatten := vsp.rel
 have hu : PQ.underlying 67 = some (.slice 60) := by kernel_rfl
 have hui : PQ.underlying 3 = some (.int .i64) := by kernel_rfl
 have hie : PQ.info? 60 = some Go.Proofs.Try.t60 := by kernel_rfl
 have hz2 : (zeroT PQ 60).map List.length = some 1 := by kernel_rfl
 have hz3 := hz2
 rw [Option.map_eq_some_iff] at hz3
 obtain ⟨zz, hzz, hzl⟩ := hz3
 obtain ⟨zv, hzv, hzr, rfl⟩ := qbH hzz w F ρ objs
 have hzs : zv.cells.size = 1 := by simpa using hzl
 generalize hold : (ob.rows.drop lo).take len = old at *
 have holen : old.length = len := by rw [← hold]; simp; omega
 have hrl : (old.take ni ++ new ++ old.drop ni).length = len + m := by simp; omega
 simp only [Int.toNat_natCast, hnlen] at hok ⊢
 rw [← hver]
 have hnm62 : len + m < 4611686018427387904 := by
  obtain ⟨_, h2⟩ := hok
  have : (2:Nat)^62 = 4611686018427387904 := by decide
  omega
 have hwr : ∀ x : Int, 0 ≤ x → x < 9223372036854775808 → IntKind.i64.wrap x = x := fun x h1 h2 => by
  have key : IntKind.i64.wrap x = (let m := x % 18446744073709551616; if m ≥ 9223372036854775808 then m - 18446744073709551616 else m) := by
   simp [IntKind.wrap, IntKind.bits, IntKind.signed]
  rw [key]
  have : x % 18446744073709551616 = x := by omega
  simp only [this]; rw [if_neg (by omega)]
 obtain ⟨vx, hvx⟩ := qcY (P := PQ) (w := w) (a := a) (n := len) (c := c) (l := ni) (m := len) (hi := none) (mx := none) hu hie hil (Nat.le_refl _) hlc (.inr ⟨rfl, rfl, rfl⟩)
 have hone : ∀ v ∈ us, v.oneCell' = true := urel.one
 refine qbp (fn := Go.Proofs.Try.f43) (by kernel_rfl) rfl 95 rfl fun a0 Z hd he => ?_
 have E := he 0 (by simp)
 have G := he 1 (by simp)
 have J := he 2 (by simp)
 simp at E G J
 refine wp_seq (qa1 rfl (qag rfl (L_end ?_)))
 refine wp_seq (qa1 rfl ?_)
 refine L_move (v := .slice a len c) (by simp [Z,E,G,J]) ?_
 refine L_move (v := .int .i64 ni) (by simp [Z,E,G,J]) ?_
 refine L_slice (vx := .slice a len c) (vlo := some (.int .i64 ni)) (vhi := none) (vmx := none) (v := vx) (by simp [Z,E,G,J]) (by simp [Z,E,G,J]) (by simp [Z,E,G,J]) (by simp [Z,E,G,J]) hvx ?_
 refine L_end ?_
 refine wp_seq (qa1 rfl ?_)
 refine L_move (v := .slice (some ⟨vb, vo, none⟩) m vc) (by simp [Z,E,G,J]) ?_
 refine L_len hu (b := some ⟨vb, vo, none⟩) (n := m) (c := vc) (by simp [Z,E,G,J]) ?_
 refine qag (v := .int .i64 m) (by simp [Z,E,G,J]) ?_
 refine L_end ?_
 refine wp_seq (wp_seq (qa1 rfl ?_))
 refine L_move (v := .int .i64 m) (by simp [Z,E,G,J]) ?_
 refine L_eqInt (m := m) (n := 0) (by simp [Z,E,G,J]) rfl ?_
 refine L_end ?_
 have hd1 : ((m : Int) == 0) = false := by simp; omega
 refine wp_cond_false (by simp [Z,E,G,J, hd1]) (wp_skip ?_)
 refine wp_seq (qa1 rfl ?_)
 refine L_move (v := .slice a len c) (by simp [Z,E,G,J]) ?_
 refine L_len hu (b := a) (n := len) (c := c) (by simp [Z,E,G,J]) ?_
 refine qag (v := .int .i64 len) (by simp [Z,E,G,J]) ?_
 refine L_end ?_
 refine wp_seq (wp_seq (qa1 rfl ?_))
 refine L_move (v := .int .i64 ni) (by simp [Z,E,G,J]) ?_
 refine L_move (v := .int .i64 len) (by simp [Z,E,G,J]) ?_
 refine L_eqInt (m := ni) (n := len) (by simp [Z,E,G,J]) (by simp [Z,E,G,J]) ?_
 refine L_end ?_
 by_cases hin : ni = len
 ·
  subst hin
  refine wp_cond_true (by simp [Z,E,G,J]) (wp_seq (qa1 rfl ?_))
  refine L_move (v := .slice a ni c) (by simp [Z,E,G,J]) ?_
  refine L_move (v := .slice (some ⟨vb, vo, none⟩) m vc) (by simp [Z,E,G,J]) ?_
  have hok2 : qa4 (ni + new.length) 8 := ⟨Nat.le_trans (Nat.mul_le_mul_right _ (by omega)) hok.1, by rw [hnlen]; obtain ⟨_, h2⟩ := hok; omega⟩
  have hy := qdt (ty := 67) (at_ := none) (k := fun a h => some (a, h)) (r := (A.osl id (ver + 1) 1 0 (ni + new.length), objs.set id (.live ⟨ver + 1, ob.sz, old ++ new⟩))) i r0 r2 hu hu (by kernel_rfl : sizeT PQ 60 = some 1) (by rw [show PQ.bytesOf 60 = 8 from by kernel_rfl]; decide) hz2 (by
   have hb : PQ.bytesOf 60 = 8 := by kernel_rfl
   unfold oAppend
   have hr2 : rowsOf 1 (.osl vid vver 1 vlo m) objs = some new := by simp [rowsOf, hvob, hvver, hvle, hnewd]
   rw [hr2]
   simp only [hob]
   rw [if_pos ⟨hver, trivial, hle, by rw [hb]; exact hok2⟩, hold])
  obtain ⟨nx, v, w2, F', ρ', h', a', e1, e2, e3, e4, e5, e6⟩ := hy
  simp only [Option.some.injEq, Prod.mk.injEq] at e6
  obtain ⟨rfl, rfl⟩ := e6
  rw [Sem.run_bind] at e1
  cases hap : (Builtin.append_ #[67, 67] 67 #[.slice a ni c, .slice (some ⟨vb, vo, none⟩) m vc]).run PQ w with
  | halt x y => rw [hap] at e1; cases e1
  | ok uu w3 =>
    rw [hap] at e1
    simp only [Result.andThen_ok, Sem.run_pure, Result.ok.injEq] at e1
    obtain ⟨rfl, rfl⟩ := e1
    have huv : uu = v := by rcases e2 with h | ⟨h, _⟩ <;> cases h; rfl
    subst huv
    refine qdU (vx := .slice a ni c) (vy := .slice (some ⟨vb, vo, none⟩) m vc) (v := uu) (w' := w3) (by simp [Z,E,G,J]) (by simp [Z,E,G,J]) hap ?_
    refine qag (v := uu) (by simp [Z,E,G,J]) ?_
    refine L_end ?_
    refine wp_ret (ret_one (t := 6) (v := uu) rfl (by simp only [qaP]; exact hd) (by simp [Z,E,G,J]) ?_)
    have t1 : old.take ni = old := List.take_of_length_le (by omega)
    have t2 : old.drop ni = [] := List.drop_eq_nil_of_le (by omega)
    rw [t1, t2, List.append_nil, hver]
    rw [hnlen] at e3
    exact ⟨F', ρ', _, e4, e5, _, e3, rfl, rfl⟩
 · have hd2 : ((ni : Int) == (len : Int)) = false := by simp; omega
   refine wp_cond_false (by simp [Z,E,G,J, hd2]) (wp_skip ?_)
   obtain ⟨b, o, l, rfl, sp⟩ := hsp (by omega)
   have hll := sp.llen
   have hcl : len * 1 ≤ c * 1 := Nat.mul_le_mul_right _ hlc
   have his : ni * 1 ≤ len * 1 := Nat.mul_le_mul_right _ hil
   have hid : (len - ni) * 1 = len * 1 - ni * 1 := Nat.sub_mul _ _ _
   let ds : List Value := (l.drop (ni * 1)).take ((len - ni) * 1)
   have hdl : ds.length = (len - ni) * 1 := by simp only [ds, List.length_take, List.length_drop]; omega
   have drel : RelC PQ w F ρ objs ds (old.drop ni).flatten := by
    have h1 := sp.rel.sub (ni * 1) ((len - ni) * 1)
    rw [qdR ni _ sp.width]
    have e1 : (old.flatten.drop (ni * 1)).take ((len - ni) * 1) = old.flatten.drop (ni * 1) := List.take_of_length_le (by rw [List.length_drop, qb4 _ sp.width, holen]; omega)
    rw [e1] at h1
    have e2 : ((l.take (len * 1)).drop (ni * 1)).take ((len - ni) * 1) = ds := by
     simp only [ds]; rw [List.drop_take, List.take_take]; congr 1; omega
    rwa [e2] at h1
   have prel : RelC PQ w F ρ objs (l.take (ni * 1)) (old.take ni).flatten := by
    rw [qdg ni _ sp.width]
    have h1 := sp.rel.sub 0 (ni * 1)
    simp only [List.drop_zero] at h1
    rwa [List.take_take, Nat.min_eq_left (by omega)] at h1
   have allrel : RelC PQ w F ρ objs (l.take (ni * 1) ++ us ++ ds) (old.take ni ++ new ++ old.drop ni).flatten := by
    rw [List.flatten_append, List.flatten_append]
    exact (prel.append urel).append drel
   have hwid : ∀ row ∈ old.take ni ++ new ++ old.drop ni, row.length = 1 := fun row hr => by
    rcases List.mem_append.1 hr with hr | hr
    · rcases List.mem_append.1 hr with hr | hr
      · exact sp.width _ (List.mem_of_mem_take hr)
      · exact vsp.width _ hr
    · exact sp.width _ (List.mem_of_mem_drop hr)
   have hrun : ∀ (w1 : World) (xa : Option Addr) (xc : Nat), xa = some ⟨vb, vo, none⟩ → Blk w1 vb vo vl → (Builtin.firstCells 1 m (.slice xa m xc)).run PQ w1 = .ok us.toArray w1 := fun w1 xa xc hx hb => by
    subst hx
    have := Blk.read (P := PQ) (sz := 1) (k := 0) (n := m) (len := m) (c := xc) hb (by omega)
    simpa only [Nat.add_zero, List.drop_zero] using this
   refine wp_seq (wp_seq (qa1 rfl ?_))
   refine L_move (v := .int .i64 len) (by simp [Z,E,G,J]) ?_
   refine L_move (v := .int .i64 m) (by simp [Z,E,G,J]) ?_
   refine L_add (m := len) (n := m) (by simp [Z,E,G,J]) (by simp [Z,E,G,J]) (hwr _ (by omega) (by omega)) ?_
   refine L_move (v := .slice (some ⟨b, o, none⟩) len c) (by simp [Z,E,G,J]) ?_
   refine L_cap hu (b := some ⟨b, o, none⟩) (n := len) (c := c) (by simp [Z,E,G,J]) ?_
   refine L_gtInt (m := (len : Int) + (m : Int)) (n := c) (by simp [Z,E,G,J]) (by simp [Z,E,G,J]) ?_
   refine L_end ?_
   by_cases hgt : c < len + m
   ·
    have hd3 : decide ((c : Int) < (len : Int) + (m : Int)) = true := by simp; omega
    refine wp_cond_true (by simp [Z,E,G,J, hd3]) (wp_seq (qa1 rfl ?_))
    have hok2 : qa4 (ni + (len + m - ni)) 8 := ⟨Nat.le_trans (Nat.mul_le_mul_right _ (by omega)) hok.1, by obtain ⟨_, h2⟩ := hok; omega⟩
    have hfirst : ∀ d, (Builtin.firstCells 1 ni (.slice (some ⟨b, o, none⟩) ni c)).run PQ { w with drawn := d } = .ok (l.take (ni * 1)).toArray { w with drawn := d } := fun d => by
     have := Blk.read (P := PQ) (w := { w with drawn := d }) (sz := 1) (k := 0) (n := ni) (len := ni) (c := c) (l := l) (fun j v hv => sp.blk j v hv) (by omega)
     simpa only [Nat.add_zero, List.drop_zero] using this
    obtain ⟨nc, hnc, happ⟩ := qcI (P := PQ) (w := w) (t := 67) (u := 3) (ty := 67) (a := some ⟨b, o, none⟩) (len := ni) (cap := c) (n := len + m - ni) (vs := l.take (ni * 1)) hu hui hie hzv (by decide) (by omega) hok2 (by omega) (by decide) hfirst
    rw [show ni + (len + m - ni) = len + m by omega] at happ hnc
    let l2 : List Value := l.take (ni * 1) ++ (Builtin.zeroCells zv.cells (len + m - ni)).toList ++ (Builtin.zeroCells zv.cells (nc - (len + m))).toList
    have hl2 : l2.length = nc * 1 := by
     simp only [l2, List.length_append, List.length_take, Array.length_toList, qbk, hzs]
     have e1 : (len + m - ni) * 1 = (len + m) * 1 - ni * 1 := Nat.sub_mul _ _ _
     have e2 : (nc - (len + m)) * 1 = nc * 1 - (len + m) * 1 := Nat.sub_mul _ _ _
     have e3 : (len + m) * 1 ≤ nc * 1 := Nat.mul_le_mul_right _ hnc
     have e4 : (len + m) * 1 = len * 1 + m * 1 := Nat.add_mul _ _ _
     omega
    have hnb0 : ∀ j, World.cell? { w with drawn := w.drawn + 1, heap := w.heap.push (.cells ((l.take (ni * 1)).toArray ++ Builtin.zeroCells zv.cells (len + m - ni) ++ Builtin.zeroCells zv.cells (nc - (len + m))) 60) } ⟨w.heap.size, j, none⟩ = l2[j]? := fun j => by
     rw [qdh { w with drawn := w.drawn + 1 } _ 60 j, ← Array.getElem?_toList]
     simp only [l2, Array.toList_append]
    have ht0 : Thaw { w with drawn := w.drawn + 1, heap := w.heap.push (.cells ((l.take (ni * 1)).toArray ++ Builtin.zeroCells zv.cells (len + m - ni) ++ Builtin.zeroCells zv.cells (nc - (len + m))) 60) } w.heap.size := fun _ => qcl { w with drawn := w.drawn + 1 } _ 60 _
    have up : Upd (fun _ _ => False) w { w with drawn := w.drawn + 1, heap := w.heap.push (.cells ((l.take (ni * 1)).toArray ++ Builtin.zeroCells zv.cells (len + m - ni) ++ Builtin.zeroCells zv.cells (nc - (len + m))) 60) } := (qbV _ w).trans (qfd _ { w with drawn := w.drawn + 1 } _) fun _ _ _ h => h
    generalize hwA : ({ w with drawn := w.drawn + 1, heap := w.heap.push (.cells ((l.take (ni * 1)).toArray ++ Builtin.zeroCells zv.cells (len + m - ni) ++ Builtin.zeroCells zv.cells (nc - (len + m))) 60) } : World) = wA at *
    have hbA : Blk wA w.heap.size 0 l2 := fun j v hv => by rw [Nat.zero_add, hnb0]; exact hv
    have hlm : (len + m) * 1 = len * 1 + m * 1 := Nat.add_mul _ _ _
    have hlnc : (len + m) * 1 ≤ nc * 1 := Nat.mul_le_mul_right _ hnc
    have hnim : (ni + m) * 1 = ni * 1 + m * 1 := Nat.add_mul _ _ _
    refine L_move (v := .slice (some ⟨b, o, none⟩) len c) (by simp [Z,E,G,J]) ?_
    refine L_move (v := .int .i64 ni) (by simp [Z,E,G,J]) ?_
    refine L_slice (vx := .slice (some ⟨b, o, none⟩) len c) (vlo := none) (vhi := some (.int .i64 ni)) (vmx := none) (v := .slice (some ⟨b, o, none⟩) ni c) (by simp [Z,E,G,J]) (by simp [Z,E,G,J]) (by simp [Z,E,G,J]) (by simp [Z,E,G,J]) (qbz hu hie (by omega) (by omega)) ?_
    refine L_move (v := .int .i64 len) (by simp [Z,E,G,J]) ?_
    refine L_move (v := .int .i64 m) (by simp [Z,E,G,J]) ?_
    refine L_add (m := len) (n := m) (by simp [Z,E,G,J]) (by simp [Z,E,G,J]) (hwr _ (by omega) (by omega)) ?_
    refine L_move (v := .int .i64 ni) (by simp [Z,E,G,J]) ?_
    refine L_sub (m := (len : Int) + (m : Int)) (n := ni) (by simp [Z,E,G,J]) (by simp [Z,E,G,J]) (hwr _ (by omega) (by omega)) ?_
    rw [show ((len : Int) + (m : Int) - (ni : Int)) = ((len + m - ni : Nat) : Int) by omega]
    refine qdU (vx := .slice (some ⟨b, o, none⟩) ni c) (vy := .int .i64 ((len + m - ni : Nat) : Int)) (v := .slice (some ⟨w.heap.size, 0, none⟩) (len + m) nc) (w' := wA) (by simp [Z,E,G,J]) (by simp [Z,E,G,J]) happ ?_
    refine qag (v := .slice (some ⟨w.heap.size, 0, none⟩) (len + m) nc) (by simp [Z,E,G,J]) ?_
    refine L_end ?_
    have hvA : Blk wA vb vo vl := vsp.blk.upd up fun _ _ h => h
    obtain ⟨wBr, wBb, wBu, wBt⟩ := Blk.write (P := PQ) (w := wA) (l := l2) (us := us) (k := ni * 1) hbA ht0 (by omega) hone
    have hcp1 := qbC (P := PQ) (w := wA) (t := 67) (u := 67) (ty := 3) (a := ⟨w.heap.size, 0 + ni * 1, none⟩) (n1 := len + m - ni) (c1 := nc - ni) (n2 := m) (c2 := vc) (m := m) hu hie (by omega) (hrun wA _ vc rfl hvA) wBr
    generalize hwB : World.setCells wA w.heap.size (0 + ni * 1) us = wB at *
    refine wp_seq (qa1 rfl ?_)
    refine L_move (v := .slice (some ⟨w.heap.size, 0, none⟩) (len + m) nc) (by simp [Z,E,G,J]) ?_
    refine L_move (v := .int .i64 ni) (by simp [Z,E,G,J]) ?_
    refine L_slice (vx := .slice (some ⟨w.heap.size, 0, none⟩) (len + m) nc) (vlo := some (.int .i64 ni)) (vhi := none) (vmx := none) (v := .slice (some ⟨w.heap.size, 0 + ni * 1, none⟩) (len + m - ni) (nc - ni)) (by simp [Z,E,G,J]) (by simp [Z,E,G,J]) (by simp [Z,E,G,J]) (by simp [Z,E,G,J]) (qap hu hie (by omega) (by omega)) ?_
    refine L_move (v := .slice (some ⟨vb, vo, none⟩) m vc) (by simp [Z,E,G,J]) ?_
    refine L_copy (vx := .slice (some ⟨w.heap.size, 0 + ni * 1, none⟩) (len + m - ni) (nc - ni)) (vy := .slice (some ⟨vb, vo, none⟩) m vc) (v := goInt m) (w' := wB) (by simp [Z,E,G,J]) (by simp [Z,E,G,J]) hcp1 ?_
    refine L_end ?_
    let l3 : List Value := l2.take (ni * 1) ++ us ++ l2.drop (ni * 1 + us.length)
    have hl3 : l3.length = nc * 1 := by simp only [l3, List.length_append, List.length_take, List.length_drop, hul, hl2]; omega
    have hnl : b ≠ w.heap.size := by
     have := sp.blk.lt (by rw [hll]; have := Nat.mul_le_mul_right 1 (show 1 ≤ c by omega); omega)
     omega
    have hsA : Blk wA b o l := sp.blk.upd up fun _ _ h => h
    have hsB : Blk wB b o l := hsA.upd wBu fun j _ h => hnl h.1
    have ud : Upd (fun _ _ => False) wB { wB with drawn := wB.drawn + 1 } := qbV _ wB
    have hsC : Blk { wB with drawn := wB.drawn + 1 } b o l := hsB.upd ud fun _ _ h => h
    have hbC : Blk { wB with drawn := wB.drawn + 1 } w.heap.size 0 l3 := Blk.upd wBb ud fun _ _ h => h
    have htC : Thaw { wB with drawn := wB.drawn + 1 } w.heap.size := wBt
    refine wp_seq (wp_region_any (by kernel_rfl) ?_)
    generalize hwC : ({ wB with drawn := wB.drawn + 1 } : World) = wC at *
    obtain ⟨wDr, wDb, wDu, wDt⟩ := Blk.write (P := PQ) (w := wC) (l := l3) (us := ds) (k := (ni + m) * 1) hbC htC (by omega) drel.one
    have hrd : (Builtin.firstCells 1 (len - ni) (.slice (some ⟨b, o + ni * 1, none⟩) (len - ni) (c - ni))).run PQ wC = .ok ds.toArray wC := Blk.read (P := PQ) (sz := 1) (k := ni * 1) hsC (by omega)
    have hcp2 := qbC (P := PQ) (w := wC) (t := 67) (u := 67) (ty := 3) (a := ⟨w.heap.size, 0 + (ni + m) * 1, none⟩) (n1 := len + m - (ni + m)) (c1 := nc - (ni + m)) (n2 := len - ni) (c2 := c - ni) (m := len - ni) hu hie (by omega) hrd wDr
    generalize hwD : World.setCells wC w.heap.size (0 + (ni + m) * 1) ds = wD at *
    simp only [Nat.zero_add] at hcp2
    have PS := (PanicSafe.body (P := PQ) (fn := Go.Proofs.Try.f43) (R := CEnd PQ w F ρ objs (fun a h' => Out.ok (.osl id (ob.ver + 1) 1 0 (len + m)) = .ok a ∧ h' = objs.set id (.live ⟨ob.ver + 1, ob.sz, old.take ni ++ new ++ old.drop ni⟩)) (fun a h' => Out.ok (.osl id (ob.ver + 1) 1 0 (len + m)) = .pan a ∧ h' = objs.set id (.live ⟨ob.ver + 1, ob.sz, old.take ni ++ new ++ old.drop ni⟩))))
    refine A_take (i := 0) (v := .slice (some ⟨w.heap.size, 0, none⟩) (len + m) nc) (by first | exact PS.then | exact PS.then.then | exact PS.then.then.then) rfl (by kernel_rfl) (by kernel_rfl) (by kernel_rfl) rfl (fun w' => by simp [execOp,Z,E,G,J]) ?_
    refine A_take (i := 1) (v := .int .i64 ni) (by first | exact PS.then | exact PS.then.then | exact PS.then.then.then) rfl (by kernel_rfl) (by kernel_rfl) (by kernel_rfl) rfl (fun w' => by simp [execOp,Z,E,G,J]) ?_
    refine A_take (i := 2) (v := .int .i64 m) (by first | exact PS.then | exact PS.then.then | exact PS.then.then.then) rfl (by kernel_rfl) (by kernel_rfl) (by kernel_rfl) rfl (fun w' => by simp [execOp,Z,E,G,J]) ?_
    refine A_take (i := 3) (v := .int .i64 ((ni + m : Nat) : Int)) (by first | exact PS.then | exact PS.then.then | exact PS.then.then.then) rfl (by kernel_rfl) (by kernel_rfl) (by kernel_rfl) rfl (fun w' => by simp [execOp,Z,E,G,J, eqGuard, binOp, Op.intArith, hwr ((ni : Int) + (m : Int)) (by omega) (by omega)]) ?_
    refine A_take (i := 4) (v := .slice (some ⟨w.heap.size, 0 + (ni + m) * 1, none⟩) (len + m - (ni + m)) (nc - (ni + m))) (by first | exact PS.then | exact PS.then.then | exact PS.then.then.then) rfl (by kernel_rfl) (by kernel_rfl) (by kernel_rfl) rfl (fun w' => by
     have hx2 : (Instr.sliceAt 67 (.slice (some ⟨w.heap.size, 0, none⟩) (len + m) nc) (some (.int .i64 ((ni : Int) + (m : Int)))) none none).run PQ w' = .ok (.slice (some ⟨w.heap.size, 0 + (ni + m) * 1, none⟩) (len + m - (ni + m)) (nc - (ni + m))) w' := by
      rw [show ((ni : Int) + (m : Int)) = ((ni + m : Nat) : Int) by omega]
      exact qap hu hie (by omega) (by omega)
     simp [execOp,Z,E,G,J, hx2]) ?_
    refine A_take (i := 5) (v := .slice (some ⟨b, o, none⟩) len c) (by first | exact PS.then | exact PS.then.then | exact PS.then.then.then) rfl (by kernel_rfl) (by kernel_rfl) (by kernel_rfl) rfl (fun w' => by simp [execOp,Z,E,G,J]) ?_
    refine A_take (i := 6) (v := .int .i64 ni) (by first | exact PS.then | exact PS.then.then | exact PS.then.then.then) rfl (by kernel_rfl) (by kernel_rfl) (by kernel_rfl) rfl (fun w' => by simp [execOp,Z,E,G,J]) ?_
    refine A_take (i := 7) (v := .slice (some ⟨b, o + ni * 1, none⟩) (len - ni) (c - ni)) (by first | exact PS.then | exact PS.then.then | exact PS.then.then.then) rfl (by kernel_rfl) (by kernel_rfl) (by kernel_rfl) rfl (fun w' => by
     have hx2 : (Instr.sliceAt 67 (.slice (some ⟨b, o, none⟩) len c) (some (.int .i64 ni)) none none).run PQ w' = .ok (.slice (some ⟨b, o + ni * 1, none⟩) (len - ni) (c - ni)) w' := qap hu hie hil (by omega)
     simp [execOp,Z,E,G,J, hx2]) ?_
    refine A_only (i := 8) (v := goInt (len - ni : Nat)) (w' := wD) rfl (by kernel_rfl) rfl (by simp [execOp,Z,E,G,J, resolve, invoke, builtin, hcp2, -Nat.mul_one]) ?_
    refine wpAny_done (by kernel_rfl) ?_ _
    refine wp_seq (qa1 rfl ?_)
    refine L_move (v := .slice (some ⟨w.heap.size, 0, none⟩) (len + m) nc) (by simp [Z,E,G,J]) ?_
    refine qag (v := .slice (some ⟨w.heap.size, 0, none⟩) (len + m) nc) (by simp [Z,E,G,J]) ?_
    refine L_end ?_
    refine wp_ret (ret_one (t := 6) (v := .slice (some ⟨w.heap.size, 0, none⟩) (len + m) nc) rfl (by simp only [qaP]; exact hd) (by simp [Z,E,G,J]) ?_)
    have uall : Upd (fun _ _ => False) w wD := by
     have u1 : Upd (fun _ _ => False) w wB := up.trans wBu fun k o hk h => by obtain ⟨rfl, _⟩ := h; exact absurd hk (Nat.lt_irrefl _)
     have u2 : Upd (fun _ _ => False) w wC := u1.trans ud fun _ _ _ h => h
     exact u2.trans wDu fun k o hk h => by obtain ⟨rfl, _⟩ := h; exact absurd hk (Nat.lt_irrefl _)
    have hpre : ∀ (j : Nat) v, (l.take (ni * 1) ++ us ++ ds)[j]? = some v → (l3.take ((ni + m) * 1) ++ ds ++ l3.drop ((ni + m) * 1 + ds.length))[j]? = some v := by
     intro j v hv
     have hA : (l.take (ni * 1)).length = ni * 1 := by simp; omega
     have hB : (l2.take (ni * 1)) = l.take (ni * 1) := by
      simp only [l2]
      rw [List.append_assoc, List.take_append_of_le_length (by omega)]
      exact List.take_of_length_le (by omega)
     have hC : l3.take ((ni + m) * 1) = l.take (ni * 1) ++ us := by
      simp only [l3, hB]
      rw [List.take_append_of_le_length (by simp only [List.length_append, hA, hul]; omega)]
      exact List.take_of_length_le (by simp only [List.length_append, hA, hul]; omega)
     rw [hC]
     rw [List.getElem?_append_left (List.getElem?_eq_some_iff.1 hv).1]
     exact hv
    have hDl : (l3.take ((ni + m) * 1) ++ ds ++ l3.drop ((ni + m) * 1 + ds.length)).length = nc * 1 := by
     simp only [List.length_append, List.length_take, List.length_drop, hdl, hl3]; omega
    obtain ⟨ρ1, i1, t1, q1⟩ := i.move hob hobsz (w' := wD) (b := w.heap.size) (c := nc) (rows' := old.take ni ++ new ++ old.drop ni) (vs := l.take (ni * 1) ++ us ++ ds) uall (Nat.le_refl _) hDl wDb wDt hwid (by omega) allrel (fun j v hv => wDb j v (hpre j v hv))
    rw [hrl] at q1
    exact ⟨F, ρ1, _, i1, t1, _, q1, rfl, rfl⟩
   ·
    have hgt : len + m ≤ c := by omega
    have hd3 : decide ((c : Int) < (len : Int) + (m : Int)) = false := by simp; omega
    refine wp_cond_false (by simp [Z,E,G,J, hd3]) (wp_skip ?_)
    have hlm : (len + m) * 1 = len * 1 + m * 1 := Nat.add_mul _ _ _
    have hlnc : (len + m) * 1 ≤ c * 1 := Nat.mul_le_mul_right _ hgt
    have hnim : (ni + m) * 1 = ni * 1 + m * 1 := Nat.add_mul _ _ _
    refine wp_seq (qa1 rfl ?_)
    refine L_move (v := .slice (some ⟨b, o, none⟩) len c) (by simp [Z,E,G,J]) ?_
    refine L_move (v := .int .i64 len) (by simp [Z,E,G,J]) ?_
    refine L_move (v := .int .i64 m) (by simp [Z,E,G,J]) ?_
    refine L_add (m := len) (n := m) (by simp [Z,E,G,J]) (by simp [Z,E,G,J]) (hwr _ (by omega) (by omega)) ?_
    rw [show ((len : Int) + (m : Int)) = ((len + m : Nat) : Int) by omega]
    refine L_slice (vx := .slice (some ⟨b, o, none⟩) len c) (vlo := none) (vhi := some (.int .i64 ((len + m : Nat) : Int))) (vmx := none) (v := .slice (some ⟨b, o, none⟩) (len + m) c) (by simp [Z,E,G,J]) (by simp [Z,E,G,J]) (by simp [Z,E,G,J]) (by simp [Z,E,G,J]) (qbz hu hie (by omega) (by omega)) ?_
    refine qag (v := .slice (some ⟨b, o, none⟩) (len + m) c) (by simp [Z,E,G,J]) ?_
    refine L_end ?_
    have hb0 := sp.blk 0 _ (List.getElem?_eq_getElem (by rw [hll]; have := Nat.mul_le_mul_right 1 (show 1 ≤ c by omega); omega))
    have hv0 := vsp.blk 0 _ (List.getElem?_eq_getElem (by rw [hvll]; have := Nat.mul_le_mul_right 1 (show 1 ≤ vc by omega); omega))
    have hapart : ∀ j k, j < vc * 1 → k < c * 1 → ¬ (vb = b ∧ vo + j = o + k) := by
     rintro j k hj hk ⟨rfl, hee⟩
     have g1 := vsp.inreg j hj
     have g2 := sp.inreg k hk
     rw [← hee] at g2
     exact i.disj vid id vob ob hvid hvob hob _ _ g1 g2
    have hov : (Extern.SlicesOverlaps.overlaps #[67, 67] #[4] #[.slice (some ⟨vb, vo, none⟩) m vc, .slice (some ⟨b, o + (ni + m) * 1, none⟩) (len + m - (ni + m)) (c - (ni + m))]).run PQ w = .ok (.bool false) w :=
     qfZ hu hie vsp.thaw sp.thaw (qcX hv0) (qcX hb0) (by
      show ¬ (vb = b ∧ vo < o + (ni + m) * 1 + (len + m - (ni + m)) * 1 ∧ o + (ni + m) * 1 < vo + m * 1)
      rintro ⟨rfl, h1, h2⟩
      have e1 : (len + m - (ni + m)) * 1 = (len + m) * 1 - (ni + m) * 1 := Nat.sub_mul _ _ _
      by_cases hcmp : vo ≤ o + (ni + m) * 1
      · exact hapart (o + (ni + m) * 1 - vo) ((ni + m) * 1) (by omega) (by omega) ⟨rfl, by omega⟩
      · exact hapart 0 (vo - o) (by omega) (by omega) ⟨rfl, by omega⟩)
    refine wp_seq (wp_seq (qa1 rfl ?_))
    refine L_move (v := .slice (some ⟨vb, vo, none⟩) m vc) (by simp [Z,E,G,J]) ?_
    refine L_move (v := .slice (some ⟨b, o, none⟩) (len + m) c) (by simp [Z,E,G,J]) ?_
    refine L_move (v := .int .i64 ni) (by simp [Z,E,G,J]) ?_
    refine L_move (v := .int .i64 m) (by simp [Z,E,G,J]) ?_
    refine L_add (m := ni) (n := m) (by simp [Z,E,G,J]) (by simp [Z,E,G,J]) (hwr _ (by omega) (by omega)) ?_
    rw [show ((ni : Int) + (m : Int)) = ((ni + m : Nat) : Int) by omega]
    refine L_slice (vx := .slice (some ⟨b, o, none⟩) (len + m) c) (vlo := some (.int .i64 ((ni + m : Nat) : Int))) (vhi := none) (vmx := none) (v := .slice (some ⟨b, o + (ni + m) * 1, none⟩) (len + m - (ni + m)) (c - (ni + m))) (by simp [Z,E,G,J]) (by simp [Z,E,G,J]) (by simp [Z,E,G,J]) (by simp [Z,E,G,J]) (qap hu hie (by omega) (by omega)) ?_
    refine qlm (fn := Go.Proofs.Try.f58) (e := Extern.SlicesOverlaps.overlaps #[67, 67] #[4]) (vx := .slice (some ⟨vb, vo, none⟩) m vc) (vy := .slice (some ⟨b, o + (ni + m) * 1, none⟩) (len + m - (ni + m)) (c - (ni + m))) (v := .bool false) (by kernel_rfl) (by kernel_rfl) (by kernel_rfl) (by kernel_rfl) (by kernel_rfl) (by simp [Z,E,G,J]) (by simp [Z,E,G,J]) hov ?_
    refine L_not (b := false) (by simp [Z,E,G,J]) ?_
    refine L_end ?_
    refine wp_cond_true (by simp [Z,E,G,J]) ?_
    have ud : Upd (fun b' o' => b' = b ∧ o ≤ o' ∧ o' < o + l.length) w { w with drawn := w.drawn + 1 } := qbV _ w
    have hs0 : Blk { w with drawn := w.drawn + 1 } b o l := fun j v hv => sp.blk j v hv
    have ht0 : Thaw { w with drawn := w.drawn + 1 } b := sp.thaw
    have hvw0 : Blk { w with drawn := w.drawn + 1 } vb vo vl := fun j v hv => vsp.blk j v hv
    refine wp_seq (wp_region_any (by kernel_rfl) ?_)
    generalize hwA : ({ w with drawn := w.drawn + 1 } : World) = wA at *
    obtain ⟨wBr, wBb, wBu, wBt⟩ := Blk.write (P := PQ) (w := wA) (l := l) (us := ds) (k := (ni + m) * 1) hs0 ht0 (by omega) drel.one
    have hrd : (Builtin.firstCells 1 (len - ni) (.slice (some ⟨b, o + ni * 1, none⟩) (len + m - ni) (c - ni))).run PQ wA = .ok ds.toArray wA := Blk.read (P := PQ) (sz := 1) (k := ni * 1) hs0 (by omega)
    have hcp1 := qbC (P := PQ) (w := wA) (t := 67) (u := 67) (ty := 3) (a := ⟨b, o + (ni + m) * 1, none⟩) (n1 := len + m - (ni + m)) (c1 := c - (ni + m)) (n2 := len + m - ni) (c2 := c - ni) (m := len - ni) hu hie (by omega) hrd wBr
    generalize hwB : World.setCells wA b (o + (ni + m) * 1) ds = wB at *
    have PS := (PanicSafe.body (P := PQ) (fn := Go.Proofs.Try.f43) (R := CEnd PQ w F ρ objs (fun a h' => Out.ok (.osl id (ob.ver + 1) 1 0 (len + m)) = .ok a ∧ h' = objs.set id (.live ⟨ob.ver + 1, ob.sz, old.take ni ++ new ++ old.drop ni⟩)) (fun a h' => Out.ok (.osl id (ob.ver + 1) 1 0 (len + m)) = .pan a ∧ h' = objs.set id (.live ⟨ob.ver + 1, ob.sz, old.take ni ++ new ++ old.drop ni⟩))))
    refine A_take (i := 0) (v := .slice (some ⟨b, o, none⟩) (len + m) c) (by first | exact PS.then | exact PS.then.then | exact PS.then.then.then) rfl (by kernel_rfl) (by kernel_rfl) (by kernel_rfl) rfl (fun w' => by simp [execOp,Z,E,G,J]) ?_
    refine A_take (i := 1) (v := .int .i64 ni) (by first | exact PS.then | exact PS.then.then | exact PS.then.then.then) rfl (by kernel_rfl) (by kernel_rfl) (by kernel_rfl) rfl (fun w' => by simp [execOp,Z,E,G,J]) ?_
    refine A_take (i := 2) (v := .int .i64 m) (by first | exact PS.then | exact PS.then.then | exact PS.then.then.then) rfl (by kernel_rfl) (by kernel_rfl) (by kernel_rfl) rfl (fun w' => by simp [execOp,Z,E,G,J]) ?_
    refine A_take (i := 3) (v := .int .i64 ((ni + m : Nat) : Int)) (by first | exact PS.then | exact PS.then.then | exact PS.then.then.then) rfl (by kernel_rfl) (by kernel_rfl) (by kernel_rfl) rfl (fun w' => by simp [execOp,Z,E,G,J, eqGuard, binOp, Op.intArith, hwr ((ni : Int) + (m : Int)) (by omega) (by omega)]) ?_
    refine A_take (i := 4) (v := .slice (some ⟨b, o + (ni + m) * 1, none⟩) (len + m - (ni + m)) (c - (ni + m))) (by first | exact PS.then | exact PS.then.then | exact PS.then.then.then) rfl (by kernel_rfl) (by kernel_rfl) (by kernel_rfl) rfl (fun w' => by
     have hx2 : (Instr.sliceAt 67 (.slice (some ⟨b, o, none⟩) (len + m) c) (some (.int .i64 ((ni : Int) + (m : Int)))) none none).run PQ w' = .ok (.slice (some ⟨b, o + (ni + m) * 1, none⟩) (len + m - (ni + m)) (c - (ni + m))) w' := by
      rw [show ((ni : Int) + (m : Int)) = ((ni + m : Nat) : Int) by omega]
      exact qap hu hie (by omega) (by omega)
     simp [execOp,Z,E,G,J, hx2]) ?_
    refine A_take (i := 5) (v := .slice (some ⟨b, o, none⟩) (len + m) c) (by first | exact PS.then | exact PS.then.then | exact PS.then.then.then) rfl (by kernel_rfl) (by kernel_rfl) (by kernel_rfl) rfl (fun w' => by simp [execOp,Z,E,G,J]) ?_
    refine A_take (i := 6) (v := .int .i64 ni) (by first | exact PS.then | exact PS.then.then | exact PS.then.then.then) rfl (by kernel_rfl) (by kernel_rfl) (by kernel_rfl) rfl (fun w' => by simp [execOp,Z,E,G,J]) ?_
    refine A_take (i := 7) (v := .slice (some ⟨b, o + ni * 1, none⟩) (len + m - ni) (c - ni)) (by first | exact PS.then | exact PS.then.then | exact PS.then.then.then) rfl (by kernel_rfl) (by kernel_rfl) (by kernel_rfl) rfl (fun w' => by
     have hx2 : (Instr.sliceAt 67 (.slice (some ⟨b, o, none⟩) (len + m) c) (some (.int .i64 ni)) none none).run PQ w' = .ok (.slice (some ⟨b, o + ni * 1, none⟩) (len + m - ni) (c - ni)) w' := qap hu hie (by omega) (by omega)
     simp [execOp,Z,E,G,J, hx2]) ?_
    refine A_only (i := 8) (v := goInt (len - ni : Nat)) (w' := wB) rfl (by kernel_rfl) rfl (by simp [execOp,Z,E,G,J, resolve, invoke, builtin, hcp1, -Nat.mul_one]) ?_
    refine wpAny_done (by kernel_rfl) ?_ _
    let l1 : List Value := l.take ((ni + m) * 1) ++ ds ++ l.drop ((ni + m) * 1 + ds.length)
    have hl1 : l1.length = l.length := by simp only [l1, List.length_append, List.length_take, List.length_drop, hdl, hll]; omega
    have hvB : Blk wB vb vo vl := hvw0.upd wBu (fun j hj h => hapart j (vo + j - o) (by omega) (by omega) ⟨h.1, by omega⟩)
    obtain ⟨wCr, wCb, wCu, wCt⟩ := Blk.write (P := PQ) (w := wB) (l := l1) (us := us) (k := ni * 1) wBb wBt (by omega) hone
    have hcp2 := qbC (P := PQ) (w := wB) (t := 67) (u := 67) (ty := 3) (a := ⟨b, o + ni * 1, none⟩) (n1 := len + m - ni) (c1 := c - ni) (n2 := m) (c2 := vc) (m := m) hu hie (by omega) (hrun wB _ vc rfl hvB) wCr
    generalize hwC : World.setCells wB b (o + ni * 1) us = wC at *
    refine wp_seq (qa1 rfl ?_)
    refine L_move (v := .slice (some ⟨b, o, none⟩) (len + m) c) (by simp [Z,E,G,J]) ?_
    refine L_move (v := .int .i64 ni) (by simp [Z,E,G,J]) ?_
    refine L_slice (vx := .slice (some ⟨b, o, none⟩) (len + m) c) (vlo := some (.int .i64 ni)) (vhi := none) (vmx := none) (v := .slice (some ⟨b, o + ni * 1, none⟩) (len + m - ni) (c - ni)) (by simp [Z,E,G,J]) (by simp [Z,E,G,J]) (by simp [Z,E,G,J]) (by simp [Z,E,G,J]) (qap hu hie (by omega) (by omega)) ?_
    refine L_move (v := .slice (some ⟨vb, vo, none⟩) m vc) (by simp [Z,E,G,J]) ?_
    refine L_copy (vx := .slice (some ⟨b, o + ni * 1, none⟩) (len + m - ni) (c - ni)) (vy := .slice (some ⟨vb, vo, none⟩) m vc) (v := goInt m) (w' := wC) (by simp [Z,E,G,J]) (by simp [Z,E,G,J]) hcp2 ?_
    refine L_end ?_
    refine wp_seq (qa1 rfl ?_)
    refine L_move (v := .slice (some ⟨b, o, none⟩) (len + m) c) (by simp [Z,E,G,J]) ?_
    refine qag (v := .slice (some ⟨b, o, none⟩) (len + m) c) (by simp [Z,E,G,J]) ?_
    refine L_end ?_
    refine wp_ret (ret_one (t := 6) (v := .slice (some ⟨b, o, none⟩) (len + m) c) rfl (by simp only [qaP]; exact hd) (by simp [Z,E,G,J]) ?_)
    rw [hl1] at wCu
    have uall : Upd (fun b' o' => b' = b ∧ o ≤ o' ∧ o' < o + l.length) w wC := (ud.trans wBu fun _ _ _ h => h).trans wCu fun _ _ _ h => h
    have hpre : ∀ (j : Nat) v, (l.take (ni * 1) ++ us ++ ds)[j]? = some v → (l1.take (ni * 1) ++ us ++ l1.drop (ni * 1 + us.length))[j]? = some v := by
     intro j v hv
     have hA : (l.take (ni * 1)).length = ni * 1 := by simp; omega
     have hB : l1.take (ni * 1) = l.take (ni * 1) := by
      simp only [l1]
      rw [List.append_assoc, List.take_append_of_le_length (by simp; omega), List.take_take, Nat.min_eq_left (by omega)]
     have hC : l1.drop (ni * 1 + us.length) = ds ++ l.drop ((ni + m) * 1 + ds.length) := by
      simp only [l1, hul]
      rw [← hnim, List.append_assoc, List.drop_append_of_le_length (by simp; omega)]
      rw [List.drop_eq_nil_of_le (by simp; omega), List.nil_append]
     rw [hB, hC, ← List.append_assoc, List.getElem?_append_left (List.getElem?_eq_some_iff.1 hv).1]
     exact hv
    obtain ⟨ρ1, i1, t1, q1⟩ := sp.put i hob (w' := wC) (rows' := old.take ni ++ new ++ old.drop ni) (vs := l.take (ni * 1) ++ us ++ ds) uall hwid (by omega) allrel (fun j v hv => wCb j v (hpre j v hv))
    rw [hrl] at q1
    exact ⟨F, ρ1, _, i1, t1, _, q1, rfl, rfl⟩
theorem delete44 : SoundFn PQ 44 (qaT 1 8) := by
 intro args objs R objs' hk w F ρ vs i ha
 unfold qaT at hk
 split at hk <;> try (cases hk; done)
 rename_i id ver sz' lo len i0 j0
 split at hk <;> try (cases hk; done)
 rename_i ob hob
 split at hk <;> try (cases hk; done)
 rename_i hcond
 obtain ⟨hver, hsz', hle, h0, hij, hjl⟩ := hcond
 cases hk
 subst hsz'
 obtain ⟨ni, rfl⟩ := Int.eq_ofNat_of_zero_le h0
 obtain ⟨nj, rfl⟩ := Int.eq_ofNat_of_zero_le (Int.le_trans h0 hij)
 have hij : ni ≤ nj := by omega
 have hjl : nj ≤ len := by omega
 obtain ⟨hsz, hrel⟩ := ha
 obtain ⟨v0, v1, v2, rfl⟩ : ∃ v0 v1 v2, vs = #[v0, v1, v2] := by
  simp at hsz
  exact arr3 hsz
 have r0 := hrel 0 (by simp)
 have r1 := hrel 1 (by simp)
 have r2 := hrel 2 (by simp)
 simp at r0 r1 r2
 obtain rfl := r1.s_inv
 obtain rfl := r2.s_inv
 obtain ⟨a, c, rfl, hlc, hsp⟩ := Span.of i r0 hob hver hle
 have hobsz : ob.sz = 1 := by
  obtain ⟨a2, c2, hh, _, _, _, _, hy⟩ := r0.osl_inv
  rw [((hy ob hob).2 hver.symm).1, (i.obj id ob hob).sz]
 have hu : PQ.underlying 65 = some (.slice 23) := by kernel_rfl
 have hie : PQ.info? 23 = some Go.Proofs.Try.t23 := by kernel_rfl
 have hz2 : (zeroT PQ 23).map List.length = some 1 := by kernel_rfl
 have hz3 := hz2
 rw [Option.map_eq_some_iff] at hz3
 obtain ⟨zz, hzz, hzl⟩ := hz3
 obtain ⟨zv, hzv, hzr, rfl⟩ := qbH hzz w F ρ objs
 have hzs : zv.cells.size = 1 := by simpa using hzl
 generalize hold : (ob.rows.drop lo).take len = old at *
 have holen : old.length = len := by rw [← hold]; simp; omega
 have hrl : (old.take ni ++ old.drop nj).length = len - (nj - ni) := by simp; omega
 simp only [Int.toNat_natCast, show ((nj : Int) - (ni : Int)).toNat = nj - ni by omega]
 rw [← hver]
 obtain ⟨vx, hvx⟩ := qcY (P := PQ) (w := w) (a := a) (n := len) (c := c) (l := ni) (m := nj) (hi := some (.int .i64 nj)) (mx := some (.int .i64 len)) hu hie hij hjl hlc (.inl ⟨rfl, rfl⟩)
 refine qbp (fn := Go.Proofs.Try.f44) (by kernel_rfl) rfl 33 rfl fun a0 Z hd he => ?_
 have E := he 0 (by simp)
 have G := he 1 (by simp)
 have J := he 2 (by simp)
 simp at E G J
 refine wp_seq (qa1 rfl (qag rfl (L_end ?_)))
 refine wp_seq (qa1 rfl ?_)
 refine L_move (v := .slice a len c) (by simp [Z,E,G,J]) ?_
 refine L_move (v := .int .i64 ni) (by simp [Z,E,G,J]) ?_
 refine L_move (v := .int .i64 nj) (by simp [Z,E,G,J]) ?_
 refine L_move (v := .slice a len c) (by simp [Z,E,G,J]) ?_
 refine L_len hu (b := a) (n := len) (c := c) (by simp [Z,E,G,J]) ?_
 refine L_slice (vx := .slice a len c) (vlo := some (.int .i64 ni)) (vhi := some (.int .i64 nj)) (vmx := some (.int .i64 len)) (v := vx) (by simp [Z,E,G,J]) (by simp [Z,E,G,J]) (by simp [Z,E,G,J]) (by simp [Z,E,G,J]) hvx ?_
 refine L_end ?_
 refine wp_seq (wp_seq (qa1 rfl ?_))
 refine L_move (v := .int .i64 ni) (by simp [Z,E,G,J]) ?_
 refine L_move (v := .int .i64 nj) (by simp [Z,E,G,J]) ?_
 refine L_eqInt (m := ni) (n := nj) (by simp [Z,E,G,J]) (by simp [Z,E,G,J]) ?_
 refine L_end ?_
 by_cases hd0 : ni = nj
 · subst hd0
   refine wp_cond_true (by simp [Z,E,G,J]) (wp_seq (qa1 rfl ?_))
   refine L_move (v := .slice a len c) (by simp [Z,E,G,J]) ?_
   refine qag (v := .slice a len c) (by simp [Z,E,G,J]) ?_
   refine L_end ?_
   refine wp_ret (ret_one (t := 6) (v := .slice a len c) rfl (by simp only [qaP]; exact hd) (by simp [Z,E,G,J]) ?_)
   have hsame : old.take ni ++ old.drop ni = old := List.take_append_drop _ _
   rw [hsame, Nat.sub_self, Nat.sub_zero]
   by_cases hc0 : c = 0
   · have hl0 : len = 0 := by omega
     have : old = [] := List.length_eq_zero_iff.1 (by omega)
     subst this; subst hl0; subst hc0
     obtain ⟨ρ1, i1, t1, q1⟩ := i.hollow a hob hobsz
     exact ⟨F, ρ1, _, i1, t1, _, q1, rfl, rfl⟩
   · obtain ⟨b, o, l, rfl, sp⟩ := hsp (by omega)
     obtain ⟨ρ1, i1, t1, q1⟩ := sp.put i hob (w' := w) (rows' := old) (vs := l.take (len * 1)) (.refl _ _) sp.width (by omega) sp.rel (by have := sp.blk.sub 0 (len * 1); simpa using this)
     rw [holen] at q1
     exact ⟨F, ρ1, _, i1, t1, _, q1, rfl, rfl⟩
 · have hd1 : ((ni : Int) == (nj : Int)) = false := by simp; omega
   refine wp_cond_false (by simp [Z,E,G,J, hd1]) (wp_skip ?_)
   obtain ⟨b, o, l, rfl, sp⟩ := hsp (by omega)
   have hll := sp.llen
   have hcl : len * 1 ≤ c * 1 := Nat.mul_le_mul_right _ hlc
   have hjs : nj * 1 ≤ len * 1 := Nat.mul_le_mul_right _ hjl
   have his : ni * 1 ≤ nj * 1 := Nat.mul_le_mul_right _ hij
   have hjd : (len - nj) * 1 = len * 1 - nj * 1 := Nat.sub_mul _ _ _
   refine wp_seq (qa1 rfl ?_)
   refine L_move (v := .slice (some ⟨b, o, none⟩) len c) (by simp [Z,E,G,J]) ?_
   refine L_len hu (b := some ⟨b, o, none⟩) (n := len) (c := c) (by simp [Z,E,G,J]) ?_
   refine qag (v := .int .i64 len) (by simp [Z,E,G,J]) ?_
   refine L_end ?_
   let us : List Value := (l.drop (nj * 1)).take ((len - nj) * 1)
   have hul : us.length = (len - nj) * 1 := by simp only [us, List.length_take, List.length_drop]; omega
   have urel : RelC PQ w F ρ objs us (old.drop nj).flatten := by
    have h1 := sp.rel.sub (nj * 1) ((len - nj) * 1)
    rw [qdR nj _ sp.width]
    have e1 : (old.flatten.drop (nj * 1)).take ((len - nj) * 1) = old.flatten.drop (nj * 1) := List.take_of_length_le (by rw [List.length_drop, qb4 _ sp.width, holen]; omega)
    rw [e1] at h1
    have e2 : ((l.take (len * 1)).drop (nj * 1)).take ((len - nj) * 1) = us := by
     simp only [us]; rw [List.drop_take, List.take_take]; congr 1; omega
    rwa [e2] at h1
   have hfirst : ∃ xa xc, (Instr.sliceAt 65 (.slice (some ⟨b, o, none⟩) len c) (some (.int .i64 nj)) none none).run PQ { w with drawn := w.drawn + 1 } = .ok (.slice xa (len - nj) xc) { w with drawn := w.drawn + 1 } ∧ (∀ w1, (Instr.sliceAt 65 (.slice (some ⟨b, o, none⟩) len c) (some (.int .i64 nj)) none none).run PQ w1 = .ok (.slice xa (len - nj) xc) w1) ∧
    (Builtin.firstCells 1 (len - nj) (.slice xa (len - nj) xc)).run PQ { w with drawn := w.drawn + 1 } = .ok us.toArray { w with drawn := w.drawn + 1 } := by
    by_cases hjc : nj < c
    · exact ⟨some ⟨b, o + nj * 1, none⟩, c - nj, qap hu hie hjl hjc, fun w1 => qap hu hie hjl hjc, Blk.read (w := { w with drawn := w.drawn + 1 }) (l := l) (k := nj * 1) (fun j v hv => sp.blk j v hv) (by omega)⟩
    · have hnc : nj = c := by omega
      have hlc2 : len = c := by omega
      subst hnc; subst hlc2
      refine ⟨_, _, by rw [Nat.sub_self]; exact qbN hu hie, fun w1 => by rw [Nat.sub_self]; exact qbN hu hie, ?_⟩
      have hus : us = [] := List.length_eq_zero_iff.1 (by rw [hul]; simp)
      rw [hus, Nat.sub_self]; exact qjz
   obtain ⟨xa, xc, hx0, hx1, hx2⟩ := hfirst
   obtain ⟨w1r, w1b, w1u, w1t⟩ := Blk.write (P := PQ) (w := { w with drawn := w.drawn + 1 }) (l := l) (us := us) (k := ni * 1) (fun j v hv => sp.blk j v hv) sp.thaw (by rw [hul]; omega) urel.one
   have happ := qft (P := PQ) (w := { w with drawn := w.drawn + 1 }) (t := 65) (u := 65) (ty := 65) (len := ni) (n := len - nj) (c := c) hu hu hie hx2 (by omega) w1r
   generalize hw1 : World.setCells { w with drawn := w.drawn + 1 } b (o + ni * 1) us = w1 at *
   refine wp_seq (wp_region_any (by kernel_rfl) ?_)
   have PS := fun K => (PanicSafe.body (P := PQ) (fn := Go.Proofs.Try.f44) (R := CEnd PQ w F ρ objs (fun a h' => Out.ok (.osl id (ob.ver + 1) 1 0 (len - (nj - ni))) = .ok a ∧ h' = objs.set id (.live ⟨ob.ver + 1, ob.sz, old.take ni ++ old.drop nj⟩)) (fun a h' => Out.ok (.osl id (ob.ver + 1) 1 0 (len - (nj - ni))) = .pan a ∧ h' = objs.set id (.live ⟨ob.ver + 1, ob.sz, old.take ni ++ old.drop nj⟩)))).then (K := K)
   have ud : Upd (fun b' o' => b' = b ∧ o ≤ o' ∧ o' < o + l.length) w { w with drawn := w.drawn + 1 } := qbV _ w
   generalize hw0 : ({ w with drawn := w.drawn + 1 } : World) = w0 at *
   refine A_take (i := 0) (v := .slice (some ⟨b, o, none⟩) len c) (PS _) rfl (by kernel_rfl) (by kernel_rfl) (by kernel_rfl) rfl (fun w' => by simp [execOp,Z,E,G,J]) ?_
   refine A_take (i := 1) (v := .int .i64 ni) (PS _) rfl (by kernel_rfl) (by kernel_rfl) (by kernel_rfl) rfl (fun w' => by simp [execOp,Z,E,G,J]) ?_
   refine A_take (i := 2) (v := .slice (some ⟨b, o, none⟩) ni c) (PS _) rfl (by kernel_rfl) (by kernel_rfl) (by kernel_rfl) rfl (fun w' => by simp [execOp,Z,E,G,J, qbz (P := PQ) (w := w') (b := b) (o := o) (n := len) (c := c) (m := ni) hu hie (by omega) (by omega)]) ?_
   refine A_take (i := 3) (v := .slice (some ⟨b, o, none⟩) len c) (PS _) rfl (by kernel_rfl) (by kernel_rfl) (by kernel_rfl) rfl (fun w' => by simp [execOp,Z,E,G,J]) ?_
   refine A_take (i := 4) (v := .int .i64 nj) (PS _) rfl (by kernel_rfl) (by kernel_rfl) (by kernel_rfl) rfl (fun w' => by simp [execOp,Z,E,G,J]) ?_
   refine A_take (i := 5) (v := .slice xa (len - nj) xc) (PS _) rfl (by kernel_rfl) (by kernel_rfl) (by kernel_rfl) rfl (fun w' => by simp [execOp,Z,E,G,J, hx1]) ?_
   refine A_only (i := 6) (v := .slice (some ⟨b, o, none⟩) (ni + (len - nj)) c) (w' := w1) rfl (by kernel_rfl) rfl (by simp [execOp,Z,E,G,J, resolve, invoke, builtin, happ, -Nat.mul_one]) ?_
   refine A_only (i := 7) (v := .slice (some ⟨b, o, none⟩) (ni + (len - nj)) c) (w' := w1) rfl (by kernel_rfl) rfl (by simp [execOp,Z,E,G,J]) ?_
   refine wpAny_done (by kernel_rfl) ?_ _
   have hlen' : ni + (len - nj) < len := by omega
   let l1 : List Value := l.take (ni * 1) ++ us ++ l.drop (ni * 1 + us.length)
   have hl1 : l1.length = c * 1 := by simp only [l1, List.length_append, List.length_take, List.length_drop, hul, hll]; omega
   let zs : List Value := (Builtin.zeroCells zv.cells (len - (ni + (len - nj)))).toList
   have hzl2 : zs.length = (len - (ni + (len - nj))) * 1 := by simp [zs, qbk, hzs]
   have hkz : (ni + (len - nj)) * 1 + zs.length = len * 1 := by rw [hzl2, ← Nat.add_mul]; congr 1; omega
   have hzone : ∀ v ∈ zs, v.oneCell' = true := by
    intro v hv
    simp only [zs, Builtin.zeroCells, Array.toList_map, List.mem_map, Array.toList_range] at hv
    obtain ⟨m, _, rfl⟩ := hv
    have hlt : m % zv.cells.size < zv.cells.size := Nat.mod_lt _ (by omega)
    rw [qi2 _ _ hlt, qgw]
    exact (hzr.get (m % zv.cells.size) (by simpa using hlt) (by simpa using hlt)).1
   obtain ⟨w2r, w2b, w2u, w2t⟩ := Blk.write (P := PQ) (w := w1) (l := l1) (us := zs) (k := (ni + (len - nj)) * 1) w1b w1t (by omega) hzone
   have hclr := qg2 (P := PQ) (w := w1) (t := 65) (ty := 0) (n := len - (ni + (len - nj))) (c := c - (ni + (len - nj))) hu (hzv w1) (by omega) w2r
   generalize hw2 : World.setCells w1 b (o + (ni + (len - nj)) * 1) zs = w2 at *
   refine wp_seq (qa1 rfl ?_)
   refine L_move (v := .slice (some ⟨b, o, none⟩) (ni + (len - nj)) c) (by simp [Z,E,G,J]) ?_
   refine L_move (v := .slice (some ⟨b, o, none⟩) (ni + (len - nj)) c) (by simp [Z,E,G,J]) ?_
   refine L_len hu (b := some ⟨b, o, none⟩) (n := ni + (len - nj)) (c := c) (by simp [Z,E,G,J]) ?_
   refine L_move (v := .int .i64 len) (by simp [Z,E,G,J]) ?_
   refine L_slice (vx := .slice (some ⟨b, o, none⟩) (ni + (len - nj)) c) (vlo := some (.int .i64 ((ni + (len - nj) : Nat) : Int))) (vhi := some (.int .i64 len)) (vmx := none) (v := .slice (some ⟨b, o + (ni + (len - nj)) * 1, none⟩) (len - (ni + (len - nj))) (c - (ni + (len - nj)))) (by simp [Z,E,G,J]) (by simp [Z,E,G,J]) (by simp [Z,E,G,J]) (by simp [Z,E,G,J])
    (qfX hu hie (by omega) (by omega) (by omega)) ?_
   refine L_clear (vx := .slice (some ⟨b, o + (ni + (len - nj)) * 1, none⟩) (len - (ni + (len - nj))) (c - (ni + (len - nj)))) (v := .tuple #[]) (w' := w2) (by simp [Z,E,G,J]) hclr ?_
   refine L_end ?_
   refine wp_seq (qa1 rfl ?_)
   refine L_move (v := .slice (some ⟨b, o, none⟩) (ni + (len - nj)) c) (by simp [Z,E,G,J]) ?_
   refine qag (v := .slice (some ⟨b, o, none⟩) (ni + (len - nj)) c) (by simp [Z,E,G,J]) ?_
   refine L_end ?_
   refine wp_ret (ret_one (t := 6) (v := .slice (some ⟨b, o, none⟩) (ni + (len - nj)) c) rfl (by simp only [qaP]; exact hd) (by simp [Z,E,G,J]) ?_)
   have hni : (ni + (len - nj)) * 1 = ni * 1 + us.length := by rw [hul, Nat.add_mul]
   have hul2 : l1.length = l.length := by rw [hl1, hll]
   rw [hul2] at w2u
   have uall := (ud.trans w1u fun _ _ _ h => h).trans w2u fun _ _ _ h => h
   have hwid : ∀ row ∈ old.take ni ++ old.drop nj, row.length = 1 := fun row hr => by
    rcases List.mem_append.1 hr with hr | hr
    · exact sp.width _ (List.mem_of_mem_take hr)
    · exact sp.width _ (List.mem_of_mem_drop hr)
   have hrelAll : RelC PQ w F ρ objs (l.take (ni * 1) ++ us) (old.take ni ++ old.drop nj).flatten := by
    rw [List.flatten_append]
    refine RelC.append ?_ urel
    rw [qdg ni _ sp.width]
    have h1 := sp.rel.sub 0 (ni * 1)
    simp only [List.drop_zero] at h1
    rwa [List.take_take, Nat.min_eq_left (by omega)] at h1
   have hblkF : Blk w2 b o (l.take (ni * 1) ++ us) := by
    intro j v hv
    have hj := (List.getElem?_eq_some_iff.1 hv).1
    simp only [List.length_append, List.length_take] at hj
    refine w2b j v ?_
    rw [List.append_assoc, List.getElem?_append_left (by simp only [List.length_take, hl1]; omega), List.getElem?_take, if_pos (by omega)]
    simp only [l1]
    rw [List.getElem?_append_left (by simp only [List.length_append, List.length_take]; omega)]
    exact hv
   obtain ⟨ρ1, i1, t1, q1⟩ := sp.put i hob (w' := w2) (rows' := old.take ni ++ old.drop nj) (vs := l.take (ni * 1) ++ us) uall hwid (by omega) hrelAll hblkF
   rw [hrl, show len - (nj - ni) = ni + (len - nj) by omega] at q1
   rw [show len - (nj - ni) = ni + (len - nj) by omega]
   exact ⟨F, ρ1, _, i1, t1, _, q1, rfl, rfl⟩
theorem delete45 : SoundFn PQ 45 (qaT 2 16) := by
 intro args objs R objs' hk w F ρ vs i ha
 unfold qaT at hk
 split at hk <;> try (cases hk; done)
 rename_i id ver sz' lo len i0 j0
 split at hk <;> try (cases hk; done)
 rename_i ob hob
 split at hk <;> try (cases hk; done)
 rename_i hcond
 obtain ⟨hver, hsz', hle, h0, hij, hjl⟩ := hcond
 cases hk
 subst hsz'
 obtain ⟨ni, rfl⟩ := Int.eq_ofNat_of_zero_le h0
 obtain ⟨nj, rfl⟩ := Int.eq_ofNat_of_zero_le (Int.le_trans h0 hij)
 have hij : ni ≤ nj := by omega
 have hjl : nj ≤ len := by omega
 obtain ⟨hsz, hrel⟩ := ha
 obtain ⟨v0, v1, v2, rfl⟩ : ∃ v0 v1 v2, vs = #[v0, v1, v2] := by
  simp at hsz
  exact arr3 hsz
 have r0 := hrel 0 (by simp)
 have r1 := hrel 1 (by simp)
 have r2 := hrel 2 (by simp)
 simp at r0 r1 r2
 obtain rfl := r1.s_inv
 obtain rfl := r2.s_inv
 obtain ⟨a, c, rfl, hlc, hsp⟩ := Span.of i r0 hob hver hle
 have hobsz : ob.sz = 2 := by
  obtain ⟨a2, c2, hh, _, _, _, _, hy⟩ := r0.osl_inv
  rw [((hy ob hob).2 hver.symm).1, (i.obj id ob hob).sz]
 have hu : PQ.underlying 66 = some (.slice 34) := by kernel_rfl
 have hie : PQ.info? 34 = some Go.Proofs.Try.t34 := by kernel_rfl
 have hz2 : (zeroT PQ 34).map List.length = some 2 := by kernel_rfl
 have hz3 := hz2
 rw [Option.map_eq_some_iff] at hz3
 obtain ⟨zz, hzz, hzl⟩ := hz3
 obtain ⟨zv, hzv, hzr, rfl⟩ := qbH hzz w F ρ objs
 have hzs : zv.cells.size = 2 := by simpa using hzl
 generalize hold : (ob.rows.drop lo).take len = old at *
 have holen : old.length = len := by rw [← hold]; simp; omega
 have hrl : (old.take ni ++ old.drop nj).length = len - (nj - ni) := by simp; omega
 simp only [Int.toNat_natCast, show ((nj : Int) - (ni : Int)).toNat = nj - ni by omega]
 rw [← hver]
 obtain ⟨vx, hvx⟩ := qcY (P := PQ) (w := w) (a := a) (n := len) (c := c) (l := ni) (m := nj) (hi := some (.int .i64 nj)) (mx := some (.int .i64 len)) hu hie hij hjl hlc (.inl ⟨rfl, rfl⟩)
 refine qbp (fn := Go.Proofs.Try.f45) (by kernel_rfl) rfl 33 rfl fun a0 Z hd he => ?_
 have E := he 0 (by simp)
 have G := he 1 (by simp)
 have J := he 2 (by simp)
 simp at E G J
 refine wp_seq (qa1 rfl (qag rfl (L_end ?_)))
 refine wp_seq (qa1 rfl ?_)
 refine L_move (v := .slice a len c) (by simp [Z,E,G,J]) ?_
 refine L_move (v := .int .i64 ni) (by simp [Z,E,G,J]) ?_
 refine L_move (v := .int .i64 nj) (by simp [Z,E,G,J]) ?_
 refine L_move (v := .slice a len c) (by simp [Z,E,G,J]) ?_
 refine L_len hu (b := a) (n := len) (c := c) (by simp [Z,E,G,J]) ?_
 refine L_slice (vx := .slice a len c) (vlo := some (.int .i64 ni)) (vhi := some (.int .i64 nj)) (vmx := some (.int .i64 len)) (v := vx) (by simp [Z,E,G,J]) (by simp [Z,E,G,J]) (by simp [Z,E,G,J]) (by simp [Z,E,G,J]) hvx ?_
 refine L_end ?_
 refine wp_seq (wp_seq (qa1 rfl ?_))
 refine L_move (v := .int .i64 ni) (by simp [Z,E,G,J]) ?_
 refine L_move (v := .int .i64 nj) (by simp [Z,E,G,J]) ?_
 refine L_eqInt (m := ni) (n := nj) (by simp [Z,E,G,J]) (by simp [Z,E,G,J]) ?_
 refine L_end ?_
 by_cases hd0 : ni = nj
 · subst hd0
   refine wp_cond_true (by simp [Z,E,G,J]) (wp_seq (qa1 rfl ?_))
   refine L_move (v := .slice a len c) (by simp [Z,E,G,J]) ?_
   refine qag (v := .slice a len c) (by simp [Z,E,G,J]) ?_
   refine L_end ?_
   refine wp_ret (ret_one (t := 6) (v := .slice a len c) rfl (by simp only [qaP]; exact hd) (by simp [Z,E,G,J]) ?_)
   have hsame : old.take ni ++ old.drop ni = old := List.take_append_drop _ _
   rw [hsame, Nat.sub_self, Nat.sub_zero]
   by_cases hc0 : c = 0
   · have hl0 : len = 0 := by omega
     have : old = [] := List.length_eq_zero_iff.1 (by omega)
     subst this; subst hl0; subst hc0
     obtain ⟨ρ1, i1, t1, q1⟩ := i.hollow a hob hobsz
     exact ⟨F, ρ1, _, i1, t1, _, q1, rfl, rfl⟩
   · obtain ⟨b, o, l, rfl, sp⟩ := hsp (by omega)
     obtain ⟨ρ1, i1, t1, q1⟩ := sp.put i hob (w' := w) (rows' := old) (vs := l.take (len * 2)) (.refl _ _) sp.width (by omega) sp.rel (by have := sp.blk.sub 0 (len * 2); simpa using this)
     rw [holen] at q1
     exact ⟨F, ρ1, _, i1, t1, _, q1, rfl, rfl⟩
 · have hd1 : ((ni : Int) == (nj : Int)) = false := by simp; omega
   refine wp_cond_false (by simp [Z,E,G,J, hd1]) (wp_skip ?_)
   obtain ⟨b, o, l, rfl, sp⟩ := hsp (by omega)
   have hll := sp.llen
   have hcl : len * 2 ≤ c * 2 := Nat.mul_le_mul_right _ hlc
   have hjs : nj * 2 ≤ len * 2 := Nat.mul_le_mul_right _ hjl
   have his : ni * 2 ≤ nj * 2 := Nat.mul_le_mul_right _ hij
   have hjd : (len - nj) * 2 = len * 2 - nj * 2 := Nat.sub_mul _ _ _
   refine wp_seq (qa1 rfl ?_)
   refine L_move (v := .slice (some ⟨b, o, none⟩) len c) (by simp [Z,E,G,J]) ?_
   refine L_len hu (b := some ⟨b, o, none⟩) (n := len) (c := c) (by simp [Z,E,G,J]) ?_
   refine qag (v := .int .i64 len) (by simp [Z,E,G,J]) ?_
   refine L_end ?_
   let us : List Value := (l.drop (nj * 2)).take ((len - nj) * 2)
   have hul : us.length = (len - nj) * 2 := by simp only [us, List.length_take, List.length_drop]; omega
   have urel : RelC PQ w F ρ objs us (old.drop nj).flatten := by
    have h1 := sp.rel.sub (nj * 2) ((len - nj) * 2)
    rw [qdR nj _ sp.width]
    have e1 : (old.flatten.drop (nj * 2)).take ((len - nj) * 2) = old.flatten.drop (nj * 2) := List.take_of_length_le (by rw [List.length_drop, qb4 _ sp.width, holen]; omega)
    rw [e1] at h1
    have e2 : ((l.take (len * 2)).drop (nj * 2)).take ((len - nj) * 2) = us := by
     simp only [us]; rw [List.drop_take, List.take_take]; congr 1; omega
    rwa [e2] at h1
   have hfirst : ∃ xa xc, (Instr.sliceAt 66 (.slice (some ⟨b, o, none⟩) len c) (some (.int .i64 nj)) none none).run PQ { w with drawn := w.drawn + 1 } = .ok (.slice xa (len - nj) xc) { w with drawn := w.drawn + 1 } ∧ (∀ w1, (Instr.sliceAt 66 (.slice (some ⟨b, o, none⟩) len c) (some (.int .i64 nj)) none none).run PQ w1 = .ok (.slice xa (len - nj) xc) w1) ∧
    (Builtin.firstCells 2 (len - nj) (.slice xa (len - nj) xc)).run PQ { w with drawn := w.drawn + 1 } = .ok us.toArray { w with drawn := w.drawn + 1 } := by
    by_cases hjc : nj < c
    · exact ⟨some ⟨b, o + nj * 2, none⟩, c - nj, qap hu hie hjl hjc, fun w1 => qap hu hie hjl hjc, Blk.read (w := { w with drawn := w.drawn + 1 }) (l := l) (k := nj * 2) (fun j v hv => sp.blk j v hv) (by omega)⟩
    · have hnc : nj = c := by omega
      have hlc2 : len = c := by omega
      subst hnc; subst hlc2
      refine ⟨_, _, by rw [Nat.sub_self]; exact qbN hu hie, fun w1 => by rw [Nat.sub_self]; exact qbN hu hie, ?_⟩
      have hus : us = [] := List.length_eq_zero_iff.1 (by rw [hul]; simp)
      rw [hus, Nat.sub_self]; exact qjz
   obtain ⟨xa, xc, hx0, hx1, hx2⟩ := hfirst
   obtain ⟨w1r, w1b, w1u, w1t⟩ := Blk.write (P := PQ) (w := { w with drawn := w.drawn + 1 }) (l := l) (us := us) (k := ni * 2) (fun j v hv => sp.blk j v hv) sp.thaw (by rw [hul]; omega) urel.one
   have happ := qft (P := PQ) (w := { w with drawn := w.drawn + 1 }) (t := 66) (u := 66) (ty := 66) (len := ni) (n := len - nj) (c := c) hu hu hie hx2 (by omega) w1r
   generalize hw1 : World.setCells { w with drawn := w.drawn + 1 } b (o + ni * 2) us = w1 at *
   refine wp_seq (wp_region_any (by kernel_rfl) ?_)
   have PS := fun K => (PanicSafe.body (P := PQ) (fn := Go.Proofs.Try.f45) (R := CEnd PQ w F ρ objs (fun a h' => Out.ok (.osl id (ob.ver + 1) 2 0 (len - (nj - ni))) = .ok a ∧ h' = objs.set id (.live ⟨ob.ver + 1, ob.sz, old.take ni ++ old.drop nj⟩)) (fun a h' => Out.ok (.osl id (ob.ver + 1) 2 0 (len - (nj - ni))) = .pan a ∧ h' = objs.set id (.live ⟨ob.ver + 1, ob.sz, old.take ni ++ old.drop nj⟩)))).then (K := K)
   have ud : Upd (fun b' o' => b' = b ∧ o ≤ o' ∧ o' < o + l.length) w { w with drawn := w.drawn + 1 } := qbV _ w
   generalize hw0 : ({ w with drawn := w.drawn + 1 } : World) = w0 at *
   refine A_take (i := 0) (v := .slice (some ⟨b, o, none⟩) len c) (PS _) rfl (by kernel_rfl) (by kernel_rfl) (by kernel_rfl) rfl (fun w' => by simp [execOp,Z,E,G,J]) ?_
   refine A_take (i := 1) (v := .int .i64 ni) (PS _) rfl (by kernel_rfl) (by kernel_rfl) (by kernel_rfl) rfl (fun w' => by simp [execOp,Z,E,G,J]) ?_
   refine A_take (i := 2) (v := .slice (some ⟨b, o, none⟩) ni c) (PS _) rfl (by kernel_rfl) (by kernel_rfl) (by kernel_rfl) rfl (fun w' => by simp [execOp,Z,E,G,J, qbz (P := PQ) (w := w') (b := b) (o := o) (n := len) (c := c) (m := ni) hu hie (by omega) (by omega)]) ?_
   refine A_take (i := 3) (v := .slice (some ⟨b, o, none⟩) len c) (PS _) rfl (by kernel_rfl) (by kernel_rfl) (by kernel_rfl) rfl (fun w' => by simp [execOp,Z,E,G,J]) ?_
   refine A_take (i := 4) (v := .int .i64 nj) (PS _) rfl (by kernel_rfl) (by kernel_rfl) (by kernel_rfl) rfl (fun w' => by simp [execOp,Z,E,G,J]) ?_
   refine A_take (i := 5) (v := .slice xa (len - nj) xc) (PS _) rfl (by kernel_rfl) (by kernel_rfl) (by kernel_rfl) rfl (fun w' => by simp [execOp,Z,E,G,J, hx1]) ?_
   refine A_only (i := 6) (v := .slice (some ⟨b, o, none⟩) (ni + (len - nj)) c) (w' := w1) rfl (by kernel_rfl) rfl (by simp [execOp,Z,E,G,J, resolve, invoke, builtin, happ, -Nat.mul_one]) ?_
   refine A_only (i := 7) (v := .slice (some ⟨b, o, none⟩) (ni + (len - nj)) c) (w' := w1) rfl (by kernel_rfl) rfl (by simp [execOp,Z,E,G,J]) ?_
   refine wpAny_done (by kernel_rfl) ?_ _
   have hlen' : ni + (len - nj) < len := by omega
   let l1 : List Value := l.take (ni * 2) ++ us ++ l.drop (ni * 2 + us.length)
   have hl1 : l1.length = c * 2 := by simp only [l1, List.length_append, List.length_take, List.length_drop, hul, hll]; omega
   let zs : List Value := (Builtin.zeroCells zv.cells (len - (ni + (len - nj)))).toList
   have hzl2 : zs.length = (len - (ni + (len - nj))) * 2 := by simp [zs, qbk, hzs]
   have hkz : (ni + (len - nj)) * 2 + zs.length = len * 2 := by rw [hzl2, ← Nat.add_mul]; congr 1; omega
   have hzone : ∀ v ∈ zs, v.oneCell' = true := by
    intro v hv
    simp only [zs, Builtin.zeroCells, Array.toList_map, List.mem_map, Array.toList_range] at hv
    obtain ⟨m, _, rfl⟩ := hv
    have hlt : m % zv.cells.size < zv.cells.size := Nat.mod_lt _ (by omega)
    rw [qi2 _ _ hlt, qgw]
    exact (hzr.get (m % zv.cells.size) (by simpa using hlt) (by simpa using hlt)).1
   obtain ⟨w2r, w2b, w2u, w2t⟩ := Blk.write (P := PQ) (w := w1) (l := l1) (us := zs) (k := (ni + (len - nj)) * 2) w1b w1t (by omega) hzone
   have hclr := qg2 (P := PQ) (w := w1) (t := 66) (ty := 0) (n := len - (ni + (len - nj))) (c := c - (ni + (len - nj))) hu (hzv w1) (by omega) w2r
   generalize hw2 : World.setCells w1 b (o + (ni + (len - nj)) * 2) zs = w2 at *
   refine wp_seq (qa1 rfl ?_)
   refine L_move (v := .slice (some ⟨b, o, none⟩) (ni + (len - nj)) c) (by simp [Z,E,G,J]) ?_
   refine L_move (v := .slice (some ⟨b, o, none⟩) (ni + (len - nj)) c) (by simp [Z,E,G,J]) ?_
   refine L_len hu (b := some ⟨b, o, none⟩) (n := ni + (len - nj)) (c := c) (by simp [Z,E,G,J]) ?_
   refine L_move (v := .int .i64 len) (by simp [Z,E,G,J]) ?_
   refine L_slice (vx := .slice (some ⟨b, o, none⟩) (ni + (len - nj)) c) (vlo := some (.int .i64 ((ni + (len - nj) : Nat) : Int))) (vhi := some (.int .i64 len)) (vmx := none) (v := .slice (some ⟨b, o + (ni + (len - nj)) * 2, none⟩) (len - (ni + (len - nj))) (c - (ni + (len - nj)))) (by simp [Z,E,G,J]) (by simp [Z,E,G,J]) (by simp [Z,E,G,J]) (by simp [Z,E,G,J])
    (qfX hu hie (by omega) (by omega) (by omega)) ?_
   refine L_clear (vx := .slice (some ⟨b, o + (ni + (len - nj)) * 2, none⟩) (len - (ni + (len - nj))) (c - (ni + (len - nj)))) (v := .tuple #[]) (w' := w2) (by simp [Z,E,G,J]) hclr ?_
   refine L_end ?_
   refine wp_seq (qa1 rfl ?_)
   refine L_move (v := .slice (some ⟨b, o, none⟩) (ni + (len - nj)) c) (by simp [Z,E,G,J]) ?_
   refine qag (v := .slice (some ⟨b, o, none⟩) (ni + (len - nj)) c) (by simp [Z,E,G,J]) ?_
   refine L_end ?_
   refine wp_ret (ret_one (t := 6) (v := .slice (some ⟨b, o, none⟩) (ni + (len - nj)) c) rfl (by simp only [qaP]; exact hd) (by simp [Z,E,G,J]) ?_)
   have hni : (ni + (len - nj)) * 2 = ni * 2 + us.length := by rw [hul, Nat.add_mul]
   have hul2 : l1.length = l.length := by rw [hl1, hll]
   rw [hul2] at w2u
   have uall := (ud.trans w1u fun _ _ _ h => h).trans w2u fun _ _ _ h => h
   have hwid : ∀ row ∈ old.take ni ++ old.drop nj, row.length = 2 := fun row hr => by
    rcases List.mem_append.1 hr with hr | hr
    · exact sp.width _ (List.mem_of_mem_take hr)
    · exact sp.width _ (List.mem_of_mem_drop hr)
   have hrelAll : RelC PQ w F ρ objs (l.take (ni * 2) ++ us) (old.take ni ++ old.drop nj).flatten := by
    rw [List.flatten_append]
    refine RelC.append ?_ urel
    rw [qdg ni _ sp.width]
    have h1 := sp.rel.sub 0 (ni * 2)
    simp only [List.drop_zero] at h1
    rwa [List.take_take, Nat.min_eq_left (by omega)] at h1
   have hblkF : Blk w2 b o (l.take (ni * 2) ++ us) := by
    intro j v hv
    have hj := (List.getElem?_eq_some_iff.1 hv).1
    simp only [List.length_append, List.length_take] at hj
    refine w2b j v ?_
    rw [List.append_assoc, List.getElem?_append_left (by simp only [List.length_take, hl1]; omega), List.getElem?_take, if_pos (by omega)]
    simp only [l1]
    rw [List.getElem?_append_left (by simp only [List.length_append, List.length_take]; omega)]
    exact hv
   obtain ⟨ρ1, i1, t1, q1⟩ := sp.put i hob (w' := w2) (rows' := old.take ni ++ old.drop nj) (vs := l.take (ni * 2) ++ us) uall hwid (by omega) hrelAll hblkF
   rw [hrl, show len - (nj - ni) = ni + (len - nj) by omega] at q1
   rw [show len - (nj - ni) = ni + (len - nj) by omega]
   exact ⟨F, ρ1, _, i1, t1, _, q1, rfl, rfl⟩
theorem grow67 : SoundFn PQ 67 (qbW 2 16) := by
 intro args objs R objs' hk w F ρ vs i ha
 unfold qbW at hk
 split at hk <;> try (cases hk; done)
 rename_i n0
 split at hk <;> try (cases hk; done)
 rename_i hcond
 obtain ⟨h0, hok, hpos⟩ := hcond
 obtain ⟨n, rfl⟩ := Int.eq_ofNat_of_zero_le h0
 rw [Int.toNat_natCast] at hok
 obtain ⟨hsz, hrel⟩ := ha
 obtain ⟨v0, v1, rfl⟩ : ∃ v0 v1, vs = #[v0, v1] := by
  simp at hsz
  exact arr2 hsz
 have r0 := hrel 0 (by simp)
 have r1 := hrel 1 (by simp)
 simp at r0 r1
 obtain rfl := r0.s_inv
 obtain rfl := r1.s_inv
 have hui : PQ.underlying 3 = some (.int .i64) := by kernel_rfl
 have hu : PQ.underlying 66 = some (.slice 34) := by kernel_rfl
 have hie : PQ.info? 34 = some Go.Proofs.Try.t34 := by kernel_rfl
 have hz2 : (zeroT PQ 34).map List.length = some 2 := by kernel_rfl
 have hz3 := hz2
 rw [Option.map_eq_some_iff] at hz3
 obtain ⟨zz, hzz, hzl⟩ := hz3
 obtain ⟨zv, hzv, hzr, rfl⟩ := qbH hzz w F ρ objs
 have hzs : zv.cells.size = 2 := by simpa using hzl
 have hn62 : n < 4611686018427387904 := by
  obtain ⟨_, h2⟩ := hok
  have : (2:Nat)^62 = 4611686018427387904 := by decide
  omega
 have hwr : ∀ x : Int, 0 ≤ x → x < 9223372036854775808 → IntKind.i64.wrap x = x := fun x h1 h2 => by
  have key : IntKind.i64.wrap x = (let m := x % 18446744073709551616; if m ≥ 9223372036854775808 then m - 18446744073709551616 else m) := by
   simp [IntKind.wrap, IntKind.bits, IntKind.signed]
  rw [key]
  have : x % 18446744073709551616 = x := by omega
  simp only [this]; rw [if_neg (by omega)]
 refine qbp (fn := Go.Proofs.Try.f67) (by kernel_rfl) rfl 27 rfl fun a0 Z hd he => ?_
 have E := he 0 (by simp)
 have G := he 1 (by simp)
 simp at E G
 refine wp_seq (qa1 rfl (qag rfl (L_end ?_)))
 refine wp_seq (wp_seq (qa1 rfl ?_))
 refine L_move (v := .int .i64 n) (by simp [Z,E,G]) ?_
 refine qnx (m := n) (n := 0) (by simp [Z,E,G]) rfl ?_
 refine L_end ?_
 have hd1 : decide ((n : Int) < 0) = false := decide_eq_false (by omega)
 refine wp_cond_false (by simp only [hd1]; simp [Z,E,G]) (wp_skip ?_)
 refine wp_seq (wp_seq (qa1 rfl ?_))
 refine L_move (v := .int .i64 n) (by simp [Z,E,G]) ?_
 refine L_move (v := .slice none 0 0) (by simp [Z,E,G]) ?_
 refine L_cap hu (b := none) (n := 0) (c := 0) (by simp [Z,E,G]) ?_
 refine L_move (v := .slice none 0 0) (by simp [Z,E,G]) ?_
 refine L_len hu (b := none) (n := 0) (c := 0) (by simp [Z,E,G]) ?_
 refine L_sub (m := 0) (n := 0) (by simp [Z,E,G]) (by simp [Z,E,G]) (hwr _ (by omega) (by omega)) ?_
 refine L_sub (m := n) (n := 0) (by simp [Z,E,G]) (by simp [Z,E,G]) (hwr _ (by omega) (by omega)) ?_
 refine qag (v := .int .i64 n) (by simp [Z,E,G]) ?_
 refine L_end ?_
 refine wp_seq (qa1 rfl ?_)
 refine L_move (v := .int .i64 n) (by simp [Z,E,G]) ?_
 refine L_gtInt (m := n) (n := 0) (by simp [Z,E,G]) rfl ?_
 refine L_end ?_
 by_cases hn0 : n = 0
 · subst hn0
   refine wp_cond_false (by simp [Z,E,G]) (wp_skip ?_)
   rw [if_pos (by omega)] at hk
   cases hk
   refine wp_seq (qa1 rfl ?_)
   refine L_move (v := .slice none 0 0) (by simp [Z,E,G]) ?_
   refine qag (v := .slice none 0 0) (by simp [Z,E,G]) ?_
   refine L_end ?_
   refine wp_ret (ret_one (t := 4) (v := .slice none 0 0) rfl (by simp only [qaP]; exact hd) (by simp [Z,E,G]) ?_)
   exact ⟨F, ρ, _, i, .refl _ _ _ _, _, r0, rfl, rfl⟩
 · have hd2 : decide ((0 : Int) < (n : Int)) = true := decide_eq_true (by omega)
   rw [if_neg (by omega)] at hk
   cases hk
   obtain ⟨nc, hnc, happ⟩ := qcI (P := PQ) (w := w) (t := 66) (u := 3) (ty := 66) (a := none) (len := 0) (cap := 0) (n := n) (vs := []) hu hui hie hzv (by decide) (by omega) (by rw [Nat.zero_add]; exact hok) (by omega) (by decide) (fun d => by simp [Builtin.firstCells])
   simp only [Nat.zero_add] at happ hnc
   obtain ⟨ρ1, i1, t1, q1⟩ := i.room (sz := 2) (nc := nc) (e := 34) (vs := ([] : List Value).toArray ++ Builtin.zeroCells zv.cells n ++ Builtin.zeroCells zv.cells (nc - n)) (by decide) (by simp [qbk, hzs]; omega)
   generalize hwA : ({ w with drawn := w.drawn + 1, heap := w.heap.push (.cells (([] : List Value).toArray ++ Builtin.zeroCells zv.cells n ++ Builtin.zeroCells zv.cells (nc - n)) 34) } : World) = wA at *
   refine wp_cond_true (by simp [Z,E,G]; omega) (qa1 rfl ?_)
   refine L_move (v := .slice none 0 0) (by simp [Z,E,G]) ?_
   refine L_move (v := .slice none 0 0) (by simp [Z,E,G]) ?_
   refine L_cap hu (b := none) (n := 0) (c := 0) (by simp [Z,E,G]) ?_
   refine L_slice (vx := .slice none 0 0) (vlo := none) (vhi := some (.int .i64 0)) (vmx := none) (v := .slice none 0 0) (by simp [Z,E,G]) (by simp [Z,E,G]) (by simp [Z,E,G]) (by simp [Z,E,G]) (qho hu hie) ?_
   refine L_move (v := .int .i64 n) (by simp [Z,E,G]) ?_
   refine qdU (vx := .slice none 0 0) (vy := .int .i64 n) (v := .slice (some ⟨w.heap.size, 0, none⟩) n nc) (w' := wA) (by simp [Z,E,G]) (by simp [Z,E,G]) happ ?_
   refine L_move (v := .slice none 0 0) (by simp [Z,E,G]) ?_
   refine L_len hu (b := none) (n := 0) (c := 0) (by simp [Z,E,G]) ?_
   refine L_slice (vx := .slice (some ⟨w.heap.size, 0, none⟩) n nc) (vlo := none) (vhi := some (.int .i64 0)) (vmx := none) (v := .slice (some ⟨w.heap.size, 0, none⟩) 0 nc) (by simp [Z,E,G]) (by simp [Z,E,G]) (by simp [Z,E,G]) (by simp [Z,E,G]) (qbz (m := 0) hu hie (by omega) (by omega)) ?_
   refine qag (v := .slice (some ⟨w.heap.size, 0, none⟩) 0 nc) (by simp [Z,E,G]) ?_
   refine L_end ?_
   refine wp_seq (qa1 rfl ?_)
   refine L_move (v := .slice (some ⟨w.heap.size, 0, none⟩) 0 nc) (by simp [Z,E,G]) ?_
   refine qag (v := .slice (some ⟨w.heap.size, 0, none⟩) 0 nc) (by simp [Z,E,G]) ?_
   refine L_end ?_
   refine wp_ret (ret_one (t := 4) (v := .slice (some ⟨w.heap.size, 0, none⟩) 0 nc) rfl (by simp only [qaP]; exact hd) (by simp [Z,E,G]) ?_)
   exact ⟨F, ρ1, _, i1, t1, _, q1, rfl, rfl⟩
theorem grow68 : SoundFn PQ 68 (qbW 1 8) := by
 intro args objs R objs' hk w F ρ vs i ha
 unfold qbW at hk
 split at hk <;> try (cases hk; done)
 rename_i n0
 split at hk <;> try (cases hk; done)
 rename_i hcond
 obtain ⟨h0, hok, hpos⟩ := hcond
 obtain ⟨n, rfl⟩ := Int.eq_ofNat_of_zero_le h0
 rw [Int.toNat_natCast] at hok
 obtain ⟨hsz, hrel⟩ := ha
 obtain ⟨v0, v1, rfl⟩ : ∃ v0 v1, vs = #[v0, v1] := by
  simp at hsz
  exact arr2 hsz
 have r0 := hrel 0 (by simp)
 have r1 := hrel 1 (by simp)
 simp at r0 r1
 obtain rfl := r0.s_inv
 obtain rfl := r1.s_inv
 have hui : PQ.underlying 3 = some (.int .i64) := by kernel_rfl
 have hu : PQ.underlying 67 = some (.slice 60) := by kernel_rfl
 have hie : PQ.info? 60 = some Go.Proofs.Try.t60 := by kernel_rfl
 have hz2 : (zeroT PQ 60).map List.length = some 1 := by kernel_rfl
 have hz3 := hz2
 rw [Option.map_eq_some_iff] at hz3
 obtain ⟨zz, hzz, hzl⟩ := hz3
 obtain ⟨zv, hzv, hzr, rfl⟩ := qbH hzz w F ρ objs
 have hzs : zv.cells.size = 1 := by simpa using hzl
 have hn62 : n < 4611686018427387904 := by
  obtain ⟨_, h2⟩ := hok
  have : (2:Nat)^62 = 4611686018427387904 := by decide
  omega
 have hwr : ∀ x : Int, 0 ≤ x → x < 9223372036854775808 → IntKind.i64.wrap x = x := fun x h1 h2 => by
  have key : IntKind.i64.wrap x = (let m := x % 18446744073709551616; if m ≥ 9223372036854775808 then m - 18446744073709551616 else m) := by
   simp [IntKind.wrap, IntKind.bits, IntKind.signed]
  rw [key]
  have : x % 18446744073709551616 = x := by omega
  simp only [this]; rw [if_neg (by omega)]
 refine qbp (fn := Go.Proofs.Try.f68) (by kernel_rfl) rfl 27 rfl fun a0 Z hd he => ?_
 have E := he 0 (by simp)
 have G := he 1 (by simp)
 simp at E G
 refine wp_seq (qa1 rfl (qag rfl (L_end ?_)))
 refine wp_seq (wp_seq (qa1 rfl ?_))
 refine L_move (v := .int .i64 n) (by simp [Z,E,G]) ?_
 refine qnx (m := n) (n := 0) (by simp [Z,E,G]) rfl ?_
 refine L_end ?_
 have hd1 : decide ((n : Int) < 0) = false := decide_eq_false (by omega)
 refine wp_cond_false (by simp only [hd1]; simp [Z,E,G]) (wp_skip ?_)
 refine wp_seq (wp_seq (qa1 rfl ?_))
 refine L_move (v := .int .i64 n) (by simp [Z,E,G]) ?_
 refine L_move (v := .slice none 0 0) (by simp [Z,E,G]) ?_
 refine L_cap hu (b := none) (n := 0) (c := 0) (by simp [Z,E,G]) ?_
 refine L_move (v := .slice none 0 0) (by simp [Z,E,G]) ?_
 refine L_len hu (b := none) (n := 0) (c := 0) (by simp [Z,E,G]) ?_
 refine L_sub (m := 0) (n := 0) (by simp [Z,E,G]) (by simp [Z,E,G]) (hwr _ (by omega) (by omega)) ?_
 refine L_sub (m := n) (n := 0) (by simp [Z,E,G]) (by simp [Z,E,G]) (hwr _ (by omega) (by omega)) ?_
 refine qag (v := .int .i64 n) (by simp [Z,E,G]) ?_
 refine L_end ?_
 refine wp_seq (qa1 rfl ?_)
 refine L_move (v := .int .i64 n) (by simp [Z,E,G]) ?_
 refine L_gtInt (m := n) (n := 0) (by simp [Z,E,G]) rfl ?_
 refine L_end ?_
 by_cases hn0 : n = 0
 · subst hn0
   refine wp_cond_false (by simp [Z,E,G]) (wp_skip ?_)
   rw [if_pos (by omega)] at hk
   cases hk
   refine wp_seq (qa1 rfl ?_)
   refine L_move (v := .slice none 0 0) (by simp [Z,E,G]) ?_
   refine qag (v := .slice none 0 0) (by simp [Z,E,G]) ?_
   refine L_end ?_
   refine wp_ret (ret_one (t := 4) (v := .slice none 0 0) rfl (by simp only [qaP]; exact hd) (by simp [Z,E,G]) ?_)
   exact ⟨F, ρ, _, i, .refl _ _ _ _, _, r0, rfl, rfl⟩
 · have hd2 : decide ((0 : Int) < (n : Int)) = true := decide_eq_true (by omega)
   rw [if_neg (by omega)] at hk
   cases hk
   obtain ⟨nc, hnc, happ⟩ := qcI (P := PQ) (w := w) (t := 67) (u := 3) (ty := 67) (a := none) (len := 0) (cap := 0) (n := n) (vs := []) hu hui hie hzv (by decide) (by omega) (by rw [Nat.zero_add]; exact hok) (by omega) (by decide) (fun d => by simp [Builtin.firstCells])
   simp only [Nat.zero_add] at happ hnc
   obtain ⟨ρ1, i1, t1, q1⟩ := i.room (sz := 1) (nc := nc) (e := 60) (vs := ([] : List Value).toArray ++ Builtin.zeroCells zv.cells n ++ Builtin.zeroCells zv.cells (nc - n)) (by decide) (by simp [qbk, hzs]; omega)
   generalize hwA : ({ w with drawn := w.drawn + 1, heap := w.heap.push (.cells (([] : List Value).toArray ++ Builtin.zeroCells zv.cells n ++ Builtin.zeroCells zv.cells (nc - n)) 60) } : World) = wA at *
   refine wp_cond_true (by simp [Z,E,G]; omega) (qa1 rfl ?_)
   refine L_move (v := .slice none 0 0) (by simp [Z,E,G]) ?_
   refine L_move (v := .slice none 0 0) (by simp [Z,E,G]) ?_
   refine L_cap hu (b := none) (n := 0) (c := 0) (by simp [Z,E,G]) ?_
   refine L_slice (vx := .slice none 0 0) (vlo := none) (vhi := some (.int .i64 0)) (vmx := none) (v := .slice none 0 0) (by simp [Z,E,G]) (by simp [Z,E,G]) (by simp [Z,E,G]) (by simp [Z,E,G]) (qho hu hie) ?_
   refine L_move (v := .int .i64 n) (by simp [Z,E,G]) ?_
   refine qdU (vx := .slice none 0 0) (vy := .int .i64 n) (v := .slice (some ⟨w.heap.size, 0, none⟩) n nc) (w' := wA) (by simp [Z,E,G]) (by simp [Z,E,G]) happ ?_
   refine L_move (v := .slice none 0 0) (by simp [Z,E,G]) ?_
   refine L_len hu (b := none) (n := 0) (c := 0) (by simp [Z,E,G]) ?_
   refine L_slice (vx := .slice (some ⟨w.heap.size, 0, none⟩) n nc) (vlo := none) (vhi := some (.int .i64 0)) (vmx := none) (v := .slice (some ⟨w.heap.size, 0, none⟩) 0 nc) (by simp [Z,E,G]) (by simp [Z,E,G]) (by simp [Z,E,G]) (by simp [Z,E,G]) (qbz (m := 0) hu hie (by omega) (by omega)) ?_
   refine qag (v := .slice (some ⟨w.heap.size, 0, none⟩) 0 nc) (by simp [Z,E,G]) ?_
   refine L_end ?_
   refine wp_seq (qa1 rfl ?_)
   refine L_move (v := .slice (some ⟨w.heap.size, 0, none⟩) 0 nc) (by simp [Z,E,G]) ?_
   refine qag (v := .slice (some ⟨w.heap.size, 0, none⟩) 0 nc) (by simp [Z,E,G]) ?_
   refine L_end ?_
   refine wp_ret (ret_one (t := 4) (v := .slice (some ⟨w.heap.size, 0, none⟩) 0 nc) rfl (by simp only [qaP]; exact hd) (by simp [Z,E,G]) ?_)
   exact ⟨F, ρ1, _, i1, t1, _, q1, rfl, rfl⟩
theorem delete62 : SoundFn PQ 62 (qaT 1 8) := by
 intro args objs R objs' hk w F ρ vs i ha
 unfold qaT at hk
 split at hk <;> try (cases hk; done)
 rename_i id ver sz' lo len i0 j0
 split at hk <;> try (cases hk; done)
 rename_i ob hob
 split at hk <;> try (cases hk; done)
 rename_i hcond
 obtain ⟨hver, hsz', hle, h0, hij, hjl⟩ := hcond
 cases hk
 subst hsz'
 obtain ⟨ni, rfl⟩ := Int.eq_ofNat_of_zero_le h0
 obtain ⟨nj, rfl⟩ := Int.eq_ofNat_of_zero_le (Int.le_trans h0 hij)
 have hij : ni ≤ nj := by omega
 have hjl : nj ≤ len := by omega
 obtain ⟨hsz, hrel⟩ := ha
 obtain ⟨v0, v1, v2, rfl⟩ : ∃ v0 v1 v2, vs = #[v0, v1, v2] := by
  simp at hsz
  exact arr3 hsz
 have r0 := hrel 0 (by simp)
 have r1 := hrel 1 (by simp)
 have r2 := hrel 2 (by simp)
 simp at r0 r1 r2
 obtain rfl := r1.s_inv
 obtain rfl := r2.s_inv
 obtain ⟨a, c, rfl, hlc, hsp⟩ := Span.of i r0 hob hver hle
 have hobsz : ob.sz = 1 := by
  obtain ⟨a2, c2, hh, _, _, _, _, hy⟩ := r0.osl_inv
  rw [((hy ob hob).2 hver.symm).1, (i.obj id ob hob).sz]
 have hu : PQ.underlying 67 = some (.slice 60) := by kernel_rfl
 have hie : PQ.info? 60 = some Go.Proofs.Try.t60 := by kernel_rfl
 have hz2 : (zeroT PQ 60).map List.length = some 1 := by kernel_rfl
 have hz3 := hz2
 rw [Option.map_eq_some_iff] at hz3
 obtain ⟨zz, hzz, hzl⟩ := hz3
 obtain ⟨zv, hzv, hzr, rfl⟩ := qbH hzz w F ρ objs
 have hzs : zv.cells.size = 1 := by simpa using hzl
 generalize hold : (ob.rows.drop lo).take len = old at *
 have holen : old.length = len := by rw [← hold]; simp; omega
 have hrl : (old.take ni ++ old.drop nj).length = len - (nj - ni) := by simp; omega
 simp only [Int.toNat_natCast, show ((nj : Int) - (ni : Int)).toNat = nj - ni by omega]
 rw [← hver]
 obtain ⟨vx, hvx⟩ := qcY (P := PQ) (w := w) (a := a) (n := len) (c := c) (l := ni) (m := nj) (hi := some (.int .i64 nj)) (mx := some (.int .i64 len)) hu hie hij hjl hlc (.inl ⟨rfl, rfl⟩)
 refine qbp (fn := Go.Proofs.Try.f62) (by kernel_rfl) rfl 33 rfl fun a0 Z hd he => ?_
 have E := he 0 (by simp)
 have G := he 1 (by simp)
 have J := he 2 (by simp)
 simp at E G J
 refine wp_seq (qa1 rfl (qag rfl (L_end ?_)))
 refine wp_seq (qa1 rfl ?_)
 refine L_move (v := .slice a len c) (by simp [Z,E,G,J]) ?_
 refine L_move (v := .int .i64 ni) (by simp [Z,E,G,J]) ?_
 refine L_move (v := .int .i64 nj) (by simp [Z,E,G,J]) ?_
 refine L_move (v := .slice a len c) (by simp [Z,E,G,J]) ?_
 refine L_len hu (b := a) (n := len) (c := c) (by simp [Z,E,G,J]) ?_
 refine L_slice (vx := .slice a len c) (vlo := some (.int .i64 ni)) (vhi := some (.int .i64 nj)) (vmx := some (.int .i64 len)) (v := vx) (by simp [Z,E,G,J]) (by simp [Z,E,G,J]) (by simp [Z,E,G,J]) (by simp [Z,E,G,J]) hvx ?_
 refine L_end ?_
 refine wp_seq (wp_seq (qa1 rfl ?_))
 refine L_move (v := .int .i64 ni) (by simp [Z,E,G,J]) ?_
 refine L_move (v := .int .i64 nj) (by simp [Z,E,G,J]) ?_
 refine L_eqInt (m := ni) (n := nj) (by simp [Z,E,G,J]) (by simp [Z,E,G,J]) ?_
 refine L_end ?_
 by_cases hd0 : ni = nj
 · subst hd0
   refine wp_cond_true (by simp [Z,E,G,J]) (wp_seq (qa1 rfl ?_))
   refine L_move (v := .slice a len c) (by simp [Z,E,G,J]) ?_
   refine qag (v := .slice a len c) (by simp [Z,E,G,J]) ?_
   refine L_end ?_
   refine wp_ret (ret_one (t := 6) (v := .slice a len c) rfl (by simp only [qaP]; exact hd) (by simp [Z,E,G,J]) ?_)
   have hsame : old.take ni ++ old.drop ni = old := List.take_append_drop _ _
   rw [hsame, Nat.sub_self, Nat.sub_zero]
   by_cases hc0 : c = 0
   · have hl0 : len = 0 := by omega
     have : old = [] := List.length_eq_zero_iff.1 (by omega)
     subst this; subst hl0; subst hc0
     obtain ⟨ρ1, i1, t1, q1⟩ := i.hollow a hob hobsz
     exact ⟨F, ρ1, _, i1, t1, _, q1, rfl, rfl⟩
   · obtain ⟨b, o, l, rfl, sp⟩ := hsp (by omega)
     obtain ⟨ρ1, i1, t1, q1⟩ := sp.put i hob (w' := w) (rows' := old) (vs := l.take (len * 1)) (.refl _ _) sp.width (by omega) sp.rel (by have := sp.blk.sub 0 (len * 1); simpa using this)
     rw [holen] at q1
     exact ⟨F, ρ1, _, i1, t1, _, q1, rfl, rfl⟩
 · have hd1 : ((ni : Int) == (nj : Int)) = false := by simp; omega
   refine wp_cond_false (by simp [Z,E,G,J, hd1]) (wp_skip ?_)
   obtain ⟨b, o, l, rfl, sp⟩ := hsp (by omega)
   have hll := sp.llen
   have hcl : len * 1 ≤ c * 1 := Nat.mul_le_mul_right _ hlc
   have hjs : nj * 1 ≤ len * 1 := Nat.mul_le_mul_right _ hjl
   have his : ni * 1 ≤ nj * 1 := Nat.mul_le_mul_right _ hij
   have hjd : (len - nj) * 1 = len * 1 - nj * 1 := Nat.sub_mul _ _ _
   refine wp_seq (qa1 rfl ?_)
   refine L_move (v := .slice (some ⟨b, o, none⟩) len c) (by simp [Z,E,G,J]) ?_
   refine L_len hu (b := some ⟨b, o, none⟩) (n := len) (c := c) (by simp [Z,E,G,J]) ?_
   refine qag (v := .int .i64 len) (by simp [Z,E,G,J]) ?_
   refine L_end ?_
   let us : List Value := (l.drop (nj * 1)).take ((len - nj) * 1)
   have hul : us.length = (len - nj) * 1 := by simp only [us, List.length_take, List.length_drop]; omega
   have urel : RelC PQ w F ρ objs us (old.drop nj).flatten := by
    have h1 := sp.rel.sub (nj * 1) ((len - nj) * 1)
    rw [qdR nj _ sp.width]
    have e1 : (old.flatten.drop (nj * 1)).take ((len - nj) * 1) = old.flatten.drop (nj * 1) := List.take_of_length_le (by rw [List.length_drop, qb4 _ sp.width, holen]; omega)
    rw [e1] at h1
    have e2 : ((l.take (len * 1)).drop (nj * 1)).take ((len - nj) * 1) = us := by
     simp only [us]; rw [List.drop_take, List.take_take]; congr 1; omega
    rwa [e2] at h1
   have hfirst : ∃ xa xc, (Instr.sliceAt 67 (.slice (some ⟨b, o, none⟩) len c) (some (.int .i64 nj)) none none).run PQ { w with drawn := w.drawn + 1 } = .ok (.slice xa (len - nj) xc) { w with drawn := w.drawn + 1 } ∧ (∀ w1, (Instr.sliceAt 67 (.slice (some ⟨b, o, none⟩) len c) (some (.int .i64 nj)) none none).run PQ w1 = .ok (.slice xa (len - nj) xc) w1) ∧
    (Builtin.firstCells 1 (len - nj) (.slice xa (len - nj) xc)).run PQ { w with drawn := w.drawn + 1 } = .ok us.toArray { w with drawn := w.drawn + 1 } := by
    by_cases hjc : nj < c
    · exact ⟨some ⟨b, o + nj * 1, none⟩, c - nj, qap hu hie hjl hjc, fun w1 => qap hu hie hjl hjc, Blk.read (w := { w with drawn := w.drawn + 1 }) (l := l) (k := nj * 1) (fun j v hv => sp.blk j v hv) (by omega)⟩
    · have hnc : nj = c := by omega
      have hlc2 : len = c := by omega
      subst hnc; subst hlc2
      refine ⟨_, _, by rw [Nat.sub_self]; exact qbN hu hie, fun w1 => by rw [Nat.sub_self]; exact qbN hu hie, ?_⟩
      have hus : us = [] := List.length_eq_zero_iff.1 (by rw [hul]; simp)
      rw [hus, Nat.sub_self]; exact qjz
   obtain ⟨xa, xc, hx0, hx1, hx2⟩ := hfirst
   obtain ⟨w1r, w1b, w1u, w1t⟩ := Blk.write (P := PQ) (w := { w with drawn := w.drawn + 1 }) (l := l) (us := us) (k := ni * 1) (fun j v hv => sp.blk j v hv) sp.thaw (by rw [hul]; omega) urel.one
   have happ := qft (P := PQ) (w := { w with drawn := w.drawn + 1 }) (t := 67) (u := 67) (ty := 67) (len := ni) (n := len - nj) (c := c) hu hu hie hx2 (by omega) w1r
   generalize hw1 : World.setCells { w with drawn := w.drawn + 1 } b (o + ni * 1) us = w1 at *
   refine wp_seq (wp_region_any (by kernel_rfl) ?_)
   have PS := fun K => (PanicSafe.body (P := PQ) (fn := Go.Proofs.Try.f62) (R := CEnd PQ w F ρ objs (fun a h' => Out.ok (.osl id (ob.ver + 1) 1 0 (len - (nj - ni))) = .ok a ∧ h' = objs.set id (.live ⟨ob.ver + 1, ob.sz, old.take ni ++ old.drop nj⟩)) (fun a h' => Out.ok (.osl id (ob.ver + 1) 1 0 (len - (nj - ni))) = .pan a ∧ h' = objs.set id (.live ⟨ob.ver + 1, ob.sz, old.take ni ++ old.drop nj⟩)))).then (K := K)
   have ud : Upd (fun b' o' => b' = b ∧ o ≤ o' ∧ o' < o + l.length) w { w with drawn := w.drawn + 1 } := qbV _ w
   generalize hw0 : ({ w with drawn := w.drawn + 1 } : World) = w0 at *
   refine A_take (i := 0) (v := .slice (some ⟨b, o, none⟩) len c) (PS _) rfl (by kernel_rfl) (by kernel_rfl) (by kernel_rfl) rfl (fun w' => by simp [execOp,Z,E,G,J]) ?_
   refine A_take (i := 1) (v := .int .i64 ni) (PS _) rfl (by kernel_rfl) (by kernel_rfl) (by kernel_rfl) rfl (fun w' => by simp [execOp,Z,E,G,J]) ?_
   refine A_take (i := 2) (v := .slice (some ⟨b, o, none⟩) ni c) (PS _) rfl (by kernel_rfl) (by kernel_rfl) (by kernel_rfl) rfl (fun w' => by simp [execOp,Z,E,G,J, qbz (P := PQ) (w := w') (b := b) (o := o) (n := len) (c := c) (m := ni) hu hie (by omega) (by omega)]) ?_
   refine A_take (i := 3) (v := .slice (some ⟨b, o, none⟩) len c) (PS _) rfl (by kernel_rfl) (by kernel_rfl) (by kernel_rfl) rfl (fun w' => by simp [execOp,Z,E,G,J]) ?_
   refine A_take (i := 4) (v := .int .i64 nj) (PS _) rfl (by kernel_rfl) (by kernel_rfl) (by kernel_rfl) rfl (fun w' => by simp [execOp,Z,E,G,J]) ?_
   refine A_take (i := 5) (v := .slice xa (len - nj) xc) (PS _) rfl (by kernel_rfl) (by kernel_rfl) (by kernel_rfl) rfl (fun w' => by simp [execOp,Z,E,G,J, hx1]) ?_
   refine A_only (i := 6) (v := .slice (some ⟨b, o, none⟩) (ni + (len - nj)) c) (w' := w1) rfl (by kernel_rfl) rfl (by simp [execOp,Z,E,G,J, resolve, invoke, builtin, happ, -Nat.mul_one]) ?_
   refine A_only (i := 7) (v := .slice (some ⟨b, o, none⟩) (ni + (len - nj)) c) (w' := w1) rfl (by kernel_rfl) rfl (by simp [execOp,Z,E,G,J]) ?_
   refine wpAny_done (by kernel_rfl) ?_ _
   have hlen' : ni + (len - nj) < len := by omega
   let l1 : List Value := l.take (ni * 1) ++ us ++ l.drop (ni * 1 + us.length)
   have hl1 : l1.length = c * 1 := by simp only [l1, List.length_append, List.length_take, List.length_drop, hul, hll]; omega
   let zs : List Value := (Builtin.zeroCells zv.cells (len - (ni + (len - nj)))).toList
   have hzl2 : zs.length = (len - (ni + (len - nj))) * 1 := by simp [zs, qbk, hzs]
   have hkz : (ni + (len - nj)) * 1 + zs.length = len * 1 := by rw [hzl2, ← Nat.add_mul]; congr 1; omega
   have hzone : ∀ v ∈ zs, v.oneCell' = true := by
    intro v hv
    simp only [zs, Builtin.zeroCells, Array.toList_map, List.mem_map, Array.toList_range] at hv
    obtain ⟨m, _, rfl⟩ := hv
    have hlt : m % zv.cells.size < zv.cells.size := Nat.mod_lt _ (by omega)
    rw [qi2 _ _ hlt, qgw]
    exact (hzr.get (m % zv.cells.size) (by simpa using hlt) (by simpa using hlt)).1
   obtain ⟨w2r, w2b, w2u, w2t⟩ := Blk.write (P := PQ) (w := w1) (l := l1) (us := zs) (k := (ni + (len - nj)) * 1) w1b w1t (by omega) hzone
   have hclr := qg2 (P := PQ) (w := w1) (t := 67) (ty := 0) (n := len - (ni + (len - nj))) (c := c - (ni + (len - nj))) hu (hzv w1) (by omega) w2r
   generalize hw2 : World.setCells w1 b (o + (ni + (len - nj)) * 1) zs = w2 at *
   refine wp_seq (qa1 rfl ?_)
   refine L_move (v := .slice (some ⟨b, o, none⟩) (ni + (len - nj)) c) (by simp [Z,E,G,J]) ?_
   refine L_move (v := .slice (some ⟨b, o, none⟩) (ni + (len - nj)) c) (by simp [Z,E,G,J]) ?_
   refine L_len hu (b := some ⟨b, o, none⟩) (n := ni + (len - nj)) (c := c) (by simp [Z,E,G,J]) ?_
   refine L_move (v := .int .i64 len) (by simp [Z,E,G,J]) ?_
   refine L_slice (vx := .slice (some ⟨b, o, none⟩) (ni + (len - nj)) c) (vlo := some (.int .i64 ((ni + (len - nj) : Nat) : Int))) (vhi := some (.int .i64 len)) (vmx := none) (v := .slice (some ⟨b, o + (ni + (len - nj)) * 1, none⟩) (len - (ni + (len - nj))) (c - (ni + (len - nj)))) (by simp [Z,E,G,J]) (by simp [Z,E,G,J]) (by simp [Z,E,G,J]) (by simp [Z,E,G,J])
    (qfX hu hie (by omega) (by omega) (by omega)) ?_
   refine L_clear (vx := .slice (some ⟨b, o + (ni + (len - nj)) * 1, none⟩) (len - (ni + (len - nj))) (c - (ni + (len - nj)))) (v := .tuple #[]) (w' := w2) (by simp [Z,E,G,J]) hclr ?_
   refine L_end ?_
   refine wp_seq (qa1 rfl ?_)
   refine L_move (v := .slice (some ⟨b, o, none⟩) (ni + (len - nj)) c) (by simp [Z,E,G,J]) ?_
   refine qag (v := .slice (some ⟨b, o, none⟩) (ni + (len - nj)) c) (by simp [Z,E,G,J]) ?_
   refine L_end ?_
   refine wp_ret (ret_one (t := 6) (v := .slice (some ⟨b, o, none⟩) (ni + (len - nj)) c) rfl (by simp only [qaP]; exact hd) (by simp [Z,E,G,J]) ?_)
   have hni : (ni + (len - nj)) * 1 = ni * 1 + us.length := by rw [hul, Nat.add_mul]
   have hul2 : l1.length = l.length := by rw [hl1, hll]
   rw [hul2] at w2u
   have uall := (ud.trans w1u fun _ _ _ h => h).trans w2u fun _ _ _ h => h
   have hwid : ∀ row ∈ old.take ni ++ old.drop nj, row.length = 1 := fun row hr => by
    rcases List.mem_append.1 hr with hr | hr
    · exact sp.width _ (List.mem_of_mem_take hr)
    · exact sp.width _ (List.mem_of_mem_drop hr)
   have hrelAll : RelC PQ w F ρ objs (l.take (ni * 1) ++ us) (old.take ni ++ old.drop nj).flatten := by
    rw [List.flatten_append]
    refine RelC.append ?_ urel
    rw [qdg ni _ sp.width]
    have h1 := sp.rel.sub 0 (ni * 1)
    simp only [List.drop_zero] at h1
    rwa [List.take_take, Nat.min_eq_left (by omega)] at h1
   have hblkF : Blk w2 b o (l.take (ni * 1) ++ us) := by
    intro j v hv
    have hj := (List.getElem?_eq_some_iff.1 hv).1
    simp only [List.length_append, List.length_take] at hj
    refine w2b j v ?_
    rw [List.append_assoc, List.getElem?_append_left (by simp only [List.length_take, hl1]; omega), List.getElem?_take, if_pos (by omega)]
    simp only [l1]
    rw [List.getElem?_append_left (by simp only [List.length_append, List.length_take]; omega)]
    exact hv
   obtain ⟨ρ1, i1, t1, q1⟩ := sp.put i hob (w' := w2) (rows' := old.take ni ++ old.drop nj) (vs := l.take (ni * 1) ++ us) uall hwid (by omega) hrelAll hblkF
   rw [hrl, show len - (nj - ni) = ni + (len - nj) by omega] at q1
   rw [show len - (nj - ni) = ni + (len - nj) by omega]
   exact ⟨F, ρ1, _, i1, t1, _, q1, rfl, rfl⟩
end Go.Ab
