/-
  EXTENTS: so many can be had.
-/
import Derived.Test.YtijekkbagkpjdaaTRoomA
set_option linter.unusedSimpArgs false
set_option linter.unusedVariables false
set_option linter.unusedSectionVars false
namespace Go.Ab.T
open Go Go.Ab Go.Ab.F

set_option maxHeartbeats 1000000 in
theorem room_loop {T : Int} (hT0 : 0 ≤ T) (hT : T ≤ 1024) (acts : List ActX) (hl : acts.length ≤ 100) {H : Heap} {fs : List Extent} {p q : Option (Nat × Nat)} (hM : MapP H 0 [] T fs [] p q) (hw : WFx 0 T fs) :
    ∃ H' fs' p' q', MapP H' 0 [] T fs' [] p' q' ∧ WFx 0 T fs' ∧ ∀ (k : Ex → List A → Heap → Option (Out × Heap)), oLoop (law07_ExtentRoom_l3 (.s (.int .i64 acts.length)) (mkF 4 (acts.map actXC)) (.ptr 0 0 0 0) H) ([.s (.int .i64 0)], H) k = k (.exit 0) [] H' := by
  have hlt := lt_of_some hM.at_
  obtain ⟨Q, ⟨H', fs', p', q', rfl, hM', hw'⟩, hq⟩ := oLoop_inv' (step := law07_ExtentRoom_l3 (.s (.int .i64 acts.length)) (mkF 4 (acts.map actXC)) (.ptr 0 0 0 0) H) (s0 := ([.s (.int .i64 0)], H))
    (fun i s => ∃ h fs p q, s = ([.s (.int .i64 i)], h) ∧ MapP h 0 [] T fs [] p q ∧ WFx 0 T fs ∧ H.length ≤ h.length) (fun Q => ∃ h fs p q, Q = (.exit 0, [], h) ∧ MapP h 0 [] T fs [] p q ∧ WFx 0 T fs) acts.length
    ⟨H, fs, p, q, rfl, hM, hw, Nat.le_refl _⟩ (by omega)
    (by
      rintro i s hi ⟨h, fs, p, q, rfl, hM', hw, hl'⟩
      left
      have hx : acts[i]? = some acts[i] := List.getElem?_eq_getElem hi
      generalize acts[i] = a at hx
      have hwi := wrap_succ hi (by omega)
      have hz : (A.s (.int .i64 0) :: A.s (.int .i64 0) :: extentC ⟨0, 0⟩) = actXC ⟨0, 0, ⟨0, 0⟩⟩ := rfl
      have hz2 : [A.s (.int .i64 0), .s (.int .i64 0)] = extentC ⟨0, 0⟩ := rfl
      -- the act
      have hNa := fun (k : A → Heap → Option ((List A × Heap) ⊕ (Ex × List A × Heap))) => new_xa ⟨0, 0, ⟨0, 0⟩⟩ h k
      have hSa := fun (k : Heap → Option ((List A × Heap) ⊕ (Ex × List A × Heap))) => stA (at1 h (xa ⟨0, 0, ⟨0, 0⟩⟩) []) a k
      rw [set1] at hSa
      have hLn := fun (k : A → Option ((List A × Heap) ⊕ (Ex × List A × Heap))) => ldA1 (at1 h (xa a) []) k
      have hMa := mapP_app hM' [xa a] [h.length] (by simp)
      -- Alloc
      obtain ⟨x, e, fs1, hA, hw1⟩ := alloc_any hT0 hT hw a.n
      obtain ⟨h1, p1, q1, m1, f1, l1, _, c1⟩ := oCall_map hA (by simp) (by simp) hMa (by simp)
      have b1 := fun (kp k : A → Heap → Option ((List A × Heap) ⊕ (Ex × List A × Heap))) => c1 kp k
      have x1 : h1[h.length]? = some (xa a) := by rw [f1 _ (by simp)]; exact at1 h (xa a) []
      have hlt1 := lt_of_some x1
      have hNx := fun (k : A → Heap → Option ((List A × Heap) ⊕ (Ex × List A × Heap))) => new_xs ⟨0, 0⟩ h1 k
      have hSx := fun (k : Heap → Option ((List A × Heap) ⊕ (Ex × List A × Heap))) => stE (at1 h1 (xs ⟨0, 0⟩) []) x k
      rw [set1] at hSx
      have m2 := mapP_app m1 [xs x] [h1.length] (by simp)
      have x2 : (h1 ++ [xs x])[h.length]? = some (xa a) := by rw [List.getElem?_append_left hlt1]; exact x1
      have hk := fun (k : A → Option (Ex × List A × Heap)) => ldA0 x2 k
      have hLx := fun (k : A → Option (Ex × List A × Heap)) => ldE (at1 h1 (xs x) []) k
      -- Free, perhaps
      obtain ⟨r, fs2, hF, hw2⟩ := free_any hT0 hT hw1 x
      obtain ⟨h3, p3, q3, m3, f3, l3, _, c3⟩ := oCall_map hF (by simp) (by simp) m2 (by intro y hy; simp at hy; rcases hy with rfl | rfl <;> simp <;> omega)
      have b3 := fun (kp k : A → Heap → Option (Ex × List A × Heap)) => c3 kp k
      obtain ⟨h4, t1, m4, l4, k4⟩ := trim_any0 m3 [] (h1.length + 1) (by omega) (by simpa using l3)
      have hTs := fun (vs : List A) => trim_self true vs (h1 ++ [xs x]) (h1.length + 1) (by simp)
      have x4 : h4[h.length]? = some (xa a) := by rw [k4 _ (by omega), f3 _ (by simp)]; exact x2
      have hAt4 := fun (k : A → Option ((List A × Heap) ⊕ (Ex × List A × Heap))) => ldA2 x4 k
      have hAt2 := fun (k : A → Option ((List A × Heap) ⊕ (Ex × List A × Heap))) => ldA2 x2 k
      -- Take, after either
      obtain ⟨r5, fs5, hT5, hw5⟩ := take_any hT0 hT hw2 a.at_
      obtain ⟨h5, p5, q5, m5, f5, l5, _, c5⟩ := oCall_map hT5 (by simp) (by simp) m4 (by
        intro y hy; simp at hy; rcases hy with rfl | rfl <;> omega)
      have b5 := fun (kp k : A → Heap → Option ((List A × Heap) ⊕ (Ex × List A × Heap))) => c5 kp k
      obtain ⟨h6, t6, m6, l6, _⟩ := trim_any0 m5 [.s (.int .i64 (i + 1 : Nat))] H.length hlt (by omega)
      obtain ⟨r7, fs7, hT7, hw7⟩ := take_any hT0 hT hw1 a.at_
      obtain ⟨h7, p7, q7, m7, f7, l7, _, c7⟩ := oCall_map hT7 (by simp) (by simp) m2 (by intro y hy; simp at hy; rcases hy with rfl | rfl <;> simp <;> omega)
      have b7 := fun (kp k : A → Heap → Option ((List A × Heap) ⊕ (Ex × List A × Heap))) => c7 kp k
      obtain ⟨h8, t8, m8, l8, _⟩ := trim_any0 m7 [.s (.int .i64 (i + 1 : Nat))] H.length hlt (by simp at l7; omega)
      simp only [Int.natCast_add, Int.cast_ofNat_Int] at t6 t8
      by_cases he : e = 0
      · by_cases hk3 : 3 ≤ a.kind
        · refine ⟨([.s (.int .i64 (i + 1 : Nat))], h6), ?_, h6, fs5, p5, q5, rfl, mapP_sub m6 (by simp), hw5, l6⟩
          simp [-oLoad_ptr, -oStore_ptr, -oNew_agg, law07_ExtentRoom_l3, law07_ExtentRoom_k1, law07_ExtentRoom_k2, hi, oIdxA_mkF _ _ _ _ _ _ _ hx, hz, hz2, hNa, hSa, hLn, b1, hNx, hSx, hk, hLx, b3, hTs, t1, hAt4, hAt2, b5, t6, hwi, he, hk3]
        · refine ⟨([.s (.int .i64 (i + 1 : Nat))], h8), ?_, h8, fs7, p7, q7, rfl, mapP_sub m8 (by simp), hw7, l8⟩
          simp [-oLoad_ptr, -oStore_ptr, -oNew_agg, law07_ExtentRoom_l3, law07_ExtentRoom_k1, law07_ExtentRoom_k2, hi, oIdxA_mkF _ _ _ _ _ _ _ hx, hz, hz2, hNa, hSa, hLn, b1, hNx, hSx, hk, hLx, hTs, hAt2, b7, t8, hwi, he, hk3]
      · refine ⟨([.s (.int .i64 (i + 1 : Nat))], h8), ?_, h8, fs7, p7, q7, rfl, mapP_sub m8 (by simp), hw7, l8⟩
        simp [-oLoad_ptr, -oStore_ptr, -oNew_agg, law07_ExtentRoom_l3, law07_ExtentRoom_k1, law07_ExtentRoom_k2, hi, oIdxA_mkF _ _ _ _ _ _ _ hx, hz, hz2, hNa, hSa, hLn, b1, hNx, hSx, hk, hLx, hTs, hAt2, b7, t8, hwi, he])
    (by
      rintro s ⟨h, fs, p, q, rfl, hM', hw, hl'⟩
      obtain ⟨h2, t1, t2, t3, _⟩ := trim_any0 hM' [] H.length hlt hl'
      refine ⟨(.exit 0, [], h2), ?_, h2, fs, p, q, rfl, t2, hw⟩
      simp [law07_ExtentRoom_l3, t1])
  exact ⟨H', fs', p', q', hM', hw', fun k => hq k⟩

theorem room_sum {T : Int} {H : Heap} {fs : List Extent} {p q : Option (Nat × Nat)} (hM : MapP H 0 [] T fs [] p q) (out : List Extent) (hl : out.length < 900000) (hx : ∀ x ∈ out, 0 ≤ x.len) (h0 : 0 ≤ sumL out) (h1 : sumL out ≤ 90000) :
    ∃ H' p' q', MapP H' 0 [] T fs [] p' q' ∧ ∀ (k : Ex → List A → Heap → Option (Out × Heap)), oLoop (law07_ExtentRoom_l4 (.s (.int .i64 out.length)) (mkF 2 (out.map extentC)) H) ([.s (.int .i64 0), .s (.int .i64 0)], H) k = k (.exit 2) [.s (.int .i64 (sumL out))] H' := by
  have hlt := lt_of_some hM.at_
  obtain ⟨Q, ⟨H', p', q', rfl, hM'⟩, hq⟩ := oLoop_inv' (step := law07_ExtentRoom_l4 (.s (.int .i64 out.length)) (mkF 2 (out.map extentC)) H) (s0 := ([.s (.int .i64 0), .s (.int .i64 0)], H))
    (fun i s => ∃ h p q, s = ([.s (.int .i64 ((out.take i).foldl (fun n x => IntKind.i64.wrap (n + x.len)) 0)), .s (.int .i64 i)], h) ∧ MapP h 0 [] T fs [] p q ∧ H.length ≤ h.length) (fun Q => ∃ h p q, Q = (.exit 2, [.s (.int .i64 (sumL out))], h) ∧ MapP h 0 [] T fs [] p q) out.length
    ⟨H, p, q, rfl, hM, Nat.le_refl _⟩ (by omega)
    (by
      rintro i s hi ⟨h, p, q, rfl, hM', hl'⟩
      left
      have hx : out[i]? = some out[i] := List.getElem?_eq_getElem hi
      have hfold : (out.take (i + 1)).foldl (fun n x => IntKind.i64.wrap (n + x.len)) 0 = IntKind.i64.wrap ((out.take i).foldl (fun n x => IntKind.i64.wrap (n + x.len)) 0 + out[i].len) := by
        rw [List.take_add_one, hx, Option.toList_some, List.foldl_append]; rfl
      generalize out[i] = x at hx hfold
      generalize (out.take i).foldl (fun n x => IntKind.i64.wrap (n + x.len)) 0 = n at hfold
      have hw := wrap_succ hi (by omega)
      have hz : [A.s (.int .i64 0), .s (.int .i64 0)] = extentC ⟨0, 0⟩ := rfl
      have hN := fun (k : A → Heap → Option ((List A × Heap) ⊕ (Ex × List A × Heap))) => new_xs ⟨0, 0⟩ h k
      have hS := fun (k : Heap → Option ((List A × Heap) ⊕ (Ex × List A × Heap))) => stE (at1 h (xs ⟨0, 0⟩) []) x k
      rw [set1] at hS
      have hL := fun (k : A → Option ((List A × Heap) ⊕ (Ex × List A × Heap))) => ldLen (at1 h (xs x) []) k
      obtain ⟨h2, t1, t2, t3, _⟩ := trim_any0 (mapP_app hM' [xs x] [] (by simp)) [.s (.int .i64 (IntKind.i64.wrap (n + x.len))), .s (.int .i64 (i + 1 : Nat))] H.length hlt (by simp; omega)
      simp only [Int.natCast_add, Int.cast_ofNat_Int] at t1
      refine ⟨([.s (.int .i64 (IntKind.i64.wrap (n + x.len))), .s (.int .i64 (i + 1 : Nat))], h2), ?_, h2, p, q, by rw [hfold], mapP_sub t2 (by simp), t3⟩
      simp [-oLoad_ptr, -oStore_ptr, -oNew_agg, law07_ExtentRoom_l4, hi, oIdxA_mkF _ _ _ _ _ _ _ hx, hz, hN, hS, hL, hw, t1])
    (by
      rintro s ⟨h, p, q, rfl, hM', hl'⟩
      rw [List.take_length, count_foldl out 0 (by omega) hx (by omega) h0, Int.zero_add]
      obtain ⟨h2, t1, t2, t3, _⟩ := trim_any0 hM' [.s (.int .i64 (sumL out))] H.length hlt hl'
      refine ⟨(.exit 2, [.s (.int .i64 (sumL out))], h2), ?_, h2, p, q, rfl, t2⟩
      simp [law07_ExtentRoom_l4, t1])
  exact ⟨H', p', q', hM', fun k => hq k⟩

theorem room_run {T n : Int} (hT0 : 0 ≤ T) (hT : T ≤ 1024) (acts : List ActX) (hl : acts.length ≤ 100) {H : Heap} {p q : Option (Nat × Nat)} (hM : MapP H 0 [] T (newF T) [] p q) :
    law07_ExtentRoom_k7 (.ptr 0 0 0 0) [] (mkF 4 (acts.map actXC)) (.s (.int .i64 n)) .normal [.s (.bool false)] H = some (.ok (.s (.bool true)), []) := by
  obtain ⟨H1, fs, p1, q1, m1, hw, c1⟩ := room_loop hT0 hT acts hl hM (newF_wf T hT0)
  have hs := WFx_sum hw
  have hcs := count_sum hw (by omega)
  have hsh := wf_short hT0 hT hw
  have cC := fun (kp k : A → Heap → Option (Out × Heap)) => oLend_map m1.at_ m1.fr m1.la (by simp) (by rfl) (Count_v T fs [] (by omega)) kp k
  rw [hcs] at cC
  by_cases hn : sumL fs < n
  · obtain ⟨H2, p2, q2, m2, _, _, _, c2⟩ := oCall_map (all_no T fs [] n (by rw [hcs]; exact hn) hsh) (by simp) (by simp) m1 (by simp)
    have b2 := fun (kp k : A → Heap → Option (Out × Heap)) => c2 kp k
    have cD := fun (kp k : A → Heap → Option (Out × Heap)) => oLend_map m2.at_ m2.fr m2.la (by simp) (by rfl) (Count_v T fs [] (by omega)) kp k
    rw [hcs] at cD
    simp [law07_ExtentRoom_k7, law07_ExtentRoom_k6, c1, cC, b2, frz_no, hn, cD, finish_val]
  · obtain ⟨out, fs', a1, a2, a3, a4, a5, a6⟩ := all_exists hT n.toNat n fs (by omega) hw (by omega)
    have ho : out.length < 900000 := by split at a6 <;> omega
    obtain ⟨H2, p2, q2, m2, _, _, _, c2⟩ := oCall_map_all (all_ok T fs [] out fs' n a1 (by rw [hcs]; omega) hsh (by omega)) (by simp) m1 (by simp)
    have b2 := fun (kp k : A → Heap → Option (Out × Heap)) => c2 kp k
    have hs' := WFx_sum a3
    have hcs' := count_sum a3 (by omega)
    obtain ⟨H3, p3, q3, m3, c3⟩ := room_sum m2 out ho a5 (by rw [a2]; split <;> omega) (by rw [a2]; split <;> omega)
    have hsh' := wf_short hT0 hT a3
    have cD := fun (kp k : A → Heap → Option (Out × Heap)) => oLend_map m3.at_ m3.fr m3.la (by simp) (by rfl) (Count_v T fs' [] (by omega)) kp k
    rw [hcs'] at cD
    have hmax : (if n > 0 then n else 0) = sumL out := by rw [a2]
    have hwr : IntKind.i64.wrap (sumL fs - sumL out) = sumL fs' := by rw [wr _ (by rw [a2]; split <;> omega) (by rw [a2]; split <;> omega), a4, a2]
    simp [law07_ExtentRoom_k7, law07_ExtentRoom_k6, law07_ExtentRoom_k5, c1, cC, b2, hn, c3, cD, hwr, a2, finish_val]
    rw [a2] at hwr
    exact hwr.symm

theorem ExtentRoom_v (t : Int) (acts : List ActX) (n : Int) {P Q R : Prop} (_w1 : P) (_w2 : Q) (_w3 : R) : law07_ExtentRoom [.s (.int .i64 t), mkF 4 (acts.map actXC), .s (.int .i64 n)] [] = some (.ok (.s (.bool true)), []) := by
  obtain ⟨H, p, hN, hM⟩ := New_call t
  have hA := fun (kp k : A → Heap → Option (Out × Heap)) => alive_call kp k
  have hN' := fun (kp k : A → Heap → Option (Out × Heap)) => hN kp k
  have hT := fun (vs : List A) => trim_self true vs H H.length rfl
  have hend : law07_ExtentRoom_k7 (.ptr 0 0 0 0) [] (mkF 4 (acts.map actXC)) (.s (.int .i64 n)) .normal [.s (.bool true)] H = some (.ok (.s (.bool true)), []) := by
    simp [law07_ExtentRoom_k7, finish_val]
  by_cases c0 : 100 < acts.length
  · have c0' : (100 : Int) < (acts.length : Int) := by omega
    simp [law07_ExtentRoom, hA, hN', hT, c0, c0', hend]
  · have c0' : ¬ (100 : Int) < (acts.length : Int) := by omega
    by_cases c1 : t < 0
    · simp [law07_ExtentRoom, hA, hN', hT, c0, c0', c1, hend]
    · by_cases c2 : 1024 < t
      · simp [law07_ExtentRoom, hA, hN', hT, c0, c0', c1, c2, hend]
      · have hnt : newT t = t := by
          simp only [newT]
          split
          · split
            · rfl
            · omega
          · omega
        rw [hnt] at hM
        have hrun := room_run (T := t) (n := n) (by omega) (by omega) acts (by omega) hM
        simp [law07_ExtentRoom, hA, hN', hT, c0, c0', c1, c2, hrun]
end Go.Ab.T
