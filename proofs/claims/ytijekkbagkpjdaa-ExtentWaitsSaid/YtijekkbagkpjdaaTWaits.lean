/-
  EXTENTS: what waits is not given.
-/
import Derived.Test.YtijekkbagkpjdaaTExtN
set_option linter.unusedSimpArgs false
set_option linter.unusedVariables false
set_option linter.unusedSectionVars false
namespace Go.Ab.T
open Go Go.Ab Go.Ab.F

theorem extentC_inj {a b : Extent} (h : extentC a = extentC b) : a = b := by
  cases a; cases b; simp [extentC] at h; simp [h]
theorem eq_ext (a b : Extent) : eqCells [true, true] (extentC a) (extentC b) = some (decide (a = b)) := by
  have : (decide (a = b)) = (decide (a.start = b.start) && decide (a.len = b.len)) := by
    cases a; cases b; simp
  rw [this]
  simp [extentC, eqCells]
theorem Same_v (a b : List Extent) (hl : a.length < 2 ^ 63) (hl2 : b.length < 2 ^ 63) : ref07_Same [mkF 2 (a.map extentC), mkF 2 (b.map extentC)] [] = some (.ok (.s (.bool (decide (a = b)))), []) := by
  by_cases hn : a.length = b.length
  · have hni : (a.length : Int) = (b.length : Int) := by omega
    obtain ⟨Q, hQ, hq⟩ := oLoop_inv' (step := ref07_Same_l1 (.s (.int .i64 a.length)) (mkF 2 (a.map extentC)) (mkF 2 (b.map extentC)) []) (s0 := ([.s (.int .i64 0)], []))
      (fun i s => s = ([.s (.int .i64 i)], []) ∧ a.take i = b.take i) (fun Q => (Q = (.exit 0, [.any], []) ∧ a = b) ∨ (Q = (.ret, [.s (.bool false)], []) ∧ a ≠ b)) a.length ⟨rfl, rfl⟩ hl
      (by
        rintro i s hi ⟨rfl, ht⟩
        have hib : i < b.length := by omega
        have hx : a[i]? = some a[i] := List.getElem?_eq_getElem hi
        have hy : b[i]? = some b[i] := List.getElem?_eq_getElem hib
        generalize hxe : a[i] = x at hx
        generalize hye : b[i] = y at hy
        have hw := wrap_succ hi hl
        by_cases hxy : x = y
        · left
          refine ⟨([.s (.int .i64 (i + 1 : Nat))], []), ?_, rfl, ?_⟩
          · simp [ref07_Same_l1, hi, hib, oIdxA_mkF _ _ _ _ _ _ _ hx, oIdxA_mkF _ _ _ _ _ _ _ hy, oLoadD, eq_ext, hxy, hw, trim, allBelow]
          · rw [List.take_add_one, List.take_add_one, hx, hy, ht, hxy]
        · right
          refine ⟨(.ret, [.s (.bool false)], []), ?_, .inr ⟨rfl, ?_⟩⟩
          · simp [ref07_Same_l1, hi, hib, oIdxA_mkF _ _ _ _ _ _ _ hx, oIdxA_mkF _ _ _ _ _ _ _ hy, oLoadD, eq_ext, hxy, trim, allBelow]
          · intro hab; subst hab; rw [hx] at hy; exact hxy (Option.some.inj hy))
      (by
        rintro s ⟨rfl, ht⟩
        refine ⟨(.exit 0, [.any], []), by simp [ref07_Same_l1, trim, allBelow], .inl ⟨rfl, ?_⟩⟩
        rw [List.take_length, hn, List.take_length] at ht; exact ht)
    have hq' := fun (k : Ex → List A → Heap → Option (Out × Heap)) => hq k
    rcases hQ with ⟨rfl, h⟩ | ⟨rfl, h⟩
    · simp [ref07_Same, hni] at hq' ⊢
      rw [hq']; simp [ref07_Same_k2, finish_val, h]
    · simp [ref07_Same, hni] at hq' ⊢
      rw [hq']; simp [ref07_Same_k2, finish_val, h]
  · have hni : ¬ (a.length : Int) = (b.length : Int) := by omega
    have hne : a ≠ b := fun h => hn (by rw [h])
    simp [ref07_Same, hni, hne, finish_val]

theorem frz_no (e : Int) (h : Heap) {β : Type} (k : A → Heap → Option β) : oFrz (.tup [.s (.slice none 0 0), .s (.int .i64 e)]) h k = k (.tup [.fsl 0 [], .s (.int .i64 e)]) h := rfl
theorem wr (a : Int) (h1 : -100000 < a) (h2 : a < 100000) : IntKind.i64.wrap a = a := wrap64_id (by omega) (by omega)

def restF (T n : Int) : List Extent := if n < T then [⟨n, T - n⟩] else []

section
variable {T n : Int} (h1 : 1 ≤ n) (h2 : n ≤ T) (h3 : T ≤ 1024)
include h1 h2 h3
theorem w_got : gotS n [⟨0, T⟩] = ⟨0, n⟩ := by
  simp only [gotS, bestS, bestGo, h2, if_true]
  split
  · rfl
  · have : T = n := by omega
    rw [this]
theorem w_end0 : eend ⟨0, n⟩ = n := by simp only [eend]; rw [wr _ (by omega) (by omega)]; omega
theorem w_endT : eend ⟨0, T⟩ = T := by simp only [eend]; rw [wr _ (by omega) (by omega)]; omega
theorem w_endR : eend ⟨n, T - n⟩ = T := by simp only [eend]; rw [wr _ (by omega) (by omega)]; omega
theorem w_cut : cutS ⟨0, n⟩ [⟨0, T⟩] = restF T n := by
  have e1 := w_end0 h1 h2 h3
  have e2 := w_endT h1 h2 h3
  have e3 : ¬ T < n := by omega
  simp only [cutS, List.flatMap_cons, List.flatMap_nil, List.append_nil, cutOne, e1, e2, restF, Int.lt_irrefl, e3, or_self, if_false, List.nil_append]
  split
  · rw [wr _ (by omega) (by omega)]
  · rfl
theorem w_len : (restF T n).length ≤ 1 := by unfold restF; split <;> simp
theorem w_there : thereB T ⟨0, n⟩ = true := by
  have := wr (T - n) (by omega) (by omega)
  simp [thereB, this]; omega
theorem w_meets : (restF T n).any (meetsB ⟨0, n⟩) = false := by
  have e1 := w_end0 h1 h2 h3
  unfold restF
  split
  · simp [meetsB, e1]
  · rfl
theorem w_taken1 : takenB T (restF T n) [] ⟨0, n⟩ = true := by simp [takenB, w_there h1 h2 h3, w_meets h1 h2 h3]
theorem w_taken2 : takenB T (restF T n) [⟨0, n⟩] ⟨0, n⟩ = false := by
  have e1 := w_end0 h1 h2 h3
  have : meetsB ⟨0, n⟩ ⟨0, n⟩ = true := by simp [meetsB, e1]; omega
  simp [takenB, this]
theorem w_within : (thereB T ⟨0, n⟩ && (restF T n).any (withinB ⟨0, n⟩)) = false := by
  have : (restF T n).any (withinB ⟨0, n⟩) = false := by
    unfold restF
    split
    · have : ¬ n ≤ 0 := by omega
      simp [withinB, this]
    · rfl
  rw [this, Bool.and_false]
theorem w_count : countS (restF T n) = T - n := by
  unfold restF
  split
  · simp [countS, wr (T - n) (by omega) (by omega)]
  · simp [countS]; omega
theorem w_all : AllR (T - n) (restF T n) (restF T n) [] := by
  unfold restF
  split
  · rename_i hc
    have hg : gotS (T - n) [⟨n, T - n⟩] = ⟨n, T - n⟩ := by
      simp [gotS, bestS, bestGo]
    have e1 := w_endR h1 h2 h3
    have hcut : cutS ⟨n, T - n⟩ [⟨n, T - n⟩] = [] := by simp [cutS, cutOne]
    have := AllR.step (n := T - n) (fs := [⟨n, T - n⟩]) (out := []) (fs' := []) (by omega) (by simp) (by simp) (by rw [hg, hcut]; exact AllR.done (by simp only; rw [Int.sub_self]; decide))
    rwa [hg] at this
  · exact AllR.done (by omega)
theorem w_taken3 (hc : n < T) : takenB T [] [⟨0, n⟩] ⟨n, T - n⟩ = true := by
  have e1 := w_end0 h1 h2 h3
  have e2 := w_endR h1 h2 h3
  have := wr (T - (T - n)) (by omega) (by omega)
  simp [takenB, thereB, meetsB, e1, this]; omega
theorem w_put : putS (restF T n) ⟨0, n⟩ = [⟨0, T⟩] := by
  have e1 := w_end0 h1 h2 h3
  unfold restF
  split
  · have hp : pos [⟨n, T - n⟩] ⟨0, n⟩ = 0 := by
      have : ¬ n < 0 := by omega
      simp [pos, this]
    have := wr (n + (T - n)) (by omega) (by omega)
    simp [putS, insS, hp, mergeAt, e1, this]; omega
  · have : T = n := by omega
    rw [putS_nil, this]
end

theorem trim_any0 {h : Heap} {m : Nat} {X : List Nat} {T : Int} {fs ls : List Extent} {p q : Option (Nat × Nat)} (hM : MapP h m X T fs ls p q) (vs : List A) (n : Nat) (hm : m < n) (hn : n ≤ h.length) :
    ∃ h', trim true n vs h = some (vs, h') ∧ MapP h' m X T fs ls p q ∧ n ≤ h'.length ∧ ∀ x, x < n → h'[x]? = h[x]? := by
  unfold trim
  split
  · rename_i hc
    simp only [Bool.true_and, Bool.and_eq_true, List.all_eq_true] at hc
    have hms : mslot T p q fs ls ∈ h.take n := by
      rw [List.mem_iff_getElem?]; exact ⟨m, by rw [List.getElem?_take, if_pos hm]; exact hM.at_⟩
    have hb := hc.2 _ hms
    simp only [mslot_ids, allBelow, List.all_eq_true, decide_eq_true_eq] at hb
    have hat : ∀ p0 l, (∀ i ∈ lIds p0, i < n) → lAt h p0 l → lAt (h.take n) p0 l := by
      intro p0 l hi hl
      cases p0 with
      | none => exact hl
      | some x =>
        show (h.take n)[x.1]? = _
        rw [List.getElem?_take, if_pos (hi x.1 (by simp [lIds]))]; exact hl
    refine ⟨_, rfl, ⟨?_, hat p fs (fun i hi => hb i (by simp [hi])) hM.fr, hat q ls (fun i hi => hb i (by simp [hi])) hM.la, hM.mp, hM.mq, hM.pq, hM.fx⟩, ?_, ?_⟩
    · rw [List.getElem?_take, if_pos hm]; exact hM.at_
    · simp; omega
    · intro x hx; rw [List.getElem?_take, if_pos hx]
  · exact ⟨h, rfl, hM, hn, fun x _ => rfl⟩
theorem lend_fo {h : Heap} {id v n : Nat} {rows rows' : List (List A)} (hg : h[id]? = some (.live ⟨v, 2, rows'⟩)) (hn : n = rows'.length) (hp : pureRows rows' = true) : lendL lendFuel [mkF 2 rows, .osl id v 2 0 n] h = some [mkF 2 rows, mkF 2 rows'] := by
  subst hn
  have h1 : ∀ n, lendA (n + 2) (mkF 2 rows) h = some (mkF 2 rows) := fun n => by
    unfold mkF
    rw [lendA]
    cases rows <;> simp [mkF]
  have h2 : ∀ n, lendA (n + 2) (.osl id v 2 0 rows'.length) h = some (mkF 2 rows') := fun n => by
    rw [lendA, hg]
    simp [lendRows, hp]
  rw [show lendFuel = 999 + 1 from rfl, lendL_cons' _ _ _ _ (by simp), show (999 : Nat) = 997 + 2 from rfl, h1, Option.bind_some, show (997 + 2 : Nat) = 998 + 1 from rfl, lendL_cons' _ _ _ _ (by simp), show (998 : Nat) = 996 + 2 from rfl, h2, Option.bind_some, show (996 + 2 : Nat) = 997 + 1 from rfl, lendL_nil']
  rfl
theorem Same_call {h : Heap} {id v n : Nat} (a b : List Extent) (ha : a.length < 2 ^ 63) (hb : b.length < 2 ^ 63) (hg : h[id]? = some (.live ⟨v, 2, b.map extentC⟩)) (hn : n = b.length) {β : Type} (kp k : A → Heap → Option β) :
    oLend ref07_Same [mkF 2 (a.map extentC), .osl id v 2 0 n] h kp k = k (.s (.bool (decide (a = b)))) h :=
  oLend_lent _ _ [mkF 2 (a.map extentC), mkF 2 (b.map extentC)] h kp k _ (by simpa using lend_fo hg (by simp [hn]) (ext_pure b)) (by simp) (by rfl) (Same_v a b ha hb)

/-- What was given is given back, one after the other. -/
theorem waits_loop {H : Heap} {T n : Int} {p q : Option (Nat × Nat)} (h1 : 1 ≤ n) (h2 : n ≤ T) (h3 : T ≤ 1024) (hM : MapP H 0 [] T [] [⟨0, n⟩] p q) :
    ∃ H' p' q', MapP H' 0 [] T (restF T n) [⟨0, n⟩] p' q' ∧ ∀ (k : Ex → List A → Heap → Option (Out × Heap)), oLoop (law07_ExtentWaits_l1 (.s (.int .i64 (restF T n).length)) (mkF 2 ((restF T n).map extentC)) (.ptr 0 0 0 0) H) ([.s (.int .i64 0)], H) k = k (.exit 0) [.any] H' := by
  have hlt := lt_of_some hM.at_
  have hrl := w_len h1 h2 h3
  obtain ⟨Q, ⟨H', p', q', rfl, hM'⟩, hq⟩ := oLoop_inv' (step := law07_ExtentWaits_l1 (.s (.int .i64 (restF T n).length)) (mkF 2 ((restF T n).map extentC)) (.ptr 0 0 0 0) H) (s0 := ([.s (.int .i64 0)], H))
    (fun i s => ∃ h p q, s = ([.s (.int .i64 i)], h) ∧ MapP h 0 [] T ((restF T n).take i) [⟨0, n⟩] p q ∧ H.length ≤ h.length) (fun Q => ∃ h p q, Q = (.exit 0, [.any], h) ∧ MapP h 0 [] T (restF T n) [⟨0, n⟩] p q) (restF T n).length
    ⟨H, p, q, rfl, by simpa using hM, Nat.le_refl _⟩ (by omega)
    (by
      rintro i s hi ⟨h, p, q, rfl, hM', hl⟩
      left
      have hi0 : i = 0 := by omega
      subst hi0
      have hc : n < T := by
        unfold restF at hi; split at hi
        · assumption
        · simp at hi
      have hr : restF T n = [⟨n, T - n⟩] := by simp [restF, hc]
      rw [hr] at hM' ⊢
      simp only [List.take_zero] at hM'
      have hMt := mapP_app hM' [xs ⟨n, T - n⟩] [] (by simp)
      obtain ⟨H2, p2, q2, m2, _, l2, _, c2⟩ := oCall_map (free_ok T [] [⟨0, n⟩] ⟨n, T - n⟩ (by simp) (by simp) (w_taken3 h1 h2 h3 hc)) (by simp) (by simp) hMt (by simp)
      rw [putS_nil] at m2
      obtain ⟨H3, t1, t2, t3, _⟩ := trim_any0 m2 [.s (.int .i64 1)] H.length hlt (by simp at l2; omega)
      refine ⟨([.s (.int .i64 1)], H3), ?_, H3, p2, q2, rfl, by simpa using t2, t3⟩
      have hz : [A.s (.int .i64 0), .s (.int .i64 0)] = extentC ⟨0, 0⟩ := rfl
      have hN := fun (k : A → Heap → Option ((List A × Heap) ⊕ (Ex × List A × Heap))) => new_xs ⟨0, 0⟩ h k
      have hS := fun (k : Heap → Option ((List A × Heap) ⊕ (Ex × List A × Heap))) => stE (at1 h (xs ⟨0, 0⟩) []) ⟨n, T - n⟩ k
      rw [set1] at hS
      have hL := fun (k : A → Option ((List A × Heap) ⊕ (Ex × List A × Heap))) => ldE (at1 h (xs ⟨n, T - n⟩) []) k
      have hc2 := fun (kp k : A → Heap → Option ((List A × Heap) ⊕ (Ex × List A × Heap))) => c2 kp k
      have hI : ∀ (k : A → Option ((List A × Heap) ⊕ (Ex × List A × Heap))), oIdxA 2 (mkF 2 [extentC ⟨n, T - n⟩]) (.s (.int .i64 0)) k = k (.cptr (extentC ⟨n, T - n⟩)) := fun k => oIdxA_mkF 2 extentC [⟨n, T - n⟩] .i64 0 _ k rfl
      simp [-oLoad_ptr, -oStore_ptr, -oNew_agg, law07_ExtentWaits_l1, hI, hz, hN, hS, hL, hc2, show IntKind.i64.wrap 1 = 1 from by decide, t1])
    (by
      rintro s ⟨h, p, q, rfl, hM', hl⟩
      rw [List.take_length] at hM'
      obtain ⟨H3, t1, t2, t3, _⟩ := trim_any0 hM' [.any] H.length hlt hl
      refine ⟨(.exit 0, [.any], H3), ?_, H3, p, q, rfl, t2⟩
      simp [law07_ExtentWaits_l1, t1])
  exact ⟨H', p', q', hM', fun k => hq k⟩

set_option maxHeartbeats 1000000 in
theorem waits_run {T n : Int} (h1 : 1 ≤ n) (h2 : n ≤ T) (h3 : T ≤ 1024) {H : Heap} {p q : Option (Nat × Nat)} (hM : MapP H 0 [] T [⟨0, T⟩] [] p q) :
    law07_ExtentWaits_k5 (.ptr 0 0 0 0) [] (.s (.int .i64 n)) (.s (.int .i64 T)) .normal [.s (.bool false)] H = some (.ok (.s (.bool true)), []) := by
  have hrl := w_len h1 h2 h3
  have hz : [A.s (.int .i64 0), .s (.int .i64 0)] = extentC ⟨0, 0⟩ := rfl
  have ha := alloc_ok T [⟨0, T⟩] [] n h1 (by simp) (by simp)
  rw [w_got h1 h2 h3, w_cut h1 h2 h3] at ha
  obtain ⟨H1, p1, q1, m1, _, _, _, c1⟩ := oCall_map ha (by simp) (by simp) hM (by simp)
  have b1 := fun (kp k : A → Heap → Option (Out × Heap)) => c1 kp k
  have m1' := mapP_app m1 [xs ⟨0, n⟩] [H1.length] (by simp)
  have x1 := at1 H1 (xs ⟨0, n⟩) []
  have hS := fun (k : Heap → Option (Out × Heap)) => stE (at1 H1 (xs ⟨0, 0⟩) []) ⟨0, n⟩ k
  rw [set1] at hS
  have hN := fun (k : A → Heap → Option (Out × Heap)) => new_xs ⟨0, 0⟩ H1 k
  obtain ⟨H2, p2, q2, m2, f2, l2, _, c2⟩ := oCall_map (later_ok T (restF T n) [] ⟨0, n⟩ (by omega) (by simp) (w_taken1 h1 h2 h3)) (by simp) (by simp) m1' (by simp)
  rw [putS_nil] at m2
  have x2 : H2[H1.length]? = some (xs ⟨0, n⟩) := by rw [f2 _ (by simp)]; exact x1
  obtain ⟨H3, p3, q3, m3, f3, l3, _, c3⟩ := oCall_map (later_no T (restF T n) [⟨0, n⟩] ⟨0, n⟩ (by omega) (by simp) (w_taken2 h1 h2 h3)) (by simp) (by simp) m2 (by simpa using lt_of_some x2)
  have x3 : H3[H1.length]? = some (xs ⟨0, n⟩) := by rw [f3 _ (by simp)]; exact x2
  obtain ⟨H4, p4, q4, m4, f4, l4, _, c4⟩ := oCall_map (free_no T (restF T n) [⟨0, n⟩] ⟨0, n⟩ (by omega) (by simp) (w_taken2 h1 h2 h3)) (by simp) (by simp) m3 (by simpa using lt_of_some x3)
  have x4 : H4[H1.length]? = some (xs ⟨0, n⟩) := by rw [f4 _ (by simp)]; exact x3
  obtain ⟨H5, p5, q5, m5, f5, l5, _, c5⟩ := oCall_map (take_no T (restF T n) [⟨0, n⟩] ⟨0, n⟩ (by omega) (w_within h1 h2 h3)) (by simp) (by simp) m4 (by simpa using lt_of_some x4)
  have cC := fun (kp k : A → Heap → Option (Ex × List A × Heap)) => oLend_map m5.at_ m5.fr m5.la (by simp) (by rfl) (Count_v T (restF T n) [⟨0, n⟩] (by omega)) kp k
  rw [w_count h1 h2 h3] at cC
  obtain ⟨H6, t1, m6, _, _⟩ := trim_any0 m5 [.s (.bool false)] (H1.length + 1) (by omega) (by have := lt_of_some x4; omega)
  have b2 := fun (kp k : A → Heap → Option (Ex × List A × Heap)) => c2 kp k
  have b3 := fun (kp k : A → Heap → Option (Ex × List A × Heap)) => c3 kp k
  have b4 := fun (kp k : A → Heap → Option (Ex × List A × Heap)) => c4 kp k
  have b5 := fun (kp k : A → Heap → Option (Ex × List A × Heap)) => c5 kp k
  have e1 := fun (k : A → Option (Ex × List A × Heap)) => ldLen x1 k
  have g1 := fun (k : A → Option (Ex × List A × Heap)) => ldE x1 k
  have g2 := fun (k : A → Option (Ex × List A × Heap)) => ldE x2 k
  have g3 := fun (k : A → Option (Ex × List A × Heap)) => ldE x3 k
  have g4 := fun (k : A → Option (Ex × List A × Heap)) => ldE x4 k
  have hw1 := wr (T - n) (by omega) (by omega)
  have hw2 := wr (T - n + 1) (by omega) (by omega)
  obtain ⟨H7, p7, q7, m7, _, l7, _, c7⟩ := oCall_map (all_no T (restF T n) [⟨0, n⟩] (T - n + 1) (by rw [w_count h1 h2 h3]; omega) (by omega)) (by simp) (by simp) (mapP_sub m6 (Y := []) (by simp)) (by simp)
  have b7 := fun (kp k : A → Heap → Option (Out × Heap)) => c7 kp k
  obtain ⟨H8, p8, q8, m8, _, l8, _, c8⟩ := oCall_map_all (all_ok T (restF T n) [⟨0, n⟩] (restF T n) [] (T - n) (w_all h1 h2 h3) (by rw [w_count h1 h2 h3]; omega) (by omega) (by omega)) (by simp) m7 (by simp)
  have b8 := fun (kp k : A → Heap → Option (Out × Heap)) => c8 kp k
  have cD := fun (kp k : A → Heap → Option (Ex × List A × Heap)) => oLend_map m8.at_ m8.fr m8.la (by simp) (by rfl) (Count_v T [] [⟨0, n⟩] (by simp)) kp k
  obtain ⟨H9, p9, q9, m9, c9⟩ := waits_loop h1 h2 h3 m8
  have hcm := commit_ok T (restF T n) [⟨0, n⟩] (by simp; omega)
  simp only [List.foldl_cons, List.foldl_nil, w_put h1 h2 h3] at hcm
  obtain ⟨H10, p10, q10, m10, _, l10, _, c10⟩ := oCall_map hcm (by simp) (by simp) m9 (by simp)
  have b10 := fun (kp k : A → Heap → Option (Out × Heap)) => c10 kp k
  have cL := fun (kp k : A → Heap → Option (Out × Heap)) => List_call m10 (by simp) kp k
  have m11 := mapP_app m10 [.dead, xs ⟨0, T⟩] [] (by simp)
  have cS := fun (kp k : A → Heap → Option (Out × Heap)) => Same_call (h := H10 ++ [.dead, xs ⟨0, T⟩]) (id := H10.length + 1) (v := 0) (n := 1) [⟨0, T⟩] [⟨0, T⟩] (by simp) (by simp) (at2 _ _ _ _) rfl kp k
  have cW := fun (kp k : A → Heap → Option (Out × Heap)) => Waiting_call m11 (by simp) kp k
  have hTs := fun (vs : List A) => trim_self true vs H8 H8.length rfl
  have hfu : ∀ (h : Heap) (k : A → Heap → Option (Out × Heap)), oFrz (.s (.tuple #[])) h k = k (.s (.tuple #[])) h := fun h k => rfl
  simp only [List.map_cons, List.map_nil] at cL cS cW
  have hpe : putCells (extentC ⟨0, 0⟩) 1 [.s (.int .i64 T)] = extentC ⟨0, T⟩ := rfl
  have hp0 : putCells (extentC ⟨0, 0⟩) 0 [.s (.int .i64 0)] = extentC ⟨0, 0⟩ := rfl
  have hns : ∀ (k : A → Heap → Option (Out × Heap)), oNewSlice none 2 (some [extentC ⟨0, T⟩]) (H10 ++ [.dead]) k = k (.osl (H10.length + 1) 0 2 0 1) (H10 ++ [.dead, xs ⟨0, T⟩]) := fun k => by
    simp [xs]
  simp [-oLoad_ptr, -oStore_ptr, -oNew_agg, -oNewSlice_eq, hns, law07_ExtentWaits_k5, law07_ExtentWaits_k4, law07_ExtentWaits_k3, law07_ExtentWaits_k2, hz, b1, hN, hS, e1, g1, g2, g3, g4, b2, b3, b4, b5, cC, t1, hw1, hw2, b7, frz_no, b8, cD, countS, hTs, c9, b10, hfu, cL, cS, cW, fillA, hpe, hp0, asRows, finish_val]

theorem ExtentWaits_v (t n : Int) {P Q : Prop} (_w1 : P) (_w2 : Q) : law07_ExtentWaits [.s (.int .i64 t), .s (.int .i64 n)] [] = some (.ok (.s (.bool true)), []) := by
  obtain ⟨H, p, hN, hM⟩ := New_call t
  have hA := fun (kp k : A → Heap → Option (Out × Heap)) => alive_call kp k
  have hN' := fun (kp k : A → Heap → Option (Out × Heap)) => hN kp k
  have hT := fun (vs : List A) => trim_self true vs H H.length rfl
  have hend : law07_ExtentWaits_k5 (.ptr 0 0 0 0) [] (.s (.int .i64 n)) (.s (.int .i64 t)) .normal [.s (.bool true)] H = some (.ok (.s (.bool true)), []) := by
    simp [law07_ExtentWaits_k5, finish_val]
  by_cases c1 : t < 1
  · simp [law07_ExtentWaits, hA, hN', hT, c1, hend]
  · by_cases c2 : 1024 < t
    · simp [law07_ExtentWaits, hA, hN', hT, c1, c2, hend]
    · by_cases c3 : n < 1
      · simp [law07_ExtentWaits, hA, hN', hT, c1, c2, c3, hend]
      · by_cases c4 : t < n
        · simp [law07_ExtentWaits, hA, hN', hT, c1, c2, c3, c4, hend]
        · have hnt : newT t = t := by
            have h0 : 0 < t := by omega
            simp only [newT, h0, if_true]
            split
            · rfl
            · omega
          rw [hnt] at hM
          have hf : newF t = [⟨0, t⟩] := by
            have h0 : 0 < t := by omega
            simp [newF, h0]
          rw [hf] at hM
          have hrun := waits_run (T := t) (n := n) (by omega) (by omega) (by omega) hM
          simp [law07_ExtentWaits, hA, hN', hT, c1, c2, c3, c4, hrun]
end Go.Ab.T
