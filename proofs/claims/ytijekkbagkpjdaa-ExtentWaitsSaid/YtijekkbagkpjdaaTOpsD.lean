/-
  EXTENTS: allotted; all; what waited.
-/
import Derived.Test.YtijekkbagkpjdaaTOpsC
set_option linter.unusedSimpArgs false
set_option linter.unusedVariables false
namespace Go.Ab.T
open Go Go.Ab Go.Ab.F

theorem alloc_ok (T : Int) (fs ls : List Extent) (n : Int) (hn : 1 ≤ n) (hne : fs ≠ []) (hf : fs.length < 900000) : OpSpec extent_Map_Alloc [.s (.int .i64 n)] T fs ls (.tup [.agg (extentC (gotS n fs)), .s (.int .i64 0)]) (cutS (gotS n fs) fs) ls := by
  intro H p q hM hW hlen
  have hlt := lt_of_some hM.at_
  obtain ⟨b0, r0, hfs⟩ : ∃ b r, fs = b :: r := by
    cases fs with
    | nil => exact absurd rfl hne
    | cons b r => exact ⟨b, r, rfl⟩
  have hx0 : fs[0]? = some b0 := by rw [hfs]; rfl
  have hbest : bestGo n fs b0 = bestS n fs := by rw [hfs]; rfl
  have hn' : ¬ n < 1 := by omega
  have hz : [A.s (.int .i64 0), .s (.int .i64 0)] = extentC ⟨0, 0⟩ := rfl
  have hM1 := mapP_app hM [xs ⟨0, 0⟩] [] (by simp)
  have hW1 := wh_app hW [xs ⟨0, 0⟩] (by simp [xs_flat])
  have hM2 := fun b => mapP_app hM [xs ⟨0, 0⟩, xs b] [] (by simp)
  have hW2 := fun b => wh_app hW [xs ⟨0, 0⟩, xs b] (by simp [xs_flat])
  have n1 := fun (k : A → Heap → Option (Out × Heap)) => new_xs ⟨0, 0⟩ H k
  have n2 := fun (k : A → Heap → Option (Out × Heap)) => new_xs ⟨0, 0⟩ (H ++ [xs ⟨0, 0⟩]) k
  have a1 := fun (k : A → Option (Out × Heap)) => load1 hM1.at_ k
  have a2 := fun b (k : A → Option (Out × Heap)) => load1 (hM2 b).at_ k
  have a3 := fun (k : A → Option (Out × Heap)) => oLen_lA p fs hM.fr k
  have a4 : ∀ (k : A → Option (Out × Heap)), oIdxA 2 (lA p fs) (.s (.int .i64 0)) (fun a => oLoad (some 2) a (H ++ [xs ⟨0, 0⟩]) k) = k (.agg (extentC b0)) := fun k => idx_lA hM1.fr 0 b0 hx0 k
  have s1 := fun (k : Heap → Option (Out × Heap)) => stE (at2 H (xs ⟨0, 0⟩) (xs ⟨0, 0⟩) []) b0 k
  have lp := fun (k : Ex → List A → Heap → Option (Out × Heap)) => alloc_loop hM hW n ⟨0, 0⟩ b0 hf k
  have b1 := fun b (k : A → Option (Out × Heap)) => ldLen (at2 H (xs ⟨0, 0⟩) (xs b) []) k
  have b2 := fun b m (k : Heap → Option (Out × Heap)) => stLen (at2 H (xs ⟨0, 0⟩) (xs b) []) m k
  have b3 := fun b (k : A → Heap → Option (Out × Heap)) => loadD1 (hM2 b).at_ (n := H.length + 2) (by omega) k
  have b4 : ∀ b (k : A → Heap → Option (Out × Heap)), oLoadD (H.length + 2) [] (some 2) (.ptr (H.length + 1) 0 0 0) (H ++ [xs ⟨0, 0⟩, xs b]) k = k (.agg (extentC b)) (H ++ [xs ⟨0, 0⟩, xs b]) := fun b k => by
    have := fun (k : A → Option (Out × Heap)) => ldE (at2 H (xs ⟨0, 0⟩) (xs b) []) k
    simp [oLoadD, -oLoad_ptr, this]
  obtain ⟨v, hc⟩ := cut_call (n := H.length + 2) (gotS n fs) (by simp) (hM2 (gotS n fs)).fr (by omega)
  have hc1 := fun (k : A → Heap → Option (Out × Heap)) => hc k
  have hM3 := mapP_app hM [xs ⟨0, 0⟩, xs (gotS n fs), .live ⟨v, 2, (cutS (gotS n fs) fs).map extentC⟩] [] (by simp)
  have sm := fun (k : Heap → Option (Out × Heap)) => store1 hM3.at_ (some (H.length + 2, v)) (cutS (gotS n fs) fs) k
  have hset : ∀ (r : Heap) (m' : Go.Ab.Slot), (H ++ r).set 0 m' = H.set 0 m' ++ r := fun r m' => List.set_append_left _ _ hlt
  simp only [hset] at sm
  have hl2 : ∀ m', (H.set 0 m').length = H.length := fun m' => by simp
  have c1 : ∀ m' (k : A → Option (Out × Heap)), oLoad (some 2) (.ptr (H.length + 1) 0 0 0) (H.set 0 m' ++ [xs ⟨0, 0⟩, xs (gotS n fs), .live ⟨v, 2, (cutS (gotS n fs) fs).map extentC⟩]) k = k (.agg (extentC (gotS n fs))) := fun m' k =>
    ldE (by have := at2 (H.set 0 m') (xs ⟨0, 0⟩) (xs (gotS n fs)) [.live ⟨v, 2, (cutS (gotS n fs) fs).map extentC⟩]; rwa [hl2] at this) k
  have c2 : ∀ m' (k : Heap → Option (Out × Heap)), oStore (some 2) (.ptr H.length 0 0 0) (.agg (extentC (gotS n fs))) (H.set 0 m' ++ [xs ⟨0, 0⟩, xs (gotS n fs), .live ⟨v, 2, (cutS (gotS n fs) fs).map extentC⟩]) k =
      k (H.set 0 m' ++ [xs (gotS n fs), xs (gotS n fs), .live ⟨v, 2, (cutS (gotS n fs) fs).map extentC⟩]) := fun m' k => by
    have h0 := at1 (H.set 0 m') (xs ⟨0, 0⟩) [xs (gotS n fs), .live ⟨v, 2, (cutS (gotS n fs) fs).map extentC⟩]
    have h1 := stE h0 (gotS n fs) k
    rw [set1] at h1
    rwa [hl2] at h1
  have c3 : ∀ m' (k : A → Option (Out × Heap)), oLoad (some 2) (.ptr H.length 0 0 0) (H.set 0 m' ++ [xs (gotS n fs), xs (gotS n fs), .live ⟨v, 2, (cutS (gotS n fs) fs).map extentC⟩]) k = k (.agg (extentC (gotS n fs))) := fun m' k =>
    ldE (by have := at1 (H.set 0 m') (xs (gotS n fs)) [xs (gotS n fs), .live ⟨v, 2, (cutS (gotS n fs) fs).map extentC⟩]; rwa [hl2] at this) k
  have hM4 := mapP_app hM [xs (gotS n fs), xs (gotS n fs), .live ⟨v, 2, (cutS (gotS n fs) fs).map extentC⟩] [] (by simp)
  have hW4 := wh_app hW [xs (gotS n fs), xs (gotS n fs), .live ⟨v, 2, (cutS (gotS n fs) fs).map extentC⟩] (by simp [xs_flat, ext_flat])
  have l1 := lAt_lt hM.la
  have hM5 := mapP_set1 hM4 (p' := some (H.length + 2, v)) (fs' := cutS (gotS n fs) fs) (at3 H _ _ _ []) (by
    intro i hi; simp only [lIds, List.mem_singleton] at hi; subst hi
    exact ⟨by simp, fun h => by have := l1 _ h; omega, by simp⟩)
  obtain ⟨h', p1, q1, f1, f2, f3, f4⟩ := finish_map H.length (.tup [.agg (extentC (gotS n fs)), .s (.int .i64 0)]) (by simp) hM5 (wh_set hW4 _) hlt (by simp) (by omega)
  rw [hset] at f1
  refine ⟨h', p1, q1, ?_, f2, f3, f4⟩
  have e2 : H.length + 1 + 1 = H.length + 2 := rfl
  have hg : (⟨(bestS n fs).start, if n < (bestS n fs).len then n else (bestS n fs).len⟩ : Extent) = gotS n fs := rfl
  simp only [List.append_assoc, List.cons_append, List.nil_append, List.length_append, List.length_cons, List.length_nil, Nat.zero_add, set2, e2] at n1 n2 s1 b2 hc1
  have hl0 : ¬ ((fs.length : Int) = 0) := by rw [hfs]; simp; omega
  rw [hbest] at lp
  simp [-oLoad_ptr, -oStore_ptr, -oNew_agg, extent_Map_Alloc, extent_Map_Alloc_k3, hn', hz, n1, n2, a1, a2, a3, a4, hne, hl0, s1, lp, b1, b2, b3, b4, hg, hc1, sm, c1, c2, c3, f1, fillA]
end Go.Ab.T
