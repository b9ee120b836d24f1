/-
  EXTENTS: what waited is free; all that is asked for.
-/
import Derived.Test.YtijekkbagkpjdaaTOpsD
set_option linter.unusedSimpArgs false
set_option linter.unusedVariables false
namespace Go.Ab.T
open Go Go.Ab Go.Ab.F

theorem trim_any {h : Heap} {m : Nat} {X : List Nat} {T : Int} {fs ls : List Extent} {p q : Option (Nat × Nat)} (hM : MapP h m X T fs ls p q) (hW : WH m h) (vs : List A) (n : Nat) (hm : m < n) (hn : n ≤ h.length) :
    ∃ h', trim true n vs h = some (vs, h') ∧ MapP h' m X T fs ls p q ∧ WH m h' ∧ n ≤ h'.length ∧ ∀ x, x < n → h'[x]? = h[x]? := by
  unfold trim
  split
  · rename_i hc
    simp only [Bool.true_and, Bool.and_eq_true, List.all_eq_true] at hc
    have hms : mslot T p q fs ls ∈ h.take n := by
      rw [List.mem_iff_getElem?]; exact ⟨m, by rw [List.getElem?_take, if_pos hm]; exact hM.at_⟩
    have hb := hc.2 _ hms
    simp only [mslot_ids, allBelow, List.all_eq_true, decide_eq_true_eq] at hb
    have hat : ∀ p0 l, (∀ i ∈ lIds p0, i < n) → lAt h p0 l → lAt (h.take n) p0 l := by
      intro p0 l hi hl
      cases p0 with
      | none => exact hl
      | some x =>
        show (h.take n)[x.1]? = _
        rw [List.getElem?_take, if_pos (hi x.1 (by simp [lIds]))]; exact hl
    refine ⟨_, rfl, ⟨?_, hat p fs (fun i hi => hb i (by simp [hi])) hM.fr, hat q ls (fun i hi => hb i (by simp [hi])) hM.la, hM.mp, hM.mq, hM.pq, hM.fx⟩, ?_, ?_, ?_⟩
    · rw [List.getElem?_take, if_pos hm]; exact hM.at_
    · intro j s hj hs
      rw [List.getElem?_take] at hs
      split at hs
      · exact hW j s hj hs
      · cases hs
    · simp; omega
    · intro x hx; rw [List.getElem?_take, if_pos hx]
  · exact ⟨h, rfl, hM, hW, hn, fun x _ => rfl⟩

theorem putS_len (fs : List Extent) (e : Extent) : (putS fs e).length ≤ fs.length + 1 := by
  have h0 := insS_len fs e
  unfold putS
  split
  · have h1 := (mergeAt_le (mergeAt (insS fs e) (pos fs e)) (pos fs e - 1)).1
    have h2 := (mergeAt_le (insS fs e) (pos fs e)).1
    omega
  · have h2 := (mergeAt_le (insS fs e) (pos fs e)).1
    omega
theorem foldl_putS_len (ls : List Extent) : ∀ fs : List Extent, (ls.foldl putS fs).length ≤ fs.length + ls.length := by
  induction ls with
  | nil => simp
  | cons a ls ih =>
    intro fs
    have h1 := ih (putS fs a)
    have h2 := putS_len fs a
    simp only [List.foldl_cons, List.length_cons]; omega

theorem commit_ok (T : Int) (fs ls : List Extent) (hf : fs.length + ls.length < 800000) : OpSpec extent_Map_Commit [] T fs ls (.s (.tuple #[])) (ls.foldl putS fs) [] := by
  intro H p q hM hW hlen
  have hlt := lt_of_some hM.at_
  obtain ⟨Q, ⟨p1, h1, hQ, hM1, hW1, hl1⟩, hq⟩ := oLoop_inv' (step := extent_Map_Commit_l1 (.s (.int .i64 ls.length)) (lA q ls) (.ptr 0 0 0 0) H) (s0 := ([.s (.int .i64 0)], H))
    (fun i s => ∃ p' h, s = ([.s (.int .i64 i)], h) ∧ MapP h 0 [] T ((ls.take i).foldl putS fs) ls p' q ∧ WH 0 h ∧ H.length ≤ h.length)
    (fun Q => ∃ p' h, Q = (.exit 0, [], h) ∧ MapP h 0 [] T (ls.foldl putS fs) ls p' q ∧ WH 0 h ∧ H.length ≤ h.length) ls.length ⟨p, H, rfl, hM, hW, Nat.le_refl _⟩ (by omega)
    (by
      rintro i s hi ⟨p', h, rfl, hM', hW', hl'⟩
      have hx : ls[i]? = some ls[i] := List.getElem?_eq_getElem hi
      have hfold : (ls.take (i + 1)).foldl putS fs = putS ((ls.take i).foldl putS fs) ls[i] := by
        rw [List.take_add_one, hx, Option.toList_some, List.foldl_append]; rfl
      generalize ls[i] = x at hx hfold
      have hflen := foldl_putS_len (ls.take i) fs
      rw [List.length_take] at hflen
      generalize (ls.take i).foldl putS fs = gs at hM' hflen hfold
      have hw := wrap_succ hi (by omega)
      have hlt' := lt_of_some hM'.at_
      have hM2 := mapP_app hM' [xs x] [] (by simp)
      have hW2 := wh_app hW' [xs x] (by simp [xs_flat])
      obtain ⟨p2, h3, c1, c2, c3, c4, c5, c6⟩ := putL_call x hM2.fr (by omega)
      obtain ⟨d1, d2, d3⟩ := mapP_put1 hM2 (by simp) c2 c3 c4
      have hW3 := wh_set (c6 0 hW2 hM2.mp) (mslot T p2 q (putS gs x) ls)
      obtain ⟨h4, t1, t2, t3, t4, t5⟩ := trim_any d3 hW3 [.s (.int .i64 (i + 1 : Nat))] H.length hlt (by simp at c5 ⊢; omega)
      left
      refine ⟨([.s (.int .i64 (i + 1 : Nat))], h4), ?_, p2, h4, rfl, by rw [hfold]; exact t2, t3, t4⟩
      have hz : [A.s (.int .i64 0), .s (.int .i64 0)] = extentC ⟨0, 0⟩ := rfl
      have hI := fun (k : A → Option ((List A × Heap) ⊕ (Ex × List A × Heap))) => idx_lA hM'.la i x hx k
      have hN := fun (k : A → Heap → Option ((List A × Heap) ⊕ (Ex × List A × Heap))) => new_xs ⟨0, 0⟩ h k
      have hS := fun (k : Heap → Option ((List A × Heap) ⊕ (Ex × List A × Heap))) => stE (at1 h (xs ⟨0, 0⟩) []) x k
      rw [set1] at hS
      have hL := fun (k : A → Heap → Option ((List A × Heap) ⊕ (Ex × List A × Heap))) => loadD1 hM2.at_ (n := h.length + 1) (by omega) k
      have hL2 : ∀ (k : A → Heap → Option ((List A × Heap) ⊕ (Ex × List A × Heap))), oLoadD (h.length + 1) [] (some 2) (.ptr h.length 0 0 0) (h ++ [xs x]) k = k (.agg (extentC x)) (h ++ [xs x]) := fun k => loadD_ext h [] x (h.length + 1) (by omega) k
      have hc1 := fun (kp k : A → Heap → Option ((List A × Heap) ⊕ (Ex × List A × Heap))) => c1 kp k
      have hS1 := fun (k : Heap → Option ((List A × Heap) ⊕ (Ex × List A × Heap))) => store1 d1 p2 (putS gs x) k
      simp only [Int.natCast_add, Int.cast_ofNat_Int] at t1
      simp [-oLoad_ptr, -oStore_ptr, -oNew_agg, extent_Map_Commit_l1, hi, hI, hz, hN, hS, hL, hL2, hc1, hS1, hw, t1])
    (by
      rintro s ⟨p', h, rfl, hM', hW', hl'⟩
      obtain ⟨h4, t1, t2, t3, t4, t5⟩ := trim_any hM' hW' [] H.length hlt hl'
      refine ⟨(.exit 0, [], h4), ?_, p', h4, rfl, by rw [List.take_length] at t2; exact t2, t3, t4⟩
      simp [extent_Map_Commit_l1, t1])
  subst hQ
  have hM2 := mapP_set2 hM1 (q' := none) (ls' := []) rfl (by simp [lIds])
  obtain ⟨h', p2, q2, f1, f2, f3, f4⟩ := finish_map H.length (.s (.tuple #[])) (by simp) hM2 (wh_set hW1 _) hlt (by simp; omega) (by omega)
  refine ⟨h', p2, q2, ?_, f2, f3, f4⟩
  have hL := fun (k : A → Option (Out × Heap)) => load2 hM.at_ k
  have hn := fun (k : A → Option (Out × Heap)) => oLen_lA q ls hM.la k
  have hq' := fun (k : Ex → List A → Heap → Option (Out × Heap)) => hq k
  have hS : ∀ (k : Heap → Option (Out × Heap)), oStore none (.ptr 0 0 0 2) (.s (.slice none 0 0)) h1 k = k (h1.set 0 (mslot T p1 none (ls.foldl putS fs) [])) := fun k => store2 hM1.at_ none [] k
  simp [-oLoad_ptr, -oStore_ptr, extent_Map_Commit, extent_Map_Commit_k2, hL, hn, hq', hS, f1]
end Go.Ab.T
