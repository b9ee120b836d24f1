/-
  EXTENTS: taken, allotted.
-/
import Derived.Test.YtijekkbagkpjdaaTOpsB
set_option linter.unusedSimpArgs false
set_option linter.unusedVariables false
namespace Go.Ab.T
open Go Go.Ab Go.Ab.F

theorem trim_self (gc : Bool) (vs : List A) (h : Heap) (n : Nat) (hn : n = h.length) : trim gc n vs h = some (vs, h) := by
  subst hn; simp [trim]
theorem trim_map {H : Heap} {m : Nat} {X : List Nat} {T : Int} {fs ls : List Extent} {p q : Option (Nat × Nat)} (hM : MapP H m X T fs ls p q) (hW : WH m H) (vs : List A) (hv : idsL vs = []) (r : Heap) (n : Nat) (hn : n = H.length) :
    trim true n vs (H ++ r) = some (vs, H) := by
  subst hn
  have h1 := lAt_lt hM.fr
  have h2 := lAt_lt hM.la
  have : (H.all fun s => allBelow H.length s.ids) = true := by
    rw [List.all_eq_true]
    intro s hs
    obtain ⟨j, hj⟩ := List.mem_iff_getElem?.1 hs
    by_cases hjm : j = m
    · subst hjm
      rw [hM.at_] at hj
      cases hj
      simp only [mslot_ids, allBelow, List.all_eq_true, decide_eq_true_eq]
      intro i hi
      rcases List.mem_append.1 hi with h | h
      · exact h1 i h
      · exact h2 i h
    · rw [flat_ids (hW j s hjm hj)]; rfl
  unfold trim
  rw [hv, List.take_left]
  have hb : allBelow H.length [] = true := rfl
  simp only [this, hb, Bool.and_self, if_true]

theorem take_ok (T : Int) (fs ls : List Extent) (e : Extent) (hf : fs.length < 900000) (ht : (thereB T e && fs.any (withinB e)) = true) : OpSpec extent_Map_Take [.agg (extentC e)] T fs ls (.s (.int .i64 0)) (cutS e fs) ls := by
  intro H p q hM hW hlen
  simp only [Bool.and_eq_true] at ht
  have hlt := lt_of_some hM.at_
  have hM2 := mapP_app hM [.live ⟨0, 2, [extentC e]⟩] [] (by simp)
  have hW2 := wh_app hW [.live ⟨0, 2, [extentC e]⟩] (by simp [ext1_flat])
  have hT := fun (k : A → Heap → Option (Ex × List A × Heap)) => oCallF_map2 (n := H.length + 1) e (by simp) hM2.at_ hM2.fr hM2.la (by simp) (by rfl) (there_v T fs ls e) k
  have hV := fun (k : A → Heap → Option (Ex × List A × Heap)) => oCallF_list2 (n := H.length + 1) e (by simp) hM2.fr (by simp) (by rfl) (within_v fs e (by omega)) k
  obtain ⟨v, hc⟩ := cut_call (n := H.length + 1) e (by simp) hM2.fr (by omega)
  have hc1 := fun (k : A → Heap → Option (Out × Heap)) => hc k
  have hM3 := mapP_app hM2 [.live ⟨v, 2, (cutS e fs).map extentC⟩] [] (by simp)
  have hW3 := wh_app hW2 [.live ⟨v, 2, (cutS e fs).map extentC⟩] (by simp [ext_flat])
  have l1 := lAt_lt hM2.la
  have hM4 := mapP_set1 hM3 (p' := some (H.length + 1, v)) (fs' := cutS e fs) (by show (_ ++ _)[_]? = _; simp) (by
    intro i hi; simp only [lIds, List.mem_singleton] at hi; subst hi
    exact ⟨by simp, fun h => by have := l1 _ h; simp at this, by simp⟩)
  obtain ⟨h', p1, q1, f1, f2, f3, f4⟩ := finish_map H.length (.s (.int .i64 0)) (by simp) hM4 (wh_set hW3 _) hlt (by simp) (by omega)
  refine ⟨h', p1, q1, ?_, f2, f3, f4⟩
  have hL := fun (k : A → Heap → Option (Ex × List A × Heap)) => loadD1 hM2.at_ (n := H.length + 1) (by omega) k
  have hL2 := fun (k : A → Heap → Option (Out × Heap)) => loadD1 hM2.at_ (n := H.length + 1) (by omega) k
  have hS := fun (k : Heap → Option (Out × Heap)) => store1 hM3.at_ (some (H.length + 1, v)) (cutS e fs) k
  have hTr := fun (vs : List A) => trim_self true vs (H ++ [.live ⟨0, 2, [extentC e]⟩]) (H.length + 1) (by simp)
  simp only [List.append_assoc, List.cons_append, List.nil_append, List.length_append, List.length_cons, List.length_nil, Nat.zero_add] at hS f1 hc1
  simp [-oLoad_ptr, -oStore_ptr, extent_Map_Take, extent_Map_Take_k1, load_ext, loadD_ext, hT, hV, ht.1, ht.2, hL, hL2, hc1, hS, hTr, f1]
theorem take_no (T : Int) (fs ls : List Extent) (e : Extent) (hf : fs.length < 900000) (ht : (thereB T e && fs.any (withinB e)) = false) : OpSpec extent_Map_Take [.agg (extentC e)] T fs ls (.s (.int .i64 72)) fs ls := by
  intro H p q hM hW hlen
  have hlt := lt_of_some hM.at_
  have hM2 := mapP_app hM [.live ⟨0, 2, [extentC e]⟩] [] (by simp)
  have hW2 := wh_app hW [.live ⟨0, 2, [extentC e]⟩] (by simp [ext1_flat])
  have hT := fun (k : A → Heap → Option (Ex × List A × Heap)) => oCallF_map2 (n := H.length + 1) e (by simp) hM2.at_ hM2.fr hM2.la (by simp) (by rfl) (there_v T fs ls e) k
  have hV := fun (k : A → Heap → Option (Ex × List A × Heap)) => oCallF_list2 (n := H.length + 1) e (by simp) hM2.fr (by simp) (by rfl) (within_v fs e (by omega)) k
  obtain ⟨h', p1, q1, f1, f2, f3, f4⟩ := finish_map H.length (.s (.int .i64 72)) (by simp) hM2 hW2 hlt (by simp) (by omega)
  refine ⟨h', p1, q1, ?_, f2, f3, f4⟩
  have hL := fun (k : A → Heap → Option (Ex × List A × Heap)) => loadD1 hM2.at_ (n := H.length + 1) (by omega) k
  have hTr := fun (vs : List A) => trim_self true vs (H ++ [.live ⟨0, 2, [extentC e]⟩]) (H.length + 1) (by simp)
  cases h1 : thereB T e with
  | false => simp [-oLoad_ptr, -oStore_ptr, extent_Map_Take, extent_Map_Take_k1, load_ext, loadD_ext, hT, h1, hL, hTr, f1]
  | true =>
    have h2 : fs.any (withinB e) = false := by simpa [h1] using ht
    rw [h2] at hV
    simp [-oLoad_ptr, -oStore_ptr, extent_Map_Take, extent_Map_Take_k1, load_ext, loadD_ext, hT, hV, h1, hL, hTr, f1]

/-! allotting -/
def bestGo (n : Int) : List Extent → Extent → Extent
  | [], b => b
  | x :: r, b => if n ≤ b.len then b else bestGo n r (if b.len < x.len then x else b)
def bestS (n : Int) (fs : List Extent) : Extent := match fs with
  | [] => ⟨0, 0⟩
  | b :: _ => bestGo n fs b
def gotS (n : Int) (fs : List Extent) : Extent := ⟨(bestS n fs).start, if n < (bestS n fs).len then n else (bestS n fs).len⟩

theorem oLen_lA (p : Option (Nat × Nat)) {H : Heap} (l : List Extent) (hp : lAt H p l) {β : Type} (k : A → Option β) : oLen (lA p l) k = k (.s (.int .i64 l.length)) := by
  cases p with
  | none => have : l = [] := hp; subst this; rfl
  | some x => rfl
theorem idx_lA {H : Heap} {p : Option (Nat × Nat)} {l : List Extent} (hp : lAt H p l) (i : Nat) (x : Extent) (hx : l[i]? = some x) {β : Type} (k : A → Option β) :
    oIdxA 2 (lA p l) (.s (.int .i64 i)) (fun a => oLoad (some 2) a H k) = k (.agg (extentC x)) := by
  cases p with
  | none => have : l = [] := hp; subst this; simp at hx
  | some y =>
    have h' : H[y.1]? = _ := hp
    obtain ⟨hi, hxe⟩ := List.getElem?_eq_some_iff.1 hx
    simp [lA, hi, h', hxe]
theorem alloc_lt1 (T : Int) (fs ls : List Extent) (n : Int) (hn : n < 1) : OpSpec extent_Map_Alloc [.s (.int .i64 n)] T fs ls (.tup [.agg (extentC ⟨0, 0⟩), .s (.int .i64 72)]) fs ls := by
  intro H p q hM hW hlen
  have hlt := lt_of_some hM.at_
  have hM2 := mapP_app hM [.live ⟨0, 2, [extentC ⟨0, 0⟩]⟩] [] (by simp)
  have hW2 := wh_app hW [.live ⟨0, 2, [extentC ⟨0, 0⟩]⟩] (by simp [ext1_flat])
  obtain ⟨h', p1, q1, f1, f2, f3, f4⟩ := finish_map H.length (.tup [.agg (extentC ⟨0, 0⟩), .s (.int .i64 72)]) (by simp) hM2 hW2 hlt (by simp) (by omega)
  refine ⟨h', p1, q1, ?_, f2, f3, f4⟩
  have hz : [A.s (.int .i64 0), .s (.int .i64 0)] = extentC ⟨0, 0⟩ := rfl
  have hst : ∀ (a b : Extent), putCells (extentC a) 0 (extentC b) = extentC b := fun a b => rfl
  simp [extent_Map_Alloc, hn, hz, hst, f1, fillA]
theorem alloc_nil (T : Int) (ls : List Extent) (n : Int) (hn : 1 ≤ n) : OpSpec extent_Map_Alloc [.s (.int .i64 n)] T [] ls (.tup [.agg (extentC ⟨0, 0⟩), .s (.int .i64 73)]) [] ls := by
  intro H p q hM hW hlen
  have hlt := lt_of_some hM.at_
  have hM2 := mapP_app hM [.live ⟨0, 2, [extentC ⟨0, 0⟩]⟩] [] (by simp)
  have hW2 := wh_app hW [.live ⟨0, 2, [extentC ⟨0, 0⟩]⟩] (by simp [ext1_flat])
  obtain ⟨h', p1, q1, f1, f2, f3, f4⟩ := finish_map H.length (.tup [.agg (extentC ⟨0, 0⟩), .s (.int .i64 73)]) (by simp) hM2 hW2 hlt (by simp) (by omega)
  refine ⟨h', p1, q1, ?_, f2, f3, f4⟩
  have hz : [A.s (.int .i64 0), .s (.int .i64 0)] = extentC ⟨0, 0⟩ := rfl
  have hst : ∀ (a b : Extent), putCells (extentC a) 0 (extentC b) = extentC b := fun a b => rfl
  have hn' : ¬ n < 1 := by omega
  have hL := fun (k : A → Option (Out × Heap)) => load1 hM2.at_ k
  have hl := fun (k : A → Option (Out × Heap)) => oLen_lA p [] hM.fr k
  have hlz : ∀ (s : Go.Ab.Slot) (k : A → Option (Out × Heap)), oLoad (some 2) (.ptr H.length 0 0 0) (H ++ [.live ⟨0, 2, [extentC ⟨0, 0⟩]⟩]) k = k (.agg (extentC ⟨0, 0⟩)) := fun s k => load_ext H [] ⟨0, 0⟩ k
  have hsz : ∀ (k : Heap → Option (Out × Heap)), oStore (some 2) (.ptr H.length 0 0 0) (.agg (extentC ⟨0, 0⟩)) (H ++ [.live ⟨0, 2, [extentC ⟨0, 0⟩]⟩]) k = k (H ++ [.live ⟨0, 2, [extentC ⟨0, 0⟩]⟩]) := fun k => by
    simp [hst]
  simp [-oLoad_ptr, -oStore_ptr, extent_Map_Alloc, hn', hz, hL, hl, hsz, load_ext, f1, fillA]

def xs (e : Extent) : Go.Ab.Slot := .live ⟨0, 2, [extentC e]⟩
theorem xs_flat (e : Extent) : flatS (xs e) = true := ext1_flat 0 e
/-! reading and writing one extent -/
theorem ldE {h : Heap} {id : Nat} {e : Extent} (hg : h[id]? = some (.live ⟨0, 2, [extentC e]⟩)) {β : Type} (k : A → Option β) : oLoad (some 2) (.ptr id 0 0 0) h k = k (.agg (extentC e)) := by
  simp [oLoad, hg]
theorem ldLen {h : Heap} {id : Nat} {e : Extent} (hg : h[id]? = some (.live ⟨0, 2, [extentC e]⟩)) {β : Type} (k : A → Option β) : oLoad none (.ptr id 0 0 1) h k = k (.s (.int .i64 e.len)) := by
  simp [oLoad, hg]
theorem stE {h : Heap} {id : Nat} {e : Extent} (hg : h[id]? = some (.live ⟨0, 2, [extentC e]⟩)) (e' : Extent) {β : Type} (k : Heap → Option β) : oStore (some 2) (.ptr id 0 0 0) (.agg (extentC e')) h k = k (h.set id (xs e')) := by
  have : putCells (extentC e) 0 (extentC e') = extentC e' := rfl
  simp [oStore, hg, this, xs]
theorem stLen {h : Heap} {id : Nat} {e : Extent} (hg : h[id]? = some (.live ⟨0, 2, [extentC e]⟩)) (n : Int) {β : Type} (k : Heap → Option β) : oStore none (.ptr id 0 0 1) (.s (.int .i64 n)) h k = k (h.set id (xs ⟨e.start, n⟩)) := by
  have : putCells (extentC e) 1 [.s (.int .i64 n)] = extentC ⟨e.start, n⟩ := rfl
  simp [oStore, hg, this, xs]
theorem at2 (H : Heap) (a b : Go.Ab.Slot) (r : Heap) : (H ++ a :: b :: r)[H.length + 1]? = some b := by simp
theorem at3 (H : Heap) (a b c : Go.Ab.Slot) (r : Heap) : (H ++ a :: b :: c :: r)[H.length + 1 + 1]? = some c := by
  rw [List.getElem?_append_right (by omega), show H.length + 1 + 1 - H.length = 2 by omega]; rfl
theorem at1 (H : Heap) (a : Go.Ab.Slot) (r : Heap) : (H ++ a :: r)[H.length]? = some a := by simp
theorem set1 (H : Heap) (a b : Go.Ab.Slot) (r : Heap) : (H ++ a :: r).set H.length b = H ++ b :: r := by
  rw [List.set_append_right _ _ (by omega)]; simp
theorem set2 (H : Heap) (a b c : Go.Ab.Slot) (r : Heap) : (H ++ a :: b :: r).set (H.length + 1) c = H ++ a :: c :: r := by
  rw [List.set_append_right _ _ (by omega), show H.length + 1 - H.length = 1 by omega]; rfl
theorem set3 (H : Heap) (a b c d : Go.Ab.Slot) (r : Heap) : (H ++ a :: b :: c :: r).set (H.length + 1 + 1) d = H ++ a :: b :: d :: r := by
  rw [List.set_append_right _ _ (by omega), show H.length + 1 + 1 - H.length = 2 by omega]; rfl

theorem new_xs (e : Extent) (h : Heap) {β : Type} (k : A → Heap → Option β) : oNew none (some 2) (.agg (extentC e)) h k = k (.ptr h.length 0 0 0) (h ++ [xs e]) := by
  simp [xs]

theorem bestGo_drop (n : Int) (fs : List Extent) (i : Nat) (x b : Extent) (hx : fs[i]? = some x) (hb : ¬ n ≤ b.len) : bestGo n (fs.drop i) b = bestGo n (fs.drop (i + 1)) (if b.len < x.len then x else b) := by
  obtain ⟨hi, hxe⟩ := List.getElem?_eq_some_iff.1 hx
  rw [List.drop_eq_getElem_cons hi, hxe, bestGo, if_neg hb]
theorem bestGo_stop (n : Int) (fs : List Extent) (i : Nat) (x b : Extent) (hx : fs[i]? = some x) (hb : n ≤ b.len) : bestGo n (fs.drop i) b = b := by
  obtain ⟨hi, hxe⟩ := List.getElem?_eq_some_iff.1 hx
  rw [List.drop_eq_getElem_cons hi, hxe, bestGo, if_pos hb]

theorem alloc_loop {H : Heap} {T : Int} {fs ls : List Extent} {p q : Option (Nat × Nat)} (hM : MapP H 0 [] T fs ls p q) (hW : WH 0 H) (n : Int) (z b0 : Extent) (hl : fs.length < 900000) {β : Type} (k : Ex → List A → Heap → Option β) :
    oLoop (extent_Map_Alloc_l2 (.s (.int .i64 fs.length)) (lA p fs) (.ptr (H.length + 1) 0 0 0) (.s (.int .i64 n)) (H ++ [xs z, xs b0])) ([.s (.int .i64 0)], H ++ [xs z, xs b0]) k =
      k (.exit 1) [] (H ++ [xs z, xs (bestGo n fs b0)]) := by
  obtain ⟨Q, rfl, hq⟩ := oLoop_inv' (step := extent_Map_Alloc_l2 (.s (.int .i64 fs.length)) (lA p fs) (.ptr (H.length + 1) 0 0 0) (.s (.int .i64 n)) (H ++ [xs z, xs b0])) (s0 := ([.s (.int .i64 0)], H ++ [xs z, xs b0]))
    (fun i s => ∃ b, s = ([.s (.int .i64 i)], H ++ [xs z, xs b]) ∧ bestGo n fs b0 = bestGo n (fs.drop i) b) (fun Q => Q = (.exit 1, [], H ++ [xs z, xs (bestGo n fs b0)])) fs.length ⟨b0, rfl, rfl⟩ (by omega)
    (by
      rintro i s hi ⟨b, rfl, hb⟩
      have hx : fs[i]? = some fs[i] := List.getElem?_eq_getElem hi
      generalize fs[i] = x at hx
      have hw := wrap_succ hi (by omega)
      have hM2 := mapP_app hM [xs z, xs b] [] (by simp)
      have hW2 := wh_app hW [xs z, xs b] (by simp [xs_flat])
      have hz : [A.s (.int .i64 0), .s (.int .i64 0)] = extentC ⟨0, 0⟩ := rfl
      have hI := fun (k : A → Option (Ex × List A × Heap)) => idx_lA hM2.fr i x hx k
      have hN := fun (k : A → Heap → Option (Ex × List A × Heap)) => new_xs ⟨0, 0⟩ (H ++ [xs z, xs b]) k
      simp only [List.append_assoc, List.cons_append, List.nil_append, List.length_append, List.length_cons, List.length_nil, Nat.zero_add] at hN
      have hS := fun (k : Heap → Option (Ex × List A × Heap)) => stE (at3 H (xs z) (xs b) (xs ⟨0, 0⟩) []) x k
      simp only [set3] at hS
      have hlb := fun (k : A → Option (Ex × List A × Heap)) => ldLen (at2 H (xs z) (xs b) [xs x]) k
      have hlx := fun (k : A → Option (Ex × List A × Heap)) => ldLen (at3 H (xs z) (xs b) (xs x) []) k
      have hlx2 := fun (k : A → Option (Ex × List A × Heap)) => ldE (at3 H (xs z) (xs b) (xs x) []) k
      have hsb := fun (k : Heap → Option (Ex × List A × Heap)) => stE (at2 H (xs z) (xs b) [xs x]) x k
      simp only [set2] at hsb
      have hTr := fun (b : Extent) => trim_map (mapP_app hM [xs z, xs b] [] (by simp)) (wh_app hW [xs z, xs b] (by simp [xs_flat])) [] rfl [xs x] (H.length + 2) (by simp)
      have hTs := fun (b : Extent) (vs : List A) => trim_self true vs (H ++ [xs z, xs b]) (H.length + 2) (by simp)
      simp only [List.append_assoc, List.cons_append, List.nil_append] at hTr
      have e2 : H.length + 1 + 1 = H.length + 2 := rfl
      rw [e2] at hN hS hlx hlx2
      by_cases hbn : n ≤ b.len
      · right
        refine ⟨_, ?_, rfl⟩
        rw [hb, bestGo_stop n fs i x b hx hbn]
        simp [-oLoad_ptr, -oStore_ptr, -oNew_agg, extent_Map_Alloc_l2, extent_Map_Alloc_k1, hi, hI, hz, hN, hS, hlb, hlx, hlx2, hsb, hTr, hTs, hbn]
      · left
        refine ⟨([.s (.int .i64 (i + 1 : Nat))], H ++ [xs z, xs (if b.len < x.len then x else b)]), ?_, _, rfl, by rw [hb, bestGo_drop n fs i x b hx hbn]⟩
        by_cases hbx : b.len < x.len
        · simp [-oLoad_ptr, -oStore_ptr, -oNew_agg, extent_Map_Alloc_l2, extent_Map_Alloc_k1, hi, hI, hz, hN, hS, hlb, hlx, hlx2, hsb, hTr, hTs, hbn, hbx, hw]
        · simp [-oLoad_ptr, -oStore_ptr, -oNew_agg, extent_Map_Alloc_l2, extent_Map_Alloc_k1, hi, hI, hz, hN, hS, hlb, hlx, hlx2, hsb, hTr, hTs, hbn, hbx, hw])
    (by
      rintro s ⟨b, rfl, hb⟩
      refine ⟨_, ?_, rfl⟩
      have hTs := fun (b : Extent) (vs : List A) => trim_self true vs (H ++ [xs z, xs b]) (H.length + 2) (by simp)
      rw [hb, List.drop_length, bestGo]
      simp [extent_Map_Alloc_l2, hTs])
  exact hq k
end Go.Ab.T
