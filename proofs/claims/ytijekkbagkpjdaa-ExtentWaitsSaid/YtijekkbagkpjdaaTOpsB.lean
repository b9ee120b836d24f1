/-
  EXTENTS: given back, at once or later; taken.
-/
import Derived.Test.YtijekkbagkpjdaaTOps
set_option linter.unusedSimpArgs false
set_option linter.unusedVariables false
namespace Go.Ab.T
open Go Go.Ab Go.Ab.F

theorem mapP_app {H : Heap} {m : Nat} {X : List Nat} {T : Int} {fs ls : List Extent} {p q : Option (Nat × Nat)} (hM : MapP H m X T fs ls p q) (r : Heap) (Y : List Nat) (hY : ∀ y ∈ Y, H.length ≤ y) : MapP (H ++ r) m (X ++ Y) T fs ls p q := by
  have hlt := lt_of_some hM.at_
  have h1 := lAt_lt hM.fr
  have h2 := lAt_lt hM.la
  have hat : ∀ p0 l, lAt H p0 l → lAt (H ++ r) p0 l := by
    intro p0 l h
    cases p0 with
    | none => exact h
    | some x => exact app_some h r
  refine ⟨app_some hM.at_ r, hat _ _ hM.fr, hat _ _ hM.la, hM.mp, hM.mq, hM.pq, ?_⟩
  intro x hx
  rcases List.mem_append.1 hx with hx | hx
  · exact hM.fx x hx
  · have := hY x hx
    exact ⟨by omega, fun h => by have := h1 x h; omega, fun h => by have := h2 x h; omega⟩
theorem wh_app {H : Heap} {m : Nat} (hW : WH m H) (r : Heap) (hr : ∀ s ∈ r, flatS s = true) : WH m (H ++ r) := by
  intro j s hj hs
  rcases Nat.lt_or_ge j H.length with h | h
  · rw [List.getElem?_append_left h] at hs; exact hW j s hj hs
  · rw [List.getElem?_append_right h] at hs; exact hr s (List.mem_of_getElem? hs)
theorem wh_set {H : Heap} {m : Nat} (hW : WH m H) (s0 : Go.Ab.Slot) : WH m (H.set m s0) := by
  intro j s hj hs
  rw [List.getElem?_set_ne (Ne.symm hj)] at hs
  exact hW j s hj hs
theorem ext1_flat (v : Nat) (e : Extent) : flatS (.live ⟨v, 2, [extentC e]⟩) = true := by simp [flatS]

theorem load_ext (H r : Heap) (e : Extent) {β : Type} (k : A → Option β) : oLoad (some 2) (.ptr H.length 0 0 0) (H ++ .live ⟨0, 2, [extentC e]⟩ :: r) k = k (.agg (extentC e)) := by
  simp
theorem loadD_ext (H r : Heap) (e : Extent) (n : Nat) (hn : H.length < n) {β : Type} (k : A → Heap → Option β) : oLoadD n [] (some 2) (.ptr H.length 0 0 0) (H ++ .live ⟨0, 2, [extentC e]⟩ :: r) k = k (.agg (extentC e)) (H ++ .live ⟨0, 2, [extentC e]⟩ :: r) := by
  simp [oLoadD, hn]
theorem store1 {H : Heap} {m : Nat} {T : Int} {fs ls : List Extent} {p q : Option (Nat × Nat)} (hm : H[m]? = some (mslot T p q fs ls)) (p' : Option (Nat × Nat)) (fs' : List Extent) {β : Type} (k : Heap → Option β) :
    oStore none (.ptr m 0 0 1) (lA p' fs') H k = k (H.set m (mslot T p' q fs' ls)) := by
  have hp : ∀ a, putCells (mrow T p q fs ls) 1 [a] = [.s (.int .i64 T), a, lA q ls] := fun a => rfl
  have hl : (mrow T p q fs ls).length = 3 := rfl
  cases p' <;> simp [oStore, hm, mslot, hp, hl, lA, asCells, mrow, isCell, putCells]
theorem store2 {H : Heap} {m : Nat} {T : Int} {fs ls : List Extent} {p q : Option (Nat × Nat)} (hm : H[m]? = some (mslot T p q fs ls)) (q' : Option (Nat × Nat)) (ls' : List Extent) {β : Type} (k : Heap → Option β) :
    oStore none (.ptr m 0 0 2) (lA q' ls') H k = k (H.set m (mslot T p q' fs ls')) := by
  have hl : (mrow T p q fs ls).length = 3 := rfl
  cases q' <;> simp [oStore, hm, mslot, hl, lA, asCells, mrow, isCell, putCells]
theorem load1 {H : Heap} {m : Nat} {T : Int} {fs ls : List Extent} {p q : Option (Nat × Nat)} (hm : H[m]? = some (mslot T p q fs ls)) {β : Type} (k : A → Option β) : oLoad none (.ptr m 0 0 1) H k = k (lA p fs) := by
  cases p <;> simp [oLoad, hm, mslot, mrow, cellsAt, lA, isCell]
theorem load2 {H : Heap} {m : Nat} {T : Int} {fs ls : List Extent} {p q : Option (Nat × Nat)} (hm : H[m]? = some (mslot T p q fs ls)) {β : Type} (k : A → Option β) : oLoad none (.ptr m 0 0 2) H k = k (lA q ls) := by
  cases q <;> simp [oLoad, hm, mslot, mrow, cellsAt, lA, isCell]
theorem loadD1 {H : Heap} {m n : Nat} {T : Int} {fs ls : List Extent} {p q : Option (Nat × Nat)} (hm : H[m]? = some (mslot T p q fs ls)) (hn : m < n) {β : Type} (k : A → Heap → Option β) : oLoadD n [] none (.ptr m 0 0 1) H k = k (lA p fs) H := by
  simp [oLoadD, hn, load1 hm]
theorem loadD2 {H : Heap} {m n : Nat} {T : Int} {fs ls : List Extent} {p q : Option (Nat × Nat)} (hm : H[m]? = some (mslot T p q fs ls)) (hn : m < n) {β : Type} (k : A → Heap → Option β) : oLoadD n [] none (.ptr m 0 0 2) H k = k (lA q ls) H := by
  simp [oLoadD, hn, load2 hm]
theorem mapP_set1 {H : Heap} {m : Nat} {X : List Nat} {T : Int} {fs ls : List Extent} {p q : Option (Nat × Nat)} (hM : MapP H m X T fs ls p q) {p' : Option (Nat × Nat)} {fs' : List Extent} (hp : lAt H p' fs') (hn : ∀ i ∈ lIds p', i ≠ m ∧ i ∉ lIds q ∧ i ∉ X) :
    MapP (H.set m (mslot T p' q fs' ls)) m X T fs' ls p' q := by
  have hlt := lt_of_some hM.at_
  have hat : ∀ p0 l, m ∉ lIds p0 → lAt H p0 l → lAt (H.set m (mslot T p' q fs' ls)) p0 l := by
    intro p0 l hm h
    cases p0 with
    | none => exact h
    | some x =>
      simp [lIds] at hm
      show (H.set m _)[x.1]? = _
      rw [List.getElem?_set_ne hm]; exact h
  exact ⟨by simp [hlt], hat _ _ (fun h => (hn m h).1 rfl) hp, hat _ _ hM.mq hM.la, fun h => (hn m h).1 rfl, hM.mq, fun i hi => (hn i hi).2.1, fun x hx => ⟨(hM.fx x hx).1, fun h => (hn x h).2.2 hx, (hM.fx x hx).2.2⟩⟩
theorem mapP_set2 {H : Heap} {m : Nat} {X : List Nat} {T : Int} {fs ls : List Extent} {p q : Option (Nat × Nat)} (hM : MapP H m X T fs ls p q) {q' : Option (Nat × Nat)} {ls' : List Extent} (hq : lAt H q' ls') (hn : ∀ i ∈ lIds q', i ≠ m ∧ i ∉ lIds p ∧ i ∉ X) :
    MapP (H.set m (mslot T p q' fs ls')) m X T fs ls' p q' := by
  have hlt := lt_of_some hM.at_
  have hat : ∀ p0 l, m ∉ lIds p0 → lAt H p0 l → lAt (H.set m (mslot T p q' fs ls')) p0 l := by
    intro p0 l hm h
    cases p0 with
    | none => exact h
    | some x =>
      simp [lIds] at hm
      show (H.set m _)[x.1]? = _
      rw [List.getElem?_set_ne hm]; exact h
  exact ⟨by simp [hlt], hat _ _ hM.mp hM.fr, hat _ _ (fun h => (hn m h).1 rfl) hq, hM.mp, fun h => (hn m h).1 rfl, fun i hi hc => (hn i hc).2.1 hi, fun x hx => ⟨(hM.fx x hx).1, (hM.fx x hx).2.1, fun h => (hn x h).2.2 hx⟩⟩

/-- One list of a map is put to. -/
theorem mapP_put1 {h h3 : Heap} {m : Nat} {X : List Nat} {T : Int} {fs ls : List Extent} {p q p' : Option (Nat × Nat)} {fs' : List Extent} (hM : MapP h m X T fs ls p q) (hX : ∀ x ∈ X, x < h.length) (h2 : lAt h3 p' fs')
    (h3k : ∀ j, j < h.length → j ∉ lIds p → h3[j]? = h[j]?) (h4 : ∀ i ∈ lIds p', i ∈ lIds p ∨ i = h.length) :
    h3[m]? = some (mslot T p q fs ls) ∧ lAt h3 q ls ∧ MapP (h3.set m (mslot T p' q fs' ls)) m X T fs' ls p' q := by
  have hlt := lt_of_some hM.at_
  have e1 : h3[m]? = some (mslot T p q fs ls) := by rw [h3k m hlt hM.mp]; exact hM.at_
  have e2 : lAt h3 q ls := by
    have := hM.la
    cases q with
    | none => exact this
    | some y =>
      have hy : y.1 < h.length := lt_of_some this
      show h3[y.1]? = _
      rw [h3k y.1 hy (fun hc => hM.pq y.1 hc (by simp [lIds]))]; exact this
  refine ⟨e1, e2, ?_⟩
  have hqlt := lAt_lt hM.la
  have hn : ∀ i ∈ lIds p', i ≠ m ∧ i ∉ lIds q ∧ i ∉ X := by
    intro i hi
    rcases h4 i hi with h | h
    · exact ⟨fun hc => hM.mp (hc ▸ h), hM.pq i h, fun hx => (hM.fx i hx).2.1 h⟩
    · subst h
      exact ⟨by omega, fun hc => by have := hqlt _ hc; omega, fun hc => by have := hX _ hc; omega⟩
  have hlt3 := lt_of_some e1
  have hat : ∀ p0 l, m ∉ lIds p0 → lAt h3 p0 l → lAt (h3.set m (mslot T p' q fs' ls)) p0 l := by
    intro p0 l hm h
    cases p0 with
    | none => exact h
    | some x =>
      simp [lIds] at hm
      show (h3.set m _)[x.1]? = _
      rw [List.getElem?_set_ne hm]; exact h
  exact ⟨by simp [hlt3], hat _ _ (fun h => (hn m h).1 rfl) h2, hat _ _ hM.mq e2, fun h => (hn m h).1 rfl, hM.mq, fun i hi => (hn i hi).2.1, fun x hx => ⟨(hM.fx x hx).1, fun h => (hn x h).2.2 hx, (hM.fx x hx).2.2⟩⟩
theorem mapP_put2 {h h3 : Heap} {m : Nat} {X : List Nat} {T : Int} {fs ls : List Extent} {p q q' : Option (Nat × Nat)} {ls' : List Extent} (hM : MapP h m X T fs ls p q) (hX : ∀ x ∈ X, x < h.length) (h2 : lAt h3 q' ls')
    (h3k : ∀ j, j < h.length → j ∉ lIds q → h3[j]? = h[j]?) (h4 : ∀ i ∈ lIds q', i ∈ lIds q ∨ i = h.length) :
    h3[m]? = some (mslot T p q fs ls) ∧ lAt h3 p fs ∧ MapP (h3.set m (mslot T p q' fs ls')) m X T fs ls' p q' := by
  have hlt := lt_of_some hM.at_
  have e1 : h3[m]? = some (mslot T p q fs ls) := by rw [h3k m hlt hM.mq]; exact hM.at_
  have e2 : lAt h3 p fs := by
    have := hM.fr
    cases p with
    | none => exact this
    | some y =>
      have hy : y.1 < h.length := lt_of_some this
      show h3[y.1]? = _
      rw [h3k y.1 hy (hM.pq y.1 (by simp [lIds]))]; exact this
  refine ⟨e1, e2, ?_⟩
  have hqlt := lAt_lt hM.fr
  have hn : ∀ i ∈ lIds q', i ≠ m ∧ i ∉ lIds p ∧ i ∉ X := by
    intro i hi
    rcases h4 i hi with h | h
    · exact ⟨fun hc => hM.mq (hc ▸ h), fun hc => hM.pq i hc h, fun hx => (hM.fx i hx).2.2 h⟩
    · subst h
      exact ⟨by omega, fun hc => by have := hqlt _ hc; omega, fun hc => by have := hX _ hc; omega⟩
  have hlt3 := lt_of_some e1
  have hat : ∀ p0 l, m ∉ lIds p0 → lAt h3 p0 l → lAt (h3.set m (mslot T p q' fs ls')) p0 l := by
    intro p0 l hm h
    cases p0 with
    | none => exact h
    | some x =>
      simp [lIds] at hm
      show (h3.set m _)[x.1]? = _
      rw [List.getElem?_set_ne hm]; exact h
  exact ⟨by simp [hlt3], hat _ _ hM.mp e2, hat _ _ (fun h => (hn m h).1 rfl) h2, hM.mp, fun h => (hn m h).1 rfl, fun i hi hc => (hn i hc).2.1 hi, fun x hx => ⟨(hM.fx x hx).1, (hM.fx x hx).2.1, fun h => (hn x h).2.2 hx⟩⟩

theorem free_ok (T : Int) (fs ls : List Extent) (e : Extent) (hf : fs.length < 900000) (hl : ls.length < 900000) (ht : takenB T fs ls e = true) : OpSpec extent_Map_Free [.agg (extentC e)] T fs ls (.s (.int .i64 0)) (putS fs e) ls := by
  intro H p q hM hW hlen
  have hlt := lt_of_some hM.at_
  have hM2 := mapP_app hM [.live ⟨0, 2, [extentC e]⟩] [] (by simp)
  have hW2 := wh_app hW [.live ⟨0, 2, [extentC e]⟩] (by simp [ext1_flat])
  have hT := fun (kp k : A → Heap → Option (Out × Heap)) => oLend_map2 e hM2.at_ hM2.fr hM2.la (by simp) (by rfl) (taken_v T fs ls e (by omega) (by omega)) kp k
  obtain ⟨p', h3, c1, c2, c3, c4, c5, c6⟩ := putL_call e hM2.fr (by omega)
  obtain ⟨d1, d2, d3⟩ := mapP_put1 hM2 (by simp) c2 c3 c4
  have hW3 := wh_set (c6 0 hW2 hM2.mp) (mslot T p' q (putS fs e) ls)
  obtain ⟨h', p1, q1, f1, f2, f3, f4⟩ := finish_map H.length (.s (.int .i64 0)) (by simp) d3 hW3 hlt (by simp at c5 ⊢; omega) (by omega)
  refine ⟨h', p1, q1, ?_, f2, f3, f4⟩
  have hL := fun (k : A → Heap → Option (Out × Heap)) => loadD1 hM2.at_ (n := H.length + 1) (by omega) k
  have hS := fun (k : Heap → Option (Out × Heap)) => store1 d1 p' (putS fs e) k
  have hc1 := fun (kp k : A → Heap → Option (Out × Heap)) => c1 kp k
  simp [-oLoad_ptr, -oStore_ptr, extent_Map_Free, load_ext, loadD_ext, hT, ht, hL, hc1, hS, f1]
theorem free_no (T : Int) (fs ls : List Extent) (e : Extent) (hf : fs.length < 900000) (hl : ls.length < 900000) (ht : takenB T fs ls e = false) : OpSpec extent_Map_Free [.agg (extentC e)] T fs ls (.s (.int .i64 72)) fs ls := by
  intro H p q hM hW hlen
  have hlt := lt_of_some hM.at_
  have hM2 := mapP_app hM [.live ⟨0, 2, [extentC e]⟩] [] (by simp)
  have hW2 := wh_app hW [.live ⟨0, 2, [extentC e]⟩] (by simp [ext1_flat])
  have hT := fun (kp k : A → Heap → Option (Out × Heap)) => oLend_map2 e hM2.at_ hM2.fr hM2.la (by simp) (by rfl) (taken_v T fs ls e (by omega) (by omega)) kp k
  obtain ⟨h', p1, q1, f1, f2, f3, f4⟩ := finish_map H.length (.s (.int .i64 72)) (by simp) hM2 hW2 hlt (by simp) (by omega)
  refine ⟨h', p1, q1, ?_, f2, f3, f4⟩
  simp [-oLoad_ptr, -oStore_ptr, extent_Map_Free, load_ext, loadD_ext, hT, ht, f1]
theorem later_ok (T : Int) (fs ls : List Extent) (e : Extent) (hf : fs.length < 900000) (hl : ls.length < 900000) (ht : takenB T fs ls e = true) : OpSpec extent_Map_Later [.agg (extentC e)] T fs ls (.s (.int .i64 0)) fs (putS ls e) := by
  intro H p q hM hW hlen
  have hlt := lt_of_some hM.at_
  have hM2 := mapP_app hM [.live ⟨0, 2, [extentC e]⟩] [] (by simp)
  have hW2 := wh_app hW [.live ⟨0, 2, [extentC e]⟩] (by simp [ext1_flat])
  have hT := fun (kp k : A → Heap → Option (Out × Heap)) => oLend_map2 e hM2.at_ hM2.fr hM2.la (by simp) (by rfl) (taken_v T fs ls e (by omega) (by omega)) kp k
  obtain ⟨p', h3, c1, c2, c3, c4, c5, c6⟩ := putL_call e hM2.la (by omega)
  obtain ⟨d1, d2, d3⟩ := mapP_put2 hM2 (by simp) c2 c3 c4
  have hW3 := wh_set (c6 0 hW2 hM2.mq) (mslot T p p' fs (putS ls e))
  obtain ⟨h', p1, q1, f1, f2, f3, f4⟩ := finish_map H.length (.s (.int .i64 0)) (by simp) d3 hW3 hlt (by simp at c5 ⊢; omega) (by omega)
  refine ⟨h', p1, q1, ?_, f2, f3, f4⟩
  have hL := fun (k : A → Heap → Option (Out × Heap)) => loadD2 hM2.at_ (n := H.length + 1) (by omega) k
  have hS := fun (k : Heap → Option (Out × Heap)) => store2 d1 p' (putS ls e) k
  have hc1 := fun (kp k : A → Heap → Option (Out × Heap)) => c1 kp k
  simp [-oLoad_ptr, -oStore_ptr, extent_Map_Later, load_ext, loadD_ext, hT, ht, hL, hc1, hS, f1]
theorem later_no (T : Int) (fs ls : List Extent) (e : Extent) (hf : fs.length < 900000) (hl : ls.length < 900000) (ht : takenB T fs ls e = false) : OpSpec extent_Map_Later [.agg (extentC e)] T fs ls (.s (.int .i64 72)) fs ls := by
  intro H p q hM hW hlen
  have hlt := lt_of_some hM.at_
  have hM2 := mapP_app hM [.live ⟨0, 2, [extentC e]⟩] [] (by simp)
  have hW2 := wh_app hW [.live ⟨0, 2, [extentC e]⟩] (by simp [ext1_flat])
  have hT := fun (kp k : A → Heap → Option (Out × Heap)) => oLend_map2 e hM2.at_ hM2.fr hM2.la (by simp) (by rfl) (taken_v T fs ls e (by omega) (by omega)) kp k
  obtain ⟨h', p1, q1, f1, f2, f3, f4⟩ := finish_map H.length (.s (.int .i64 72)) (by simp) hM2 hW2 hlt (by simp) (by omega)
  refine ⟨h', p1, q1, ?_, f2, f3, f4⟩
  simp [-oLoad_ptr, -oStore_ptr, extent_Map_Later, load_ext, loadD_ext, hT, ht, f1]
end Go.Ab.T
