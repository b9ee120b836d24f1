import Derived.Test.YtbaknldomnoeiaaRTExt
import Derived.KernelRfl
/-
  EXTENTS: a map and its two lists, wherever they lie.
-/
set_option linter.unusedSimpArgs false
set_option linter.unusedVariables false
namespace Go.Ab.T
open Go Go.Ab Go.Ab.F

theorem setAll_len' : ∀ (ids : List Nat) (h xs : Heap), (setAll h ids xs).length = h.length
  | [], h, xs => by simp [setAll]
  | id :: ids, h, [] => by simp [setAll]
  | id :: ids, h, x :: xs => by simp [setAll, setAll_len' ids]
theorem setAll_ne' {k : Nat} : ∀ (ids : List Nat) (h xs : Heap), k ∉ ids → (setAll h ids xs)[k]? = h[k]?
  | [], h, xs, _ => by simp [setAll]
  | id :: ids, h, [], _ => by simp [setAll]
  | id :: ids, h, x :: xs, hk => by
    simp only [List.mem_cons, not_or] at hk
    simp only [setAll]
    rw [setAll_ne' ids _ _ hk.2, List.getElem?_set_ne (Ne.symm hk.1)]
theorem setAll_get' : ∀ (ids : List Nat) (h xs : Heap), ids.Nodup → ∀ (j id : Nat) x, ids[j]? = some id → xs[j]? = some x → id < h.length → (setAll h ids xs)[id]? = some x
  | [], h, xs, _, j, id, x, h1, _, _ => by simp at h1
  | id0 :: ids, h, [], _, j, id, x, _, h2, _ => by simp at h2
  | id0 :: ids, h, x0 :: xs, hn, j, id, x, h1, h2, hl => by
    simp only [setAll]
    rw [List.nodup_cons] at hn
    cases j with
    | zero =>
      simp at h1 h2
      subst h1; subst h2
      rw [setAll_ne' ids _ _ hn.1]
      simp [hl]
    | succ j => exact setAll_get' ids _ xs hn.2 j id x (by simpa using h1) (by simpa using h2) (by simpa using hl)

theorem renHeap_flat' {f : Nat → Option Nat} : ∀ (l : Heap), (∀ s ∈ l, flatS s = true) → renHeap f l = some l
  | [], _ => rfl
  | s :: l, h => by
    have hs := h s (by simp)
    have hl := renHeap_flat' (f := f) l fun x hx => h x (by simp [hx])
    have : renSlot f s = some s := by
      cases s with
      | live ob => simp only [flatS, List.isEmpty_iff] at hs; simp [renSlot, renRows_of_ids _ _ hs]
      | dead => rfl
      | res => simp [flatS] at hs
    simp [renHeap, this, hl]
theorem flat_ids {s : Go.Ab.Slot} (h : flatS s = true) : s.ids = [] := by
  cases s with
  | live ob => simpa [flatS, Go.Ab.Slot.ids] using h
  | dead => rfl
  | res => rfl

/-! the form -/
def lIds : Option (Nat × Nat) → List Nat
  | none => []
  | some (i, _) => [i]
def lA : Option (Nat × Nat) → List Extent → A
  | none, _ => .s (.slice none 0 0)
  | some (i, v), l => .osl i v 2 0 l.length
def lAt (H : Heap) : Option (Nat × Nat) → List Extent → Prop
  | none, l => l = []
  | some (i, v), l => H[i]? = some (.live ⟨v, 2, l.map extentC⟩)
def lS : Option (Nat × Nat) → List Extent → Heap
  | none, _ => []
  | some (_, v), l => [.live ⟨v, 2, l.map extentC⟩]
def mrow (T : Int) (p q : Option (Nat × Nat)) (fs ls : List Extent) : List A := [.s (.int .i64 T), lA p fs, lA q ls]
def mslot (T : Int) (p q : Option (Nat × Nat)) (fs ls : List Extent) : Go.Ab.Slot := .live ⟨0, 3, [mrow T p q fs ls]⟩
structure MapP (H : Heap) (m : Nat) (X : List Nat) (T : Int) (fs ls : List Extent) (p q : Option (Nat × Nat)) : Prop where
  at_ : H[m]? = some (mslot T p q fs ls)
  fr : lAt H p fs
  la : lAt H q ls
  mp : m ∉ lIds p
  mq : m ∉ lIds q
  pq : ∀ i ∈ lIds p, i ∉ lIds q
  fx : ∀ x ∈ X, x ≠ m ∧ x ∉ lIds p ∧ x ∉ lIds q
def WH (m : Nat) (H : Heap) : Prop := ∀ j s, j ≠ m → H[j]? = some s → flatS s = true

theorem lA_ids (p : Option (Nat × Nat)) (l : List Extent) : idsA (lA p l) = lIds p := by
  cases p with
  | none => rfl
  | some x => rfl
theorem lAt_lt {H : Heap} {p : Option (Nat × Nat)} {l : List Extent} (h : lAt H p l) : ∀ i ∈ lIds p, i < H.length := by
  cases p with
  | none => simp [lIds]
  | some x => intro i hi; simp [lIds] at hi; subst hi; exact lt_of_some h
theorem mrow_ids (T : Int) (p q : Option (Nat × Nat)) (fs ls : List Extent) : idsL (mrow T p q fs ls) = lIds p ++ lIds q := by
  simp [mrow, idsL, lA_ids]
theorem mslot_ids (T : Int) (p q : Option (Nat × Nat)) (fs ls : List Extent) : (mslot T p q fs ls).ids = lIds p ++ lIds q := by
  simp [mslot, Go.Ab.Slot.ids, idsRows, mrow_ids]
theorem ext_flat (v : Nat) (l : List Extent) : flatS (.live ⟨v, 2, l.map extentC⟩) = true := by simp [flatS, ext_ids]
theorem lAt_flat {H : Heap} {p : Option (Nat × Nat)} {l : List Extent} (h : lAt H p l) : ∀ i ∈ lIds p, flatS (H.getD i .dead) = true := by
  cases p with
  | none => simp [lIds]
  | some x => intro i hi; simp [lIds] at hi; subst hi; have h' : H[x.1]? = _ := h; simp [h', ext_flat]

/-- Renamed. -/
def mv (g : Nat → Nat) (p : Option (Nat × Nat)) : Option (Nat × Nat) := p.map fun x => (g x.1, x.2)
theorem mv_ids (g : Nat → Nat) (p : Option (Nat × Nat)) : lIds (mv g p) = (lIds p).map g := by cases p <;> rfl
theorem lA_ren {f : Nat → Option Nat} {g : Nat → Nat} (p : Option (Nat × Nat)) (l : List Extent) (h : ∀ i ∈ lIds p, f i = some (g i)) : renA f (lA p l) = some (lA (mv g p) l) := by
  cases p with
  | none => rfl
  | some x => simp [lA, mv, h x.1 (by simp [lIds])]
theorem mslot_ren {f : Nat → Option Nat} {g : Nat → Nat} (T : Int) (p q : Option (Nat × Nat)) (fs ls : List Extent) (h : ∀ i ∈ lIds p ++ lIds q, f i = some (g i)) :
    renSlot f (mslot T p q fs ls) = some (mslot T (mv g p) (mv g q) fs ls) := by
  simp [mslot, renSlot, mrow, lA_ren p fs (fun i hi => h i (by simp [hi])), lA_ren q ls (fun i hi => h i (by simp [hi]))]

theorem reach_todo (h : Heap) : ∀ (L seen : List Nat) (n : Nat), (∀ id ∈ L, id ∉ seen → (h.getD id .dead).ids = []) → L.length < n → seen.Nodup →
    ∃ E, reach h n seen L = seen ++ E ∧ (seen ++ E).Nodup ∧ (∀ i ∈ L, i ∈ seen ++ E) ∧ ∀ i ∈ E, i ∈ L
  | [], seen, n, _, _, hs => ⟨[], by simp, by simpa using hs, by simp, by simp⟩
  | id :: L, seen, n, hf, hl, hs => by
    obtain ⟨n, rfl⟩ : ∃ m, n = m + 1 := ⟨n - 1, by simp at hl; omega⟩
    by_cases hm : id ∈ seen
    · obtain ⟨E, h1, h2, h3, h4⟩ := reach_todo h L seen n (fun x hx => hf x (by simp [hx])) (by simp at hl; omega) hs
      refine ⟨E, ?_, h2, ?_, fun i hi => by simp [h4 i hi]⟩
      · rw [reach, if_pos (by simpa using hm), h1]
      · intro i hi
        rcases List.mem_cons.1 hi with rfl | hi
        · simp [hm]
        · exact h3 i hi
    · obtain ⟨E, h1, h2, h3, h4⟩ := reach_todo h L (seen ++ [id]) n (fun x hx hn => hf x (by simp [hx]) (fun h => hn (by simp [h]))) (by simp at hl; omega) (by
        rw [List.nodup_append]
        refine ⟨hs, by simp, ?_⟩
        intro a ha b hb
        simp at hb
        subst hb
        intro hab; subst hab; exact hm ha)
      refine ⟨id :: E, ?_, by simpa using h2, ?_, ?_⟩
      · rw [reach, if_neg (by simpa using hm), hf id (by simp) hm, List.nil_append, h1]
        simp
      · intro i hi
        rcases List.mem_cons.1 hi with rfl | hi
        · simp
        · simpa using h3 i hi
      · intro i hi
        rcases List.mem_cons.1 hi with rfl | hi
        · simp
        · simp [h4 i hi]

theorem idx_of_get {ids : List Nat} {i j : Nat} (hn : ids.Nodup) (h : ids[j]? = some i) : idx ids i = some j := by
  unfold idx
  rw [List.idxOf?_eq_some_iff]
  obtain ⟨hj, he⟩ := List.getElem?_eq_some_iff.1 h
  refine ⟨hj, he, fun k hk heq => ?_⟩
  have : k = j := (List.getElem_inj (h₀ := by omega) (h₁ := hj) hn).1 (heq.trans he.symm)
  omega
theorem get_of_mem {ids : List Nat} {i : Nat} (h : i ∈ ids) : ∃ j : Nat, ids[j]? = some i := by
  obtain ⟨j, hj, rfl⟩ := List.mem_iff_getElem.1 h
  exact ⟨j, List.getElem?_eq_getElem hj⟩

/-- What is handed over. -/
def stdP (p : Option (Nat × Nat)) : Option (Nat × Nat) := mv (fun _ => 1) p
def stdQ (p q : Option (Nat × Nat)) : Option (Nat × Nat) := mv (fun _ => 1 + (lIds p).length) q
def stdH (T : Int) (p q : Option (Nat × Nat)) (fs ls : List Extent) : Heap := mslot T (stdP p) (stdQ p q) fs ls :: (lS p fs ++ lS q ls)
theorem stdH_map {H : Heap} {m : Nat} {X : List Nat} {T : Int} {fs ls : List Extent} {p q : Option (Nat × Nat)} (hM : MapP H m X T fs ls p q) : MapP (stdH T p q fs ls) 0 [] T fs ls (stdP p) (stdQ p q) := by
  have h1 := hM.fr
  have h2 := hM.la
  cases p with
  | none =>
    cases q with
    | none => exact ⟨rfl, h1, h2, by simp [stdP, mv, lIds], by simp [stdQ, mv, lIds], by simp [stdP, mv, lIds], by simp⟩
    | some y => exact ⟨rfl, h1, rfl, by simp [stdP, mv, lIds], by simp [stdQ, mv, lIds], by simp [stdP, mv, lIds], by simp⟩
  | some x =>
    cases q with
    | none => exact ⟨rfl, rfl, h2, by simp [stdP, mv, lIds], by simp [stdQ, mv, lIds], by simp [stdP, stdQ, mv, lIds], by simp⟩
    | some y => exact ⟨rfl, rfl, rfl, by simp [stdP, mv, lIds], by simp [stdQ, mv, lIds], by simp [stdP, stdQ, mv, lIds], by simp⟩
theorem lS_flat (p : Option (Nat × Nat)) (l : List Extent) : ∀ s ∈ lS p l, flatS s = true := by
  cases p with
  | none => simp [lS]
  | some x => intro s hs; simp [lS] at hs; subst hs; exact ext_flat _ _
theorem stdH_wh (T : Int) (p q : Option (Nat × Nat)) (fs ls : List Extent) : WH 0 (stdH T p q fs ls) := by
  intro j s hj hs
  obtain ⟨j, rfl⟩ : ∃ k, j = k + 1 := ⟨j - 1, by omega⟩
  simp only [stdH, List.getElem?_cons_succ] at hs
  rcases List.mem_append.1 (List.mem_of_getElem? hs) with h | h
  · exact lS_flat _ _ _ h
  · exact lS_flat _ _ _ h
theorem stdH_len (T : Int) (p q : Option (Nat × Nat)) (fs ls : List Extent) : (stdH T p q fs ls).length = 1 + ((lIds p).length + (lIds q).length) := by
  cases p <;> cases q <;> rfl

theorem borrow_map {H : Heap} {m : Nat} {X : List Nat} {T : Int} {fs ls : List Extent} {p q : Option (Nat × Nat)} (hM : MapP H m X T fs ls p q) (rest : List A) (hr : idsL rest = []) :
    borrow (.ptr m 0 0 0 :: rest) H = some (m :: (lIds p ++ lIds q), .ptr 0 0 0 0 :: rest, stdH T p q fs ls) := by
  have hat := hM.at_
  have hmp := hM.mp
  have hmq := hM.mq
  have hpq := hM.pq
  have hnd : (m :: (lIds p ++ lIds q)).Nodup := by
    cases p <;> cases q <;> simp_all [lIds]
  have hre : reach H reachFuel [] [m] = m :: (lIds p ++ lIds q) := by
    rw [show reachFuel = 99999 + 1 from rfl, reach, if_neg (by simp)]
    have hmi : (H.getD m .dead).ids = lIds p ++ lIds q := by
      rw [List.getD_eq_getElem?_getD, hat]; exact mslot_ids _ _ _ _ _
    rw [hmi, List.append_nil, List.nil_append]
    refine (reach_flat H (lIds p ++ lIds q) [m] 99999 (fun i hi => ?_) (by simpa using hnd) ?_).trans (by simp)
    · rcases List.mem_append.1 hi with h | h
      · exact flat_ids (lAt_flat hM.fr i h)
      · exact flat_ids (lAt_flat hM.la i h)
    · cases p <;> cases q <;> simp [lIds]
  have h0 : idx (m :: (lIds p ++ lIds q)) m = some 0 := idx_of_get hnd (by simp)
  unfold borrow
  simp only [idsL_cons, idsA_ptr, hr, List.append_nil, hre]
  have hmd : H.getD m .dead = mslot T p q fs ls := by rw [List.getD_eq_getElem?_getD, hat]; rfl
  have hq1 := hM.fr
  have hq2 := hM.la
  have hsl : renSlot (idx (m :: (lIds p ++ lIds q))) (mslot T p q fs ls) = some (mslot T (stdP p) (stdQ p q) fs ls) := by
    have e1 : ∀ i ∈ lIds p, idx (m :: (lIds p ++ lIds q)) i = some ((fun _ => 1) i) := fun i hi => idx_of_get hnd (by cases p with | none => simp [lIds] at hi | some x => simp [lIds] at hi ⊢; exact hi.symm)
    have e2 : ∀ i ∈ lIds q, idx (m :: (lIds p ++ lIds q)) i = some ((fun _ => 1 + (lIds p).length) i) := fun i hi => idx_of_get hnd (by
      cases q with
      | none => simp [lIds] at hi
      | some x =>
        simp [lIds] at hi ⊢
        subst hi
        cases p <;> simp [lIds])
    simp [mslot, renSlot, mrow, lA_ren p fs e1, lA_ren q ls e2, stdP, stdQ]
  have hl1 : (lIds p).map (H.getD · .dead) = lS p fs := by
    cases p with
    | none => rfl
    | some x => have h' : H[x.1]? = _ := hq1; simp [lIds, lS, h']
  have hl2 : (lIds q).map (H.getD · .dead) = lS q ls := by
    cases q with
    | none => rfl
    | some x => have h' : H[x.1]? = _ := hq2; simp [lIds, lS, h']
  have hfl : renHeap (idx (m :: (lIds p ++ lIds q))) (lS p fs ++ lS q ls) = some (lS p fs ++ lS q ls) := renHeap_flat' _ (fun s hs => by
    rcases List.mem_append.1 hs with h | h
    · exact lS_flat _ _ _ h
    · exact lS_flat _ _ _ h)
  simp only [renL_cons, renA_ptr, h0, Option.map_some, Option.bind_some, renL_of_ids _ _ hr, List.map_cons, List.map_append, hmd, renHeap_cons, hsl, hl1, hl2, hfl]
  rfl

/-! what comes back -/
def gB (ids : List Nat) (n i : Nat) : Nat := if i < ids.length then ids.getD i 0 else n + (i - ids.length)
theorem back_gB (ids : List Nat) (n i : Nat) : backIdx ids n i = some (gB ids n i) := by
  unfold backIdx gB
  split
  · rename_i h; simp [h]
  · rfl
theorem gB_inj {ids : List Nat} {n i j : Nat} (hn : ids.Nodup) (hl : ∀ x ∈ ids, x < n) (h : gB ids n i = gB ids n j) : i = j := by
  unfold gB at h
  split at h <;> split at h
  · rename_i h1 h2
    simp only [List.getD_eq_getElem?_getD, List.getElem?_eq_getElem h1, List.getElem?_eq_getElem h2, Option.getD_some] at h
    exact (List.getElem_inj hn).1 h
  · rename_i h1 h2
    simp only [List.getD_eq_getElem?_getD, List.getElem?_eq_getElem h1, Option.getD_some] at h
    have := hl _ (List.getElem_mem h1); omega
  · rename_i h1 h2
    simp only [List.getD_eq_getElem?_getD, List.getElem?_eq_getElem h2, Option.getD_some] at h
    have := hl _ (List.getElem_mem h2); omega
  · omega
theorem back_get (ids : List Nat) (H objs : Heap) (hn : ids.Nodup) (hl : ∀ x ∈ ids, x < H.length) (hlen : ids.length ≤ objs.length) (i : Nat) (s : Go.Ab.Slot) (h : objs[i]? = some s) :
    (setAll H ids (objs.take ids.length) ++ objs.drop ids.length)[gB ids H.length i]? = some s := by
  unfold gB
  by_cases hi : i < ids.length
  · rw [if_pos hi]
    have h1 : ids[i]? = some (ids.getD i 0) := by simp [List.getElem?_eq_getElem hi]
    have h2 : ids.getD i 0 < H.length := hl _ (List.mem_of_getElem? h1)
    rw [List.getElem?_append_left (by rw [setAll_len']; exact h2)]
    exact setAll_get' ids H _ hn i _ s h1 (by rw [List.getElem?_take, if_pos hi]; exact h) h2
  · rw [if_neg hi, List.getElem?_append_right (by rw [setAll_len']; omega), setAll_len', List.getElem?_drop]
    rw [show ids.length + (H.length + (i - ids.length) - H.length) = i by omega]
    exact h
theorem back_keep (ids : List Nat) (H objs : Heap) (j : Nat) (hj : j < H.length) (hn : j ∉ ids) : (setAll H ids (objs.take ids.length) ++ objs.drop ids.length)[j]? = H[j]? := by
  rw [List.getElem?_append_left (by rw [setAll_len']; exact hj), setAll_ne' _ _ _ hn]

/-- A call on a map: what a law sees of it. -/
def OpSpec (F : CallFn) (rest : List A) (T : Int) (fs ls : List Extent) (r : A) (fs' ls' : List Extent) : Prop :=
  ∀ H p q, MapP H 0 [] T fs ls p q → WH 0 H → H.length < 5000 → ∃ H' p' q', F (.ptr 0 0 0 0 :: rest) H = some (.ok r, H') ∧ MapP H' 0 [] T fs' ls' p' q' ∧ WH 0 H' ∧ H.length ≤ H'.length

theorem heap_head {H : Heap} {s : Go.Ab.Slot} (h : H[0]? = some s) : ∃ R, H = s :: R := by
  cases H with
  | nil => simp at h
  | cons a R => simp at h; exact ⟨R, by rw [h]⟩

theorem back_map {H H1 : Heap} {m : Nat} {X : List Nat} {T : Int} {fs ls fs' ls' : List Extent} {p q p1 q1 : Option (Nat × Nat)} {Y : List Nat} (hM : MapP H m X T fs ls p q) (hX : ∀ x ∈ X, x < H.length) (hM1 : MapP H1 0 Y T fs' ls' p1 q1) (hW1 : WH 0 H1)
    (hlen : 1 + ((lIds p).length + (lIds q).length) ≤ H1.length) :
    ∃ objs : Heap, renHeap (backIdx (m :: (lIds p ++ lIds q)) H.length) H1 = some objs ∧
      (let H' := setAll H (m :: (lIds p ++ lIds q)) (objs.take (m :: (lIds p ++ lIds q)).length) ++ objs.drop (m :: (lIds p ++ lIds q)).length
       MapP H' m (X ++ Y.map (gB (m :: (lIds p ++ lIds q)) H.length)) T fs' ls' (mv (gB (m :: (lIds p ++ lIds q)) H.length) p1) (mv (gB (m :: (lIds p ++ lIds q)) H.length) q1) ∧
       (∀ x ∈ X, H'[x]? = H[x]?) ∧ H.length ≤ H'.length ∧ (WH m H → WH m H') ∧ (∀ i s, i ≠ 0 → H1[i]? = some s → H'[gB (m :: (lIds p ++ lIds q)) H.length i]? = some s)) := by
  have hnd : (m :: (lIds p ++ lIds q)).Nodup := by
    have hmp := hM.mp
    have hmq := hM.mq
    have hpq := hM.pq
    cases p <;> cases q <;> simp_all [lIds]
  have hlt : ∀ x ∈ m :: (lIds p ++ lIds q), x < H.length := by
    intro x hx
    rcases List.mem_cons.1 hx with rfl | hx
    · exact lt_of_some hM.at_
    · rcases List.mem_append.1 hx with h | h
      · exact lAt_lt hM.fr x h
      · exact lAt_lt hM.la x h
  have hxi : ∀ x ∈ X, x ∉ m :: (lIds p ++ lIds q) := by
    intro x hx hc
    obtain ⟨h1, h2, h3⟩ := hM.fx x hx
    rcases List.mem_cons.1 hc with h | h
    · exact h1 h
    · rcases List.mem_append.1 h with h | h
      · exact h2 h
      · exact h3 h
  have hlen' : (m :: (lIds p ++ lIds q)).length ≤ H1.length := by simp; omega
  have hpos : 0 < (m :: (lIds p ++ lIds q)).length := by simp
  have g0 : gB (m :: (lIds p ++ lIds q)) H.length 0 = m := by simp [gB]
  generalize m :: (lIds p ++ lIds q) = ids at *
  obtain ⟨R, rfl⟩ := heap_head hM1.at_
  have hRf : ∀ s ∈ R, flatS s = true := by
    intro s hs
    obtain ⟨j, hj⟩ := get_of_mem (ids := []) (i := 0) |> fun _ => List.mem_iff_getElem?.1 hs
    exact hW1 (j + 1) s (by omega) (by simpa using hj)
  have hren : renHeap (backIdx ids H.length) (mslot T p1 q1 fs' ls' :: R) = some (mslot T (mv (gB ids H.length) p1) (mv (gB ids H.length) q1) fs' ls' :: R) := by
    simp [mslot_ren T p1 q1 fs' ls' (fun i _ => back_gB ids H.length i), renHeap_flat' R hRf]
  refine ⟨_, hren, ?_⟩
  intro H'
  have hg : ∀ i s, (mslot T (mv (gB ids H.length) p1) (mv (gB ids H.length) q1) fs' ls' :: R)[i]? = some s → H'[gB ids H.length i]? = some s := fun i s h => back_get ids H _ hnd hlt (by simpa using hlen') i s h
  have hg' : ∀ i s, i ≠ 0 → (mslot T p1 q1 fs' ls' :: R)[i]? = some s → H'[gB ids H.length i]? = some s := fun i s hi h => by
    obtain ⟨k, rfl⟩ : ∃ k, i = k + 1 := ⟨i - 1, by omega⟩
    exact hg _ s (by simpa using h)
  have hAt : ∀ p0 l, lAt (mslot T p1 q1 fs' ls' :: R) p0 l → 0 ∉ lIds p0 → lAt H' (mv (gB ids H.length) p0) l := by
    intro p0 l h h0
    cases p0 with
    | none => exact h
    | some x => exact hg' x.1 _ (fun hx => h0 (by simp [lIds, hx])) h
  have hgm : ∀ i, gB ids H.length i = m → i = 0 := fun i h => gB_inj hnd hlt (h.trans g0.symm)
  have hgx : ∀ i, ∀ x ∈ X, x ≠ gB ids H.length i := by
    intro i x hx he
    have hxl := hX x hx
    have := hxi x hx
    unfold gB at he
    split at he
    · rename_i hi
      apply this
      rw [he, List.getD_eq_getElem?_getD, List.getElem?_eq_getElem hi]
      exact List.getElem_mem hi
    · omega
  refine ⟨⟨?_, hAt p1 _ hM1.fr hM1.mp, hAt q1 _ hM1.la hM1.mq, ?_, ?_, ?_, ?_⟩, ?_, ?_, ?_, hg'⟩
  · have := hg 0 _ rfl
    rwa [g0] at this
  · rw [mv_ids]; intro h; obtain ⟨i, hi, he⟩ := List.mem_map.1 h; exact hM1.mp (hgm i he ▸ hi)
  · rw [mv_ids]; intro h; obtain ⟨i, hi, he⟩ := List.mem_map.1 h; exact hM1.mq (hgm i he ▸ hi)
  · rw [mv_ids, mv_ids]
    intro a ha hb
    obtain ⟨i, hi, rfl⟩ := List.mem_map.1 ha
    obtain ⟨j, hj, he⟩ := List.mem_map.1 hb
    obtain rfl := gB_inj hnd hlt he
    exact hM1.pq _ hi hj
  · intro x hx
    rcases List.mem_append.1 hx with hx | hx
    · refine ⟨(hM.fx x hx).1, ?_, ?_⟩
      · rw [mv_ids]; intro h; obtain ⟨i, hi, he⟩ := List.mem_map.1 h; exact hgx i x hx he.symm
      · rw [mv_ids]; intro h; obtain ⟨i, hi, he⟩ := List.mem_map.1 h; exact hgx i x hx he.symm
    · obtain ⟨y, hy, rfl⟩ := List.mem_map.1 hx
      obtain ⟨f1, f2, f3⟩ := hM1.fx y hy
      refine ⟨fun h => f1 (hgm y h), ?_, ?_⟩
      · rw [mv_ids]; intro h; obtain ⟨i, hi, he⟩ := List.mem_map.1 h; exact f2 (gB_inj hnd hlt he ▸ hi)
      · rw [mv_ids]; intro h; obtain ⟨i, hi, he⟩ := List.mem_map.1 h; exact f3 (gB_inj hnd hlt he ▸ hi)
  · exact fun x hx => back_keep ids H _ x (hX x hx) (hxi x hx)
  · simp only [H', List.length_append, setAll_len']; omega
  · intro hW j s hj hs
    by_cases hjl : j < H.length
    · by_cases hji : j ∈ ids
      · obtain ⟨i, hi⟩ := get_of_mem hji
        have hil : i < ids.length := by
          rcases Nat.lt_or_ge i ids.length with h | h
          · exact h
          · rw [List.getElem?_eq_none h] at hi; cases hi
        have hgi : gB ids H.length i = j := by simp only [gB, if_pos hil, List.getD_eq_getElem?_getD, hi, Option.getD_some]
        have hi0 : i ≠ 0 := by intro h; subst h; exact hj (hgi.symm.trans g0)
        obtain ⟨k, rfl⟩ : ∃ k, i = k + 1 := ⟨i - 1, by omega⟩
        have hk : k < R.length := by simp at hlen'; omega
        have := hg' (k + 1) R[k] (by omega) (by simp)
        rw [hgi, hs] at this
        cases this
        exact hRf _ (List.getElem_mem hk)
      · rw [back_keep ids H _ j hjl hji] at hs
        exact hW j s hj hs
    · simp only [H'] at hs
      rw [List.getElem?_append_right (by rw [setAll_len']; omega), setAll_len', List.getElem?_drop] at hs
      obtain ⟨k, hk⟩ : ∃ k, ids.length + (j - H.length) = k + 1 := ⟨ids.length + (j - H.length) - 1, by omega⟩
      rw [hk] at hs
      exact hRf _ (List.mem_of_getElem? (by simpa using hs))

theorem oCall_map {F : CallFn} {rest : List A} {T : Int} {fs ls fs' ls' : List Extent} {r : A} (hS : OpSpec F rest T fs ls r fs' ls') (hr : idsL rest = []) (hrr : idsA r = [])
    {H : Heap} {m : Nat} {X : List Nat} {p q : Option (Nat × Nat)} (hM : MapP H m X T fs ls p q) (hX : ∀ x ∈ X, x < H.length) :
    ∃ H' p' q', MapP H' m X T fs' ls' p' q' ∧ (∀ x ∈ X, H'[x]? = H[x]?) ∧ H.length ≤ H'.length ∧ (WH m H → WH m H') ∧ ∀ {β : Type} (kp k : A → Heap → Option β), oCall F (.ptr m 0 0 0 :: rest) H kp k = k r H' := by
  have hsl := stdH_len T p q fs ls
  obtain ⟨H1, p1, q1, hF, hM1, hW1, hl1⟩ := hS (stdH T p q fs ls) (stdP p) (stdQ p q) (stdH_map hM) (stdH_wh _ _ _ _ _) (by rw [hsl]; cases p <;> cases q <;> simp [lIds])
  obtain ⟨objs, hren, hM2, hK, hL, hW, hG⟩ := back_map hM hX hM1 hW1 (by omega)
  refine ⟨_, _, _, by simpa using hM2, hK, hL, hW, fun kp k => ?_⟩
  unfold oCall
  rw [borrow_map hM rest hr]
  simp only [hF, giveBack, renOut_ok, renA_of_ids _ _ hrr, Option.map_some, Option.bind_some, hren]

/-! the end of a call -/
theorem fin_core {h : Heap} {X : List Nat} {T : Int} {fs ls : List Extent} {p q : Option (Nat × Nat)} (nb : Nat) (L : List Nat) (hM : MapP h 0 X T fs ls p q) (hW : WH 0 h) (h1 : 0 < nb) (h2 : nb ≤ h.length) (h3 : nb < 50000)
    (hL : ∀ x ∈ L, x ∈ X) (hX : ∀ x ∈ X, x < h.length) (hLl : L.length < 5) :
    ∃ (ids : List Nat) (h' : Heap) (g : Nat → Nat), reach h reachFuel (List.range nb) (L ++ (h.take nb).flatMap Go.Ab.Slot.ids) = ids ∧ renHeap (idx ids) (ids.map (h.getD · .dead)) = some h' ∧
      (∀ i ∈ L, idx ids i = some (g i)) ∧ (∀ i ∈ L, h'[g i]? = h[i]?) ∧ MapP h' 0 (L.map g) T fs ls (mv g p) (mv g q) ∧ WH 0 h' ∧ nb ≤ h'.length := by
  obtain ⟨R, rfl⟩ := heap_head hM.at_
  obtain ⟨n, rfl⟩ : ∃ n, nb = n + 1 := ⟨nb - 1, by omega⟩
  have hRf : ∀ s ∈ R, flatS s = true := by
    intro s hs
    obtain ⟨j, hj⟩ := List.mem_iff_getElem?.1 hs
    exact hW (j + 1) s (by omega) (by simpa using hj)
  have hfm : ((mslot T p q fs ls :: R).take (n + 1)).flatMap Go.Ab.Slot.ids = lIds p ++ lIds q := by
    simp only [List.take_succ_cons, List.flatMap_cons, mslot_ids]
    have : (R.take n).flatMap Go.Ab.Slot.ids = [] := by
      rw [List.flatMap_eq_nil_iff]
      intro s hs
      exact flat_ids (hRf s (List.mem_of_mem_take hs))
    rw [this, List.append_nil]
  rw [hfm]
  have hlts : ∀ i ∈ L ++ (lIds p ++ lIds q), i < (mslot T p q fs ls :: R).length ∧ i ≠ 0 := by
    intro i hi
    rcases List.mem_append.1 hi with h | h
    · exact ⟨hX i (hL i h), (hM.fx i (hL i h)).1⟩
    · rcases List.mem_append.1 h with h | h
      · exact ⟨lAt_lt hM.fr i h, fun h0 => hM.mp (h0 ▸ h)⟩
      · exact ⟨lAt_lt hM.la i h, fun h0 => hM.mq (h0 ▸ h)⟩
  have hget : ∀ i, i ≠ 0 → i < (mslot T p q fs ls :: R).length → flatS ((mslot T p q fs ls :: R).getD i .dead) = true := by
    intro i hi hl
    rw [List.getD_eq_getElem?_getD, List.getElem?_eq_getElem hl]
    exact hW i _ hi (List.getElem?_eq_getElem hl)
  obtain ⟨E, e1, e2, e3, e4⟩ := reach_todo (mslot T p q fs ls :: R) (L ++ (lIds p ++ lIds q)) (List.range (n + 1)) reachFuel (fun i hi _ => flat_ids (hget i (hlts i hi).2 (hlts i hi).1))
    (by
      have : (lIds p).length ≤ 1 := by cases p <;> simp [lIds]
      have : (lIds q).length ≤ 1 := by cases q <;> simp [lIds]
      simp [reachFuel]; omega) List.nodup_range
  have hr0 : List.range (n + 1) = 0 :: (List.range n).map (· + 1) := by rw [List.range_succ_eq_map]
  have hgi : ∀ i ∈ L ++ (lIds p ++ lIds q), ∃ j : Nat, (List.range (n + 1) ++ E)[j]? = some i := fun i hi => get_of_mem (e3 i hi)
  let g : Nat → Nat := fun i => (idx (List.range (n + 1) ++ E) i).getD 0
  have hgx : ∀ i ∈ L ++ (lIds p ++ lIds q), idx (List.range (n + 1) ++ E) i = some (g i) ∧ (List.range (n + 1) ++ E)[g i]? = some i := by
    intro i hi
    obtain ⟨j, hj⟩ := hgi i hi
    have := idx_of_get e2 hj
    have hg : g i = j := by simp [g, this]
    rw [hg]
    exact ⟨this, hj⟩
  have hmap : (List.range (n + 1) ++ E).map ((mslot T p q fs ls :: R).getD · .dead) = mslot T p q fs ls :: ((List.range n).map (· + 1) ++ E).map ((mslot T p q fs ls :: R).getD · .dead) := by
    rw [hr0]; simp
  have hflat : ∀ s ∈ ((List.range n).map (· + 1) ++ E).map ((mslot T p q fs ls :: R).getD · .dead), flatS s = true := by
    intro s hs
    obtain ⟨i, hi, rfl⟩ := List.mem_map.1 hs
    rcases List.mem_append.1 hi with h | h
    · obtain ⟨k, hk, rfl⟩ := List.mem_map.1 h
      exact hget _ (by omega) (by simp at hk h2 ⊢; omega)
    · have := e4 i h
      exact hget _ (hlts i this).2 (hlts i this).1
  have hren : renHeap (idx (List.range (n + 1) ++ E)) ((List.range (n + 1) ++ E).map ((mslot T p q fs ls :: R).getD · .dead)) =
      some (mslot T (mv g p) (mv g q) fs ls :: ((List.range n).map (· + 1) ++ E).map ((mslot T p q fs ls :: R).getD · .dead)) := by
    rw [hmap]
    simp only [renHeap_cons, mslot_ren T p q fs ls (fun i hi => (hgx i (List.mem_append_right _ hi)).1), renHeap_flat' _ hflat, Option.bind_some, Option.map_some]
  refine ⟨_, _, g, e1, hren, fun i hi => (hgx i (by simp [hi])).1, ?_, ?_, ?_, ?_⟩
  · intro i hi
    have h4 := (hgx i (by simp [hi])).2
    have h5 := hlts i (by simp [hi])
    have hg0 : g i ≠ 0 := by
      intro h0; rw [h0] at h4; rw [hr0] at h4; simp at h4; exact h5.2 h4.symm
    obtain ⟨k, hk⟩ : ∃ k, g i = k + 1 := ⟨g i - 1, by omega⟩
    rw [hk] at h4 ⊢
    rw [hr0, List.cons_append, List.getElem?_cons_succ] at h4
    rw [List.getElem?_cons_succ, List.getElem?_map, h4]
    simp [List.getD_eq_getElem?_getD, List.getElem?_eq_getElem h5.1]
  · have hat : ∀ p0 l, (∀ i ∈ lIds p0, i ∈ lIds p ++ lIds q) → lAt (mslot T p q fs ls :: R) p0 l → lAt (mslot T (mv g p) (mv g q) fs ls :: ((List.range n).map (· + 1) ++ E).map ((mslot T p q fs ls :: R).getD · .dead)) (mv g p0) l := by
      intro p0 l hin h
      cases p0 with
      | none => exact h
      | some x =>
        have hx := hin x.1 (by simp [lIds])
        have h4 := (hgx x.1 (List.mem_append_right _ hx)).2
        have h5 := hlts x.1 (List.mem_append_right _ hx)
        have hg0 : g x.1 ≠ 0 := by
          intro h0; rw [h0] at h4; rw [hr0] at h4; simp at h4; exact h5.2 h4.symm
        obtain ⟨k, hk⟩ : ∃ k, g x.1 = k + 1 := ⟨g x.1 - 1, by omega⟩
        show _ = _
        simp only [mv, Option.map_some, lAt]
        rw [hk] at h4 ⊢
        rw [hr0, List.cons_append, List.getElem?_cons_succ] at h4
        rw [List.getElem?_cons_succ, List.getElem?_map, h4]
        have h' : (mslot T p q fs ls :: R)[x.1]? = _ := h
        simp [List.getD_eq_getElem?_getD, h']
    have hginj : ∀ i j, i ∈ L ++ (lIds p ++ lIds q) → j ∈ L ++ (lIds p ++ lIds q) → g i = g j → i = j := by
      intro i j hi hj he
      have a := (hgx i hi).2
      have b := (hgx j hj).2
      rw [he, b] at a
      exact (Option.some.inj a).symm
    have hgne : ∀ i ∈ L ++ (lIds p ++ lIds q), g i ≠ 0 := by
      intro i hi h0
      have a := (hgx i hi).2
      rw [h0, hr0] at a; simp at a; exact (hlts i hi).2 a.symm
    refine ⟨rfl, hat p fs (fun i hi => by simp [hi]) hM.fr, hat q ls (fun i hi => by simp [hi]) hM.la, ?_, ?_, ?_, ?_⟩
    · rw [mv_ids]; intro h; obtain ⟨i, hi, he⟩ := List.mem_map.1 h; exact hgne i (by simp [hi]) he
    · rw [mv_ids]; intro h; obtain ⟨i, hi, he⟩ := List.mem_map.1 h; exact hgne i (by simp [hi]) he
    · rw [mv_ids, mv_ids]
      intro a ha hb
      obtain ⟨i, hi, rfl⟩ := List.mem_map.1 ha
      obtain ⟨j, hj, he⟩ := List.mem_map.1 hb
      have := hginj j i (by simp [hj]) (by simp [hi]) he
      subst this
      exact hM.pq _ hi hj
    · intro y hy
      obtain ⟨x, hx, rfl⟩ := List.mem_map.1 hy
      obtain ⟨f1, f2, f3⟩ := hM.fx x (hL x hx)
      refine ⟨hgne x (by simp [hx]), ?_, ?_⟩
      · rw [mv_ids]; intro h; obtain ⟨i, hi, he⟩ := List.mem_map.1 h; exact f2 (hginj i x (by simp [hi]) (by simp [hx]) he ▸ hi)
      · rw [mv_ids]; intro h; obtain ⟨i, hi, he⟩ := List.mem_map.1 h; exact f3 (hginj i x (by simp [hi]) (by simp [hx]) he ▸ hi)
  · intro j s hj hs
    obtain ⟨k, rfl⟩ : ∃ k, j = k + 1 := ⟨j - 1, by omega⟩
    exact hflat s (List.mem_of_getElem? (by simpa using hs))
  · simp

theorem finish_map {h : Heap} {X : List Nat} {T : Int} {fs ls : List Extent} {p q : Option (Nat × Nat)} (nb : Nat) (r : A) (hr : idsA r = []) (hM : MapP h 0 X T fs ls p q) (hW : WH 0 h) (h1 : 0 < nb) (h2 : nb ≤ h.length) (h3 : nb < 50000) :
    ∃ h' p' q', finish nb (.ok r) h = some (.ok r, h') ∧ MapP h' 0 [] T fs ls p' q' ∧ WH 0 h' ∧ nb ≤ h'.length := by
  obtain ⟨ids, h', g, e1, e2, e3, e4, e5, e6, e7⟩ := fin_core nb [] ⟨hM.at_, hM.fr, hM.la, hM.mp, hM.mq, hM.pq, by simp⟩ hW h1 h2 h3 (X := []) (by simp) (by simp) (by simp)
  refine ⟨h', _, _, ?_, e5, e6, e7⟩
  unfold finish
  simp only [hr, e1, renOut_ok, renA_of_ids _ _ hr, e2, Option.map_some, Option.bind_some]
end Go.Ab.T

/-
  EXTENTS: what is done with a map.
-/
set_option linter.unusedSimpArgs false
set_option linter.unusedVariables false
namespace Go.Ab.T
open Go Go.Ab Go.Ab.F

/-! lending -/
theorem lendA_lA {h : Heap} {p : Option (Nat × Nat)} {l : List Extent} (n : Nat) (hl : lAt h p l) : lendA (n + 2) (lA p l) h = some (mkF 2 (l.map extentC)) := by
  cases p with
  | none => have : l = [] := hl; subst this; rfl
  | some x =>
    have h' : h[x.1]? = _ := hl
    rw [lA, lendA, h']
    simp [lendRows, ext_pure, List.take_of_length_le]
theorem lA_notpure (p : Option (Nat × Nat)) (l : List Extent) : pureA (lA p l) = false := by cases p <;> rfl
theorem lend_row {h : Heap} {p q : Option (Nat × Nat)} {fs ls : List Extent} (T : Int) (n : Nat) (hp : lAt h p fs) (hq : lAt h q ls) : lendL (n + 5) (mrow T p q fs ls) h = some (mapF T fs ls) := by
  rw [mrow, lendL_cons' _ _ _ _ (by simp [lA_notpure]), show n + 4 = (n + 3) + 1 from rfl, show lendA (n + 3 + 1) (.s (.int .i64 T)) h = some (.s (.int .i64 T)) by simp [lendA, nilS], Option.bind_some,
    lendL_cons' _ _ _ _ (by simp [lA_notpure]), show n + 3 = (n + 1) + 2 from rfl, lendA_lA _ hp, Option.bind_some, show n + 1 + 2 = (n + 2) + 1 from rfl, lendL_cons' _ _ _ _ (by simp [lA_notpure]), lendA_lA _ hq, Option.bind_some,
    show n + 2 = (n + 1) + 1 from rfl, lendL_nil']
  rfl
theorem lendA_map {h : Heap} {m : Nat} {p q : Option (Nat × Nat)} {fs ls : List Extent} {T : Int} (n : Nat) (hm : h[m]? = some (mslot T p q fs ls)) (hp : lAt h p fs) (hq : lAt h q ls) : lendA (n + 6) (.ptr m 0 0 0) h = some (.cptr (mapF T fs ls)) := by
  rw [lendA, hm]
  simp [mslot, lend_row T n hp hq]
theorem lend_map1 {h : Heap} {m : Nat} {p q : Option (Nat × Nat)} {fs ls : List Extent} {T : Int} (hm : h[m]? = some (mslot T p q fs ls)) (hp : lAt h p fs) (hq : lAt h q ls) : lendL lendFuel [.ptr m 0 0 0] h = some [.cptr (mapF T fs ls)] := by
  rw [show lendFuel = 999 + 1 from rfl, lendL_cons' _ _ _ _ (by simp), show (999 : Nat) = 993 + 6 from rfl, lendA_map _ hm hp hq, Option.bind_some, show (993 + 6 : Nat) = 998 + 1 from rfl, lendL_nil']
  rfl
theorem lend_map2 {h : Heap} {m : Nat} {p q : Option (Nat × Nat)} {fs ls : List Extent} {T : Int} (e : Extent) (hm : h[m]? = some (mslot T p q fs ls)) (hp : lAt h p fs) (hq : lAt h q ls) : lendL lendFuel [.ptr m 0 0 0, .agg (extentC e)] h = some [.cptr (mapF T fs ls), .agg (extentC e)] := by
  rw [show lendFuel = 999 + 1 from rfl, lendL_cons' _ _ _ _ (by simp), show (999 : Nat) = 993 + 6 from rfl, lendA_map _ hm hp hq, Option.bind_some, show (993 + 6 : Nat) = 998 + 1 from rfl, lendL_pure 998 _ h (by simp)]
  rfl
theorem oLend_map {F : CallFn} {r : A} {h : Heap} {m : Nat} {p q : Option (Nat × Nat)} {fs ls : List Extent} {T : Int} (hm : h[m]? = some (mslot T p q fs ls)) (hp : lAt h p fs) (hq : lAt h q ls)
    (hr : idsA r = []) (ho : ownA r = true) (hF : F [.cptr (mapF T fs ls)] [] = some (.ok r, [])) {β : Type} (kp k : A → Heap → Option β) : oLend F [.ptr m 0 0 0] h kp k = k r h :=
  oLend_lent F _ _ h kp k r (by simpa using lend_map1 hm hp hq) hr ho hF
theorem oLend_map2 {F : CallFn} {r : A} {h : Heap} {m : Nat} {p q : Option (Nat × Nat)} {fs ls : List Extent} {T : Int} (e : Extent) (hm : h[m]? = some (mslot T p q fs ls)) (hp : lAt h p fs) (hq : lAt h q ls)
    (hr : idsA r = []) (ho : ownA r = true) (hF : F [.cptr (mapF T fs ls), .agg (extentC e)] [] = some (.ok r, [])) {β : Type} (kp k : A → Heap → Option β) : oLend F [.ptr m 0 0 0, .agg (extentC e)] h kp k = k r h :=
  oLend_lent F _ _ h kp k r (by simpa using lend_map2 e hm hp hq) hr ho hF
theorem maskH_nil (n : Nat) (h : Heap) (hn : n = h.length) : maskH n [] h = h := by subst hn; simp [maskH, killAll]
theorem oCallF_map2 {F : CallFn} {r : A} {h : Heap} {m n : Nat} {p q : Option (Nat × Nat)} {fs ls : List Extent} {T : Int} (e : Extent) (hn : n = h.length) (hm : h[m]? = some (mslot T p q fs ls)) (hp : lAt h p fs) (hq : lAt h q ls)
    (hr : idsA r = []) (ho : ownA r = true) (hF : F [.cptr (mapF T fs ls), .agg (extentC e)] [] = some (.ok r, [])) {β : Type} (k : A → Heap → Option β) : oCallF n [] F [.ptr m 0 0 0, .agg (extentC e)] h k = k r h := by
  unfold oCallF
  have : (idsL [A.ptr m 0 0 0, .agg (extentC e)]).isEmpty = false := by simp
  simp only [this, Bool.false_eq_true, if_false, maskH_nil n h hn, lend_map2 e hm hp hq, hF, ho, ownH, List.all_nil, Bool.and_self, Bool.or_true, if_true, giveBack, renOut_ok, renA_of_ids r _ hr]
  simp [setAll]
theorem lend_list2 {h : Heap} {p : Option (Nat × Nat)} {fs : List Extent} (e : Extent) (hp : lAt h p fs) : lendL lendFuel [lA p fs, .agg (extentC e)] h = some [mkF 2 (fs.map extentC), .agg (extentC e)] := by
  rw [show lendFuel = 999 + 1 from rfl, lendL_cons' _ _ _ _ (by simp [lA_notpure]), show (999 : Nat) = 997 + 2 from rfl, lendA_lA _ hp, Option.bind_some, show (997 + 2 : Nat) = 998 + 1 from rfl, lendL_pure 998 _ h (by simp)]
  rfl
theorem lend_list2' {h : Heap} {p : Option (Nat × Nat)} {fs : List Extent} (e : Extent) (hp : lAt h p fs) : lendL lendFuel [lA p fs, .agg (extentC e)] (if (idsL [lA p fs, .agg (extentC e)]).isEmpty = true then [] else h) = some [mkF 2 (fs.map extentC), .agg (extentC e)] := by
  cases p with
  | none =>
    have : fs = [] := hp
    subst this
    exact lend_list2 (p := none) e rfl
  | some x => exact lend_list2 (p := some x) e hp
theorem oCallF_list2 {F : CallFn} {r : A} {h : Heap} {n : Nat} {p : Option (Nat × Nat)} {fs : List Extent} (e : Extent) (hn : n = h.length) (hp : lAt h p fs)
    (hr : idsA r = []) (ho : ownA r = true) (hF : F [mkF 2 (fs.map extentC), .agg (extentC e)] [] = some (.ok r, [])) {β : Type} (k : A → Heap → Option β) : oCallF n [] F [lA p fs, .agg (extentC e)] h k = k r h := by
  unfold oCallF
  simp only [maskH_nil n h hn, lend_list2' e hp, hF, ho, ownH, List.all_nil, Bool.and_self, Bool.or_true, if_true, giveBack, renOut_ok, renA_of_ids r _ hr]
  simp [setAll]
theorem cut_call {h : Heap} {n : Nat} {p : Option (Nat × Nat)} {fs : List Extent} (e : Extent) (hn : n = h.length) (hp : lAt h p fs) (hl : fs.length < 1000000) :
    ∃ v, ∀ {β : Type} (k : A → Heap → Option β), oCallF n [] extent_cut [lA p fs, .agg (extentC e)] h k = k (lA (some (h.length, v)) (cutS e fs)) (h ++ [.live ⟨v, 2, (cutS e fs).map extentC⟩]) := by
  obtain ⟨v, hv⟩ := cut_v fs e hl
  refine ⟨v, fun k => ?_⟩
  have ho : ownH [.live ⟨v, 2, (cutS e fs).map extentC⟩] = true := by
    simp [ownH, ownRows, extentC, ownL, ownA]
  unfold oCallF
  simp only [maskH_nil n h hn, lend_list2' e hp, hv, ho, ownA, Bool.and_self, Bool.or_true, if_true, giveBack, renOut_ok, renA_osl]
  have : renSlot (backIdx [] h.length) (.live ⟨v, 2, (cutS e fs).map extentC⟩) = some (.live ⟨v, 2, (cutS e fs).map extentC⟩) := by simp [renSlot, ext_ren]
  simp [setAll, backIdx, this, lA, ext_ren]

/-! putting into a list, wherever it lies -/
theorem put_nil (e : Extent) : extent_put [.s (.slice none 0 0), .agg (extentC e)] [] = some (.ok (.osl 0 1 2 0 1), [.live ⟨1, 2, [extentC e]⟩]) := by
  have hlp : ∀ (k : Ex → List A → Heap → Option (Out × Heap)), oLoop (extent_put_l3 (.osl 1 0 2 0 0) (.ptr 0 0 0 0) [.live ⟨0, 2, [extentC e]⟩, .live ⟨0, 2, []⟩]) ([.s (.int .i64 0)], [.live ⟨0, 2, [extentC e]⟩, .live ⟨0, 2, []⟩]) k =
      k (.exit 0) [.s (.int .i64 0)] [.live ⟨0, 2, [extentC e]⟩, .live ⟨0, 2, []⟩] := by
    obtain ⟨q, rfl, hq⟩ := oLoop_inv' (step := extent_put_l3 (.osl 1 0 2 0 0) (.ptr 0 0 0 0) [.live ⟨0, 2, [extentC e]⟩, .live ⟨0, 2, []⟩]) (s0 := ([.s (.int .i64 0)], [.live ⟨0, 2, [extentC e]⟩, .live ⟨0, 2, []⟩]))
      (fun i s => s = ([.s (.int .i64 0)], [.live ⟨0, 2, [extentC e]⟩, .live ⟨0, 2, []⟩])) (fun q => q = (.exit 0, [.s (.int .i64 0)], [.live ⟨0, 2, [extentC e]⟩, .live ⟨0, 2, []⟩])) 0 rfl (by omega)
      (by intro i s hi; omega)
      (by rintro s rfl; exact ⟨_, by simp [extent_put_l3, extent_put_k1, extent_put_k2, oLoadD, trim, allBelow], rfl⟩)
    exact fun k => hq k
  have hI : ∀ (kp k : A → Heap → Option (Out × Heap)), oCall (primInsert 2 16) [.osl 1 0 2 0 0, .s (.int .i64 0), .osl 2 0 2 0 1] [.live ⟨0, 2, [extentC e]⟩, .live ⟨0, 2, []⟩, .live ⟨0, 2, [extentC e]⟩] kp k =
      k (.osl 1 1 2 0 1) [.live ⟨0, 2, [extentC e]⟩, .live ⟨1, 2, [extentC e]⟩, .live ⟨0, 2, [extentC e]⟩] := fun kp k =>
    oCall_insert 2 16 _ 1 0 0 0 2 [] (extentC e) kp k rfl rfl (by simp) (by decide) (by omega) (by constructor <;> omega) (by simp) (by simp) (fun f => by simp) (fun f => by simp [extentC])
  have hf : finish 0 (.ok (.osl 1 1 2 0 1)) [.live ⟨0, 2, [extentC e]⟩, .live ⟨1, 2, [extentC e]⟩, .live ⟨0, 2, [extentC e]⟩] = some (.ok (.osl 0 1 2 0 1), [.live ⟨1, 2, [extentC e]⟩]) :=
    finish_own 1 1 2 1 [extentC e] _ rfl (by simp) (fun f => by simp [extentC])
  simp [extent_put, oProm]
  rw [hlp]
  simp [extent_put_k8, extent_put_k4, extent_put_k7, extent_put_k5, extent_put_k6, asRows, hI, show IntKind.i64.wrap 1 = 1 from by decide, oLoadD, trim, allBelow, hf]

theorem putS_nil (e : Extent) : putS [] e = [e] := by simp [putS, insS, pos, mergeAt]
theorem putL_call {h : Heap} {p : Option (Nat × Nat)} {l : List Extent} (e : Extent) (hp : lAt h p l) (hl : l.length < 900000) :
    ∃ p' h3, (∀ {β : Type} (kp k : A → Heap → Option β), oCall extent_put [lA p l, .agg (extentC e)] h kp k = k (lA p' (putS l e)) h3) ∧ lAt h3 p' (putS l e) ∧ (∀ j, j < h.length → j ∉ lIds p → h3[j]? = h[j]?) ∧
      (∀ i ∈ lIds p', i ∈ lIds p ∨ i = h.length) ∧ h.length ≤ h3.length ∧ (∀ m, WH m h → m ∉ lIds p → WH m h3) := by
  cases p with
  | none =>
    have : l = [] := hp
    subst this
    refine ⟨some (h.length, 1), h ++ [.live ⟨1, 2, [extentC e]⟩], fun kp k => ?_, ?_, ?_, ?_, ?_, ?_⟩
    · rw [putS_nil]
      have hrs : ∀ f, renL f (extentC e) = some (extentC e) := fun f => renL_of_ids _ f (extentC_ids e)
      simp [oCall, borrow, lA, reach_nil, put_nil, giveBack, backIdx, renSlot, hrs, setAll]
    · show (h ++ _)[h.length]? = _
      rw [putS_nil]; simp
    · intro j hj _; exact List.getElem?_append_left hj
    · intro i hi; simp [lIds] at hi; exact .inr hi
    · simp
    · intro m hW _ j s hj hs
      rcases Nat.lt_or_ge j h.length with hjl | hjl
      · rw [List.getElem?_append_left hjl] at hs; exact hW j s hj hs
      · rw [List.getElem?_append_right hjl] at hs
        have := List.mem_of_getElem? hs
        simp at this; subst this
        simp [flatS]
  | some x =>
    obtain ⟨i, v⟩ := x
    have hi : h[i]? = some (.live ⟨v, 2, l.map extentC⟩) := hp
    obtain ⟨w, hw⟩ := put_v l e v hl
    have hil := lt_of_some hi
    have hre : reach h reachFuel [] [i] = [i] := reach_flat h _ _ _ (by simp [hi, Go.Ab.Slot.ids, ext_ids]) (by simp) (by simp [reachFuel])
    have hx : idx [i] i = some 0 := by simp [idx]
    refine ⟨some (i, w), h.set i (.live ⟨w, 2, (putS l e).map extentC⟩), fun kp k => ?_, ?_, ?_, ?_, ?_, ?_⟩
    · simp [oCall, borrow, lA, hre, hx, hi, ext_ren, renSlot, hw, giveBack, backIdx, setAll, renL_of_ids]
    · show (h.set i _)[i]? = _
      simp [hil]
    · intro j hj hn
      simp [lIds] at hn
      rw [List.getElem?_set_ne (Ne.symm hn)]
    · intro a ha; simp [lIds] at ha ⊢; exact .inl ha
    · simp
    · intro m hW hm j s hj hs
      by_cases hji : j = i
      · subst hji
        rw [List.getElem?_set_self hil] at hs
        cases hs
        exact ext_flat _ _
      · rw [List.getElem?_set_ne (Ne.symm hji)] at hs
        exact hW j s hj hs
end Go.Ab.T

/-
  EXTENTS: given back, at once or later; taken.
-/
set_option linter.unusedSimpArgs false
set_option linter.unusedVariables false
namespace Go.Ab.T
open Go Go.Ab Go.Ab.F

theorem mapP_app {H : Heap} {m : Nat} {X : List Nat} {T : Int} {fs ls : List Extent} {p q : Option (Nat × Nat)} (hM : MapP H m X T fs ls p q) (r : Heap) (Y : List Nat) (hY : ∀ y ∈ Y, H.length ≤ y) : MapP (H ++ r) m (X ++ Y) T fs ls p q := by
  have hlt := lt_of_some hM.at_
  have h1 := lAt_lt hM.fr
  have h2 := lAt_lt hM.la
  have hat : ∀ p0 l, lAt H p0 l → lAt (H ++ r) p0 l := by
    intro p0 l h
    cases p0 with
    | none => exact h
    | some x => exact app_some h r
  refine ⟨app_some hM.at_ r, hat _ _ hM.fr, hat _ _ hM.la, hM.mp, hM.mq, hM.pq, ?_⟩
  intro x hx
  rcases List.mem_append.1 hx with hx | hx
  · exact hM.fx x hx
  · have := hY x hx
    exact ⟨by omega, fun h => by have := h1 x h; omega, fun h => by have := h2 x h; omega⟩
theorem wh_app {H : Heap} {m : Nat} (hW : WH m H) (r : Heap) (hr : ∀ s ∈ r, flatS s = true) : WH m (H ++ r) := by
  intro j s hj hs
  rcases Nat.lt_or_ge j H.length with h | h
  · rw [List.getElem?_append_left h] at hs; exact hW j s hj hs
  · rw [List.getElem?_append_right h] at hs; exact hr s (List.mem_of_getElem? hs)
theorem wh_set {H : Heap} {m : Nat} (hW : WH m H) (s0 : Go.Ab.Slot) : WH m (H.set m s0) := by
  intro j s hj hs
  rw [List.getElem?_set_ne (Ne.symm hj)] at hs
  exact hW j s hj hs
theorem ext1_flat (v : Nat) (e : Extent) : flatS (.live ⟨v, 2, [extentC e]⟩) = true := by simp [flatS]

theorem load_ext (H r : Heap) (e : Extent) {β : Type} (k : A → Option β) : oLoad (some 2) (.ptr H.length 0 0 0) (H ++ .live ⟨0, 2, [extentC e]⟩ :: r) k = k (.agg (extentC e)) := by
  simp
theorem loadD_ext (H r : Heap) (e : Extent) (n : Nat) (hn : H.length < n) {β : Type} (k : A → Heap → Option β) : oLoadD n [] (some 2) (.ptr H.length 0 0 0) (H ++ .live ⟨0, 2, [extentC e]⟩ :: r) k = k (.agg (extentC e)) (H ++ .live ⟨0, 2, [extentC e]⟩ :: r) := by
  simp [oLoadD, hn]
theorem store1 {H : Heap} {m : Nat} {T : Int} {fs ls : List Extent} {p q : Option (Nat × Nat)} (hm : H[m]? = some (mslot T p q fs ls)) (p' : Option (Nat × Nat)) (fs' : List Extent) {β : Type} (k : Heap → Option β) :
    oStore none (.ptr m 0 0 1) (lA p' fs') H k = k (H.set m (mslot T p' q fs' ls)) := by
  have hp : ∀ a, putCells (mrow T p q fs ls) 1 [a] = [.s (.int .i64 T), a, lA q ls] := fun a => rfl
  have hl : (mrow T p q fs ls).length = 3 := rfl
  cases p' <;> simp [oStore, hm, mslot, hp, hl, lA, asCells, mrow, isCell, putCells]
theorem store2 {H : Heap} {m : Nat} {T : Int} {fs ls : List Extent} {p q : Option (Nat × Nat)} (hm : H[m]? = some (mslot T p q fs ls)) (q' : Option (Nat × Nat)) (ls' : List Extent) {β : Type} (k : Heap → Option β) :
    oStore none (.ptr m 0 0 2) (lA q' ls') H k = k (H.set m (mslot T p q' fs ls')) := by
  have hl : (mrow T p q fs ls).length = 3 := rfl
  cases q' <;> simp [oStore, hm, mslot, hl, lA, asCells, mrow, isCell, putCells]
theorem load1 {H : Heap} {m : Nat} {T : Int} {fs ls : List Extent} {p q : Option (Nat × Nat)} (hm : H[m]? = some (mslot T p q fs ls)) {β : Type} (k : A → Option β) : oLoad none (.ptr m 0 0 1) H k = k (lA p fs) := by
  cases p <;> simp [oLoad, hm, mslot, mrow, cellsAt, lA, isCell]
theorem load2 {H : Heap} {m : Nat} {T : Int} {fs ls : List Extent} {p q : Option (Nat × Nat)} (hm : H[m]? = some (mslot T p q fs ls)) {β : Type} (k : A → Option β) : oLoad none (.ptr m 0 0 2) H k = k (lA q ls) := by
  cases q <;> simp [oLoad, hm, mslot, mrow, cellsAt, lA, isCell]
theorem loadD1 {H : Heap} {m n : Nat} {T : Int} {fs ls : List Extent} {p q : Option (Nat × Nat)} (hm : H[m]? = some (mslot T p q fs ls)) (hn : m < n) {β : Type} (k : A → Heap → Option β) : oLoadD n [] none (.ptr m 0 0 1) H k = k (lA p fs) H := by
  simp [oLoadD, hn, load1 hm]
theorem loadD2 {H : Heap} {m n : Nat} {T : Int} {fs ls : List Extent} {p q : Option (Nat × Nat)} (hm : H[m]? = some (mslot T p q fs ls)) (hn : m < n) {β : Type} (k : A → Heap → Option β) : oLoadD n [] none (.ptr m 0 0 2) H k = k (lA q ls) H := by
  simp [oLoadD, hn, load2 hm]
theorem mapP_set1 {H : Heap} {m : Nat} {X : List Nat} {T : Int} {fs ls : List Extent} {p q : Option (Nat × Nat)} (hM : MapP H m X T fs ls p q) {p' : Option (Nat × Nat)} {fs' : List Extent} (hp : lAt H p' fs') (hn : ∀ i ∈ lIds p', i ≠ m ∧ i ∉ lIds q ∧ i ∉ X) :
    MapP (H.set m (mslot T p' q fs' ls)) m X T fs' ls p' q := by
  have hlt := lt_of_some hM.at_
  have hat : ∀ p0 l, m ∉ lIds p0 → lAt H p0 l → lAt (H.set m (mslot T p' q fs' ls)) p0 l := by
    intro p0 l hm h
    cases p0 with
    | none => exact h
    | some x =>
      simp [lIds] at hm
      show (H.set m _)[x.1]? = _
      rw [List.getElem?_set_ne hm]; exact h
  exact ⟨by simp [hlt], hat _ _ (fun h => (hn m h).1 rfl) hp, hat _ _ hM.mq hM.la, fun h => (hn m h).1 rfl, hM.mq, fun i hi => (hn i hi).2.1, fun x hx => ⟨(hM.fx x hx).1, fun h => (hn x h).2.2 hx, (hM.fx x hx).2.2⟩⟩
theorem mapP_set2 {H : Heap} {m : Nat} {X : List Nat} {T : Int} {fs ls : List Extent} {p q : Option (Nat × Nat)} (hM : MapP H m X T fs ls p q) {q' : Option (Nat × Nat)} {ls' : List Extent} (hq : lAt H q' ls') (hn : ∀ i ∈ lIds q', i ≠ m ∧ i ∉ lIds p ∧ i ∉ X) :
    MapP (H.set m (mslot T p q' fs ls')) m X T fs ls' p q' := by
  have hlt := lt_of_some hM.at_
  have hat : ∀ p0 l, m ∉ lIds p0 → lAt H p0 l → lAt (H.set m (mslot T p q' fs ls')) p0 l := by
    intro p0 l hm h
    cases p0 with
    | none => exact h
    | some x =>
      simp [lIds] at hm
      show (H.set m _)[x.1]? = _
      rw [List.getElem?_set_ne hm]; exact h
  exact ⟨by simp [hlt], hat _ _ hM.mp hM.fr, hat _ _ (fun h => (hn m h).1 rfl) hq, hM.mp, fun h => (hn m h).1 rfl, fun i hi hc => (hn i hc).2.1 hi, fun x hx => ⟨(hM.fx x hx).1, (hM.fx x hx).2.1, fun h => (hn x h).2.2 hx⟩⟩

/-- One list of a map is put to. -/
theorem mapP_put1 {h h3 : Heap} {m : Nat} {X : List Nat} {T : Int} {fs ls : List Extent} {p q p' : Option (Nat × Nat)} {fs' : List Extent} (hM : MapP h m X T fs ls p q) (hX : ∀ x ∈ X, x < h.length) (h2 : lAt h3 p' fs')
    (h3k : ∀ j, j < h.length → j ∉ lIds p → h3[j]? = h[j]?) (h4 : ∀ i ∈ lIds p', i ∈ lIds p ∨ i = h.length) :
    h3[m]? = some (mslot T p q fs ls) ∧ lAt h3 q ls ∧ MapP (h3.set m (mslot T p' q fs' ls)) m X T fs' ls p' q := by
  have hlt := lt_of_some hM.at_
  have e1 : h3[m]? = some (mslot T p q fs ls) := by rw [h3k m hlt hM.mp]; exact hM.at_
  have e2 : lAt h3 q ls := by
    have := hM.la
    cases q with
    | none => exact this
    | some y =>
      have hy : y.1 < h.length := lt_of_some this
      show h3[y.1]? = _
      rw [h3k y.1 hy (fun hc => hM.pq y.1 hc (by simp [lIds]))]; exact this
  refine ⟨e1, e2, ?_⟩
  have hqlt := lAt_lt hM.la
  have hn : ∀ i ∈ lIds p', i ≠ m ∧ i ∉ lIds q ∧ i ∉ X := by
    intro i hi
    rcases h4 i hi with h | h
    · exact ⟨fun hc => hM.mp (hc ▸ h), hM.pq i h, fun hx => (hM.fx i hx).2.1 h⟩
    · subst h
      exact ⟨by omega, fun hc => by have := hqlt _ hc; omega, fun hc => by have := hX _ hc; omega⟩
  have hlt3 := lt_of_some e1
  have hat : ∀ p0 l, m ∉ lIds p0 → lAt h3 p0 l → lAt (h3.set m (mslot T p' q fs' ls)) p0 l := by
    intro p0 l hm h
    cases p0 with
    | none => exact h
    | some x =>
      simp [lIds] at hm
      show (h3.set m _)[x.1]? = _
      rw [List.getElem?_set_ne hm]; exact h
  exact ⟨by simp [hlt3], hat _ _ (fun h => (hn m h).1 rfl) h2, hat _ _ hM.mq e2, fun h => (hn m h).1 rfl, hM.mq, fun i hi => (hn i hi).2.1, fun x hx => ⟨(hM.fx x hx).1, fun h => (hn x h).2.2 hx, (hM.fx x hx).2.2⟩⟩
theorem mapP_put2 {h h3 : Heap} {m : Nat} {X : List Nat} {T : Int} {fs ls : List Extent} {p q q' : Option (Nat × Nat)} {ls' : List Extent} (hM : MapP h m X T fs ls p q) (hX : ∀ x ∈ X, x < h.length) (h2 : lAt h3 q' ls')
    (h3k : ∀ j, j < h.length → j ∉ lIds q → h3[j]? = h[j]?) (h4 : ∀ i ∈ lIds q', i ∈ lIds q ∨ i = h.length) :
    h3[m]? = some (mslot T p q fs ls) ∧ lAt h3 p fs ∧ MapP (h3.set m (mslot T p q' fs ls')) m X T fs ls' p q' := by
  have hlt := lt_of_some hM.at_
  have e1 : h3[m]? = some (mslot T p q fs ls) := by rw [h3k m hlt hM.mq]; exact hM.at_
  have e2 : lAt h3 p fs := by
    have := hM.fr
    cases p with
    | none => exact this
    | some y =>
      have hy : y.1 < h.length := lt_of_some this
      show h3[y.1]? = _
      rw [h3k y.1 hy (hM.pq y.1 (by simp [lIds]))]; exact this
  refine ⟨e1, e2, ?_⟩
  have hqlt := lAt_lt hM.fr
  have hn : ∀ i ∈ lIds q', i ≠ m ∧ i ∉ lIds p ∧ i ∉ X := by
    intro i hi
    rcases h4 i hi with h | h
    · exact ⟨fun hc => hM.mq (hc ▸ h), fun hc => hM.pq i hc h, fun hx => (hM.fx i hx).2.2 h⟩
    · subst h
      exact ⟨by omega, fun hc => by have := hqlt _ hc; omega, fun hc => by have := hX _ hc; omega⟩
  have hlt3 := lt_of_some e1
  have hat : ∀ p0 l, m ∉ lIds p0 → lAt h3 p0 l → lAt (h3.set m (mslot T p q' fs ls')) p0 l := by
    intro p0 l hm h
    cases p0 with
    | none => exact h
    | some x =>
      simp [lIds] at hm
      show (h3.set m _)[x.1]? = _
      rw [List.getElem?_set_ne hm]; exact h
  exact ⟨by simp [hlt3], hat _ _ hM.mp e2, hat _ _ (fun h => (hn m h).1 rfl) h2, hM.mp, fun h => (hn m h).1 rfl, fun i hi hc => (hn i hc).2.1 hi, fun x hx => ⟨(hM.fx x hx).1, (hM.fx x hx).2.1, fun h => (hn x h).2.2 hx⟩⟩

theorem free_ok (T : Int) (fs ls : List Extent) (e : Extent) (hf : fs.length < 900000) (hl : ls.length < 900000) (ht : takenB T fs ls e = true) : OpSpec extent_Map_Free [.agg (extentC e)] T fs ls (.s (.int .i64 0)) (putS fs e) ls := by
  intro H p q hM hW hlen
  have hlt := lt_of_some hM.at_
  have hM2 := mapP_app hM [.live ⟨0, 2, [extentC e]⟩] [] (by simp)
  have hW2 := wh_app hW [.live ⟨0, 2, [extentC e]⟩] (by simp [ext1_flat])
  have hT := fun (kp k : A → Heap → Option (Out × Heap)) => oLend_map2 e hM2.at_ hM2.fr hM2.la (by simp) (by rfl) (taken_v T fs ls e (by omega) (by omega)) kp k
  obtain ⟨p', h3, c1, c2, c3, c4, c5, c6⟩ := putL_call e hM2.fr (by omega)
  obtain ⟨d1, d2, d3⟩ := mapP_put1 hM2 (by simp) c2 c3 c4
  have hW3 := wh_set (c6 0 hW2 hM2.mp) (mslot T p' q (putS fs e) ls)
  obtain ⟨h', p1, q1, f1, f2, f3, f4⟩ := finish_map H.length (.s (.int .i64 0)) (by simp) d3 hW3 hlt (by simp at c5 ⊢; omega) (by omega)
  refine ⟨h', p1, q1, ?_, f2, f3, f4⟩
  have hL := fun (k : A → Heap → Option (Out × Heap)) => loadD1 hM2.at_ (n := H.length + 1) (by omega) k
  have hS := fun (k : Heap → Option (Out × Heap)) => store1 d1 p' (putS fs e) k
  have hc1 := fun (kp k : A → Heap → Option (Out × Heap)) => c1 kp k
  simp [-oLoad_ptr, -oStore_ptr, extent_Map_Free, load_ext, loadD_ext, hT, ht, hL, hc1, hS, f1]
theorem free_no (T : Int) (fs ls : List Extent) (e : Extent) (hf : fs.length < 900000) (hl : ls.length < 900000) (ht : takenB T fs ls e = false) : OpSpec extent_Map_Free [.agg (extentC e)] T fs ls (.s (.int .i64 72)) fs ls := by
  intro H p q hM hW hlen
  have hlt := lt_of_some hM.at_
  have hM2 := mapP_app hM [.live ⟨0, 2, [extentC e]⟩] [] (by simp)
  have hW2 := wh_app hW [.live ⟨0, 2, [extentC e]⟩] (by simp [ext1_flat])
  have hT := fun (kp k : A → Heap → Option (Out × Heap)) => oLend_map2 e hM2.at_ hM2.fr hM2.la (by simp) (by rfl) (taken_v T fs ls e (by omega) (by omega)) kp k
  obtain ⟨h', p1, q1, f1, f2, f3, f4⟩ := finish_map H.length (.s (.int .i64 72)) (by simp) hM2 hW2 hlt (by simp) (by omega)
  refine ⟨h', p1, q1, ?_, f2, f3, f4⟩
  simp [-oLoad_ptr, -oStore_ptr, extent_Map_Free, load_ext, loadD_ext, hT, ht, f1]
theorem later_ok (T : Int) (fs ls : List Extent) (e : Extent) (hf : fs.length < 900000) (hl : ls.length < 900000) (ht : takenB T fs ls e = true) : OpSpec extent_Map_Later [.agg (extentC e)] T fs ls (.s (.int .i64 0)) fs (putS ls e) := by
  intro H p q hM hW hlen
  have hlt := lt_of_some hM.at_
  have hM2 := mapP_app hM [.live ⟨0, 2, [extentC e]⟩] [] (by simp)
  have hW2 := wh_app hW [.live ⟨0, 2, [extentC e]⟩] (by simp [ext1_flat])
  have hT := fun (kp k : A → Heap → Option (Out × Heap)) => oLend_map2 e hM2.at_ hM2.fr hM2.la (by simp) (by rfl) (taken_v T fs ls e (by omega) (by omega)) kp k
  obtain ⟨p', h3, c1, c2, c3, c4, c5, c6⟩ := putL_call e hM2.la (by omega)
  obtain ⟨d1, d2, d3⟩ := mapP_put2 hM2 (by simp) c2 c3 c4
  have hW3 := wh_set (c6 0 hW2 hM2.mq) (mslot T p p' fs (putS ls e))
  obtain ⟨h', p1, q1, f1, f2, f3, f4⟩ := finish_map H.length (.s (.int .i64 0)) (by simp) d3 hW3 hlt (by simp at c5 ⊢; omega) (by omega)
  refine ⟨h', p1, q1, ?_, f2, f3, f4⟩
  have hL := fun (k : A → Heap → Option (Out × Heap)) => loadD2 hM2.at_ (n := H.length + 1) (by omega) k
  have hS := fun (k : Heap → Option (Out × Heap)) => store2 d1 p' (putS ls e) k
  have hc1 := fun (kp k : A → Heap → Option (Out × Heap)) => c1 kp k
  simp [-oLoad_ptr, -oStore_ptr, extent_Map_Later, load_ext, loadD_ext, hT, ht, hL, hc1, hS, f1]
theorem later_no (T : Int) (fs ls : List Extent) (e : Extent) (hf : fs.length < 900000) (hl : ls.length < 900000) (ht : takenB T fs ls e = false) : OpSpec extent_Map_Later [.agg (extentC e)] T fs ls (.s (.int .i64 72)) fs ls := by
  intro H p q hM hW hlen
  have hlt := lt_of_some hM.at_
  have hM2 := mapP_app hM [.live ⟨0, 2, [extentC e]⟩] [] (by simp)
  have hW2 := wh_app hW [.live ⟨0, 2, [extentC e]⟩] (by simp [ext1_flat])
  have hT := fun (kp k : A → Heap → Option (Out × Heap)) => oLend_map2 e hM2.at_ hM2.fr hM2.la (by simp) (by rfl) (taken_v T fs ls e (by omega) (by omega)) kp k
  obtain ⟨h', p1, q1, f1, f2, f3, f4⟩ := finish_map H.length (.s (.int .i64 72)) (by simp) hM2 hW2 hlt (by simp) (by omega)
  refine ⟨h', p1, q1, ?_, f2, f3, f4⟩
  simp [-oLoad_ptr, -oStore_ptr, extent_Map_Later, load_ext, loadD_ext, hT, ht, f1]
end Go.Ab.T

/-
  EXTENTS: taken, allotted.
-/
set_option linter.unusedSimpArgs false
set_option linter.unusedVariables false
namespace Go.Ab.T
open Go Go.Ab Go.Ab.F

theorem trim_self (gc : Bool) (vs : List A) (h : Heap) (n : Nat) (hn : n = h.length) : trim gc n vs h = some (vs, h) := by
  subst hn; simp [trim]
theorem trim_map {H : Heap} {m : Nat} {X : List Nat} {T : Int} {fs ls : List Extent} {p q : Option (Nat × Nat)} (hM : MapP H m X T fs ls p q) (hW : WH m H) (vs : List A) (hv : idsL vs = []) (r : Heap) (n : Nat) (hn : n = H.length) :
    trim true n vs (H ++ r) = some (vs, H) := by
  subst hn
  have h1 := lAt_lt hM.fr
  have h2 := lAt_lt hM.la
  have : (H.all fun s => allBelow H.length s.ids) = true := by
    rw [List.all_eq_true]
    intro s hs
    obtain ⟨j, hj⟩ := List.mem_iff_getElem?.1 hs
    by_cases hjm : j = m
    · subst hjm
      rw [hM.at_] at hj
      cases hj
      simp only [mslot_ids, allBelow, List.all_eq_true, decide_eq_true_eq]
      intro i hi
      rcases List.mem_append.1 hi with h | h
      · exact h1 i h
      · exact h2 i h
    · rw [flat_ids (hW j s hjm hj)]; rfl
  unfold trim
  rw [hv, List.take_left]
  have hb : allBelow H.length [] = true := rfl
  simp only [this, hb, Bool.and_self, if_true]

theorem take_ok (T : Int) (fs ls : List Extent) (e : Extent) (hf : fs.length < 900000) (ht : (thereB T e && fs.any (withinB e)) = true) : OpSpec extent_Map_Take [.agg (extentC e)] T fs ls (.s (.int .i64 0)) (cutS e fs) ls := by
  intro H p q hM hW hlen
  simp only [Bool.and_eq_true] at ht
  have hlt := lt_of_some hM.at_
  have hM2 := mapP_app hM [.live ⟨0, 2, [extentC e]⟩] [] (by simp)
  have hW2 := wh_app hW [.live ⟨0, 2, [extentC e]⟩] (by simp [ext1_flat])
  have hT := fun (k : A → Heap → Option (Ex × List A × Heap)) => oCallF_map2 (n := H.length + 1) e (by simp) hM2.at_ hM2.fr hM2.la (by simp) (by rfl) (there_v T fs ls e) k
  have hV := fun (k : A → Heap → Option (Ex × List A × Heap)) => oCallF_list2 (n := H.length + 1) e (by simp) hM2.fr (by simp) (by rfl) (within_v fs e (by omega)) k
  obtain ⟨v, hc⟩ := cut_call (n := H.length + 1) e (by simp) hM2.fr (by omega)
  have hc1 := fun (k : A → Heap → Option (Out × Heap)) => hc k
  have hM3 := mapP_app hM2 [.live ⟨v, 2, (cutS e fs).map extentC⟩] [] (by simp)
  have hW3 := wh_app hW2 [.live ⟨v, 2, (cutS e fs).map extentC⟩] (by simp [ext_flat])
  have l1 := lAt_lt hM2.la
  have hM4 := mapP_set1 hM3 (p' := some (H.length + 1, v)) (fs' := cutS e fs) (by show (_ ++ _)[_]? = _; simp) (by
    intro i hi; simp only [lIds, List.mem_singleton] at hi; subst hi
    exact ⟨by simp, fun h => by have := l1 _ h; simp at this, by simp⟩)
  obtain ⟨h', p1, q1, f1, f2, f3, f4⟩ := finish_map H.length (.s (.int .i64 0)) (by simp) hM4 (wh_set hW3 _) hlt (by simp) (by omega)
  refine ⟨h', p1, q1, ?_, f2, f3, f4⟩
  have hL := fun (k : A → Heap → Option (Ex × List A × Heap)) => loadD1 hM2.at_ (n := H.length + 1) (by omega) k
  have hL2 := fun (k : A → Heap → Option (Out × Heap)) => loadD1 hM2.at_ (n := H.length + 1) (by omega) k
  have hS := fun (k : Heap → Option (Out × Heap)) => store1 hM3.at_ (some (H.length + 1, v)) (cutS e fs) k
  have hTr := fun (vs : List A) => trim_self true vs (H ++ [.live ⟨0, 2, [extentC e]⟩]) (H.length + 1) (by simp)
  simp only [List.append_assoc, List.cons_append, List.nil_append, List.length_append, List.length_cons, List.length_nil, Nat.zero_add] at hS f1 hc1
  simp [-oLoad_ptr, -oStore_ptr, extent_Map_Take, extent_Map_Take_k1, load_ext, loadD_ext, hT, hV, ht.1, ht.2, hL, hL2, hc1, hS, hTr, f1]
theorem take_no (T : Int) (fs ls : List Extent) (e : Extent) (hf : fs.length < 900000) (ht : (thereB T e && fs.any (withinB e)) = false) : OpSpec extent_Map_Take [.agg (extentC e)] T fs ls (.s (.int .i64 72)) fs ls := by
  intro H p q hM hW hlen
  have hlt := lt_of_some hM.at_
  have hM2 := mapP_app hM [.live ⟨0, 2, [extentC e]⟩] [] (by simp)
  have hW2 := wh_app hW [.live ⟨0, 2, [extentC e]⟩] (by simp [ext1_flat])
  have hT := fun (k : A → Heap → Option (Ex × List A × Heap)) => oCallF_map2 (n := H.length + 1) e (by simp) hM2.at_ hM2.fr hM2.la (by simp) (by rfl) (there_v T fs ls e) k
  have hV := fun (k : A → Heap → Option (Ex × List A × Heap)) => oCallF_list2 (n := H.length + 1) e (by simp) hM2.fr (by simp) (by rfl) (within_v fs e (by omega)) k
  obtain ⟨h', p1, q1, f1, f2, f3, f4⟩ := finish_map H.length (.s (.int .i64 72)) (by simp) hM2 hW2 hlt (by simp) (by omega)
  refine ⟨h', p1, q1, ?_, f2, f3, f4⟩
  have hL := fun (k : A → Heap → Option (Ex × List A × Heap)) => loadD1 hM2.at_ (n := H.length + 1) (by omega) k
  have hTr := fun (vs : List A) => trim_self true vs (H ++ [.live ⟨0, 2, [extentC e]⟩]) (H.length + 1) (by simp)
  cases h1 : thereB T e with
  | false => simp [-oLoad_ptr, -oStore_ptr, extent_Map_Take, extent_Map_Take_k1, load_ext, loadD_ext, hT, h1, hL, hTr, f1]
  | true =>
    have h2 : fs.any (withinB e) = false := by simpa [h1] using ht
    rw [h2] at hV
    simp [-oLoad_ptr, -oStore_ptr, extent_Map_Take, extent_Map_Take_k1, load_ext, loadD_ext, hT, hV, h1, hL, hTr, f1]

/-! allotting -/
def bestGo (n : Int) : List Extent → Extent → Extent
  | [], b => b
  | x :: r, b => if n ≤ b.len then b else bestGo n r (if b.len < x.len then x else b)
def bestS (n : Int) (fs : List Extent) : Extent := match fs with
  | [] => ⟨0, 0⟩
  | b :: _ => bestGo n fs b
def gotS (n : Int) (fs : List Extent) : Extent := ⟨(bestS n fs).start, if n < (bestS n fs).len then n else (bestS n fs).len⟩

theorem oLen_lA (p : Option (Nat × Nat)) {H : Heap} (l : List Extent) (hp : lAt H p l) {β : Type} (k : A → Option β) : oLen (lA p l) k = k (.s (.int .i64 l.length)) := by
  cases p with
  | none => have : l = [] := hp; subst this; rfl
  | some x => rfl
theorem idx_lA {H : Heap} {p : Option (Nat × Nat)} {l : List Extent} (hp : lAt H p l) (i : Nat) (x : Extent) (hx : l[i]? = some x) {β : Type} (k : A → Option β) :
    oIdxA 2 (lA p l) (.s (.int .i64 i)) (fun a => oLoad (some 2) a H k) = k (.agg (extentC x)) := by
  cases p with
  | none => have : l = [] := hp; subst this; simp at hx
  | some y =>
    have h' : H[y.1]? = _ := hp
    obtain ⟨hi, hxe⟩ := List.getElem?_eq_some_iff.1 hx
    simp [lA, hi, h', hxe]
theorem alloc_lt1 (T : Int) (fs ls : List Extent) (n : Int) (hn : n < 1) : OpSpec extent_Map_Alloc [.s (.int .i64 n)] T fs ls (.tup [.agg (extentC ⟨0, 0⟩), .s (.int .i64 72)]) fs ls := by
  intro H p q hM hW hlen
  have hlt := lt_of_some hM.at_
  have hM2 := mapP_app hM [.live ⟨0, 2, [extentC ⟨0, 0⟩]⟩] [] (by simp)
  have hW2 := wh_app hW [.live ⟨0, 2, [extentC ⟨0, 0⟩]⟩] (by simp [ext1_flat])
  obtain ⟨h', p1, q1, f1, f2, f3, f4⟩ := finish_map H.length (.tup [.agg (extentC ⟨0, 0⟩), .s (.int .i64 72)]) (by simp) hM2 hW2 hlt (by simp) (by omega)
  refine ⟨h', p1, q1, ?_, f2, f3, f4⟩
  have hz : [A.s (.int .i64 0), .s (.int .i64 0)] = extentC ⟨0, 0⟩ := rfl
  have hst : ∀ (a b : Extent), putCells (extentC a) 0 (extentC b) = extentC b := fun a b => rfl
  simp [extent_Map_Alloc, hn, hz, hst, f1, fillA]
theorem alloc_nil (T : Int) (ls : List Extent) (n : Int) (hn : 1 ≤ n) : OpSpec extent_Map_Alloc [.s (.int .i64 n)] T [] ls (.tup [.agg (extentC ⟨0, 0⟩), .s (.int .i64 73)]) [] ls := by
  intro H p q hM hW hlen
  have hlt := lt_of_some hM.at_
  have hM2 := mapP_app hM [.live ⟨0, 2, [extentC ⟨0, 0⟩]⟩] [] (by simp)
  have hW2 := wh_app hW [.live ⟨0, 2, [extentC ⟨0, 0⟩]⟩] (by simp [ext1_flat])
  obtain ⟨h', p1, q1, f1, f2, f3, f4⟩ := finish_map H.length (.tup [.agg (extentC ⟨0, 0⟩), .s (.int .i64 73)]) (by simp) hM2 hW2 hlt (by simp) (by omega)
  refine ⟨h', p1, q1, ?_, f2, f3, f4⟩
  have hz : [A.s (.int .i64 0), .s (.int .i64 0)] = extentC ⟨0, 0⟩ := rfl
  have hst : ∀ (a b : Extent), putCells (extentC a) 0 (extentC b) = extentC b := fun a b => rfl
  have hn' : ¬ n < 1 := by omega
  have hL := fun (k : A → Option (Out × Heap)) => load1 hM2.at_ k
  have hl := fun (k : A → Option (Out × Heap)) => oLen_lA p [] hM.fr k
  have hlz : ∀ (s : Go.Ab.Slot) (k : A → Option (Out × Heap)), oLoad (some 2) (.ptr H.length 0 0 0) (H ++ [.live ⟨0, 2, [extentC ⟨0, 0⟩]⟩]) k = k (.agg (extentC ⟨0, 0⟩)) := fun s k => load_ext H [] ⟨0, 0⟩ k
  have hsz : ∀ (k : Heap → Option (Out × Heap)), oStore (some 2) (.ptr H.length 0 0 0) (.agg (extentC ⟨0, 0⟩)) (H ++ [.live ⟨0, 2, [extentC ⟨0, 0⟩]⟩]) k = k (H ++ [.live ⟨0, 2, [extentC ⟨0, 0⟩]⟩]) := fun k => by
    simp [hst]
  simp [-oLoad_ptr, -oStore_ptr, extent_Map_Alloc, hn', hz, hL, hl, hsz, load_ext, f1, fillA]

def xs (e : Extent) : Go.Ab.Slot := .live ⟨0, 2, [extentC e]⟩
theorem xs_flat (e : Extent) : flatS (xs e) = true := ext1_flat 0 e
/-! reading and writing one extent -/
theorem ldE {h : Heap} {id : Nat} {e : Extent} (hg : h[id]? = some (.live ⟨0, 2, [extentC e]⟩)) {β : Type} (k : A → Option β) : oLoad (some 2) (.ptr id 0 0 0) h k = k (.agg (extentC e)) := by
  simp [oLoad, hg]
theorem ldLen {h : Heap} {id : Nat} {e : Extent} (hg : h[id]? = some (.live ⟨0, 2, [extentC e]⟩)) {β : Type} (k : A → Option β) : oLoad none (.ptr id 0 0 1) h k = k (.s (.int .i64 e.len)) := by
  simp [oLoad, hg]
theorem stE {h : Heap} {id : Nat} {e : Extent} (hg : h[id]? = some (.live ⟨0, 2, [extentC e]⟩)) (e' : Extent) {β : Type} (k : Heap → Option β) : oStore (some 2) (.ptr id 0 0 0) (.agg (extentC e')) h k = k (h.set id (xs e')) := by
  have : putCells (extentC e) 0 (extentC e') = extentC e' := rfl
  simp [oStore, hg, this, xs]
theorem stLen {h : Heap} {id : Nat} {e : Extent} (hg : h[id]? = some (.live ⟨0, 2, [extentC e]⟩)) (n : Int) {β : Type} (k : Heap → Option β) : oStore none (.ptr id 0 0 1) (.s (.int .i64 n)) h k = k (h.set id (xs ⟨e.start, n⟩)) := by
  have : putCells (extentC e) 1 [.s (.int .i64 n)] = extentC ⟨e.start, n⟩ := rfl
  simp [oStore, hg, this, xs]
theorem at2 (H : Heap) (a b : Go.Ab.Slot) (r : Heap) : (H ++ a :: b :: r)[H.length + 1]? = some b := by simp
theorem at3 (H : Heap) (a b c : Go.Ab.Slot) (r : Heap) : (H ++ a :: b :: c :: r)[H.length + 1 + 1]? = some c := by
  rw [List.getElem?_append_right (by omega), show H.length + 1 + 1 - H.length = 2 by omega]; rfl
theorem at1 (H : Heap) (a : Go.Ab.Slot) (r : Heap) : (H ++ a :: r)[H.length]? = some a := by simp
theorem set1 (H : Heap) (a b : Go.Ab.Slot) (r : Heap) : (H ++ a :: r).set H.length b = H ++ b :: r := by
  rw [List.set_append_right _ _ (by omega)]; simp
theorem set2 (H : Heap) (a b c : Go.Ab.Slot) (r : Heap) : (H ++ a :: b :: r).set (H.length + 1) c = H ++ a :: c :: r := by
  rw [List.set_append_right _ _ (by omega), show H.length + 1 - H.length = 1 by omega]; rfl
theorem set3 (H : Heap) (a b c d : Go.Ab.Slot) (r : Heap) : (H ++ a :: b :: c :: r).set (H.length + 1 + 1) d = H ++ a :: b :: d :: r := by
  rw [List.set_append_right _ _ (by omega), show H.length + 1 + 1 - H.length = 2 by omega]; rfl

theorem new_xs (e : Extent) (h : Heap) {β : Type} (k : A → Heap → Option β) : oNew none (some 2) (.agg (extentC e)) h k = k (.ptr h.length 0 0 0) (h ++ [xs e]) := by
  simp [xs]

theorem bestGo_drop (n : Int) (fs : List Extent) (i : Nat) (x b : Extent) (hx : fs[i]? = some x) (hb : ¬ n ≤ b.len) : bestGo n (fs.drop i) b = bestGo n (fs.drop (i + 1)) (if b.len < x.len then x else b) := by
  obtain ⟨hi, hxe⟩ := List.getElem?_eq_some_iff.1 hx
  rw [List.drop_eq_getElem_cons hi, hxe, bestGo, if_neg hb]
theorem bestGo_stop (n : Int) (fs : List Extent) (i : Nat) (x b : Extent) (hx : fs[i]? = some x) (hb : n ≤ b.len) : bestGo n (fs.drop i) b = b := by
  obtain ⟨hi, hxe⟩ := List.getElem?_eq_some_iff.1 hx
  rw [List.drop_eq_getElem_cons hi, hxe, bestGo, if_pos hb]

theorem alloc_loop {H : Heap} {T : Int} {fs ls : List Extent} {p q : Option (Nat × Nat)} (hM : MapP H 0 [] T fs ls p q) (hW : WH 0 H) (n : Int) (z b0 : Extent) (hl : fs.length < 900000) {β : Type} (k : Ex → List A → Heap → Option β) :
    oLoop (extent_Map_Alloc_l2 (.s (.int .i64 fs.length)) (lA p fs) (.ptr (H.length + 1) 0 0 0) (.s (.int .i64 n)) (H ++ [xs z, xs b0])) ([.s (.int .i64 0)], H ++ [xs z, xs b0]) k =
      k (.exit 1) [] (H ++ [xs z, xs (bestGo n fs b0)]) := by
  obtain ⟨Q, rfl, hq⟩ := oLoop_inv' (step := extent_Map_Alloc_l2 (.s (.int .i64 fs.length)) (lA p fs) (.ptr (H.length + 1) 0 0 0) (.s (.int .i64 n)) (H ++ [xs z, xs b0])) (s0 := ([.s (.int .i64 0)], H ++ [xs z, xs b0]))
    (fun i s => ∃ b, s = ([.s (.int .i64 i)], H ++ [xs z, xs b]) ∧ bestGo n fs b0 = bestGo n (fs.drop i) b) (fun Q => Q = (.exit 1, [], H ++ [xs z, xs (bestGo n fs b0)])) fs.length ⟨b0, rfl, rfl⟩ (by omega)
    (by
      rintro i s hi ⟨b, rfl, hb⟩
      have hx : fs[i]? = some fs[i] := List.getElem?_eq_getElem hi
      generalize fs[i] = x at hx
      have hw := wrap_succ hi (by omega)
      have hM2 := mapP_app hM [xs z, xs b] [] (by simp)
      have hW2 := wh_app hW [xs z, xs b] (by simp [xs_flat])
      have hz : [A.s (.int .i64 0), .s (.int .i64 0)] = extentC ⟨0, 0⟩ := rfl
      have hI := fun (k : A → Option (Ex × List A × Heap)) => idx_lA hM2.fr i x hx k
      have hN := fun (k : A → Heap → Option (Ex × List A × Heap)) => new_xs ⟨0, 0⟩ (H ++ [xs z, xs b]) k
      simp only [List.append_assoc, List.cons_append, List.nil_append, List.length_append, List.length_cons, List.length_nil, Nat.zero_add] at hN
      have hS := fun (k : Heap → Option (Ex × List A × Heap)) => stE (at3 H (xs z) (xs b) (xs ⟨0, 0⟩) []) x k
      simp only [set3] at hS
      have hlb := fun (k : A → Option (Ex × List A × Heap)) => ldLen (at2 H (xs z) (xs b) [xs x]) k
      have hlx := fun (k : A → Option (Ex × List A × Heap)) => ldLen (at3 H (xs z) (xs b) (xs x) []) k
      have hlx2 := fun (k : A → Option (Ex × List A × Heap)) => ldE (at3 H (xs z) (xs b) (xs x) []) k
      have hsb := fun (k : Heap → Option (Ex × List A × Heap)) => stE (at2 H (xs z) (xs b) [xs x]) x k
      simp only [set2] at hsb
      have hTr := fun (b : Extent) => trim_map (mapP_app hM [xs z, xs b] [] (by simp)) (wh_app hW [xs z, xs b] (by simp [xs_flat])) [] rfl [xs x] (H.length + 2) (by simp)
      have hTs := fun (b : Extent) (vs : List A) => trim_self true vs (H ++ [xs z, xs b]) (H.length + 2) (by simp)
      simp only [List.append_assoc, List.cons_append, List.nil_append] at hTr
      have e2 : H.length + 1 + 1 = H.length + 2 := rfl
      rw [e2] at hN hS hlx hlx2
      by_cases hbn : n ≤ b.len
      · right
        refine ⟨_, ?_, rfl⟩
        rw [hb, bestGo_stop n fs i x b hx hbn]
        simp [-oLoad_ptr, -oStore_ptr, -oNew_agg, extent_Map_Alloc_l2, extent_Map_Alloc_k1, hi, hI, hz, hN, hS, hlb, hlx, hlx2, hsb, hTr, hTs, hbn]
      · left
        refine ⟨([.s (.int .i64 (i + 1 : Nat))], H ++ [xs z, xs (if b.len < x.len then x else b)]), ?_, _, rfl, by rw [hb, bestGo_drop n fs i x b hx hbn]⟩
        by_cases hbx : b.len < x.len
        · simp [-oLoad_ptr, -oStore_ptr, -oNew_agg, extent_Map_Alloc_l2, extent_Map_Alloc_k1, hi, hI, hz, hN, hS, hlb, hlx, hlx2, hsb, hTr, hTs, hbn, hbx, hw]
        · simp [-oLoad_ptr, -oStore_ptr, -oNew_agg, extent_Map_Alloc_l2, extent_Map_Alloc_k1, hi, hI, hz, hN, hS, hlb, hlx, hlx2, hsb, hTr, hTs, hbn, hbx, hw])
    (by
      rintro s ⟨b, rfl, hb⟩
      refine ⟨_, ?_, rfl⟩
      have hTs := fun (b : Extent) (vs : List A) => trim_self true vs (H ++ [xs z, xs b]) (H.length + 2) (by simp)
      rw [hb, List.drop_length, bestGo]
      simp [extent_Map_Alloc_l2, hTs])
  exact hq k
end Go.Ab.T

/-
  EXTENTS: allotted; all; what waited.
-/
set_option linter.unusedSimpArgs false
set_option linter.unusedVariables false
namespace Go.Ab.T
open Go Go.Ab Go.Ab.F

theorem alloc_ok (T : Int) (fs ls : List Extent) (n : Int) (hn : 1 ≤ n) (hne : fs ≠ []) (hf : fs.length < 900000) : OpSpec extent_Map_Alloc [.s (.int .i64 n)] T fs ls (.tup [.agg (extentC (gotS n fs)), .s (.int .i64 0)]) (cutS (gotS n fs) fs) ls := by
  intro H p q hM hW hlen
  have hlt := lt_of_some hM.at_
  obtain ⟨b0, r0, hfs⟩ : ∃ b r, fs = b :: r := by
    cases fs with
    | nil => exact absurd rfl hne
    | cons b r => exact ⟨b, r, rfl⟩
  have hx0 : fs[0]? = some b0 := by rw [hfs]; rfl
  have hbest : bestGo n fs b0 = bestS n fs := by rw [hfs]; rfl
  have hn' : ¬ n < 1 := by omega
  have hz : [A.s (.int .i64 0), .s (.int .i64 0)] = extentC ⟨0, 0⟩ := rfl
  have hM1 := mapP_app hM [xs ⟨0, 0⟩] [] (by simp)
  have hW1 := wh_app hW [xs ⟨0, 0⟩] (by simp [xs_flat])
  have hM2 := fun b => mapP_app hM [xs ⟨0, 0⟩, xs b] [] (by simp)
  have hW2 := fun b => wh_app hW [xs ⟨0, 0⟩, xs b] (by simp [xs_flat])
  have n1 := fun (k : A → Heap → Option (Out × Heap)) => new_xs ⟨0, 0⟩ H k
  have n2 := fun (k : A → Heap → Option (Out × Heap)) => new_xs ⟨0, 0⟩ (H ++ [xs ⟨0, 0⟩]) k
  have a1 := fun (k : A → Option (Out × Heap)) => load1 hM1.at_ k
  have a2 := fun b (k : A → Option (Out × Heap)) => load1 (hM2 b).at_ k
  have a3 := fun (k : A → Option (Out × Heap)) => oLen_lA p fs hM.fr k
  have a4 : ∀ (k : A → Option (Out × Heap)), oIdxA 2 (lA p fs) (.s (.int .i64 0)) (fun a => oLoad (some 2) a (H ++ [xs ⟨0, 0⟩]) k) = k (.agg (extentC b0)) := fun k => idx_lA hM1.fr 0 b0 hx0 k
  have s1 := fun (k : Heap → Option (Out × Heap)) => stE (at2 H (xs ⟨0, 0⟩) (xs ⟨0, 0⟩) []) b0 k
  have lp := fun (k : Ex → List A → Heap → Option (Out × Heap)) => alloc_loop hM hW n ⟨0, 0⟩ b0 hf k
  have b1 := fun b (k : A → Option (Out × Heap)) => ldLen (at2 H (xs ⟨0, 0⟩) (xs b) []) k
  have b2 := fun b m (k : Heap → Option (Out × Heap)) => stLen (at2 H (xs ⟨0, 0⟩) (xs b) []) m k
  have b3 := fun b (k : A → Heap → Option (Out × Heap)) => loadD1 (hM2 b).at_ (n := H.length + 2) (by omega) k
  have b4 : ∀ b (k : A → Heap → Option (Out × Heap)), oLoadD (H.length + 2) [] (some 2) (.ptr (H.length + 1) 0 0 0) (H ++ [xs ⟨0, 0⟩, xs b]) k = k (.agg (extentC b)) (H ++ [xs ⟨0, 0⟩, xs b]) := fun b k => by
    have := fun (k : A → Option (Out × Heap)) => ldE (at2 H (xs ⟨0, 0⟩) (xs b) []) k
    simp [oLoadD, -oLoad_ptr, this]
  obtain ⟨v, hc⟩ := cut_call (n := H.length + 2) (gotS n fs) (by simp) (hM2 (gotS n fs)).fr (by omega)
  have hc1 := fun (k : A → Heap → Option (Out × Heap)) => hc k
  have hM3 := mapP_app hM [xs ⟨0, 0⟩, xs (gotS n fs), .live ⟨v, 2, (cutS (gotS n fs) fs).map extentC⟩] [] (by simp)
  have sm := fun (k : Heap → Option (Out × Heap)) => store1 hM3.at_ (some (H.length + 2, v)) (cutS (gotS n fs) fs) k
  have hset : ∀ (r : Heap) (m' : Go.Ab.Slot), (H ++ r).set 0 m' = H.set 0 m' ++ r := fun r m' => List.set_append_left _ _ hlt
  simp only [hset] at sm
  have hl2 : ∀ m', (H.set 0 m').length = H.length := fun m' => by simp
  have c1 : ∀ m' (k : A → Option (Out × Heap)), oLoad (some 2) (.ptr (H.length + 1) 0 0 0) (H.set 0 m' ++ [xs ⟨0, 0⟩, xs (gotS n fs), .live ⟨v, 2, (cutS (gotS n fs) fs).map extentC⟩]) k = k (.agg (extentC (gotS n fs))) := fun m' k =>
    ldE (by have := at2 (H.set 0 m') (xs ⟨0, 0⟩) (xs (gotS n fs)) [.live ⟨v, 2, (cutS (gotS n fs) fs).map extentC⟩]; rwa [hl2] at this) k
  have c2 : ∀ m' (k : Heap → Option (Out × Heap)), oStore (some 2) (.ptr H.length 0 0 0) (.agg (extentC (gotS n fs))) (H.set 0 m' ++ [xs ⟨0, 0⟩, xs (gotS n fs), .live ⟨v, 2, (cutS (gotS n fs) fs).map extentC⟩]) k =
      k (H.set 0 m' ++ [xs (gotS n fs), xs (gotS n fs), .live ⟨v, 2, (cutS (gotS n fs) fs).map extentC⟩]) := fun m' k => by
    have h0 := at1 (H.set 0 m') (xs ⟨0, 0⟩) [xs (gotS n fs), .live ⟨v, 2, (cutS (gotS n fs) fs).map extentC⟩]
    have h1 := stE h0 (gotS n fs) k
    rw [set1] at h1
    rwa [hl2] at h1
  have c3 : ∀ m' (k : A → Option (Out × Heap)), oLoad (some 2) (.ptr H.length 0 0 0) (H.set 0 m' ++ [xs (gotS n fs), xs (gotS n fs), .live ⟨v, 2, (cutS (gotS n fs) fs).map extentC⟩]) k = k (.agg (extentC (gotS n fs))) := fun m' k =>
    ldE (by have := at1 (H.set 0 m') (xs (gotS n fs)) [xs (gotS n fs), .live ⟨v, 2, (cutS (gotS n fs) fs).map extentC⟩]; rwa [hl2] at this) k
  have hM4 := mapP_app hM [xs (gotS n fs), xs (gotS n fs), .live ⟨v, 2, (cutS (gotS n fs) fs).map extentC⟩] [] (by simp)
  have hW4 := wh_app hW [xs (gotS n fs), xs (gotS n fs), .live ⟨v, 2, (cutS (gotS n fs) fs).map extentC⟩] (by simp [xs_flat, ext_flat])
  have l1 := lAt_lt hM.la
  have hM5 := mapP_set1 hM4 (p' := some (H.length + 2, v)) (fs' := cutS (gotS n fs) fs) (at3 H _ _ _ []) (by
    intro i hi; simp only [lIds, List.mem_singleton] at hi; subst hi
    exact ⟨by simp, fun h => by have := l1 _ h; omega, by simp⟩)
  obtain ⟨h', p1, q1, f1, f2, f3, f4⟩ := finish_map H.length (.tup [.agg (extentC (gotS n fs)), .s (.int .i64 0)]) (by simp) hM5 (wh_set hW4 _) hlt (by simp) (by omega)
  rw [hset] at f1
  refine ⟨h', p1, q1, ?_, f2, f3, f4⟩
  have e2 : H.length + 1 + 1 = H.length + 2 := rfl
  have hg : (⟨(bestS n fs).start, if n < (bestS n fs).len then n else (bestS n fs).len⟩ : Extent) = gotS n fs := rfl
  simp only [List.append_assoc, List.cons_append, List.nil_append, List.length_append, List.length_cons, List.length_nil, Nat.zero_add, set2, e2] at n1 n2 s1 b2 hc1
  have hl0 : ¬ ((fs.length : Int) = 0) := by rw [hfs]; simp; omega
  rw [hbest] at lp
  simp [-oLoad_ptr, -oStore_ptr, -oNew_agg, extent_Map_Alloc, extent_Map_Alloc_k3, hn', hz, n1, n2, a1, a2, a3, a4, hne, hl0, s1, lp, b1, b2, b3, b4, hg, hc1, sm, c1, c2, c3, f1, fillA]
end Go.Ab.T

/-
  EXTENTS: what waited is free; all that is asked for.
-/
set_option linter.unusedSimpArgs false
set_option linter.unusedVariables false
namespace Go.Ab.T
open Go Go.Ab Go.Ab.F

theorem trim_any {h : Heap} {m : Nat} {X : List Nat} {T : Int} {fs ls : List Extent} {p q : Option (Nat × Nat)} (hM : MapP h m X T fs ls p q) (hW : WH m h) (vs : List A) (n : Nat) (hm : m < n) (hn : n ≤ h.length) :
    ∃ h', trim true n vs h = some (vs, h') ∧ MapP h' m X T fs ls p q ∧ WH m h' ∧ n ≤ h'.length ∧ ∀ x, x < n → h'[x]? = h[x]? := by
  unfold trim
  split
  · rename_i hc
    simp only [Bool.true_and, Bool.and_eq_true, List.all_eq_true] at hc
    have hms : mslot T p q fs ls ∈ h.take n := by
      rw [List.mem_iff_getElem?]; exact ⟨m, by rw [List.getElem?_take, if_pos hm]; exact hM.at_⟩
    have hb := hc.2 _ hms
    simp only [mslot_ids, allBelow, List.all_eq_true, decide_eq_true_eq] at hb
    have hat : ∀ p0 l, (∀ i ∈ lIds p0, i < n) → lAt h p0 l → lAt (h.take n) p0 l := by
      intro p0 l hi hl
      cases p0 with
      | none => exact hl
      | some x =>
        show (h.take n)[x.1]? = _
        rw [List.getElem?_take, if_pos (hi x.1 (by simp [lIds]))]; exact hl
    refine ⟨_, rfl, ⟨?_, hat p fs (fun i hi => hb i (by simp [hi])) hM.fr, hat q ls (fun i hi => hb i (by simp [hi])) hM.la, hM.mp, hM.mq, hM.pq, hM.fx⟩, ?_, ?_, ?_⟩
    · rw [List.getElem?_take, if_pos hm]; exact hM.at_
    · intro j s hj hs
      rw [List.getElem?_take] at hs
      split at hs
      · exact hW j s hj hs
      · cases hs
    · simp; omega
    · intro x hx; rw [List.getElem?_take, if_pos hx]
  · exact ⟨h, rfl, hM, hW, hn, fun x _ => rfl⟩

theorem putS_len (fs : List Extent) (e : Extent) : (putS fs e).length ≤ fs.length + 1 := by
  have h0 := insS_len fs e
  unfold putS
  split
  · have h1 := (mergeAt_le (mergeAt (insS fs e) (pos fs e)) (pos fs e - 1)).1
    have h2 := (mergeAt_le (insS fs e) (pos fs e)).1
    omega
  · have h2 := (mergeAt_le (insS fs e) (pos fs e)).1
    omega
theorem foldl_putS_len (ls : List Extent) : ∀ fs : List Extent, (ls.foldl putS fs).length ≤ fs.length + ls.length := by
  induction ls with
  | nil => simp
  | cons a ls ih =>
    intro fs
    have h1 := ih (putS fs a)
    have h2 := putS_len fs a
    simp only [List.foldl_cons, List.length_cons]; omega

theorem commit_ok (T : Int) (fs ls : List Extent) (hf : fs.length + ls.length < 800000) : OpSpec extent_Map_Commit [] T fs ls (.s (.tuple #[])) (ls.foldl putS fs) [] := by
  intro H p q hM hW hlen
  have hlt := lt_of_some hM.at_
  obtain ⟨Q, ⟨p1, h1, hQ, hM1, hW1, hl1⟩, hq⟩ := oLoop_inv' (step := extent_Map_Commit_l1 (.s (.int .i64 ls.length)) (lA q ls) (.ptr 0 0 0 0) H) (s0 := ([.s (.int .i64 0)], H))
    (fun i s => ∃ p' h, s = ([.s (.int .i64 i)], h) ∧ MapP h 0 [] T ((ls.take i).foldl putS fs) ls p' q ∧ WH 0 h ∧ H.length ≤ h.length)
    (fun Q => ∃ p' h, Q = (.exit 0, [], h) ∧ MapP h 0 [] T (ls.foldl putS fs) ls p' q ∧ WH 0 h ∧ H.length ≤ h.length) ls.length ⟨p, H, rfl, hM, hW, Nat.le_refl _⟩ (by omega)
    (by
      rintro i s hi ⟨p', h, rfl, hM', hW', hl'⟩
      have hx : ls[i]? = some ls[i] := List.getElem?_eq_getElem hi
      have hfold : (ls.take (i + 1)).foldl putS fs = putS ((ls.take i).foldl putS fs) ls[i] := by
        rw [List.take_add_one, hx, Option.toList_some, List.foldl_append]; rfl
      generalize ls[i] = x at hx hfold
      have hflen := foldl_putS_len (ls.take i) fs
      rw [List.length_take] at hflen
      generalize (ls.take i).foldl putS fs = gs at hM' hflen hfold
      have hw := wrap_succ hi (by omega)
      have hlt' := lt_of_some hM'.at_
      have hM2 := mapP_app hM' [xs x] [] (by simp)
      have hW2 := wh_app hW' [xs x] (by simp [xs_flat])
      obtain ⟨p2, h3, c1, c2, c3, c4, c5, c6⟩ := putL_call x hM2.fr (by omega)
      obtain ⟨d1, d2, d3⟩ := mapP_put1 hM2 (by simp) c2 c3 c4
      have hW3 := wh_set (c6 0 hW2 hM2.mp) (mslot T p2 q (putS gs x) ls)
      obtain ⟨h4, t1, t2, t3, t4, t5⟩ := trim_any d3 hW3 [.s (.int .i64 (i + 1 : Nat))] H.length hlt (by simp at c5 ⊢; omega)
      left
      refine ⟨([.s (.int .i64 (i + 1 : Nat))], h4), ?_, p2, h4, rfl, by rw [hfold]; exact t2, t3, t4⟩
      have hz : [A.s (.int .i64 0), .s (.int .i64 0)] = extentC ⟨0, 0⟩ := rfl
      have hI := fun (k : A → Option ((List A × Heap) ⊕ (Ex × List A × Heap))) => idx_lA hM'.la i x hx k
      have hN := fun (k : A → Heap → Option ((List A × Heap) ⊕ (Ex × List A × Heap))) => new_xs ⟨0, 0⟩ h k
      have hS := fun (k : Heap → Option ((List A × Heap) ⊕ (Ex × List A × Heap))) => stE (at1 h (xs ⟨0, 0⟩) []) x k
      rw [set1] at hS
      have hL := fun (k : A → Heap → Option ((List A × Heap) ⊕ (Ex × List A × Heap))) => loadD1 hM2.at_ (n := h.length + 1) (by omega) k
      have hL2 : ∀ (k : A → Heap → Option ((List A × Heap) ⊕ (Ex × List A × Heap))), oLoadD (h.length + 1) [] (some 2) (.ptr h.length 0 0 0) (h ++ [xs x]) k = k (.agg (extentC x)) (h ++ [xs x]) := fun k => loadD_ext h [] x (h.length + 1) (by omega) k
      have hc1 := fun (kp k : A → Heap → Option ((List A × Heap) ⊕ (Ex × List A × Heap))) => c1 kp k
      have hS1 := fun (k : Heap → Option ((List A × Heap) ⊕ (Ex × List A × Heap))) => store1 d1 p2 (putS gs x) k
      simp only [Int.natCast_add, Int.cast_ofNat_Int] at t1
      simp [-oLoad_ptr, -oStore_ptr, -oNew_agg, extent_Map_Commit_l1, hi, hI, hz, hN, hS, hL, hL2, hc1, hS1, hw, t1])
    (by
      rintro s ⟨p', h, rfl, hM', hW', hl'⟩
      obtain ⟨h4, t1, t2, t3, t4, t5⟩ := trim_any hM' hW' [] H.length hlt hl'
      refine ⟨(.exit 0, [], h4), ?_, p', h4, rfl, by rw [List.take_length] at t2; exact t2, t3, t4⟩
      simp [extent_Map_Commit_l1, t1])
  subst hQ
  have hM2 := mapP_set2 hM1 (q' := none) (ls' := []) rfl (by simp [lIds])
  obtain ⟨h', p2, q2, f1, f2, f3, f4⟩ := finish_map H.length (.s (.tuple #[])) (by simp) hM2 (wh_set hW1 _) hlt (by simp; omega) (by omega)
  refine ⟨h', p2, q2, ?_, f2, f3, f4⟩
  have hL := fun (k : A → Option (Out × Heap)) => load2 hM.at_ k
  have hn := fun (k : A → Option (Out × Heap)) => oLen_lA q ls hM.la k
  have hq' := fun (k : Ex → List A → Heap → Option (Out × Heap)) => hq k
  have hS : ∀ (k : Heap → Option (Out × Heap)), oStore none (.ptr 0 0 0 2) (.s (.slice none 0 0)) h1 k = k (h1.set 0 (mslot T p1 none (ls.foldl putS fs) [])) := fun k => store2 hM1.at_ none [] k
  simp [-oLoad_ptr, -oStore_ptr, extent_Map_Commit, extent_Map_Commit_k2, hL, hn, hq', hS, f1]
end Go.Ab.T

/-
  EXTENTS: all that is asked for.
-/
set_option linter.unusedSimpArgs false
set_option linter.unusedVariables false
namespace Go.Ab.T
open Go Go.Ab Go.Ab.F

theorem cutS_len' (e : Extent) (fs : List Extent) : (cutS e fs).length ≤ 2 * fs.length := cutS_le e fs

/-- What a map that is asked for so many gives, and what it keeps. -/
inductive AllR : Int → List Extent → List Extent → List Extent → Prop
  | done {n : Int} {fs : List Extent} : n ≤ 0 → AllR n fs [] fs
  | step {n : Int} {fs out fs' : List Extent} : 1 ≤ n → fs ≠ [] → fs.length < 900000 → AllR (IntKind.i64.wrap (n - (gotS n fs).len)) (cutS (gotS n fs) fs) out fs' → AllR n fs (gotS n fs :: out) fs'

def AllSpec (F : CallFn) (rest : List A) (T : Int) (fs ls out fs' : List Extent) : Prop :=
  ∀ H p q, MapP H 0 [] T fs ls p q → WH 0 H → H.length < 5000 → ∃ H' p' q' y v, F (.ptr 0 0 0 0 :: rest) H = some (.ok (.tup [.osl y v 2 0 out.length, .s (.int .i64 0)]), H') ∧ MapP H' 0 [y] T fs' ls p' q' ∧ WH 0 H' ∧ H.length ≤ H'.length ∧
    H'[y]? = some (.live ⟨v, 2, out.map extentC⟩)

theorem all_no (T : Int) (fs ls : List Extent) (n : Int) (hn : countS fs < n) (hf : fs.length < 900000) : OpSpec extent_Map_All [.s (.int .i64 n)] T fs ls (.tup [.s (.slice none 0 0), .s (.int .i64 73)]) fs ls := by
  intro H p q hM hW hlen
  have hlt := lt_of_some hM.at_
  obtain ⟨h', p1, q1, f1, f2, f3, f4⟩ := finish_map H.length (.tup [.s (.slice none 0 0), .s (.int .i64 73)]) (by simp) hM hW hlt (by simp) (by omega)
  refine ⟨h', p1, q1, ?_, f2, f3, f4⟩
  have hC := fun (kp k : A → Heap → Option (Out × Heap)) => oLend_map hM.at_ hM.fr hM.la (by simp) (by rfl) (Count_v T fs ls (by omega)) kp k
  simp [extent_Map_All, hC, hn, f1]

theorem mapP_sub {H : Heap} {m : Nat} {X Y : List Nat} {T : Int} {fs ls : List Extent} {p q : Option (Nat × Nat)} (hM : MapP H m X T fs ls p q) (h : ∀ y ∈ Y, y ∈ X) : MapP H m Y T fs ls p q :=
  ⟨hM.at_, hM.fr, hM.la, hM.mp, hM.mq, hM.pq, fun x hx => hM.fx x (h x hx)⟩
theorem mapP_setX {H : Heap} {m : Nat} {X : List Nat} {T : Int} {fs ls : List Extent} {p q : Option (Nat × Nat)} (hM : MapP H m X T fs ls p q) {x : Nat} (hx : x ∈ X) (s : Go.Ab.Slot) : MapP (H.set x s) m X T fs ls p q := by
  obtain ⟨h1, h2, h3⟩ := hM.fx x hx
  have hat : ∀ p0 l, x ∉ lIds p0 → lAt H p0 l → lAt (H.set x s) p0 l := by
    intro p0 l hm h
    cases p0 with
    | none => exact h
    | some y =>
      simp [lIds] at hm
      show (H.set x s)[y.1]? = _
      rw [List.getElem?_set_ne hm]; exact h
  exact ⟨by rw [List.getElem?_set_ne h1]; exact hM.at_, hat _ _ h2 hM.fr, hat _ _ h3 hM.la, hM.mp, hM.mq, hM.pq, hM.fx⟩
theorem wh_setX {H : Heap} {m : Nat} (hW : WH m H) (x : Nat) (s : Go.Ab.Slot) (hs : flatS s = true) : WH m (H.set x s) := by
  intro j t hj ht
  by_cases hjx : x = j
  · subst hjx
    rcases Nat.lt_or_ge x H.length with h | h
    · rw [List.getElem?_set_self h] at ht; cases ht; exact hs
    · rw [List.getElem?_eq_none (by simpa using h)] at ht; cases ht
  · rw [List.getElem?_set_ne hjx] at ht; exact hW j t hj ht

/-- One more at the end of a list that is no map's. -/
theorem app_x {H : Heap} {L v : Nat} {out : List Extent} {x : Extent} (hk : H[L]? = some (.live ⟨v, 2, out.map extentC⟩)) (ok : appendOk (out.length + 1) 16) {β : Type} (k : A → Heap → Option β) :
    oAppend none 2 16 (.osl L v 2 0 out.length) (.osl H.length 0 2 0 1) (H ++ [xs x]) k = k (.osl L (v + 1) 2 0 (out.length + 1)) ((H ++ [xs x]).set L (.live ⟨v + 1, 2, (out ++ [x]).map extentC⟩)) := by
  have hlt := lt_of_some hk
  have h1 : (H ++ [xs x])[L]? = some (.live ⟨v, 2, out.map extentC⟩) := by rw [List.getElem?_append_left hlt]; exact hk
  have h2 : (H ++ [xs x])[H.length]? = some (xs x) := by simp
  simp only [xs] at h1 h2 ⊢
  simp only [oAppend_osl, rowsOf_osl, h1, h2]
  simp [ok, List.take_of_length_le]

theorem oCall_map_all {F : CallFn} {rest : List A} {T : Int} {fs ls out fs' : List Extent} (hS : AllSpec F rest T fs ls out fs') (hr : idsL rest = [])
    {H : Heap} {m : Nat} {X : List Nat} {p q : Option (Nat × Nat)} (hM : MapP H m X T fs ls p q) (hX : ∀ x ∈ X, x < H.length) :
    ∃ H' p' q', MapP H' m X T fs' ls p' q' ∧ (∀ x ∈ X, H'[x]? = H[x]?) ∧ H.length ≤ H'.length ∧ (WH m H → WH m H') ∧
      ∀ {β : Type} (kp k : A → Heap → Option β), (oCall F (.ptr m 0 0 0 :: rest) H kp fun w h => oFrz w h k) = k (.tup [mkF 2 (out.map extentC), .s (.int .i64 0)]) H' := by
  have hsl := stdH_len T p q fs ls
  obtain ⟨H1, p1, q1, y, v, hF, hM1, hW1, hl1, hy⟩ := hS (stdH T p q fs ls) (stdP p) (stdQ p q) (stdH_map hM) (stdH_wh _ _ _ _ _) (by rw [hsl]; cases p <;> cases q <;> simp [lIds])
  obtain ⟨objs, hren, hM2, hK, hL, hW, hG⟩ := back_map hM hX hM1 hW1 (by omega)
  have hy0 : y ≠ 0 := (hM1.fx y (by simp)).1
  have hgy := hG y _ hy0 hy
  have hgX : gB (m :: (lIds p ++ lIds q)) H.length y ∉ X := by
    intro hx
    have hil : ∀ i ∈ m :: (lIds p ++ lIds q), i ∉ X := by
      intro i hi hiX
      obtain ⟨a1, a2, a3⟩ := hM.fx i hiX
      rcases List.mem_cons.1 hi with h | h
      · exact a1 h
      · rcases List.mem_append.1 h with h | h
        · exact a2 h
        · exact a3 h
    have hlt := hX _ hx
    unfold gB at hx hlt
    split at hx
    · rename_i hi
      rw [List.getD_eq_getElem?_getD, List.getElem?_eq_getElem hi] at hx
      exact hil _ (List.getElem_mem hi) hx
    · rename_i hi
      rw [if_neg hi] at hlt; omega
  refine ⟨_, _, _, mapP_sub (mapP_setX hM2 (x := gB (m :: (lIds p ++ lIds q)) H.length y) (by simp) .dead) (fun x hx => by simp [hx]), ?_, ?_, ?_, fun kp k => ?_⟩
  · intro x hx
    rw [List.getElem?_set_ne (fun (h : gB (m :: (lIds p ++ lIds q)) H.length y = x) => hgX (by rw [h]; exact hx))]; exact hK x hx
  · rw [List.length_set]; exact hL
  · intro hw
    exact wh_setX (hW hw) _ _ rfl
  · unfold oCall
    rw [borrow_map hM rest hr]
    have hrt : renA (backIdx (m :: (lIds p ++ lIds q)) H.length) (.tup [.osl y v 2 0 out.length, .s (.int .i64 0)]) = some (.tup [.osl (gB (m :: (lIds p ++ lIds q)) H.length y) v 2 0 out.length, .s (.int .i64 0)]) := by
      simp [back_gB]
    simp only [hF, giveBack, renOut_ok, hrt, Option.map_some, Option.bind_some, hren]
    generalize setAll H (m :: (lIds p ++ lIds q)) (objs.take (m :: (lIds p ++ lIds q)).length) ++ objs.drop (m :: (lIds p ++ lIds q)).length = G at hgy
    have hf : frzA 1000 (.tup [.osl (gB (m :: (lIds p ++ lIds q)) H.length y) v 2 0 out.length, .s (.int .i64 0)]) G = some (.tup [mkF 2 (out.map extentC), .s (.int .i64 0)], G.set (gB (m :: (lIds p ++ lIds q)) H.length y) .dead) := by
      generalize gB (m :: (lIds p ++ lIds q)) H.length y = z at hgy ⊢
      have h1 : frzA 998 (.osl z v 2 0 out.length) G = some (mkF 2 (out.map extentC), G.set z .dead) := by
        rw [show (998 : Nat) = 996 + 2 from rfl, frzA, hgy]
        simp [frzRows, ext_pure, List.take_of_length_le]
      rw [show (1000 : Nat) = 999 + 1 from rfl, frzA, show (999 : Nat) = 998 + 1 from rfl, frzL, if_neg (by simp), h1]
      simp only [Option.bind_some]
      rw [show (998 : Nat) = 997 + 1 from rfl, frzL, if_pos (by simp)]
      rfl
    unfold oFrz
    rw [if_neg (by simp), hf]

theorem allR_of_get {n : Int} {fs out fs' : List Extent} (h : AllR n fs out fs') : (out = [] ∧ n ≤ 0 ∧ fs' = fs) ∨ ∃ r, out = gotS n fs :: r ∧ 1 ≤ n ∧ fs ≠ [] ∧ fs.length < 900000 ∧ AllR (IntKind.i64.wrap (n - (gotS n fs).len)) (cutS (gotS n fs) fs) r fs' := by
  cases h with
  | done h => exact .inl ⟨rfl, h, rfl⟩
  | step h1 h2 h3 h4 => exact .inr ⟨_, rfl, h1, h2, h3, h4⟩

theorem all_ok (T : Int) (fs ls out fs' : List Extent) (n : Int) (hR : AllR n fs out fs') (hn : n ≤ countS fs) (hf : fs.length < 900000) (ho : out.length < 1000000) : AllSpec extent_Map_All [.s (.int .i64 n)] T fs ls out fs' := by
  intro H p q hM hW hlen
  have hlt := lt_of_some hM.at_
  have hM0 := mapP_app hM [.live ⟨0, 2, []⟩] [H.length] (by simp)
  have hW0 := wh_app hW [.live ⟨0, 2, []⟩] (by simp [flatS])
  have at0 : (H ++ [Go.Ab.Slot.live ⟨0, 2, []⟩])[H.length]? = some (.live ⟨0, 2, ([] : List Extent).map extentC⟩) := by simp
  obtain ⟨Q, ⟨p1, q1, h1, v1, hQ, hM1, hW1, hl1, hg1⟩, hq⟩ := oLoop_inv' (step := extent_Map_All_l1 (.ptr 0 0 0 0) (H ++ [.live ⟨0, 2, []⟩])) (s0 := ([.s (.int .i64 n), .osl H.length 0 2 0 0], H ++ [.live ⟨0, 2, []⟩]))
    (fun i s => ∃ p' q' h v n' fs1 o1 o2, s = ([.s (.int .i64 n'), .osl H.length v 2 0 o1.length], h) ∧ MapP h 0 [H.length] T fs1 ls p' q' ∧ WH 0 h ∧ H.length + 1 ≤ h.length ∧ h[H.length]? = some (.live ⟨v, 2, o1.map extentC⟩) ∧
      out = o1 ++ o2 ∧ o1.length = i ∧ AllR n' fs1 o2 fs')
    (fun Q => ∃ p' q' h v, Q = (.exit 0, [.osl H.length v 2 0 out.length], h) ∧ MapP h 0 [H.length] T fs' ls p' q' ∧ WH 0 h ∧ H.length + 1 ≤ h.length ∧ h[H.length]? = some (.live ⟨v, 2, out.map extentC⟩)) out.length
    ⟨p, q, _, 0, n, fs, [], out, rfl, hM0, hW0, by simp, at0, rfl, rfl, hR⟩ (by omega)
    (by
      rintro i s hi ⟨p', q', h, v, n', fs1, o1, o2, rfl, hM', hW', hl', hg', ho1, hoi, hR'⟩
      rcases allR_of_get hR' with ⟨e, _, _⟩ | ⟨r, rfl, hn1, hne, hfl, hR2⟩
      · subst e; rw [ho1] at hi; simp at hi; omega
      · left
        have hX : ∀ x ∈ [H.length], x < h.length := by intro x hx; simp at hx; omega
        obtain ⟨h2, p2, q2, k1, k2, k3, k4, k5⟩ := oCall_map (alloc_ok T fs1 ls n' hn1 hne hfl) (by simp) (by simp) hM' hX
        generalize hgot : gotS n' fs1 = g at *
        have hg2 : h2[H.length]? = some (.live ⟨v, 2, o1.map extentC⟩) := by rw [k2 _ (by simp)]; exact hg'
        have hM3 := mapP_app k1 [xs g, xs g] [] (by simp)
        have hW3 := wh_app (k4 hW') [xs g, xs g] (by simp [xs_flat])
        have hM4 := mapP_setX hM3 (x := H.length) (by simp) (.live ⟨v + 1, 2, (o1 ++ [g]).map extentC⟩)
        have hW4 := wh_setX hW3 H.length (.live ⟨v + 1, 2, (o1 ++ [g]).map extentC⟩) (ext_flat _ _)
        obtain ⟨h4, t1, t2, t3, t4, t5⟩ := trim_any hM4 hW4 [.s (.int .i64 (IntKind.i64.wrap (n' - g.len))), .osl H.length (v + 1) 2 0 (o1.length + 1)] (H.length + 1) (by omega) (by simp; omega)
        refine ⟨([.s (.int .i64 (IntKind.i64.wrap (n' - g.len))), .osl H.length (v + 1) 2 0 (o1 ++ [g]).length], h4), ?_, p2, q2, h4, v + 1, _, _, o1 ++ [g], r, rfl, mapP_sub t2 (by simp), t3, t4, ?_, by rw [ho1]; simp, by simp [hoi], hR2⟩
        · have hz : [A.s (.int .i64 0), .s (.int .i64 0)] = extentC ⟨0, 0⟩ := rfl
          have hC := fun (kp k : A → Heap → Option ((List A × Heap) ⊕ (Ex × List A × Heap))) => k5 kp k
          have hN := fun (k : A → Heap → Option ((List A × Heap) ⊕ (Ex × List A × Heap))) => new_xs ⟨0, 0⟩ h2 k
          have hS := fun (k : Heap → Option ((List A × Heap) ⊕ (Ex × List A × Heap))) => stE (at1 h2 (xs ⟨0, 0⟩) []) g k
          rw [set1] at hS
          have hL := fun (k : A → Option ((List A × Heap) ⊕ (Ex × List A × Heap))) => ldE (at1 h2 (xs g) []) k
          have hg2' : (h2 ++ [xs g])[H.length]? = some (.live ⟨v, 2, o1.map extentC⟩) := by rw [List.getElem?_append_left (lt_of_some hg2)]; exact hg2
          have hA := fun (k : A → Heap → Option ((List A × Heap) ⊕ (Ex × List A × Heap))) => app_x (x := g) hg2' (by
            have : o1.length < 1000000 := by rw [ho1] at ho; simp at ho; omega
            constructor <;> omega) k
          have hLl := fun (k : A → Option ((List A × Heap) ⊕ (Ex × List A × Heap))) => ldLen (h := (h2 ++ [xs g, xs g]).set H.length (.live ⟨v + 1, 2, (o1 ++ [g]).map extentC⟩)) (id := h2.length) (e := g) (by
            have := lt_of_some hg2
            rw [List.getElem?_set_ne (by omega)]; exact at1 h2 (xs g) [xs g]) k
          simp only [List.append_assoc, List.cons_append, List.nil_append, List.length_append, List.length_cons, List.length_nil, Nat.zero_add] at hA t1
          have hns : ∀ (k : A → Heap → Option ((List A × Heap) ⊕ (Ex × List A × Heap))), oNewSlice none 2 (some [extentC g]) (h2 ++ [xs g]) k = k (.osl (h2.length + 1) 0 2 0 1) (h2 ++ [xs g, xs g]) := fun k => by
            simp [xs]
          have hng : 0 < n' := by omega
          simp only [List.map_append, List.map_cons, List.map_nil] at hA t1 hLl
          simp [-oLoad_ptr, -oStore_ptr, -oNew_agg, -oNewSlice_eq, extent_Map_All_l1, hng, hC, hz, hN, hS, hL, hns, hA, hLl, t1]
        · rw [t5 _ (by omega), List.getElem?_set_self (by have := lt_of_some hg2; simp; omega)])
    (by
      rintro s ⟨p', q', h, v, n', fs1, o1, o2, rfl, hM', hW', hl', hg', ho1, hoi, hR'⟩
      have : o2 = [] := by
        have := congrArg List.length ho1
        simp at this
        exact List.length_eq_zero_iff.1 (by omega)
      subst this
      rw [List.append_nil] at ho1
      subst ho1
      rcases allR_of_get hR' with ⟨_, hn0, hfe⟩ | ⟨r, e, _⟩
      · subst hfe
        obtain ⟨h4, t1, t2, t3, t4, t5⟩ := trim_any hM' hW' [.osl H.length v 2 0 out.length] (H.length + 1) (by omega) hl'
        refine ⟨(.exit 0, [.osl H.length v 2 0 out.length], h4), ?_, p', q', h4, v, rfl, t2, t3, t4, by rw [t5 _ (by omega)]; exact hg'⟩
        have hng : ¬ 0 < n' := by omega
        simp [extent_Map_All_l1, hng, t1]
      · cases e)
  subst hQ
  obtain ⟨ids, h', g, e1, e2, e3, e4, e5, e6, e7⟩ := fin_core H.length [H.length] hM1 hW1 hlt (by omega) (by omega) (by simp) (by intro x hx; simp at hx; omega) (by simp)
  refine ⟨h', _, _, g H.length, v1, ?_, by simpa using e5, e6, e7, by rw [e4 _ (by simp)]; exact hg1⟩
  have hC := fun (kp k : A → Heap → Option (Out × Heap)) => oLend_map hM.at_ hM.fr hM.la (by simp) (by rfl) (Count_v T fs ls (by omega)) kp k
  have hq' := fun (k : Ex → List A → Heap → Option (Out × Heap)) => hq k
  have hnn : ¬ countS fs < n := by omega
  have hfin : finish H.length (.ok (.tup [.osl H.length v1 2 0 out.length, .s (.int .i64 0)])) h1 = some (.ok (.tup [.osl (g H.length) v1 2 0 out.length, .s (.int .i64 0)]), h') := by
    unfold finish
    have hid : idsA (.tup [.osl H.length v1 2 0 out.length, .s (.int .i64 0)]) = [H.length] := by simp
    have he3 := e3 H.length (by simp)
    simp only [hid, e1, renOut_ok, e2, renA_tup, renL_cons, renA_osl, he3, renA_s, renL_nil, Option.map_some, Option.bind_some]
  simp [extent_Map_All, hC, hnn, oProm]
  rw [hq']
  simp [extent_Map_All_k2, hfin]
end Go.Ab.T

/-
  EXTENTS: a new map; what is read of one.
-/
set_option linter.unusedSimpArgs false
set_option linter.unusedVariables false
namespace Go.Ab.T
open Go Go.Ab Go.Ab.F

theorem alive_v : law07_extentAlive [] [] = some (.ok (.s (.bool true)), []) := by kernel_rfl
theorem alive_call {β : Type} (kp k : A → Heap → Option β) : oLend law07_extentAlive [] [] kp k = k (.s (.bool true)) [] := oLend_val _ _ _ _ _ _ (by simp) (by simp) alive_v

def newT (t : Int) : Int := if 0 < t then (if t < 1024 then t else 1024) else 0
def newF (T : Int) : List Extent := if 0 < T then [⟨0, T⟩] else []
theorem New_v (t : Int) : ∃ h p, extent_New [.s (.int .i64 t)] [] = some (.ok (.ptr 0 0 0 0), h) ∧ MapP h 0 [] (newT t) (newF (newT t)) [] p none ∧ ((∀ f, (∀ i, f i = some i) → renHeap f h = some h) ∧ WH 0 h) := by
  have hid : ∀ (f : Nat → Option Nat) (T : Int), (∀ i, f i = some i) → renHeap f [mslot T none none [] []] = some [mslot T none none [] []] := fun f T h => by
    simp [mslot, renSlot, mrow, lA]
  have hid2 : ∀ (f : Nat → Option Nat) (T : Int), (∀ i, f i = some i) → renHeap f [mslot T (some (1, 0)) none [⟨0, T⟩] [], xs ⟨0, T⟩] = some [mslot T (some (1, 0)) none [⟨0, T⟩] [], xs ⟨0, T⟩] := fun f T h => by
    simp [mslot, xs, renSlot, mrow, lA, extentC, h]
  have wh1 : ∀ T : Int, WH 0 [mslot T none none [] []] := fun T j s hj hs => by
    obtain ⟨j, rfl⟩ : ∃ i, j = i + 1 := ⟨j - 1, by omega⟩
    simp at hs
  have wh2 : ∀ T : Int, WH 0 [mslot T (some (1, 0)) none [⟨0, T⟩] [], xs ⟨0, T⟩] := fun T j s hj hs => by
    obtain ⟨j, rfl⟩ : ∃ i, j = i + 1 := ⟨j - 1, by omega⟩
    cases j with
    | zero => simp at hs; subst hs; exact xs_flat _
    | succ j => simp at hs
  have hrow : ∀ T : Int, putCells [A.s (.int .i64 T), .s (.slice none 0 0), .s (.slice none 0 0)] 1 [.osl 1 0 2 0 1] = [.s (.int .i64 T), .osl 1 0 2 0 1, .s (.slice none 0 0)] := fun T => rfl
  have key : ∀ T : Int, (0 < T → ∃ h p, extent_New_k1 [] (.ptr 0 0 0 0) .normal [] [mslot T (some (1, 0)) none [⟨0, T⟩] [], xs ⟨0, T⟩] = some (.ok (.ptr 0 0 0 0), h) ∧ MapP h 0 [] T (newF T) [] p none ∧ ((∀ f, (∀ i, f i = some i) → renHeap f h = some h) ∧ WH 0 h)) ∧
      (¬ 0 < T → ∃ h p, extent_New_k1 [] (.ptr 0 0 0 0) .normal [] [mslot T none none [] []] = some (.ok (.ptr 0 0 0 0), h) ∧ MapP h 0 [] T (newF T) [] p none ∧ ((∀ f, (∀ i, f i = some i) → renHeap f h = some h) ∧ WH 0 h)) := by
    intro T
    constructor
    · intro hT
      refine ⟨[mslot T (some (1, 0)) none [⟨0, T⟩] [], xs ⟨0, T⟩], some (1, 0), ?_, ⟨by simp [newF, hT], by show _ = _; simp [newF, hT, xs], rfl, by simp [lIds], by simp [lIds], by simp [lIds], by simp⟩, fun f h => hid2 f T h, wh2 T⟩
      have hr : reach [mslot T (some (1, 0)) none [⟨0, T⟩] [], xs ⟨0, T⟩] reachFuel [] [0] = [0, 1] := by
        rw [show reachFuel = 99998 + 1 + 1 from rfl, reach, if_neg (by simp)]
        have : ([mslot T (some (1, 0)) none [⟨0, T⟩] [], xs ⟨0, T⟩].getD 0 .dead).ids = [1] := by simp [mslot_ids, lIds]
        rw [this, List.append_nil, reach, if_neg (by simp)]
        have h2 : ([mslot T (some (1, 0)) none [⟨0, T⟩] [], xs ⟨0, T⟩].getD 1 .dead).ids = [] := by simp [xs, Go.Ab.Slot.ids]
        rw [h2]; simp
      have i0 : idx [0, 1] 0 = some 0 := rfl
      have i1 : idx [0, 1] 1 = some 1 := rfl
      have hr2 := hr
      simp only [mslot, mrow, lA, xs, extentC, List.length_cons, List.length_nil, Nat.zero_add] at hr2
      simp [extent_New_k1, finish, hr2, i0, mslot, renSlot, mrow, lA, i1, xs, extentC]
    · intro hT
      refine ⟨[mslot T none none [] []], none, ?_, ⟨by simp [newF, hT], by simp [newF, hT, lAt], rfl, by simp [lIds], by simp [lIds], by simp [lIds], by simp⟩, fun f h => hid f T h, wh1 T⟩
      have hr : reach [mslot T none none [] []] reachFuel [] [0] = [0] := by
        rw [show reachFuel = 99998 + 1 + 1 from rfl, reach, if_neg (by simp)]
        have : ([mslot T none none [] []].getD 0 .dead).ids = [] := by simp [mslot_ids, lIds]
        rw [this]; simp
      have i0 : idx [0] 0 = some 0 := rfl
      have hr2 := hr
      simp only [mslot, mrow, lA] at hr2
      simp [extent_New_k1, finish, hr2, i0, mslot, renSlot, mrow, lA]
  have h1 : ∀ T : Int, [mslot T (some (1, 0)) none [⟨0, T⟩] [], xs ⟨0, T⟩] = [.live ⟨0, 3, [[.s (.int .i64 T), .osl 1 0 2 0 1, .s (.slice none 0 0)]]⟩, .live ⟨0, 2, [extentC ⟨0, T⟩]⟩] := fun T => rfl
  have h2 : ∀ T : Int, [mslot T none none [] []] = [.live ⟨0, 3, [[.s (.int .i64 T), .s (.slice none 0 0), .s (.slice none 0 0)]]⟩] := fun T => rfl
  obtain ⟨k1, k2⟩ := key (newT t)
  rw [h1] at k1
  rw [h2] at k2
  have hmm : ∀ {β : Type} (k : A → Option β), (oMin (.s (.int .i64 t)) (.s (.int .i64 1024)) fun x1 => oMax (.s (.int .i64 0)) x1 k) = k (.s (.int .i64 (newT t))) := by
    intro β k
    by_cases c1 : 0 < t
    · by_cases c2 : t < 1024
      · have : ¬ 1024 < t := by omega
        simp [newT, c1, c2, this]
        try omega
      · by_cases c3 : 1024 < t
        · simp [newT, c1, c2, c3]
        · have : t = 1024 := by omega
          subst this; simp [newT]
    · have : ¬ 1024 < t := by omega
      simp [newT, c1, this]
      try omega
  unfold extent_New
  simp only [hmm]
  generalize newT t = T at *
  by_cases c : 0 < T
  · obtain ⟨h, p, e1, e2, e3⟩ := k1 c
    refine ⟨h, p, ?_, e2, e3⟩
    rw [← e1]
    have hpe : putCells [A.s (.int .i64 0), .s (.int .i64 0)] 1 [.s (.int .i64 T)] = extentC ⟨0, T⟩ := rfl
    simp [fillA, c, hpe, hrow, asRows, trim, allBelow]
  · obtain ⟨h, p, e1, e2, e3⟩ := k2 c
    refine ⟨h, p, ?_, e2, e3⟩
    rw [← e1]
    simp [fillA, c, hrow, trim, allBelow]
theorem New_call' (t : Int) : ∃ h p, (∀ {β : Type} (kp k : A → Heap → Option β), oLend extent_New [.s (.int .i64 t)] [] kp k = k (.ptr 0 0 0 0) h) ∧ MapP h 0 [] (newT t) (newF (newT t)) [] p none ∧ WH 0 h := by
  obtain ⟨h, p, e1, e2, e3, e4⟩ := New_v t
  refine ⟨h, p, fun kp k => ?_, e2, e4⟩
  have hb : ∀ i, backIdx [] 0 i = some i := fun i => by simp [backIdx]
  have hl : lendL lendFuel [A.s (.int .i64 t)] [] = some [A.s (.int .i64 t)] := lendL_pure 999 _ _ (by simp)
  simp [oLend, hl, e1, giveBack, hb, e3 _ hb, setAll]
theorem New_call (t : Int) : ∃ h p, (∀ {β : Type} (kp k : A → Heap → Option β), oLend extent_New [.s (.int .i64 t)] [] kp k = k (.ptr 0 0 0 0) h) ∧ MapP h 0 [] (newT t) (newF (newT t)) [] p none := by
  obtain ⟨h, p, e1, e2, _⟩ := New_call' t
  exact ⟨h, p, e1, e2⟩

/-- Its lists, copied. -/
theorem List_call {H : Heap} {m : Nat} {X : List Nat} {T : Int} {fs ls : List Extent} {p q : Option (Nat × Nat)} (hM : MapP H m X T fs ls p q) (hf : fs.length < 900000) {β : Type} (kp k : A → Heap → Option β) :
    (oLend extent_Map_List [.ptr m 0 0 0] H kp fun w h => oFrz w h k) = k (mkF 2 (fs.map extentC)) (H ++ [.dead]) := by
  have hcl : ∀ (kp k : A → Heap → Option (Out × Heap)), oLend (primClone 2 16) [mkF 2 (fs.map extentC)] [] kp k = k (.osl 0 1 2 0 fs.length) [.live ⟨1, 2, fs.map extentC⟩] := fun kp k => by
    have hap : appendOk fs.length 16 := by constructor <;> omega
    exact oLend_own (primClone 2 16) _ _ [] kp k 1 2 fs.length (fs.map extentC) (by simp) (lendL_pure 999 _ _ (by simp)) (fun f => ext_ren f fs) (by simp [primClone, hap])
  have hF : extent_Map_List [.cptr (mapF T fs ls)] [] = some (.ok (.osl 0 1 2 0 fs.length), [.live ⟨1, 2, fs.map extentC⟩]) := by
    simp [extent_Map_List, hcl]
    exact finish_own 0 1 2 _ _ _ rfl (ext_ids fs) (fun f => ext_ren f fs)
  have ho : ownH [.live ⟨1, 2, fs.map extentC⟩] = true := by simp [ownH, ownRows, extentC, ownL, ownA]
  have hls : renSlot (backIdx [] H.length) (.live ⟨1, 2, fs.map extentC⟩) = some (.live ⟨1, 2, fs.map extentC⟩) := by simp [renSlot, ext_ren]
  unfold oLend
  have hl : lendL lendFuel [.ptr m 0 0 0] (if (idsL [A.ptr m 0 0 0]).isEmpty = true then [] else H) = some [.cptr (mapF T fs ls)] := by simpa using lend_map1 hM.at_ hM.fr hM.la
  simp only [hl, hF, ownO, ho, ownA, Bool.and_self, Bool.or_true, if_true, giveBack, renOut_ok, renA_osl]
  have hfz : ∀ (k : A → Heap → Option β), oFrz (.osl H.length 1 2 0 fs.length) (H ++ [Go.Ab.Slot.live ⟨1, 2, fs.map extentC⟩]) k = k (mkF 2 (fs.map extentC)) ((H ++ [Go.Ab.Slot.live ⟨1, 2, fs.map extentC⟩]).set H.length .dead) := fun k =>
    oFrz_own _ H.length 1 2 _ (fs.map extentC) k (by simp) (by simp) (ext_pure fs)
  have hs : (H ++ [Go.Ab.Slot.live ⟨1, 2, fs.map extentC⟩]).set H.length .dead = H ++ [.dead] := set1 _ _ _ _
  rw [hs] at hfz
  simp [backIdx, hls, setAll, hfz]
theorem Waiting_call {H : Heap} {m : Nat} {X : List Nat} {T : Int} {fs ls : List Extent} {p q : Option (Nat × Nat)} (hM : MapP H m X T fs ls p q) (hf : ls.length < 900000) {β : Type} (kp k : A → Heap → Option β) :
    (oLend extent_Map_Waiting [.ptr m 0 0 0] H kp fun w h => oFrz w h k) = k (mkF 2 (ls.map extentC)) (H ++ [.dead]) := by
  have hcl : ∀ (kp k : A → Heap → Option (Out × Heap)), oLend (primClone 2 16) [mkF 2 (ls.map extentC)] [] kp k = k (.osl 0 1 2 0 ls.length) [.live ⟨1, 2, ls.map extentC⟩] := fun kp k => by
    have hap : appendOk ls.length 16 := by constructor <;> omega
    exact oLend_own (primClone 2 16) _ _ [] kp k 1 2 ls.length (ls.map extentC) (by simp) (lendL_pure 999 _ _ (by simp)) (fun f => ext_ren f ls) (by simp [primClone, hap])
  have hF : extent_Map_Waiting [.cptr (mapF T fs ls)] [] = some (.ok (.osl 0 1 2 0 ls.length), [.live ⟨1, 2, ls.map extentC⟩]) := by
    simp [extent_Map_Waiting, hcl]
    exact finish_own 0 1 2 _ _ _ rfl (ext_ids ls) (fun f => ext_ren f ls)
  have ho : ownH [.live ⟨1, 2, ls.map extentC⟩] = true := by simp [ownH, ownRows, extentC, ownL, ownA]
  have hls : renSlot (backIdx [] H.length) (.live ⟨1, 2, ls.map extentC⟩) = some (.live ⟨1, 2, ls.map extentC⟩) := by simp [renSlot, ext_ren]
  unfold oLend
  have hl : lendL lendFuel [.ptr m 0 0 0] (if (idsL [A.ptr m 0 0 0]).isEmpty = true then [] else H) = some [.cptr (mapF T fs ls)] := by simpa using lend_map1 hM.at_ hM.fr hM.la
  simp only [hl, hF, ownO, ho, ownA, Bool.and_self, Bool.or_true, if_true, giveBack, renOut_ok, renA_osl]
  have hfz : ∀ (k : A → Heap → Option β), oFrz (.osl H.length 1 2 0 ls.length) (H ++ [Go.Ab.Slot.live ⟨1, 2, ls.map extentC⟩]) k = k (mkF 2 (ls.map extentC)) ((H ++ [Go.Ab.Slot.live ⟨1, 2, ls.map extentC⟩]).set H.length .dead) := fun k =>
    oFrz_own _ H.length 1 2 _ (ls.map extentC) k (by simp) (by simp) (ext_pure ls)
  have hs : (H ++ [Go.Ab.Slot.live ⟨1, 2, ls.map extentC⟩]).set H.length .dead = H ++ [.dead] := set1 _ _ _ _
  rw [hs] at hfz
  simp [backIdx, hls, setAll, hfz]
theorem frz_no (e : Int) (h : Heap) {β : Type} (k : A → Heap → Option β) : oFrz (.tup [.s (.slice none 0 0), .s (.int .i64 e)]) h k = k (.tup [.fsl 0 [], .s (.int .i64 e)]) h := rfl
theorem wr (a : Int) (h1 : -100000 < a) (h2 : a < 100000) : IntKind.i64.wrap a = a := wrap64_id (by omega) (by omega)

theorem trim_any0 {h : Heap} {m : Nat} {X : List Nat} {T : Int} {fs ls : List Extent} {p q : Option (Nat × Nat)} (hM : MapP h m X T fs ls p q) (vs : List A) (n : Nat) (hm : m < n) (hn : n ≤ h.length) :
    ∃ h', trim true n vs h = some (vs, h') ∧ MapP h' m X T fs ls p q ∧ n ≤ h'.length ∧ ∀ x, x < n → h'[x]? = h[x]? := by
  unfold trim
  split
  · rename_i hc
    simp only [Bool.true_and, Bool.and_eq_true, List.all_eq_true] at hc
    have hms : mslot T p q fs ls ∈ h.take n := by
      rw [List.mem_iff_getElem?]; exact ⟨m, by rw [List.getElem?_take, if_pos hm]; exact hM.at_⟩
    have hb := hc.2 _ hms
    simp only [mslot_ids, allBelow, List.all_eq_true, decide_eq_true_eq] at hb
    have hat : ∀ p0 l, (∀ i ∈ lIds p0, i < n) → lAt h p0 l → lAt (h.take n) p0 l := by
      intro p0 l hi hl
      cases p0 with
      | none => exact hl
      | some x =>
        show (h.take n)[x.1]? = _
        rw [List.getElem?_take, if_pos (hi x.1 (by simp [lIds]))]; exact hl
    refine ⟨_, rfl, ⟨?_, hat p fs (fun i hi => hb i (by simp [hi])) hM.fr, hat q ls (fun i hi => hb i (by simp [hi])) hM.la, hM.mp, hM.mq, hM.pq, hM.fx⟩, ?_, ?_⟩
    · rw [List.getElem?_take, if_pos hm]; exact hM.at_
    · simp; omega
    · intro x hx; rw [List.getElem?_take, if_pos hx]
  · exact ⟨h, rfl, hM, hn, fun x _ => rfl⟩
end Go.Ab.T
