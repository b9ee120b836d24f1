/-
  EXTENTS: a map and its two lists, wherever they lie.
-/
import Derived.Test.YtijekkbagkpjdaaTExtB
set_option linter.unusedSimpArgs false
set_option linter.unusedVariables false
namespace Go.Ab.T
open Go Go.Ab Go.Ab.F

theorem setAll_len' : ∀ (ids : List Nat) (h xs : Heap), (setAll h ids xs).length = h.length
  | [], h, xs => by simp [setAll]
  | id :: ids, h, [] => by simp [setAll]
  | id :: ids, h, x :: xs => by simp [setAll, setAll_len' ids]
theorem setAll_ne' {k : Nat} : ∀ (ids : List Nat) (h xs : Heap), k ∉ ids → (setAll h ids xs)[k]? = h[k]?
  | [], h, xs, _ => by simp [setAll]
  | id :: ids, h, [], _ => by simp [setAll]
  | id :: ids, h, x :: xs, hk => by
    simp only [List.mem_cons, not_or] at hk
    simp only [setAll]
    rw [setAll_ne' ids _ _ hk.2, List.getElem?_set_ne (Ne.symm hk.1)]
theorem setAll_get' : ∀ (ids : List Nat) (h xs : Heap), ids.Nodup → ∀ (j id : Nat) x, ids[j]? = some id → xs[j]? = some x → id < h.length → (setAll h ids xs)[id]? = some x
  | [], h, xs, _, j, id, x, h1, _, _ => by simp at h1
  | id0 :: ids, h, [], _, j, id, x, _, h2, _ => by simp at h2
  | id0 :: ids, h, x0 :: xs, hn, j, id, x, h1, h2, hl => by
    simp only [setAll]
    rw [List.nodup_cons] at hn
    cases j with
    | zero =>
      simp at h1 h2
      subst h1; subst h2
      rw [setAll_ne' ids _ _ hn.1]
      simp [hl]
    | succ j => exact setAll_get' ids _ xs hn.2 j id x (by simpa using h1) (by simpa using h2) (by simpa using hl)

theorem renHeap_flat' {f : Nat → Option Nat} : ∀ (l : Heap), (∀ s ∈ l, flatS s = true) → renHeap f l = some l
  | [], _ => rfl
  | s :: l, h => by
    have hs := h s (by simp)
    have hl := renHeap_flat' (f := f) l fun x hx => h x (by simp [hx])
    have : renSlot f s = some s := by
      cases s with
      | live ob => simp only [flatS, List.isEmpty_iff] at hs; simp [renSlot, renRows_of_ids _ _ hs]
      | dead => rfl
      | res => simp [flatS] at hs
    simp [renHeap, this, hl]
theorem flat_ids {s : Go.Ab.Slot} (h : flatS s = true) : s.ids = [] := by
  cases s with
  | live ob => simpa [flatS, Go.Ab.Slot.ids] using h
  | dead => rfl
  | res => rfl

/-! the form -/
def lIds : Option (Nat × Nat) → List Nat
  | none => []
  | some (i, _) => [i]
def lA : Option (Nat × Nat) → List Extent → A
  | none, _ => .s (.slice none 0 0)
  | some (i, v), l => .osl i v 2 0 l.length
def lAt (H : Heap) : Option (Nat × Nat) → List Extent → Prop
  | none, l => l = []
  | some (i, v), l => H[i]? = some (.live ⟨v, 2, l.map extentC⟩)
def lS : Option (Nat × Nat) → List Extent → Heap
  | none, _ => []
  | some (_, v), l => [.live ⟨v, 2, l.map extentC⟩]
def mrow (T : Int) (p q : Option (Nat × Nat)) (fs ls : List Extent) : List A := [.s (.int .i64 T), lA p fs, lA q ls]
def mslot (T : Int) (p q : Option (Nat × Nat)) (fs ls : List Extent) : Go.Ab.Slot := .live ⟨0, 3, [mrow T p q fs ls]⟩
structure MapP (H : Heap) (m : Nat) (X : List Nat) (T : Int) (fs ls : List Extent) (p q : Option (Nat × Nat)) : Prop where
  at_ : H[m]? = some (mslot T p q fs ls)
  fr : lAt H p fs
  la : lAt H q ls
  mp : m ∉ lIds p
  mq : m ∉ lIds q
  pq : ∀ i ∈ lIds p, i ∉ lIds q
  fx : ∀ x ∈ X, x ≠ m ∧ x ∉ lIds p ∧ x ∉ lIds q
def WH (m : Nat) (H : Heap) : Prop := ∀ j s, j ≠ m → H[j]? = some s → flatS s = true

theorem lA_ids (p : Option (Nat × Nat)) (l : List Extent) : idsA (lA p l) = lIds p := by
  cases p with
  | none => rfl
  | some x => rfl
theorem lAt_lt {H : Heap} {p : Option (Nat × Nat)} {l : List Extent} (h : lAt H p l) : ∀ i ∈ lIds p, i < H.length := by
  cases p with
  | none => simp [lIds]
  | some x => intro i hi; simp [lIds] at hi; subst hi; exact lt_of_some h
theorem mrow_ids (T : Int) (p q : Option (Nat × Nat)) (fs ls : List Extent) : idsL (mrow T p q fs ls) = lIds p ++ lIds q := by
  simp [mrow, idsL, lA_ids]
theorem mslot_ids (T : Int) (p q : Option (Nat × Nat)) (fs ls : List Extent) : (mslot T p q fs ls).ids = lIds p ++ lIds q := by
  simp [mslot, Go.Ab.Slot.ids, idsRows, mrow_ids]
theorem ext_flat (v : Nat) (l : List Extent) : flatS (.live ⟨v, 2, l.map extentC⟩) = true := by simp [flatS, ext_ids]
theorem lAt_flat {H : Heap} {p : Option (Nat × Nat)} {l : List Extent} (h : lAt H p l) : ∀ i ∈ lIds p, flatS (H.getD i .dead) = true := by
  cases p with
  | none => simp [lIds]
  | some x => intro i hi; simp [lIds] at hi; subst hi; have h' : H[x.1]? = _ := h; simp [h', ext_flat]

/-- Renamed. -/
def mv (g : Nat → Nat) (p : Option (Nat × Nat)) : Option (Nat × Nat) := p.map fun x => (g x.1, x.2)
theorem mv_ids (g : Nat → Nat) (p : Option (Nat × Nat)) : lIds (mv g p) = (lIds p).map g := by cases p <;> rfl
theorem lA_ren {f : Nat → Option Nat} {g : Nat → Nat} (p : Option (Nat × Nat)) (l : List Extent) (h : ∀ i ∈ lIds p, f i = some (g i)) : renA f (lA p l) = some (lA (mv g p) l) := by
  cases p with
  | none => rfl
  | some x => simp [lA, mv, h x.1 (by simp [lIds])]
theorem mslot_ren {f : Nat → Option Nat} {g : Nat → Nat} (T : Int) (p q : Option (Nat × Nat)) (fs ls : List Extent) (h : ∀ i ∈ lIds p ++ lIds q, f i = some (g i)) :
    renSlot f (mslot T p q fs ls) = some (mslot T (mv g p) (mv g q) fs ls) := by
  simp [mslot, renSlot, mrow, lA_ren p fs (fun i hi => h i (by simp [hi])), lA_ren q ls (fun i hi => h i (by simp [hi]))]

theorem reach_todo (h : Heap) : ∀ (L seen : List Nat) (n : Nat), (∀ id ∈ L, id ∉ seen → (h.getD id .dead).ids = []) → L.length < n → seen.Nodup →
    ∃ E, reach h n seen L = seen ++ E ∧ (seen ++ E).Nodup ∧ (∀ i ∈ L, i ∈ seen ++ E) ∧ ∀ i ∈ E, i ∈ L
  | [], seen, n, _, _, hs => ⟨[], by simp, by simpa using hs, by simp, by simp⟩
  | id :: L, seen, n, hf, hl, hs => by
    obtain ⟨n, rfl⟩ : ∃ m, n = m + 1 := ⟨n - 1, by simp at hl; omega⟩
    by_cases hm : id ∈ seen
    · obtain ⟨E, h1, h2, h3, h4⟩ := reach_todo h L seen n (fun x hx => hf x (by simp [hx])) (by simp at hl; omega) hs
      refine ⟨E, ?_, h2, ?_, fun i hi => by simp [h4 i hi]⟩
      · rw [reach, if_pos (by simpa using hm), h1]
      · intro i hi
        rcases List.mem_cons.1 hi with rfl | hi
        · simp [hm]
        · exact h3 i hi
    · obtain ⟨E, h1, h2, h3, h4⟩ := reach_todo h L (seen ++ [id]) n (fun x hx hn => hf x (by simp [hx]) (fun h => hn (by simp [h]))) (by simp at hl; omega) (by
        rw [List.nodup_append]
        refine ⟨hs, by simp, ?_⟩
        intro a ha b hb
        simp at hb
        subst hb
        intro hab; subst hab; exact hm ha)
      refine ⟨id :: E, ?_, by simpa using h2, ?_, ?_⟩
      · rw [reach, if_neg (by simpa using hm), hf id (by simp) hm, List.nil_append, h1]
        simp
      · intro i hi
        rcases List.mem_cons.1 hi with rfl | hi
        · simp
        · simpa using h3 i hi
      · intro i hi
        rcases List.mem_cons.1 hi with rfl | hi
        · simp
        · simp [h4 i hi]

theorem idx_of_get {ids : List Nat} {i j : Nat} (hn : ids.Nodup) (h : ids[j]? = some i) : idx ids i = some j := by
  unfold idx
  rw [List.idxOf?_eq_some_iff]
  obtain ⟨hj, he⟩ := List.getElem?_eq_some_iff.1 h
  refine ⟨hj, he, fun k hk heq => ?_⟩
  have : k = j := (List.getElem_inj (h₀ := by omega) (h₁ := hj) hn).1 (heq.trans he.symm)
  omega
theorem get_of_mem {ids : List Nat} {i : Nat} (h : i ∈ ids) : ∃ j : Nat, ids[j]? = some i := by
  obtain ⟨j, hj, rfl⟩ := List.mem_iff_getElem.1 h
  exact ⟨j, List.getElem?_eq_getElem hj⟩

/-- What is handed over. -/
def stdP (p : Option (Nat × Nat)) : Option (Nat × Nat) := mv (fun _ => 1) p
def stdQ (p q : Option (Nat × Nat)) : Option (Nat × Nat) := mv (fun _ => 1 + (lIds p).length) q
def stdH (T : Int) (p q : Option (Nat × Nat)) (fs ls : List Extent) : Heap := mslot T (stdP p) (stdQ p q) fs ls :: (lS p fs ++ lS q ls)
theorem stdH_map {H : Heap} {m : Nat} {X : List Nat} {T : Int} {fs ls : List Extent} {p q : Option (Nat × Nat)} (hM : MapP H m X T fs ls p q) : MapP (stdH T p q fs ls) 0 [] T fs ls (stdP p) (stdQ p q) := by
  have h1 := hM.fr
  have h2 := hM.la
  cases p with
  | none =>
    cases q with
    | none => exact ⟨rfl, h1, h2, by simp [stdP, mv, lIds], by simp [stdQ, mv, lIds], by simp [stdP, mv, lIds], by simp⟩
    | some y => exact ⟨rfl, h1, rfl, by simp [stdP, mv, lIds], by simp [stdQ, mv, lIds], by simp [stdP, mv, lIds], by simp⟩
  | some x =>
    cases q with
    | none => exact ⟨rfl, rfl, h2, by simp [stdP, mv, lIds], by simp [stdQ, mv, lIds], by simp [stdP, stdQ, mv, lIds], by simp⟩
    | some y => exact ⟨rfl, rfl, rfl, by simp [stdP, mv, lIds], by simp [stdQ, mv, lIds], by simp [stdP, stdQ, mv, lIds], by simp⟩
theorem lS_flat (p : Option (Nat × Nat)) (l : List Extent) : ∀ s ∈ lS p l, flatS s = true := by
  cases p with
  | none => simp [lS]
  | some x => intro s hs; simp [lS] at hs; subst hs; exact ext_flat _ _
theorem stdH_wh (T : Int) (p q : Option (Nat × Nat)) (fs ls : List Extent) : WH 0 (stdH T p q fs ls) := by
  intro j s hj hs
  obtain ⟨j, rfl⟩ : ∃ k, j = k + 1 := ⟨j - 1, by omega⟩
  simp only [stdH, List.getElem?_cons_succ] at hs
  rcases List.mem_append.1 (List.mem_of_getElem? hs) with h | h
  · exact lS_flat _ _ _ h
  · exact lS_flat _ _ _ h
theorem stdH_len (T : Int) (p q : Option (Nat × Nat)) (fs ls : List Extent) : (stdH T p q fs ls).length = 1 + ((lIds p).length + (lIds q).length) := by
  cases p <;> cases q <;> rfl

theorem borrow_map {H : Heap} {m : Nat} {X : List Nat} {T : Int} {fs ls : List Extent} {p q : Option (Nat × Nat)} (hM : MapP H m X T fs ls p q) (rest : List A) (hr : idsL rest = []) :
    borrow (.ptr m 0 0 0 :: rest) H = some (m :: (lIds p ++ lIds q), .ptr 0 0 0 0 :: rest, stdH T p q fs ls) := by
  have hat := hM.at_
  have hmp := hM.mp
  have hmq := hM.mq
  have hpq := hM.pq
  have hnd : (m :: (lIds p ++ lIds q)).Nodup := by
    cases p <;> cases q <;> simp_all [lIds]
  have hre : reach H reachFuel [] [m] = m :: (lIds p ++ lIds q) := by
    rw [show reachFuel = 99999 + 1 from rfl, reach, if_neg (by simp)]
    have hmi : (H.getD m .dead).ids = lIds p ++ lIds q := by
      rw [List.getD_eq_getElem?_getD, hat]; exact mslot_ids _ _ _ _ _
    rw [hmi, List.append_nil, List.nil_append]
    refine (reach_flat H (lIds p ++ lIds q) [m] 99999 (fun i hi => ?_) (by simpa using hnd) ?_).trans (by simp)
    · rcases List.mem_append.1 hi with h | h
      · exact flat_ids (lAt_flat hM.fr i h)
      · exact flat_ids (lAt_flat hM.la i h)
    · cases p <;> cases q <;> simp [lIds]
  have h0 : idx (m :: (lIds p ++ lIds q)) m = some 0 := idx_of_get hnd (by simp)
  unfold borrow
  simp only [idsL_cons, idsA_ptr, hr, List.append_nil, hre]
  have hmd : H.getD m .dead = mslot T p q fs ls := by rw [List.getD_eq_getElem?_getD, hat]; rfl
  have hq1 := hM.fr
  have hq2 := hM.la
  have hsl : renSlot (idx (m :: (lIds p ++ lIds q))) (mslot T p q fs ls) = some (mslot T (stdP p) (stdQ p q) fs ls) := by
    have e1 : ∀ i ∈ lIds p, idx (m :: (lIds p ++ lIds q)) i = some ((fun _ => 1) i) := fun i hi => idx_of_get hnd (by cases p with | none => simp [lIds] at hi | some x => simp [lIds] at hi ⊢; exact hi.symm)
    have e2 : ∀ i ∈ lIds q, idx (m :: (lIds p ++ lIds q)) i = some ((fun _ => 1 + (lIds p).length) i) := fun i hi => idx_of_get hnd (by
      cases q with
      | none => simp [lIds] at hi
      | some x =>
        simp [lIds] at hi ⊢
        subst hi
        cases p <;> simp [lIds])
    simp [mslot, renSlot, mrow, lA_ren p fs e1, lA_ren q ls e2, stdP, stdQ]
  have hl1 : (lIds p).map (H.getD · .dead) = lS p fs := by
    cases p with
    | none => rfl
    | some x => have h' : H[x.1]? = _ := hq1; simp [lIds, lS, h']
  have hl2 : (lIds q).map (H.getD · .dead) = lS q ls := by
    cases q with
    | none => rfl
    | some x => have h' : H[x.1]? = _ := hq2; simp [lIds, lS, h']
  have hfl : renHeap (idx (m :: (lIds p ++ lIds q))) (lS p fs ++ lS q ls) = some (lS p fs ++ lS q ls) := renHeap_flat' _ (fun s hs => by
    rcases List.mem_append.1 hs with h | h
    · exact lS_flat _ _ _ h
    · exact lS_flat _ _ _ h)
  simp only [renL_cons, renA_ptr, h0, Option.map_some, Option.bind_some, renL_of_ids _ _ hr, List.map_cons, List.map_append, hmd, renHeap_cons, hsl, hl1, hl2, hfl]
  rfl

/-! what comes back -/
def gB (ids : List Nat) (n i : Nat) : Nat := if i < ids.length then ids.getD i 0 else n + (i - ids.length)
theorem back_gB (ids : List Nat) (n i : Nat) : backIdx ids n i = some (gB ids n i) := by
  unfold backIdx gB
  split
  · rename_i h; simp [h]
  · rfl
theorem gB_inj {ids : List Nat} {n i j : Nat} (hn : ids.Nodup) (hl : ∀ x ∈ ids, x < n) (h : gB ids n i = gB ids n j) : i = j := by
  unfold gB at h
  split at h <;> split at h
  · rename_i h1 h2
    simp only [List.getD_eq_getElem?_getD, List.getElem?_eq_getElem h1, List.getElem?_eq_getElem h2, Option.getD_some] at h
    exact (List.getElem_inj hn).1 h
  · rename_i h1 h2
    simp only [List.getD_eq_getElem?_getD, List.getElem?_eq_getElem h1, Option.getD_some] at h
    have := hl _ (List.getElem_mem h1); omega
  · rename_i h1 h2
    simp only [List.getD_eq_getElem?_getD, List.getElem?_eq_getElem h2, Option.getD_some] at h
    have := hl _ (List.getElem_mem h2); omega
  · omega
theorem back_get (ids : List Nat) (H objs : Heap) (hn : ids.Nodup) (hl : ∀ x ∈ ids, x < H.length) (hlen : ids.length ≤ objs.length) (i : Nat) (s : Go.Ab.Slot) (h : objs[i]? = some s) :
    (setAll H ids (objs.take ids.length) ++ objs.drop ids.length)[gB ids H.length i]? = some s := by
  unfold gB
  by_cases hi : i < ids.length
  · rw [if_pos hi]
    have h1 : ids[i]? = some (ids.getD i 0) := by simp [List.getElem?_eq_getElem hi]
    have h2 : ids.getD i 0 < H.length := hl _ (List.mem_of_getElem? h1)
    rw [List.getElem?_append_left (by rw [setAll_len']; exact h2)]
    exact setAll_get' ids H _ hn i _ s h1 (by rw [List.getElem?_take, if_pos hi]; exact h) h2
  · rw [if_neg hi, List.getElem?_append_right (by rw [setAll_len']; omega), setAll_len', List.getElem?_drop]
    rw [show ids.length + (H.length + (i - ids.length) - H.length) = i by omega]
    exact h
theorem back_keep (ids : List Nat) (H objs : Heap) (j : Nat) (hj : j < H.length) (hn : j ∉ ids) : (setAll H ids (objs.take ids.length) ++ objs.drop ids.length)[j]? = H[j]? := by
  rw [List.getElem?_append_left (by rw [setAll_len']; exact hj), setAll_ne' _ _ _ hn]

/-- A call on a map: what a law sees of it. -/
def OpSpec (F : CallFn) (rest : List A) (T : Int) (fs ls : List Extent) (r : A) (fs' ls' : List Extent) : Prop :=
  ∀ H p q, MapP H 0 [] T fs ls p q → WH 0 H → H.length < 5000 → ∃ H' p' q', F (.ptr 0 0 0 0 :: rest) H = some (.ok r, H') ∧ MapP H' 0 [] T fs' ls' p' q' ∧ WH 0 H' ∧ H.length ≤ H'.length

theorem heap_head {H : Heap} {s : Go.Ab.Slot} (h : H[0]? = some s) : ∃ R, H = s :: R := by
  cases H with
  | nil => simp at h
  | cons a R => simp at h; exact ⟨R, by rw [h]⟩

theorem back_map {H H1 : Heap} {m : Nat} {X : List Nat} {T : Int} {fs ls fs' ls' : List Extent} {p q p1 q1 : Option (Nat × Nat)} {Y : List Nat} (hM : MapP H m X T fs ls p q) (hX : ∀ x ∈ X, x < H.length) (hM1 : MapP H1 0 Y T fs' ls' p1 q1) (hW1 : WH 0 H1)
    (hlen : 1 + ((lIds p).length + (lIds q).length) ≤ H1.length) :
    ∃ objs : Heap, renHeap (backIdx (m :: (lIds p ++ lIds q)) H.length) H1 = some objs ∧
      (let H' := setAll H (m :: (lIds p ++ lIds q)) (objs.take (m :: (lIds p ++ lIds q)).length) ++ objs.drop (m :: (lIds p ++ lIds q)).length
       MapP H' m (X ++ Y.map (gB (m :: (lIds p ++ lIds q)) H.length)) T fs' ls' (mv (gB (m :: (lIds p ++ lIds q)) H.length) p1) (mv (gB (m :: (lIds p ++ lIds q)) H.length) q1) ∧
       (∀ x ∈ X, H'[x]? = H[x]?) ∧ H.length ≤ H'.length ∧ (WH m H → WH m H') ∧ (∀ i s, i ≠ 0 → H1[i]? = some s → H'[gB (m :: (lIds p ++ lIds q)) H.length i]? = some s)) := by
  have hnd : (m :: (lIds p ++ lIds q)).Nodup := by
    have hmp := hM.mp
    have hmq := hM.mq
    have hpq := hM.pq
    cases p <;> cases q <;> simp_all [lIds]
  have hlt : ∀ x ∈ m :: (lIds p ++ lIds q), x < H.length := by
    intro x hx
    rcases List.mem_cons.1 hx with rfl | hx
    · exact lt_of_some hM.at_
    · rcases List.mem_append.1 hx with h | h
      · exact lAt_lt hM.fr x h
      · exact lAt_lt hM.la x h
  have hxi : ∀ x ∈ X, x ∉ m :: (lIds p ++ lIds q) := by
    intro x hx hc
    obtain ⟨h1, h2, h3⟩ := hM.fx x hx
    rcases List.mem_cons.1 hc with h | h
    · exact h1 h
    · rcases List.mem_append.1 h with h | h
      · exact h2 h
      · exact h3 h
  have hlen' : (m :: (lIds p ++ lIds q)).length ≤ H1.length := by simp; omega
  have hpos : 0 < (m :: (lIds p ++ lIds q)).length := by simp
  have g0 : gB (m :: (lIds p ++ lIds q)) H.length 0 = m := by simp [gB]
  generalize m :: (lIds p ++ lIds q) = ids at *
  obtain ⟨R, rfl⟩ := heap_head hM1.at_
  have hRf : ∀ s ∈ R, flatS s = true := by
    intro s hs
    obtain ⟨j, hj⟩ := get_of_mem (ids := []) (i := 0) |> fun _ => List.mem_iff_getElem?.1 hs
    exact hW1 (j + 1) s (by omega) (by simpa using hj)
  have hren : renHeap (backIdx ids H.length) (mslot T p1 q1 fs' ls' :: R) = some (mslot T (mv (gB ids H.length) p1) (mv (gB ids H.length) q1) fs' ls' :: R) := by
    simp [mslot_ren T p1 q1 fs' ls' (fun i _ => back_gB ids H.length i), renHeap_flat' R hRf]
  refine ⟨_, hren, ?_⟩
  intro H'
  have hg : ∀ i s, (mslot T (mv (gB ids H.length) p1) (mv (gB ids H.length) q1) fs' ls' :: R)[i]? = some s → H'[gB ids H.length i]? = some s := fun i s h => back_get ids H _ hnd hlt (by simpa using hlen') i s h
  have hg' : ∀ i s, i ≠ 0 → (mslot T p1 q1 fs' ls' :: R)[i]? = some s → H'[gB ids H.length i]? = some s := fun i s hi h => by
    obtain ⟨k, rfl⟩ : ∃ k, i = k + 1 := ⟨i - 1, by omega⟩
    exact hg _ s (by simpa using h)
  have hAt : ∀ p0 l, lAt (mslot T p1 q1 fs' ls' :: R) p0 l → 0 ∉ lIds p0 → lAt H' (mv (gB ids H.length) p0) l := by
    intro p0 l h h0
    cases p0 with
    | none => exact h
    | some x => exact hg' x.1 _ (fun hx => h0 (by simp [lIds, hx])) h
  have hgm : ∀ i, gB ids H.length i = m → i = 0 := fun i h => gB_inj hnd hlt (h.trans g0.symm)
  have hgx : ∀ i, ∀ x ∈ X, x ≠ gB ids H.length i := by
    intro i x hx he
    have hxl := hX x hx
    have := hxi x hx
    unfold gB at he
    split at he
    · rename_i hi
      apply this
      rw [he, List.getD_eq_getElem?_getD, List.getElem?_eq_getElem hi]
      exact List.getElem_mem hi
    · omega
  refine ⟨⟨?_, hAt p1 _ hM1.fr hM1.mp, hAt q1 _ hM1.la hM1.mq, ?_, ?_, ?_, ?_⟩, ?_, ?_, ?_, hg'⟩
  · have := hg 0 _ rfl
    rwa [g0] at this
  · rw [mv_ids]; intro h; obtain ⟨i, hi, he⟩ := List.mem_map.1 h; exact hM1.mp (hgm i he ▸ hi)
  · rw [mv_ids]; intro h; obtain ⟨i, hi, he⟩ := List.mem_map.1 h; exact hM1.mq (hgm i he ▸ hi)
  · rw [mv_ids, mv_ids]
    intro a ha hb
    obtain ⟨i, hi, rfl⟩ := List.mem_map.1 ha
    obtain ⟨j, hj, he⟩ := List.mem_map.1 hb
    obtain rfl := gB_inj hnd hlt he
    exact hM1.pq _ hi hj
  · intro x hx
    rcases List.mem_append.1 hx with hx | hx
    · refine ⟨(hM.fx x hx).1, ?_, ?_⟩
      · rw [mv_ids]; intro h; obtain ⟨i, hi, he⟩ := List.mem_map.1 h; exact hgx i x hx he.symm
      · rw [mv_ids]; intro h; obtain ⟨i, hi, he⟩ := List.mem_map.1 h; exact hgx i x hx he.symm
    · obtain ⟨y, hy, rfl⟩ := List.mem_map.1 hx
      obtain ⟨f1, f2, f3⟩ := hM1.fx y hy
      refine ⟨fun h => f1 (hgm y h), ?_, ?_⟩
      · rw [mv_ids]; intro h; obtain ⟨i, hi, he⟩ := List.mem_map.1 h; exact f2 (gB_inj hnd hlt he ▸ hi)
      · rw [mv_ids]; intro h; obtain ⟨i, hi, he⟩ := List.mem_map.1 h; exact f3 (gB_inj hnd hlt he ▸ hi)
  · exact fun x hx => back_keep ids H _ x (hX x hx) (hxi x hx)
  · simp only [H', List.length_append, setAll_len']; omega
  · intro hW j s hj hs
    by_cases hjl : j < H.length
    · by_cases hji : j ∈ ids
      · obtain ⟨i, hi⟩ := get_of_mem hji
        have hil : i < ids.length := by
          rcases Nat.lt_or_ge i ids.length with h | h
          · exact h
          · rw [List.getElem?_eq_none h] at hi; cases hi
        have hgi : gB ids H.length i = j := by simp only [gB, if_pos hil, List.getD_eq_getElem?_getD, hi, Option.getD_some]
        have hi0 : i ≠ 0 := by intro h; subst h; exact hj (hgi.symm.trans g0)
        obtain ⟨k, rfl⟩ : ∃ k, i = k + 1 := ⟨i - 1, by omega⟩
        have hk : k < R.length := by simp at hlen'; omega
        have := hg' (k + 1) R[k] (by omega) (by simp)
        rw [hgi, hs] at this
        cases this
        exact hRf _ (List.getElem_mem hk)
      · rw [back_keep ids H _ j hjl hji] at hs
        exact hW j s hj hs
    · simp only [H'] at hs
      rw [List.getElem?_append_right (by rw [setAll_len']; omega), setAll_len', List.getElem?_drop] at hs
      obtain ⟨k, hk⟩ : ∃ k, ids.length + (j - H.length) = k + 1 := ⟨ids.length + (j - H.length) - 1, by omega⟩
      rw [hk] at hs
      exact hRf _ (List.mem_of_getElem? (by simpa using hs))

theorem oCall_map {F : CallFn} {rest : List A} {T : Int} {fs ls fs' ls' : List Extent} {r : A} (hS : OpSpec F rest T fs ls r fs' ls') (hr : idsL rest = []) (hrr : idsA r = [])
    {H : Heap} {m : Nat} {X : List Nat} {p q : Option (Nat × Nat)} (hM : MapP H m X T fs ls p q) (hX : ∀ x ∈ X, x < H.length) :
    ∃ H' p' q', MapP H' m X T fs' ls' p' q' ∧ (∀ x ∈ X, H'[x]? = H[x]?) ∧ H.length ≤ H'.length ∧ (WH m H → WH m H') ∧ ∀ {β : Type} (kp k : A → Heap → Option β), oCall F (.ptr m 0 0 0 :: rest) H kp k = k r H' := by
  have hsl := stdH_len T p q fs ls
  obtain ⟨H1, p1, q1, hF, hM1, hW1, hl1⟩ := hS (stdH T p q fs ls) (stdP p) (stdQ p q) (stdH_map hM) (stdH_wh _ _ _ _ _) (by rw [hsl]; cases p <;> cases q <;> simp [lIds])
  obtain ⟨objs, hren, hM2, hK, hL, hW, hG⟩ := back_map hM hX hM1 hW1 (by omega)
  refine ⟨_, _, _, by simpa using hM2, hK, hL, hW, fun kp k => ?_⟩
  unfold oCall
  rw [borrow_map hM rest hr]
  simp only [hF, giveBack, renOut_ok, renA_of_ids _ _ hrr, Option.map_some, Option.bind_some, hren]

/-! the end of a call -/
theorem fin_core {h : Heap} {X : List Nat} {T : Int} {fs ls : List Extent} {p q : Option (Nat × Nat)} (nb : Nat) (L : List Nat) (hM : MapP h 0 X T fs ls p q) (hW : WH 0 h) (h1 : 0 < nb) (h2 : nb ≤ h.length) (h3 : nb < 50000)
    (hL : ∀ x ∈ L, x ∈ X) (hX : ∀ x ∈ X, x < h.length) (hLl : L.length < 5) :
    ∃ (ids : List Nat) (h' : Heap) (g : Nat → Nat), reach h reachFuel (List.range nb) (L ++ (h.take nb).flatMap Go.Ab.Slot.ids) = ids ∧ renHeap (idx ids) (ids.map (h.getD · .dead)) = some h' ∧
      (∀ i ∈ L, idx ids i = some (g i)) ∧ (∀ i ∈ L, h'[g i]? = h[i]?) ∧ MapP h' 0 (L.map g) T fs ls (mv g p) (mv g q) ∧ WH 0 h' ∧ nb ≤ h'.length := by
  obtain ⟨R, rfl⟩ := heap_head hM.at_
  obtain ⟨n, rfl⟩ : ∃ n, nb = n + 1 := ⟨nb - 1, by omega⟩
  have hRf : ∀ s ∈ R, flatS s = true := by
    intro s hs
    obtain ⟨j, hj⟩ := List.mem_iff_getElem?.1 hs
    exact hW (j + 1) s (by omega) (by simpa using hj)
  have hfm : ((mslot T p q fs ls :: R).take (n + 1)).flatMap Go.Ab.Slot.ids = lIds p ++ lIds q := by
    simp only [List.take_succ_cons, List.flatMap_cons, mslot_ids]
    have : (R.take n).flatMap Go.Ab.Slot.ids = [] := by
      rw [List.flatMap_eq_nil_iff]
      intro s hs
      exact flat_ids (hRf s (List.mem_of_mem_take hs))
    rw [this, List.append_nil]
  rw [hfm]
  have hlts : ∀ i ∈ L ++ (lIds p ++ lIds q), i < (mslot T p q fs ls :: R).length ∧ i ≠ 0 := by
    intro i hi
    rcases List.mem_append.1 hi with h | h
    · exact ⟨hX i (hL i h), (hM.fx i (hL i h)).1⟩
    · rcases List.mem_append.1 h with h | h
      · exact ⟨lAt_lt hM.fr i h, fun h0 => hM.mp (h0 ▸ h)⟩
      · exact ⟨lAt_lt hM.la i h, fun h0 => hM.mq (h0 ▸ h)⟩
  have hget : ∀ i, i ≠ 0 → i < (mslot T p q fs ls :: R).length → flatS ((mslot T p q fs ls :: R).getD i .dead) = true := by
    intro i hi hl
    rw [List.getD_eq_getElem?_getD, List.getElem?_eq_getElem hl]
    exact hW i _ hi (List.getElem?_eq_getElem hl)
  obtain ⟨E, e1, e2, e3, e4⟩ := reach_todo (mslot T p q fs ls :: R) (L ++ (lIds p ++ lIds q)) (List.range (n + 1)) reachFuel (fun i hi _ => flat_ids (hget i (hlts i hi).2 (hlts i hi).1))
    (by
      have : (lIds p).length ≤ 1 := by cases p <;> simp [lIds]
      have : (lIds q).length ≤ 1 := by cases q <;> simp [lIds]
      simp [reachFuel]; omega) List.nodup_range
  have hr0 : List.range (n + 1) = 0 :: (List.range n).map (· + 1) := by rw [List.range_succ_eq_map]
  have hgi : ∀ i ∈ L ++ (lIds p ++ lIds q), ∃ j : Nat, (List.range (n + 1) ++ E)[j]? = some i := fun i hi => get_of_mem (e3 i hi)
  let g : Nat → Nat := fun i => (idx (List.range (n + 1) ++ E) i).getD 0
  have hgx : ∀ i ∈ L ++ (lIds p ++ lIds q), idx (List.range (n + 1) ++ E) i = some (g i) ∧ (List.range (n + 1) ++ E)[g i]? = some i := by
    intro i hi
    obtain ⟨j, hj⟩ := hgi i hi
    have := idx_of_get e2 hj
    have hg : g i = j := by simp [g, this]
    rw [hg]
    exact ⟨this, hj⟩
  have hmap : (List.range (n + 1) ++ E).map ((mslot T p q fs ls :: R).getD · .dead) = mslot T p q fs ls :: ((List.range n).map (· + 1) ++ E).map ((mslot T p q fs ls :: R).getD · .dead) := by
    rw [hr0]; simp
  have hflat : ∀ s ∈ ((List.range n).map (· + 1) ++ E).map ((mslot T p q fs ls :: R).getD · .dead), flatS s = true := by
    intro s hs
    obtain ⟨i, hi, rfl⟩ := List.mem_map.1 hs
    rcases List.mem_append.1 hi with h | h
    · obtain ⟨k, hk, rfl⟩ := List.mem_map.1 h
      exact hget _ (by omega) (by simp at hk h2 ⊢; omega)
    · have := e4 i h
      exact hget _ (hlts i this).2 (hlts i this).1
  have hren : renHeap (idx (List.range (n + 1) ++ E)) ((List.range (n + 1) ++ E).map ((mslot T p q fs ls :: R).getD · .dead)) =
      some (mslot T (mv g p) (mv g q) fs ls :: ((List.range n).map (· + 1) ++ E).map ((mslot T p q fs ls :: R).getD · .dead)) := by
    rw [hmap]
    simp only [renHeap_cons, mslot_ren T p q fs ls (fun i hi => (hgx i (List.mem_append_right _ hi)).1), renHeap_flat' _ hflat, Option.bind_some, Option.map_some]
  refine ⟨_, _, g, e1, hren, fun i hi => (hgx i (by simp [hi])).1, ?_, ?_, ?_, ?_⟩
  · intro i hi
    have h4 := (hgx i (by simp [hi])).2
    have h5 := hlts i (by simp [hi])
    have hg0 : g i ≠ 0 := by
      intro h0; rw [h0] at h4; rw [hr0] at h4; simp at h4; exact h5.2 h4.symm
    obtain ⟨k, hk⟩ : ∃ k, g i = k + 1 := ⟨g i - 1, by omega⟩
    rw [hk] at h4 ⊢
    rw [hr0, List.cons_append, List.getElem?_cons_succ] at h4
    rw [List.getElem?_cons_succ, List.getElem?_map, h4]
    simp [List.getD_eq_getElem?_getD, List.getElem?_eq_getElem h5.1]
  · have hat : ∀ p0 l, (∀ i ∈ lIds p0, i ∈ lIds p ++ lIds q) → lAt (mslot T p q fs ls :: R) p0 l → lAt (mslot T (mv g p) (mv g q) fs ls :: ((List.range n).map (· + 1) ++ E).map ((mslot T p q fs ls :: R).getD · .dead)) (mv g p0) l := by
      intro p0 l hin h
      cases p0 with
      | none => exact h
      | some x =>
        have hx := hin x.1 (by simp [lIds])
        have h4 := (hgx x.1 (List.mem_append_right _ hx)).2
        have h5 := hlts x.1 (List.mem_append_right _ hx)
        have hg0 : g x.1 ≠ 0 := by
          intro h0; rw [h0] at h4; rw [hr0] at h4; simp at h4; exact h5.2 h4.symm
        obtain ⟨k, hk⟩ : ∃ k, g x.1 = k + 1 := ⟨g x.1 - 1, by omega⟩
        show _ = _
        simp only [mv, Option.map_some, lAt]
        rw [hk] at h4 ⊢
        rw [hr0, List.cons_append, List.getElem?_cons_succ] at h4
        rw [List.getElem?_cons_succ, List.getElem?_map, h4]
        have h' : (mslot T p q fs ls :: R)[x.1]? = _ := h
        simp [List.getD_eq_getElem?_getD, h']
    have hginj : ∀ i j, i ∈ L ++ (lIds p ++ lIds q) → j ∈ L ++ (lIds p ++ lIds q) → g i = g j → i = j := by
      intro i j hi hj he
      have a := (hgx i hi).2
      have b := (hgx j hj).2
      rw [he, b] at a
      exact (Option.some.inj a).symm
    have hgne : ∀ i ∈ L ++ (lIds p ++ lIds q), g i ≠ 0 := by
      intro i hi h0
      have a := (hgx i hi).2
      rw [h0, hr0] at a; simp at a; exact (hlts i hi).2 a.symm
    refine ⟨rfl, hat p fs (fun i hi => by simp [hi]) hM.fr, hat q ls (fun i hi => by simp [hi]) hM.la, ?_, ?_, ?_, ?_⟩
    · rw [mv_ids]; intro h; obtain ⟨i, hi, he⟩ := List.mem_map.1 h; exact hgne i (by simp [hi]) he
    · rw [mv_ids]; intro h; obtain ⟨i, hi, he⟩ := List.mem_map.1 h; exact hgne i (by simp [hi]) he
    · rw [mv_ids, mv_ids]
      intro a ha hb
      obtain ⟨i, hi, rfl⟩ := List.mem_map.1 ha
      obtain ⟨j, hj, he⟩ := List.mem_map.1 hb
      have := hginj j i (by simp [hj]) (by simp [hi]) he
      subst this
      exact hM.pq _ hi hj
    · intro y hy
      obtain ⟨x, hx, rfl⟩ := List.mem_map.1 hy
      obtain ⟨f1, f2, f3⟩ := hM.fx x (hL x hx)
      refine ⟨hgne x (by simp [hx]), ?_, ?_⟩
      · rw [mv_ids]; intro h; obtain ⟨i, hi, he⟩ := List.mem_map.1 h; exact f2 (hginj i x (by simp [hi]) (by simp [hx]) he ▸ hi)
      · rw [mv_ids]; intro h; obtain ⟨i, hi, he⟩ := List.mem_map.1 h; exact f3 (hginj i x (by simp [hi]) (by simp [hx]) he ▸ hi)
  · intro j s hj hs
    obtain ⟨k, rfl⟩ : ∃ k, j = k + 1 := ⟨j - 1, by omega⟩
    exact hflat s (List.mem_of_getElem? (by simpa using hs))
  · simp

theorem finish_map {h : Heap} {X : List Nat} {T : Int} {fs ls : List Extent} {p q : Option (Nat × Nat)} (nb : Nat) (r : A) (hr : idsA r = []) (hM : MapP h 0 X T fs ls p q) (hW : WH 0 h) (h1 : 0 < nb) (h2 : nb ≤ h.length) (h3 : nb < 50000) :
    ∃ h' p' q', finish nb (.ok r) h = some (.ok r, h') ∧ MapP h' 0 [] T fs ls p' q' ∧ WH 0 h' ∧ nb ≤ h'.length := by
  obtain ⟨ids, h', g, e1, e2, e3, e4, e5, e6, e7⟩ := fin_core nb [] ⟨hM.at_, hM.fr, hM.la, hM.mp, hM.mq, hM.pq, by simp⟩ hW h1 h2 h3 (X := []) (by simp) (by simp) (by simp)
  refine ⟨h', _, _, ?_, e5, e6, e7⟩
  unfold finish
  simp only [hr, e1, renOut_ok, renA_of_ids _ _ hr, e2, Option.map_some, Option.bind_some]
end Go.Ab.T
