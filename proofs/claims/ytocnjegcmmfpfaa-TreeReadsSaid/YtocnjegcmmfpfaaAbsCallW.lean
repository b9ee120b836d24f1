/-
 CALLS THAT BORROW FLAT OBJECTS ALONE, in a region whose order is open.
-/
import Derived.Test.YtocnjegcmmfpfaaAbsCallC
set_option linter.unusedSimpArgs false
set_option linter.unusedVariables false
namespace Go.Ab
open Go
section
variable {P : Program} {β : Type} {r : β} {h h' : Heap}
theorem qjJ : ∀ {l : List Nat}, nodupB l = true → l.Nodup
 | [], _ => .nil
 | a :: l, h => by
   simp only [nodupB, Bool.and_eq_true, Bool.not_eq_true', List.contains_eq_mem, decide_eq_false_iff_not] at h
   exact List.nodup_cons.2 ⟨h.1, qjJ h.2⟩
mutual
theorem qk7 {f : Nat → Option Nat} : ∀ (a : A), idsA a = [] → renA f a = some a
 | .s v, _ => by simp [renA]
 | .any, _ => by simp [renA]
 | .cptr _, _ => by simp [renA]
 | .fsl _ _, _ => by simp [renA]
 | .ptr id ver row off, h => by simp [idsA] at h
 | .osl id ver sz lo len, h => by simp [idsA] at h
 | .agg cs, h => by simp only [idsA] at h; simp [renA, qfk cs h]
 | .tup cs, h => by simp only [idsA] at h; simp [renA, qfk cs h]
 | .fn n cs, h => by simp only [idsA] at h; simp [renA, qfk cs h]
 | .iface t a, h => by simp only [idsA] at h; simp [renA, qk7 a h]
theorem qfk {f : Nat → Option Nat} : ∀ (l : List A), idsL l = [] → renL f l = some l
 | [], _ => by simp [renL]
 | a :: l, h => by
   simp only [idsL, List.append_eq_nil_iff] at h
   simp [renL, qk7 a h.1, qfk l h.2]
end
theorem qhs {f : Nat → Option Nat} : ∀ (l : List (List A)), idsRows l = [] → renRows f l = some l
 | [], _ => by simp [renRows]
 | a :: l, h => by
   simp only [idsRows, List.append_eq_nil_iff] at h
   simp [renRows, qfk a h.1, qhs l h.2]
theorem qfx {f : Nat → Option Nat} : ∀ (l : Heap), (∀ s ∈ l, flatS s = true) → renHeap f l = some l
 | [], _ => rfl
 | s :: l, h => by
   have hs := h s (by simp)
   have hl := qfx (f := f) l fun x hx => h x (by simp [hx])
   have : renSlot f s = some s := by
    cases s with
    | live ob => simp only [flatS, List.isEmpty_iff] at hs; simp [renSlot, qhs _ hs]
    | dead => rfl
    | res => simp [flatS] at hs
    | mp kd es => simp [flatS] at hs
   simp [renHeap, this, hl]
mutual
theorem qgU {f f' : Nat → Option Nat} : ∀ (a : A), (∀ j ∈ idsA a, f j = f' j) → renA f a = renA f' a
 | .s v, _ => by simp [renA]
 | .any, _ => by simp [renA]
 | .cptr _, _ => by simp [renA]
 | .fsl _ _, _ => by simp [renA]
 | .ptr id ver row off, h => by simp [renA, h id (by simp [idsA])]
 | .osl id ver sz lo len, h => by simp [renA, h id (by simp [idsA])]
 | .mref id, h => by simp [renA, h id (by simp [idsA])]
 | .agg cs, h => by simp only [idsA] at h; simp [renA, qfw cs h]
 | .tup cs, h => by simp only [idsA] at h; simp [renA, qfw cs h]
 | .fn n cs, h => by simp only [idsA] at h; simp [renA, qfw cs h]
 | .iface t a, h => by simp only [idsA] at h; simp [renA, qgU a h]
theorem qfw {f f' : Nat → Option Nat} : ∀ (l : List A), (∀ j ∈ idsL l, f j = f' j) → renL f l = renL f' l
 | [], _ => by simp [renL]
 | a :: l, h => by
   simp only [idsL, List.mem_append] at h
   simp [renL, qgU a fun j hj => h j (.inl hj), qfw l fun j hj => h j (.inr hj)]
end
theorem qjC (H : Heap) : ∀ (l seen : List Nat) (n : Nat), (∀ id ∈ l, (H.getD id .dead).ids = []) → (seen ++ l).Nodup → l.length < n → reach H n seen l = seen ++ l
 | [], seen, n, _, _, _ => by cases n <;> simp [reach]
 | id :: l, seen, n, h, hn, hl => by
   obtain ⟨n, rfl⟩ : ∃ m, n = m + 1 := ⟨n - 1, by simp at hl; omega⟩
   have hni : id ∉ seen := fun hm => by
    rw [List.nodup_append] at hn
    exact hn.2.2 id hm id (by simp) rfl
   rw [reach, if_neg (by simpa using hni), h id (by simp), List.nil_append]
   rw [qjC H l (seen ++ [id]) n (fun x hx => h x (by simp [hx])) (by simpa using hn) (by simp at hl; omega)]
   simp
theorem qnc {n0 : Nat} {wr ids : List Nat} (ho : okW n0 wr ids h = true) : ids.Nodup ∧ ids.length < 1000 ∧ ∀ id ∈ ids, (n0 ≤ id ∨ id ∈ wr) ∧ id < h.length ∧ ∃ ob, h[id]? = some (.live ob) ∧ idsRows ob.rows = [] := by
 simp only [okW, Bool.and_eq_true, decide_eq_true_eq, List.all_eq_true] at ho
 refine ⟨qjJ ho.1.1, ho.1.2, fun id hid => ?_⟩
 obtain ⟨h1, h2⟩ := ho.2 id hid
 simp only [Bool.or_eq_true, decide_eq_true_eq, List.contains_eq_mem] at h1
 cases hg : h[id]? with
 | none => simp [List.getD_eq_getElem?_getD, hg, liveS] at h2
 | some s =>
   simp only [List.getD_eq_getElem?_getD, hg, Option.getD_some] at h2
   cases s with
   | live ob => exact ⟨h1, (List.getElem?_eq_some_iff.1 hg).1, ob, rfl, by simpa [liveS] using h2⟩
   | dead => simp [liveS] at h2
   | res => simp [liveS] at h2
   | mp kd es => simp [liveS] at h2
theorem qiB {n0 : Nat} {wr : List Nat} {F : CallFn} {args : List A} {k : A → Heap → Option β} (hk : oCallW n0 wr F args h k = some r) : oCall F args h (fun _ _ => none) k = some r := by
 unfold oCallW at hk
 split at hk <;> try (cases hk; done)
 rename_i ho
 obtain ⟨h1, h2, h3⟩ := qnc ho
 split at hk <;> try (cases hk; done)
 rename_i args' ha
 split at hk <;> try (cases hk; done)
 rename_i a objs' hF
 split at hk <;> try (cases hk; done)
 rename_i hc
 simp only [Bool.and_eq_true, beq_iff_eq, List.all_eq_true, decide_eq_true_eq] at hc
 obtain ⟨⟨c1, c2⟩, c3⟩ := hc
 split at hk <;> try (cases hk; done)
 rename_i a' hra
 have hreach : reach h qa3 [] (idsL args) = idsL args := by
  have := qjC h (idsL args) [] qa3 (fun id hid => by
   obtain ⟨_, _, ob, hob, hi⟩ := h3 id hid
   simp [List.getD_eq_getElem?_getD, hob, Slot.ids, hi]) (by simpa using h1) (by simp only [qa3]; omega)
  simpa using this
 have hobj : renHeap (idx (idsL args)) ((idsL args).map (h.getD · .dead)) = some ((idsL args).map (h.getD · .dead)) := qfx _ fun s hs => by
  obtain ⟨id, hid, rfl⟩ := List.mem_map.1 hs
  obtain ⟨_, _, ob, hob, hi⟩ := h3 id hid
  simp [List.getD_eq_getElem?_getD, hob, flatS, hi]
 have hb : borrow args h = some (idsL args, args', (idsL args).map (h.getD · .dead)) := by
  unfold borrow
  simp only [hreach, ha, hobj, Option.bind_some, Option.map_some]
 have hg : qaa (idsL args) h (.ok a) objs' = some (.ok a', setAll h (idsL args) objs') := by
  unfold qaa
  have e1 : renA (backIdx (idsL args) h.length) a = some a' := by
   rw [← hra]
   refine qgU a fun j hj => ?_
   have := c3 j hj
   simp [backIdx, this]
  simp only [renOut, e1, Option.map_some, Option.bind_some, qfx objs' c2]
  rw [List.take_of_length_le (by omega), List.drop_eq_nil_of_le (by omega), List.append_nil]
 unfold oCall
 rw [hb]
 simp only [hF, hg]
 exact hk
end
end Go.Ab
