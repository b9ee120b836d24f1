/-
 CALLS THAT BORROW OBJECTS AND LEAVE THEM AS THEY WERE, in a region whose order is open.
-/
import Derived.Test.YtocnjegcmmfpfaaAbsCallW
set_option linter.unusedSimpArgs false
set_option linter.unusedVariables false
namespace Go.Ab
open Go
mutual
theorem sameW_eq : ∀ (a b : A), sameW a b = true → a = b
 | .s v, b, h => by
   unfold sameW at h
   split at h
   · simp only [Bool.and_eq_true, decide_eq_true_eq] at h; obtain ⟨rfl, rfl⟩ := h; rfl
   · simp only [beq_iff_eq] at h; rw [h]
   · rfl
   · rfl
   · cases h
 | .any, b, h => by simp [sameW] at h
 | .ptr a b c d, x, h => by
   cases x <;> simp [sameW] at h
   obtain ⟨rfl, rfl, rfl, rfl⟩ := h; rfl
 | .cptr cs, x, h => by
   cases x <;> simp [sameW] at h
   rw [qhm _ _ h]
 | .fsl sz rows, x, h => by
   cases x <;> simp [sameW] at h
   rw [h.1, qjh _ _ h.2]
 | .osl a b c d e, x, h => by
   cases x <;> simp [sameW] at h
   obtain ⟨rfl, rfl, rfl, rfl, rfl⟩ := h; rfl
 | .agg cs, x, h => by
   cases x <;> simp [sameW] at h
   rw [qhm _ _ h]
 | .tup _, x, h => by simp [sameW] at h
 | .fn _ _, x, h => by simp [sameW] at h
 | .iface _ _, x, h => by simp [sameW] at h
 | .mref _, x, h => by simp [sameW] at h
theorem qhm : ∀ (a b : List A), sameWL a b = true → a = b
 | [], [], _ => rfl
 | [], _ :: _, h => by simp [sameWL] at h
 | _ :: _, [], h => by simp [sameWL] at h
 | a :: r, b :: r', h => by
   simp only [sameWL, Bool.and_eq_true] at h
   rw [sameW_eq _ _ h.1, qhm _ _ h.2]
theorem qjh : ∀ (a b : List (List A)), sameWR a b = true → a = b
 | [], [], _ => rfl
 | [], _ :: _, h => by simp [sameWR] at h
 | _ :: _, [], h => by simp [sameWR] at h
 | a :: r, b :: r', h => by
   simp only [sameWR, Bool.and_eq_true] at h
   rw [qhm _ _ h.1, qjh _ _ h.2]
end
theorem sameWS_eq {x y : Slot} (h : sameWS x y = true) : x = y := by
 unfold sameWS at h
 split at h
 · rename_i o o'
   simp only [Bool.and_eq_true, decide_eq_true_eq] at h
   obtain ⟨v, s, r⟩ := o
   obtain ⟨v', s', r'⟩ := o'
   simp only at h
   rw [h.1.1, h.1.2, qjh _ _ h.2]
 · rfl
 · cases h
theorem qlA : ∀ (a b : Heap), sameWH a b = true → a = b
 | [], [], _ => rfl
 | [], _ :: _, h => by simp [sameWH] at h
 | _ :: _, [], h => by simp [sameWH] at h
 | a :: r, b :: r', h => by
   simp only [sameWH, Bool.and_eq_true] at h
   rw [sameWS_eq h.1, qlA _ _ h.2]
mutual
theorem qn8 {f g : Nat → Option Nat} (hfg : ∀ x y, f x = some y → g y = some x) : ∀ (a b : A), renA f a = some b → renA g b = some a
 | .s v, b, h => by simp [renA] at h; subst h; simp [renA]
 | .any, b, h => by simp [renA] at h; subst h; simp [renA]
 | .cptr _, b, h => by simp [renA] at h; subst h; simp [renA]
 | .fsl _ _, b, h => by simp [renA] at h; subst h; simp [renA]
 | .ptr id v r o, b, h => by
   simp only [renA, Option.map_eq_some_iff] at h
   obtain ⟨y, hy, rfl⟩ := h
   simp [renA, hfg _ _ hy]
 | .osl id v sz lo len, b, h => by
   simp only [renA, Option.map_eq_some_iff] at h
   obtain ⟨y, hy, rfl⟩ := h
   simp [renA, hfg _ _ hy]
 | .mref id, b, h => by
   simp only [renA, Option.map_eq_some_iff] at h
   obtain ⟨y, hy, rfl⟩ := h
   simp [renA, hfg _ _ hy]
 | .agg cs, b, h => by
   simp only [renA, Option.map_eq_some_iff] at h
   obtain ⟨y, hy, rfl⟩ := h
   simp [renA, qhw hfg _ _ hy]
 | .tup cs, b, h => by
   simp only [renA, Option.map_eq_some_iff] at h
   obtain ⟨y, hy, rfl⟩ := h
   simp [renA, qhw hfg _ _ hy]
 | .fn n cs, b, h => by
   simp only [renA, Option.map_eq_some_iff] at h
   obtain ⟨y, hy, rfl⟩ := h
   simp [renA, qhw hfg _ _ hy]
 | .iface t a, b, h => by
   simp only [renA, Option.map_eq_some_iff] at h
   obtain ⟨y, hy, rfl⟩ := h
   simp [renA, qn8 hfg _ _ hy]
theorem qhw {f g : Nat → Option Nat} (hfg : ∀ x y, f x = some y → g y = some x) : ∀ (a b : List A), renL f a = some b → renL g b = some a
 | [], b, h => by simp [renL] at h; subst h; simp [renL]
 | a :: r, b, h => by
   simp only [renL, Option.bind_eq_some_iff, Option.map_eq_some_iff] at h
   obtain ⟨y, hy, z, hz, rfl⟩ := h
   simp [renL, qn8 hfg _ _ hy, qhw hfg _ _ hz]
end
theorem qjl {f g : Nat → Option Nat} (hfg : ∀ x y, f x = some y → g y = some x) : ∀ (a b : List (List A)), renRows f a = some b → renRows g b = some a
 | [], b, h => by simp [renRows] at h; subst h; simp [renRows]
 | a :: r, b, h => by
   simp only [renRows, Option.bind_eq_some_iff, Option.map_eq_some_iff] at h
   obtain ⟨y, hy, z, hz, rfl⟩ := h
   simp [renRows, qhw hfg _ _ hy, qjl hfg _ _ hz]
theorem qmB {f g : Nat → Option Nat} (hfg : ∀ x y, f x = some y → g y = some x) (a b : Slot) (h : renSlot f a = some b) : renSlot g b = some a := by
 cases a with
 | dead => simp [renSlot] at h; subst h; simp [renSlot]
 | res => simp [renSlot] at h
 | mp kd es => simp [renSlot] at h; subst h; simp [renSlot]
 | live ob =>
   simp only [renSlot, Option.map_eq_some_iff] at h
   obtain ⟨y, hy, rfl⟩ := h
   simp [renSlot, qjl hfg _ _ hy]
theorem qjp {f g : Nat → Option Nat} (hfg : ∀ x y, f x = some y → g y = some x) : ∀ (a b : Heap), renHeap f a = some b → renHeap g b = some a
 | [], b, h => by simp [renHeap] at h; subst h; simp [renHeap]
 | a :: r, b, h => by
   simp only [renHeap, Option.bind_eq_some_iff, Option.map_eq_some_iff] at h
   obtain ⟨y, hy, z, hz, rfl⟩ := h
   simp [renHeap, qmB hfg _ _ hy, qjp hfg _ _ hz]
theorem qg7 {f : Nat → Option Nat} : ∀ (a b x y : Heap), renHeap f a = some x → renHeap f b = some y → renHeap f (a ++ b) = some (x ++ y)
 | [], b, x, y, h1, h2 => by simp [renHeap] at h1; subst h1; simpa using h2
 | s :: a, b, x, y, h1, h2 => by
   simp only [renHeap, Option.bind_eq_some_iff, Option.map_eq_some_iff] at h1
   obtain ⟨s', hs, z, hz, rfl⟩ := h1
   simp [renHeap, hs, qg7 a b z y hz h2]
theorem renHeap_nores {f : Nat → Option Nat} : ∀ {a x : Heap}, renHeap f a = some x → ∀ j : Nat, x[j]? ≠ some .res
 | [], x, h, j => by simp [renHeap] at h; subst h; simp
 | s :: a, x, h, j => by
   simp only [renHeap, Option.bind_eq_some_iff, Option.map_eq_some_iff] at h
   obtain ⟨s', hs, z, hz, rfl⟩ := h
   cases j with
   | zero =>
     simp only [List.getElem?_cons_zero, ne_eq, Option.some.injEq]
     rintro rfl
     exact qcJ hs
   | succ j => simpa using renHeap_nores hz j
theorem reach_sub (h : Heap) (n : Nat) (seen todo : List Nat) {id : Nat} (hm : id ∈ seen) (hn : seen.Nodup) : id ∈ reach h n seen todo := by
 obtain ⟨_, l, e⟩ := qfm h n seen todo hn
 rw [e]; exact List.mem_append_left _ hm
theorem qgV {m h : Heap} : ∀ (n : Nat) (seen todo : List Nat), seen.Nodup → (∀ id ∈ reach m n seen todo, m.getD id .dead = h.getD id .dead) → reach h n seen todo = reach m n seen todo
 | 0, seen, todo, _, _ => rfl
 | n + 1, seen, [], _, _ => rfl
 | n + 1, seen, id :: todo, hn, ha => by
   simp only [reach] at ha ⊢
   split
   · rename_i hc
     rw [if_pos hc] at ha
     exact qgV n seen todo hn ha
   · rename_i hc
     rw [if_neg hc] at ha
     have hn2 : (seen ++ [id]).Nodup := by
      rw [List.nodup_append]
      refine ⟨hn, by simp, fun x hx y hy => ?_⟩
      simp at hy; subst hy
      rintro rfl
      exact hc (by simpa using hx)
     have hid := ha id (reach_sub m n _ _ (by simp) hn2)
     rw [← hid]
     exact qgV n _ _ hn2 ha
theorem idx_back {ids : List Nat} {n x y : Nat} (h : idx ids x = some y) : backIdx ids n y = some x := by
 unfold idx at h
 have h1 := List.of_findIdx?_eq_some (p := (· == x)) (xs := ids) (i := y) (by simpa [List.idxOf?] using h)
 have hy : y < ids.length := by
  rcases Nat.lt_or_ge y ids.length with h2 | h2
  · exact h2
  · rw [List.getElem?_eq_none h2] at h1; simp at h1
 rw [List.getElem?_eq_getElem hy] at h1
 simp at h1
 simp [backIdx, hy, h1]
theorem qjg (h : Heap) : ∀ (ids : List Nat), setAll h ids (ids.map (h.getD · .dead)) = h
 | [] => rfl
 | id :: ids => by
   simp only [List.map_cons, setAll]
   have : h.set id (h.getD id .dead) = h := by
    apply List.ext_getElem?
    intro j
    rw [List.getElem?_set]
    split
    · rename_i hij; subst hij
      by_cases hl : id < h.length
      · simp [hl]
      · rw [if_neg hl, List.getElem?_eq_none (by omega)]
    · rfl
   rw [this]
   exact qjg h ids
section
variable {β : Type} {r : β} {h h' : Heap}
theorem qlP {n0 : Nat} {wr : List Nat} {F : CallFn} {args : List A} {k : A → Heap → Option β} (hk : oCallK n0 wr F args h k = some r) : oCall F args h (fun _ _ => none) k = some r := by
 unfold oCallK at hk
 split at hk <;> try (cases hk; done)
 rename_i ids args' objs hb
 split at hk <;> try (cases hk; done)
 rename_i hall
 split at hk <;> try (cases hk; done)
 rename_i a objs' hF
 split at hk <;> try (cases hk; done)
 rename_i hsame
 split at hk <;> try (cases hk; done)
 rename_i a' xs hra hrx
 have hsame := qlA _ _ hsame
 unfold borrow at hb
 simp only [Option.bind_eq_some_iff, Option.map_eq_some_iff, Prod.mk.injEq] at hb
 obtain ⟨args1, h1, objs1, h2, h3, rfl, rfl⟩ := hb
 subst h3
 generalize hids : reach (maskH n0 wr h) qa3 [] (idsL args) = ids at *
 have hag : ∀ id ∈ ids, (maskH n0 wr h).getD id .dead = h.getD id .dead := fun id hid => by
  have := List.all_eq_true.1 hall id hid
  simp only [Bool.and_eq_true, decide_eq_true_eq, Bool.not_eq_true', List.contains_eq_mem, decide_eq_false_iff_not] at this
  simp only [List.getD_eq_getElem?_getD, maskH, qeR, if_neg this.2, List.getElem?_take, if_pos this.1]
 have hr : reach h qa3 [] (idsL args) = ids := by
  rw [← hids]
  exact qgV _ _ _ .nil (by rw [hids]; exact hag)
 have hmap : ids.map ((maskH n0 wr h).getD · .dead) = ids.map (h.getD · .dead) := List.map_congr_left hag
 have hb2 : borrow args h = some (ids, args1, objs1) := by
  unfold borrow
  simp only [hr, h1, ← hmap, h2, Option.bind_some, Option.map_some]
 have hlen : objs1.length = ids.length := by
  have := (qeP h2).1
  simpa using this
 have hlen2 : (objs'.take ids.length).length = ids.length := by rw [hsame, hlen]
 have hbk : renHeap (backIdx ids h.length) objs1 = some (ids.map (h.getD · .dead)) := by
  rw [← hmap]
  exact qjp (fun x y hxy => idx_back hxy) _ _ h2
 have hg : qaa ids h (.ok a) objs' = some (.ok a', h ++ xs) := by
  unfold qaa
  have e2 : renHeap (backIdx ids h.length) objs' = some (ids.map (h.getD · .dead) ++ xs) := by
   rw [← List.take_append_drop ids.length objs']
   exact qg7 _ _ _ _ (by rw [hsame]; exact hbk) hrx
  simp only [renOut, hra, Option.map_some, Option.bind_some, e2]
  rw [List.take_left' (by simp), List.drop_left' (by simp), qjg]
 unfold oCall
 rw [hb2]
 simp only [hF, hg]
 exact hk
end
end Go.Ab
