/-
  THE DOCUMENT'S LABELS AND THINGS: what they come to.
-/
import Derived.Test.YtffjjeifgejplaaT3
set_option linter.unusedSimpArgs false
set_option linter.unusedVariables false
namespace Go.Ab.T
open Go Go.Ab Go.Ab.F

@[simp] theorem eqCells_cat (a b : Cat) : eqCells [true, true] (catC a) (catC b) = some (decide (a = b)) := by
  obtain ⟨a1, a2⟩ := a; obtain ⟨b1, b2⟩ := b
  by_cases h1 : a1 = b1 <;> by_cases h2 : a2 = b2 <;> simp [catC, eqCells, h1, h2]
@[simp] theorem eqCells_link (a b : Link) : eqCells [true, true] (linkC a) (linkC b) = some (decide (a = b)) := by
  obtain ⟨a1, a2⟩ := a; obtain ⟨b1, b2⟩ := b
  by_cases h1 : a1 = b1 <;> by_cases h2 : a2 = b2 <;> simp [linkC, eqCells, h1, h2]
@[simp] theorem eqCells_slot (a b : T.Slot) : eqCells [true, true] (slotC a) (slotC b) = some (decide (a = b)) := by
  obtain ⟨a1, a2⟩ := a; obtain ⟨b1, b2⟩ := b
  by_cases h1 : a1 = b1 <;> by_cases h2 : a2 = b2 <;> simp [slotC, eqCells, h1, h2]

/-- Two lists of one length, place by place. -/
theorem zip_find {α : Type} [DecidableEq α] : ∀ (a b : List α), a.length = b.length → ((a.zip b).find? (fun p => !decide (p.1 = p.2)) = none ↔ a = b)
  | [], [], _ => by simp
  | x :: a, y :: b, h => by
    simp only [List.length_cons, Nat.add_right_cancel_iff] at h
    have ih := zip_find a b h
    by_cases hxy : x = y
    · simp only [List.zip_cons_cons, List.find?_cons, hxy, decide_true, Bool.not_true, ih, List.cons.injEq, true_and]
    · simp [hxy]

theorem zip_get {α : Type} {a b : List α} {i : Nat} {p : α × α} (h : (a.zip b)[i]? = some p) : a[i]? = some p.1 ∧ b[i]? = some p.2 := by
  rw [List.getElem?_zip_eq_some] at h; exact h

theorem ref09_Exact_v (a b : Label) (ha : a.cats.length < 2 ^ 63) : ref09_Exact [.agg (labelC a), .agg (labelC b)] [] = some (.ok (.s (.bool (decide (a = b)))), []) := by
  have hab : decide (a = b) = (decide (a.df = b.df) && decide (a.cats = b.cats)) := by
    obtain ⟨a1, a2⟩ := a; obtain ⟨b1, b2⟩ := b
    by_cases h1 : a1 = b1 <;> by_cases h2 : a2 = b2 <;> simp [h1, h2]
  by_cases hd : a.df = b.df
  · by_cases hl : a.cats.length = b.cats.length
    · have hzl : (a.cats.zip b.cats).length = a.cats.length := by simp [hl]
      simp [ref09_Exact, hd, hl, trim, allBelow, ref09_Exact_k3]
      refine Eq.trans (oLoop_find (enc := fun i => ([.s (.int .i64 i)], [Slot.live ⟨0, 2, [labelC a]⟩, Slot.live ⟨0, 2, [labelC b]⟩])) (fun (p : Cat × Cat) => !decide (p.1 = p.2))
        (fun p => (Ex.ret, [.s (.bool false)], [Slot.live ⟨0, 2, [labelC a]⟩, Slot.live ⟨0, 2, [labelC b]⟩])) (Ex.exit 0, [.any], [Slot.live ⟨0, 2, [labelC a]⟩, Slot.live ⟨0, 2, [labelC b]⟩]) (a.cats.zip b.cats) (by simp) (by omega) ?_ ?_) ?_
      · intro i p hp hi
        obtain ⟨h1, h2⟩ := zip_get hp
        rw [hzl] at hi
        have hi2 : i < b.cats.length := by omega
        by_cases he : p.1 = p.2
        · simp [ref09_Exact_l1, oLoadD, hi, hi2, oIdxA_mkF _ _ _ _ _ _ _ h1, oIdxA_mkF _ _ _ _ _ _ _ h2, trim, allBelow, he, wrap_succ hi ha]
        · simp [ref09_Exact_l1, oLoadD, hi, hi2, oIdxA_mkF _ _ _ _ _ _ _ h1, oIdxA_mkF _ _ _ _ _ _ _ h2, trim, allBelow, he, wrap_succ hi ha]
      · simp [ref09_Exact_l1, trim, allBelow, hl]
      · have hz := zip_find a.cats b.cats hl
        rw [hab]
        cases hf : (a.cats.zip b.cats).find? (fun p => !decide (p.1 = p.2)) with
        | none => simp [ref09_Exact_k2, finish_val, hz.1 hf, hd]
        | some p =>
          have : ¬ a.cats = b.cats := fun h => by rw [hz.2 h] at hf; cases hf
          simp [ref09_Exact_k2, finish_val, this, hd]
    · have : ¬ a.cats = b.cats := fun h => hl (by rw [h])
      have hl' : ¬ ((a.cats.length : Int) = b.cats.length) := by omega
      simp [ref09_Exact, hd, hl, hl', trim, allBelow, ref09_Exact_k3, hab, this, finish_val]
  · simp [ref09_Exact, hd, trim, allBelow, ref09_Exact_k3, hab, finish_val]

/-- Is no level in it Star? -/
def pure (l : Label) : Bool := !decide (l.df = 0) && (l.cats.find? (fun c => c.level == 0)).isNone
theorem ref10_Pure_v (l : Label) (hl : l.cats.length < 2 ^ 63) : ref10_Pure [.agg (labelC l)] [] = some (.ok (.s (.bool (pure l))), []) := by
  by_cases hd : l.df = 0
  · simp [ref10_Pure, hd, finish_val, pure]
  · simp [ref10_Pure, hd]
    refine Eq.trans (oLoop_find (enc := fun i => ([.s (.int .i64 i)], [Slot.live ⟨0, 2, [labelC l]⟩])) (fun (c : Cat) => c.level == 0)
      (fun c => (Ex.ret, [.s (.bool false)], [Slot.live ⟨0, 2, [labelC l]⟩])) (Ex.exit 0, [.any], [Slot.live ⟨0, 2, [labelC l]⟩]) l.cats (by simp) hl ?_ ?_) ?_
    · intro i c hc hi
      simp [ref10_Pure_l1, oIdxA_mkF _ _ _ _ _ _ _ hc, hi, wrap_succ hi hl, trim, allBelow]
    · simp [ref10_Pure_l1, trim, allBelow]
    · unfold pure
      cases l.cats.find? (fun c => c.level == 0) <;> simp [ref10_Pure_k2, finish_val, hd]

/-- A call of Form in a region with an open order. -/
theorem Form_call (l : Label) (hl : l.cats.length < 100000000) : ∃ (r : Label) (ex : Heap), r.df = l.df ∧ r.cats.length ≤ l.cats.length ∧ (∀ s ∈ ex, Slot.ids s = []) ∧
    ∀ (β : Type) (n0 : Nat) (wr : List Nat) (h : Heap) (k : A → Heap → Option β), (oCallF n0 wr ref09_Form [.agg (labelC l)] h fun w h' => oFrz w h' k) = k (.agg (labelC r)) (h ++ ex) := by
  obtain ⟨C, r, objs, hF, hdf, hrl, hC⟩ := ref09_Form_v l hl
  have hll : lendL lendFuel [.agg (labelC l)] [] = some [.agg (labelC l)] := lendL_pure 999 _ _ (by simp)
  rcases hC with ⟨rfl, hc, rfl⟩ | ⟨ver, rfl, rfl⟩
  · refine ⟨r, [], hdf, hrl, by simp, fun β n0 wr h k => ?_⟩
    have e : ∀ k' : A → Heap → Option β, oCallF n0 wr ref09_Form [.agg (labelC l)] h k' = k' (.agg [.s (.int .i64 r.df), .s (.slice none 0 0)]) h := fun k' => by
      unfold oCallF
      rw [if_pos (by simp), hll]
      simp only [hF]
      simp [giveBack, setAll]
    rw [e, frz_cell2 _ (.fsl 0 []) _ h h k rfl (fun n h => by simp [frzA, nilS]) rfl (fun n => by simp [frzA, nilS])]
    simp [labelC, hc]
  · have hren : ∀ f, renRows f (r.cats.map catC) = some (r.cats.map catC) := fun f => renRows_map f catC (fun x => by simp [catC]) r.cats
    refine ⟨r, [.dead], hdf, hrl, by simp, fun β n0 wr h k => ?_⟩
    have e : ∀ k' : A → Heap → Option β, oCallF n0 wr ref09_Form [.agg (labelC l)] h k' = k' (.agg [.s (.int .i64 r.df), .osl h.length ver 2 0 r.cats.length]) (h ++ [.live ⟨ver, 2, r.cats.map catC⟩]) := fun k' => by
      unfold oCallF
      rw [if_pos (by simp), hll]
      simp only [hF]
      simp [giveBack, setAll, backIdx, hren]
    rw [e, frz_cell2 _ (mkF 2 (r.cats.map catC)) _ _ ((h ++ [Go.Ab.Slot.live ⟨ver, 2, r.cats.map catC⟩]).set h.length Go.Ab.Slot.dead) k rfl (fun n h => by simp [frzA, nilS]) rfl (fun n => frz_own n h.length ver 2 r.cats.length (r.cats.map catC) (h ++ [Go.Ab.Slot.live ⟨ver, 2, r.cats.map catC⟩]) (by simp) (by simp) (pureRows_map _ (fun x => by simp) _))]
    simp [labelC]

/-- Can a category stand in a label? -/
def badCat (c : Cat) : Bool := decide (c.id < 1) || decide (2305843009213693951 < c.id) || decide (c.level < 0) || decide (4 < c.level)

theorem ref09_Right_v (l : Label) (hl : l.cats.length < 2 ^ 63) : ∃ b : Bool, ref09_Right [.agg (labelC l)] [] = some (.ok (.s (.bool b)), []) ∧ (b = true → l.cats.length ≤ 6) := by
  have fin : ∀ b : Bool, ∃ c : Bool, ref09_Right_k4 [] (.ptr 0 0 0 0) .normal [.s (.bool b)] [.live ⟨0, 2, [labelC l]⟩] = some (.ok (.s (.bool c)), []) ∧ (c = true → b = false) := by
    intro b
    cases b with
    | true => exact ⟨false, by simp [ref09_Right_k4, finish_val], by simp⟩
    | false =>
      refine ⟨(l.cats.find? badCat).isNone, ?_, by simp⟩
      simp [ref09_Right_k4]
      refine Eq.trans (oLoop_find (enc := fun i => ([.s (.int .i64 i)], [Slot.live ⟨0, 2, [labelC l]⟩])) badCat
        (fun c => (Ex.ret, [.s (.bool false)], [Slot.live ⟨0, 2, [labelC l]⟩])) (Ex.exit 0, [.any], [Slot.live ⟨0, 2, [labelC l]⟩]) l.cats (by simp) hl ?_ ?_) ?_
      · intro i c hc hi
        by_cases h1 : c.id < 1 <;> by_cases h2 : 2305843009213693951 < c.id <;> by_cases h3 : c.level < 0 <;> by_cases h4 : 4 < c.level <;>
          simp [ref09_Right_l2, ref09_Right_k1, oIdxA_mkF _ _ _ _ _ _ _ hc, hi, wrap_succ hi hl, trim, allBelow, h1, h2, h3, h4, badCat]
      · simp [ref09_Right_l2, trim, allBelow]
      · cases l.cats.find? badCat <;> simp [ref09_Right_k3, finish_val]
  have hrun : ∃ b : Bool, ref09_Right [.agg (labelC l)] [] = ref09_Right_k4 [] (.ptr 0 0 0 0) .normal [.s (.bool b)] [.live ⟨0, 2, [labelC l]⟩] ∧ (b = false → l.cats.length ≤ 6) := by
    by_cases h1 : l.df < 1
    · exact ⟨true, by simp [ref09_Right, oLoadD, h1, trim, allBelow], by simp⟩
    by_cases h2 : 4 < l.df
    · exact ⟨true, by simp [ref09_Right, oLoadD, h1, h2, trim, allBelow], by simp⟩
    by_cases h3 : 6 < l.cats.length
    · exact ⟨true, by simp [ref09_Right, oLoadD, h1, h2, h3, show ¬ ((l.cats.length : Int) ≤ 6) by omega, trim, allBelow], by simp⟩
    have h3' : ¬ (6 < (l.cats.length : Int)) := by omega
    obtain ⟨r, ex, hdf, hrl, hex, hcall⟩ := Form_call l (by omega)
    refine ⟨!decide (l = r), ?_, fun _ => by omega⟩
    have hE : ∀ (β : Type) (n0 : Nat) (wr : List Nat) (h : Heap) (k : A → Heap → Option β), oCallF n0 wr ref09_Exact [.agg (labelC l), .agg (labelC r)] h k = k (.s (.bool (decide (l = r)))) h := fun β n0 wr h k =>
      oCallF_val _ _ _ _ _ _ _ (by simp) (by simp) (ref09_Exact_v l r hl)
    simp [ref09_Right, oLoadD, h1, h2, h3, h3', show ((l.cats.length : Int) ≤ 6) by omega, trim, allBelow, hcall, hE]
  obtain ⟨b, e, hb⟩ := hrun
  obtain ⟨c, e2, hc⟩ := fin b
  exact ⟨c, e.trans e2, fun h => hb (hc h)⟩
end Go.Ab.T
