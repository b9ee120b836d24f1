/-
  THE DOCUMENT'S THINGS: which directories can be?
-/
import Derived.Test.YtffjjeifgejplaaT6
set_option linter.unusedSimpArgs false
set_option linter.unusedVariables false
namespace Go.Ab.T
open Go Go.Ab Go.Ab.F

/-- Can it be a label? -/
noncomputable def lr (l : Label) : Bool := if h : l.cats.length < 2 ^ 63 then Classical.choose (ref09_Right_v l h) else false
theorem lr_v (l : Label) (h : l.cats.length < 2 ^ 63) : ref09_Right [.agg (labelC l)] [] = some (.ok (.s (.bool (lr l))), []) := by
  unfold lr; rw [dif_pos h]; exact (Classical.choose_spec (ref09_Right_v l h)).1
theorem lr_len (l : Label) (h : lr l = true) : l.cats.length ≤ 6 := by
  unfold lr at h
  split at h
  · rename_i hl; exact (Classical.choose_spec (ref09_Right_v l hl)).2 h
  · cases h

def bareOf (t : Thing) : Thing := { t with next := 0, links := [] }
/-- Can it be a directory? -/
structure dirRight (t : Thing) : Prop where
  id1 : 1 ≤ t.id
  id2 : t.id < 281474976710656
  label : lr t.label = true
  pure : pure t.label = true
  links : goodL t.links
  quota1 : 1 ≤ t.quota
  quota2 : t.quota ≤ 48
  room : used t ≤ t.quota
  next1 : 0 ≤ t.next
  next2 : t.next ≤ 63
  bare : bareOf t = bareT t.id t.kind t.label t.quota

def rowB (t : Thing) : List A := [.s (.int .u64 t.id), .s (.int .i64 t.kind), .s (.int .i64 t.label.df), mkF 2 (t.label.cats.map catC), .s (.int .i64 t.clear.df), mkF 2 (t.clear.cats.map catC), .s (.int .i64 t.quota), .s (.int .i64 0), .s (.slice none 0 0), mkF 1 (t.data.map (cellC .u8)), .s (.int .u64 t.r0), .s (.int .u64 t.r1), .s (.int .u64 t.r2), .s (.int .u64 t.r3), .s (.int .i64 t.minted), .s (.int .i64 t.boot), .s (.bool t.halted), .s (.int .u64 t.value), .s (.int .u64 t.s0.dir), .s (.int .u64 t.s0.seg), .s (.int .u64 t.s1.dir), .s (.int .u64 t.s1.seg), .s (.int .u64 t.s2.dir), .s (.int .u64 t.s2.seg), .s (.int .u64 t.s3.dir), .s (.int .u64 t.s3.seg)]
theorem rowB_ids (t : Thing) : idsL (rowB t) = [] := rfl
def rowL (t : Thing) : List A := [.s (.int .u64 t.id), .s (.int .i64 t.kind), .s (.int .i64 t.label.df), mkF 2 (t.label.cats.map catC), .s (.int .i64 0), .s (.slice none 0 0), .s (.int .i64 t.quota), .s (.int .i64 0), .s (.slice none 0 0), .s (.slice none 0 0), .s (.int .u64 0), .s (.int .u64 0), .s (.int .u64 0), .s (.int .u64 0), .s (.int .i64 0), .s (.int .i64 0), .s (.bool false), .s (.int .u64 0), .s (.int .u64 0), .s (.int .u64 0), .s (.int .u64 0), .s (.int .u64 0), .s (.int .u64 0), .s (.int .u64 0), .s (.int .u64 0), .s (.int .u64 0)]

theorem put_next (t : Thing) : putCells (putCells (thingC t) 7 [.s (.int .i64 0)]) 8 [.s (.slice none 0 0)] = rowB t := rfl
theorem Right_start (t : Thing) (hk : t.kind = 1) (h1 : t.label.cats.length < 2 ^ 63) : ref11_Right [.agg (thingC t)] [] =
    ref11_Right_k14 [] (.ptr 0 0 0 0) .normal [.s (.bool (!(decide (1 ≤ t.id ∧ t.id < 281474976710656) && (lr t.label && pure t.label))))] [Go.Ab.Slot.live ⟨0, 26, [thingC t]⟩] := by
  have hid : ∀ (β : Type) (id : Int) (h : Heap) (kp k : A → Heap → Option β), oLend ref11_id [.s (.int .u64 id)] h kp k = k (.s (.bool (decide (1 ≤ id ∧ id < 281474976710656)))) h := fun β id h kp k =>
    oLend_val _ _ _ _ _ _ (by simp) (by simp) (ref11_id_v id)
  have hlr : ∀ (β : Type) (h : Heap) (kp k : A → Heap → Option β), oLend ref09_Right [.agg (labelC t.label)] h kp k = k (.s (.bool (lr t.label))) h := fun β h kp k =>
    oLend_val _ _ _ _ _ _ (by simp) (by simp) (lr_v _ h1)
  have hpu : ∀ (β : Type) (h : Heap) (kp k : A → Heap → Option β), oLend ref10_Pure [.agg (labelC t.label)] h kp k = k (.s (.bool (pure t.label))) h := fun β h kp k =>
    oLend_val _ _ _ _ _ _ (by simp) (by simp) (ref10_Pure_v _ h1)
  by_cases c1 : 1 ≤ t.id ∧ t.id < 281474976710656
  · cases c2 : lr t.label <;> simp [ref11_Right, hid, hlr, hpu, hk, c1, c2, trim, allBelow]
  · simp [ref11_Right, hid, hlr, hpu, hk, c1, trim, allBelow]

theorem Right_dir (t : Thing) (ok : okT1 t) (hk : t.kind = 1) : ∃ b : Bool, ref11_Right [.agg (thingC t)] [] = some (.ok (.s (.bool b)), []) ∧ (b = true ↔ dirRight t) := by
  have hS : ∀ (β : Type) (h : Heap) (kp k : A → Heap → Option β), oLend ref11_Same [.agg (rowB t), .agg (rowL t)] h kp k = k (.s (.bool (decide (bareOf t = bareT t.id t.kind t.label t.quota)))) h := fun β h kp k =>
    oLend_val' _ _ [.agg (thingC (bareOf t)), .agg (thingC (bareT t.id t.kind t.label t.quota))] _ _ _ _ (by simp [rowB, rowL]) (lend_agg2 _ _ _ _ _ (by simp [rowB]) (by simp [rowB]) (by simp [rowB, thingC, bareOf]) (by simp [rowL]) (by simp [rowL]) (by simp [rowL, thingC, bareT])) (by simp)
      (ref11_Same_v _ _ ⟨ok.label, ok.clear, by simp [bareOf], ok.data⟩ ⟨ok.label, by simp [bareT], by simp [bareT], by intro n hn; simp [bareT] at hn⟩)
  rw [Right_start t hk ok.label]
  by_cases c1 : (1 ≤ t.id ∧ t.id < 281474976710656) ∧ lr t.label = true ∧ pure t.label = true
  · obtain ⟨c1, c2, c3⟩ := c1
    obtain ⟨q, hQ, hq⟩ := Right_links t ok.links (rowB t) (rowB_ids t)
    have hB : (decide (1 ≤ t.id ∧ t.id < 281474976710656) && (lr t.label && pure t.label)) = true := by simp [c1, c2, c3]
    have hpl : (putCells (thingC t) 7 [.s (.int .i64 0)]).length = 26 := rfl
    rw [hB]
    have hrun : ref11_Right_k14 [] (.ptr 0 0 0 0) .normal [.s (.bool (!true))] [Go.Ab.Slot.live ⟨0, 26, [thingC t]⟩] =
        oJoin (oLoop (ref11_Right_l2 (.s (.int .i64 t.links.length)) (mkF 2 (t.links.map linkC)) (.ptr 0 0 0 0) [Go.Ab.Slot.live ⟨0, 26, [thingC t]⟩, Go.Ab.Slot.live ⟨0, 26, [rowB t]⟩]) ([.s (.int .i64 1), .s (.int .i64 0)], [Go.Ab.Slot.live ⟨0, 26, [thingC t]⟩, Go.Ab.Slot.live ⟨0, 26, [rowB t]⟩])
          (ref11_Right_k4 (.ptr 0 0 0 0) [Go.Ab.Slot.live ⟨0, 26, [thingC t]⟩, Go.Ab.Slot.live ⟨0, 26, [thingC t]⟩] (.s (.int .i64 t.quota)))) (ref11_Right_k13 (.ptr 0 0 0 0) (.ptr 1 0 0 0) []) := by
      simp [ref11_Right_k14, hk, put_next, hpl]
    rw [hrun, hq]
    have no : ∀ vs H, (∃ a, vs = [A.s (.bool false), a]) → ref11_Right_k13 (.ptr 0 0 0 0) (.ptr 1 0 0 0) [] .ret vs H = some (.ok (.s (.bool false)), []) := by
      rintro vs H ⟨a, rfl⟩
      simp [ref11_Right_k13, finish_val]
    rcases hQ with ⟨⟨n, rfl, hg⟩⟩ | ⟨rfl, hg⟩
    · refine ⟨false, ?_, by simp only [Bool.false_eq_true, false_iff]; exact fun h => hg h.links⟩
      simp [ref11_Right_k4, trim, allBelow, rowB_ids, ref11_Right_k13, finish_val]
    · by_cases d : 1 ≤ t.quota ∧ t.quota ≤ 48 ∧ used t ≤ t.quota ∧ 0 ≤ t.next ∧ t.next ≤ 63
      · obtain ⟨d1, d2, d3, d4, d5⟩ := d
        have e1 : ¬ t.quota < 1 := by omega
        have e2 : ¬ 48 < t.quota := by omega
        have e3 : ¬ t.quota < used t := by omega
        have e4 : ¬ t.next < 0 := by omega
        have e5 : ¬ 63 < t.next := by omega
        refine ⟨decide (bareOf t = bareT t.id t.kind t.label t.quota), ?_, ?_⟩
        · simp [ref11_Right_k4, ref11_Right_k3, trim, allBelow, rowB_ids, e1, e2, e3, e4, e5]
          have hB2 : cellsAt (some 26) (rowB t) 0 = some (.agg (rowB t)) := rfl
          simp only [rowL] at hS
          simp [ref11_Right_k13, hB2, putCells, labelC, hS, finish_val]
        · simp only [decide_eq_true_eq]
          exact ⟨fun h => ⟨c1.1, c1.2, c2, c3, hg, d1, d2, d3, d4, d5, h⟩, fun h => h.bare⟩
      · refine ⟨false, ?_, by simp only [Bool.false_eq_true, false_iff]; exact fun h => d ⟨h.quota1, h.quota2, h.room, h.next1, h.next2⟩⟩
        by_cases e1 : t.quota < 1
        · simp [ref11_Right_k4, ref11_Right_k3, trim, allBelow, rowB_ids, e1, ref11_Right_k13, finish_val]
        by_cases e2 : 48 < t.quota
        · simp [ref11_Right_k4, ref11_Right_k3, trim, allBelow, rowB_ids, e1, e2, ref11_Right_k13, finish_val]
        by_cases e3 : t.quota < used t
        · simp [ref11_Right_k4, ref11_Right_k3, trim, allBelow, rowB_ids, e1, e2, e3, ref11_Right_k13, finish_val]
        by_cases e4 : t.next < 0
        · simp [ref11_Right_k4, ref11_Right_k3, trim, allBelow, rowB_ids, e1, e2, e3, e4, ref11_Right_k13, finish_val]
        have e5 : 63 < t.next := by omega
        simp [ref11_Right_k4, ref11_Right_k3, trim, allBelow, rowB_ids, e1, e2, e3, e4, e5, ref11_Right_k13, finish_val]
  · refine ⟨false, ?_, ?_⟩
    · have : (decide (1 ≤ t.id ∧ t.id < 281474976710656) && (lr t.label && pure t.label)) = false := by
        simpa using c1
      rw [this]
      simp [ref11_Right_k14, finish_val]
    · simp only [Bool.false_eq_true, false_iff]
      exact fun h => c1 ⟨⟨h.id1, h.id2⟩, h.label, h.pure⟩
end Go.Ab.T
