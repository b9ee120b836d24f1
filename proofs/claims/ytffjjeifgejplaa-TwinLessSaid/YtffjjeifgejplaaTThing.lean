/-
  WHICH THINGS CAN BE: ref11.Right, of every kind.
-/
import Derived.Test.YtffjjeifgejplaaTDirHolds
set_option linter.unusedSimpArgs false
set_option linter.unusedVariables false
namespace Go.Ab.T
open Go Go.Ab Go.Ab.F

theorem putCells_len (row : List A) (off : Nat) (cs : List A) (h : off + cs.length ≤ row.length) : (putCells row off cs).length = row.length := by
  simp [putCells]; omega
theorem parts_v (a : Int) : ∃ x y z : Int, ref01_parts [.s (.int .u64 a)] [] = some (.ok (.tup [.s (.int .u64 x), .s (.int .u64 y), .s (.int .u64 z)]), []) := by
  have ha : ∀ a b : Int, ∃ r, arInt .and .u64 a b = some r := fun a b => ⟨_, rfl⟩
  obtain ⟨r1, h1⟩ := ha (a.fdiv (2 ^ min 52 IntKind.u64.bits)) 2047
  obtain ⟨r2, h2⟩ := ha a 4503599627370495
  exact ⟨_, _, _, by simp [ref01_parts, finish_val, h1, h2]; exact ⟨rfl, rfl, rfl⟩⟩
theorem Canon_v (a : Int) : ∃ c : Int, ref01_Canon [.s (.int .u64 a)] [] = some (.ok (.s (.int .u64 c)), []) := by
  obtain ⟨x, y, z, hp⟩ := parts_v a
  have hc : ∀ (β : Type) (h : Heap) (kp k : A → Heap → Option β), oLend ref01_parts [.s (.int .u64 a)] h kp k = k (.tup [.s (.int .u64 x), .s (.int .u64 y), .s (.int .u64 z)]) h := fun β h kp k => oLend_val _ _ _ _ _ _ (by simp) (by simp) hp
  by_cases h1 : y = 2047 <;> by_cases h2 : z = 0 <;> simp [ref01_Canon, ref01_Canon_k1, hc, h1, h2, trim, allBelow, finish_val]
theorem clean_v (l : Label) (hl : l.cats.length < 2 ^ 63) : ref11_clean [.agg (labelC l)] [] = some (.ok (.s (.bool (lr l && pure l))), []) := by
  have hlr : ∀ (β : Type) (h : Heap) (kp k : A → Heap → Option β), oLend ref09_Right [.agg (labelC l)] h kp k = k (.s (.bool (lr l))) h := fun β h kp k =>
    oLend_val _ _ _ _ _ _ (by simp) (by simp) (lr_v _ hl)
  have hpu : ∀ (β : Type) (h : Heap) (kp k : A → Heap → Option β), oLend ref10_Pure [.agg (labelC l)] h kp k = k (.s (.bool (pure l))) h := fun β h kp k =>
    oLend_val _ _ _ _ _ _ (by simp) (by simp) (ref10_Pure_v _ hl)
  cases h : lr l <;> simp [ref11_clean, hlr, hpu, h, finish_val]

/-- What a thing that can be is like, whatever its kind. -/
structure okT (t : Thing) : Prop where
  label : lr t.label = true
  links : sortedL t.links
  few : t.links.length ≤ 16
  dir : t.kind = 1 → dirRight t
  small : small t
  id1 : 1 ≤ t.id
  id2 : t.id < 281474976710656

theorem okT_dir {t : Thing} (h : dirRight t) : okT t := ⟨h.label, goodL_sorted h.links, h.links.len, fun _ => h, h.small, h.id1, h.id2⟩

/-- The last question: is nothing else in it? -/
theorem Right_end (t : Thing) (ok : okT1 t) (row : List A) (u : Thing) (q : Int) (v : A) (hr : row.length = 26) (hc : cellsAt (some 26) row 0 = some (.agg row)) (hf : ∀ a ∈ row, flatA a = true) (hi : idsL row = []) (hn : row.map normA = thingC u) (oku : okT1 u) :
    ref11_Right_k13 (.ptr 0 0 0 0) (.ptr 1 0 0 0) [] .normal [v, .s (.int .i64 q)] [Go.Ab.Slot.live ⟨0, 26, [thingC t]⟩, Go.Ab.Slot.live ⟨0, 26, [row]⟩] = some (.ok (.s (.bool (decide (t.quota = q) && decide (u = bareT t.id t.kind t.label t.quota)))), []) := by
  have hS : ∀ (β : Type) (h : Heap) (kp k : A → Heap → Option β), oLend ref11_Same [.agg row, .agg (rowL t)] h kp k = k (.s (.bool (decide (u = bareT t.id t.kind t.label t.quota)))) h := fun β h kp k =>
    oLend_val' _ _ [.agg (thingC u), .agg (thingC (bareT t.id t.kind t.label t.quota))] _ _ _ _ (by simp [hi, rowL]) (lend_agg2 _ _ _ _ _ hf (by rw [hr]; decide) hn (by simp [rowL]) (by simp [rowL]) (by simp [rowL, thingC, bareT])) (by simp)
      (ref11_Same_v _ _ oku ⟨ok.label, by simp [bareT], by simp [bareT], by intro n hn; simp [bareT] at hn⟩)
  simp only [rowL] at hS
  by_cases hq : t.quota = q
  · simp [ref11_Right_k13, hq, hc, putCells, labelC]
    rw [← hq]
    simp [hS, finish_val]
  · simp [ref11_Right_k13, hq, finish_val]

theorem Right_start' (t : Thing) (h1 : t.label.cats.length < 2 ^ 63) : ref11_Right [.agg (thingC t)] [] =
    ref11_Right_k14 [] (.ptr 0 0 0 0) .normal [.s (.bool (!(decide (1 ≤ t.id ∧ t.id < 281474976710656) && (lr t.label && (decide (t.kind = 2) || (decide (t.kind = 3) || pure t.label))))))] [Go.Ab.Slot.live ⟨0, 26, [thingC t]⟩] := by
  have hid : ∀ (β : Type) (id : Int) (h : Heap) (kp k : A → Heap → Option β), oLend ref11_id [.s (.int .u64 id)] h kp k = k (.s (.bool (decide (1 ≤ id ∧ id < 281474976710656)))) h := fun β id h kp k =>
    oLend_val _ _ _ _ _ _ (by simp) (by simp) (ref11_id_v id)
  have hlr : ∀ (β : Type) (h : Heap) (kp k : A → Heap → Option β), oLend ref09_Right [.agg (labelC t.label)] h kp k = k (.s (.bool (lr t.label))) h := fun β h kp k =>
    oLend_val _ _ _ _ _ _ (by simp) (by simp) (lr_v _ h1)
  have hpu : ∀ (β : Type) (h : Heap) (kp k : A → Heap → Option β), oLend ref10_Pure [.agg (labelC t.label)] h kp k = k (.s (.bool (pure t.label))) h := fun β h kp k =>
    oLend_val _ _ _ _ _ _ (by simp) (by simp) (ref10_Pure_v _ h1)
  by_cases c1 : 1 ≤ t.id ∧ t.id < 281474976710656
  · cases c2 : lr t.label
    · simp [ref11_Right, hid, hlr, hpu, c1, c2, trim, allBelow]
    · by_cases c3 : t.kind = 2
      · simp [ref11_Right, hid, hlr, hpu, c1, c2, c3, trim, allBelow]
      · by_cases c4 : t.kind = 3 <;> simp [ref11_Right, hid, hlr, hpu, c1, c2, c3, c4, trim, allBelow]
  · simp [ref11_Right, hid, hlr, hpu, c1, trim, allBelow]

abbrev hp (t : Thing) (row : List A) : Heap := [Go.Ab.Slot.live ⟨0, 26, [thingC t]⟩, Go.Ab.Slot.live ⟨0, 26, [row]⟩]

def bareThr (t : Thing) : Thing := { t with clear := ⟨0, []⟩, r0 := 0, r1 := 0, r2 := 0, r3 := 0, minted := 0, boot := 0, halted := false }
def rowThr (t : Thing) : List A := [.s (.int .u64 t.id), .s (.int .i64 t.kind), .s (.int .i64 t.label.df), mkF 2 (t.label.cats.map catC), .s (.int .i64 0), .s (.slice none 0 0), .s (.int .i64 t.quota), .s (.int .i64 t.next), mkF 2 (t.links.map linkC), mkF 1 (t.data.map (cellC .u8)), .s (.int .u64 0), .s (.int .u64 0), .s (.int .u64 0), .s (.int .u64 0), .s (.int .i64 0), .s (.int .i64 0), .s (.bool false), .s (.int .u64 t.value), .s (.int .u64 t.s0.dir), .s (.int .u64 t.s0.seg), .s (.int .u64 t.s1.dir), .s (.int .u64 t.s1.seg), .s (.int .u64 t.s2.dir), .s (.int .u64 t.s2.seg), .s (.int .u64 t.s3.dir), .s (.int .u64 t.s3.seg)]
def bareGate (t : Thing) : Thing := { t with clear := ⟨0, []⟩, value := 0 }
def rowGate (t : Thing) : List A := [.s (.int .u64 t.id), .s (.int .i64 t.kind), .s (.int .i64 t.label.df), mkF 2 (t.label.cats.map catC), .s (.int .i64 0), .s (.slice none 0 0), .s (.int .i64 t.quota), .s (.int .i64 t.next), mkF 2 (t.links.map linkC), mkF 1 (t.data.map (cellC .u8)), .s (.int .u64 t.r0), .s (.int .u64 t.r1), .s (.int .u64 t.r2), .s (.int .u64 t.r3), .s (.int .i64 t.minted), .s (.int .i64 t.boot), .s (.bool t.halted), .s (.int .u64 0), .s (.int .u64 t.s0.dir), .s (.int .u64 t.s0.seg), .s (.int .u64 t.s1.dir), .s (.int .u64 t.s1.seg), .s (.int .u64 t.s2.dir), .s (.int .u64 t.s2.seg), .s (.int .u64 t.s3.dir), .s (.int .u64 t.s3.seg)]
def bareSeg (t : Thing) : Thing := { t with data := [] }
def rowSeg (t : Thing) : List A := [.s (.int .u64 t.id), .s (.int .i64 t.kind), .s (.int .i64 t.label.df), mkF 2 (t.label.cats.map catC), .s (.int .i64 t.clear.df), mkF 2 (t.clear.cats.map catC), .s (.int .i64 t.quota), .s (.int .i64 t.next), mkF 2 (t.links.map linkC), .s (.slice none 0 0), .s (.int .u64 t.r0), .s (.int .u64 t.r1), .s (.int .u64 t.r2), .s (.int .u64 t.r3), .s (.int .i64 t.minted), .s (.int .i64 t.boot), .s (.bool t.halted), .s (.int .u64 t.value), .s (.int .u64 t.s0.dir), .s (.int .u64 t.s0.seg), .s (.int .u64 t.s1.dir), .s (.int .u64 t.s1.seg), .s (.int .u64 t.s2.dir), .s (.int .u64 t.s2.seg), .s (.int .u64 t.s3.dir), .s (.int .u64 t.s3.seg)]
def bareSpace (t : Thing) : Thing := { t with s0 := ⟨0, 0⟩, s1 := ⟨0, 0⟩, s2 := ⟨0, 0⟩, s3 := ⟨0, 0⟩ }
def rowSpace (t : Thing) : List A := [.s (.int .u64 t.id), .s (.int .i64 t.kind), .s (.int .i64 t.label.df), mkF 2 (t.label.cats.map catC), .s (.int .i64 t.clear.df), mkF 2 (t.clear.cats.map catC), .s (.int .i64 t.quota), .s (.int .i64 t.next), mkF 2 (t.links.map linkC), mkF 1 (t.data.map (cellC .u8)), .s (.int .u64 t.r0), .s (.int .u64 t.r1), .s (.int .u64 t.r2), .s (.int .u64 t.r3), .s (.int .i64 t.minted), .s (.int .i64 t.boot), .s (.bool t.halted), .s (.int .u64 t.value), .s (.int .u64 0), .s (.int .u64 0), .s (.int .u64 0), .s (.int .u64 0), .s (.int .u64 0), .s (.int .u64 0), .s (.int .u64 0), .s (.int .u64 0)]

theorem ret13 (t : Thing) (row : List A) (b : Bool) (v : A) : ref11_Right_k13 (.ptr 0 0 0 0) (.ptr 1 0 0 0) [] .ret [.s (.bool b), v] (hp t row) = some (.ok (.s (.bool b)), []) := by
  simp [ref11_Right_k13, finish_val]
/-- The registers. -/
theorem Right_regs (t : Thing) : ∃ q : Ex × List A × Heap, (q = (.ret, [.s (.bool false)], hp t (thingC t)) ∨ q = (.exit 3, [.any], hp t (thingC t))) ∧
    ∀ {β : Type} (k : Ex → List A → Heap → Option β), oLoop (ref11_Right_l5 (.agg (thingC_regsC t)) (hp t (thingC t))) ([.s (.int .i64 0)], hp t (thingC t)) k = k q.1 q.2.1 q.2.2 := by
  refine oLoop_inv' (fun i s => s = ([.s (.int .i64 i)], hp t (thingC t))) (fun q => q = (.ret, [.s (.bool false)], hp t (thingC t)) ∨ q = (.exit 3, [.any], hp t (thingC t))) 4 rfl (by decide) ?_ ?_
  · rintro i s hi rfl
    have key : ∀ r : Int, (∀ {β : Type} (k : A → Option β), oIndex 4 1 none (.agg (thingC_regsC t)) (.s (.int .i64 i)) k = k (.s (.int .u64 r))) →
        (∃ s', ref11_Right_l5 (.agg (thingC_regsC t)) (hp t (thingC t)) ([.s (.int .i64 i)], hp t (thingC t)) = some (.inl s') ∧ s' = ([.s (.int .i64 (i + 1 : Nat))], hp t (thingC t))) ∨
        (∃ q, ref11_Right_l5 (.agg (thingC_regsC t)) (hp t (thingC t)) ([.s (.int .i64 i)], hp t (thingC t)) = some (.inr q) ∧ (q = (.ret, [.s (.bool false)], hp t (thingC t)) ∨ q = (.exit 3, [.any], hp t (thingC t)))) := by
      intro r hr
      obtain ⟨c, hc⟩ := Canon_v r
      have hC : ∀ (β : Type) (h : Heap) (kp k : A → Heap → Option β), oLend ref01_Canon [.s (.int .u64 r)] h kp k = k (.s (.int .u64 c)) h := fun β h kp k => oLend_val _ _ _ _ _ _ (by simp) (by simp) hc
      have hlt : ((i : Int) < 4) := by omega
      have hw : IntKind.i64.wrap ((i : Int) + 1) = (i : Int) + 1 := wrap64_id (by omega) (by omega)
      by_cases h : c = r
      · left
        exact ⟨([.s (.int .i64 (i + 1 : Nat))], hp t (thingC t)), by simp [ref11_Right_l5, hlt, hr, hC, h, hw, trim, allBelow], rfl⟩
      · right
        exact ⟨_, by simp [ref11_Right_l5, hlt, hr, hC, h, hw, trim, allBelow], .inl rfl⟩
    rcases (show i = 0 ∨ i = 1 ∨ i = 2 ∨ i = 3 by omega) with rfl | rfl | rfl | rfl
    · exact key t.r0 fun k => by simp [oIndex_agg, thingC_regsC, cellsAt]
    · exact key t.r1 fun k => by simp [oIndex_agg, thingC_regsC, cellsAt]
    · exact key t.r2 fun k => by simp [oIndex_agg, thingC_regsC, cellsAt]
    · exact key t.r3 fun k => by simp [oIndex_agg, thingC_regsC, cellsAt]
  · rintro s rfl
    exact ⟨_, by simp [ref11_Right_l5, trim, allBelow], .inr rfl⟩

/-- The slots. -/
theorem Right_slots (t : Thing) : ∃ q : Ex × List A × Heap, (q = (.ret, [.s (.bool false)], hp t (thingC t)) ∨ q = (.exit 5, [.any], hp t (thingC t))) ∧
    ∀ {β : Type} (k : Ex → List A → Heap → Option β), oLoop (ref11_Right_l11 (.agg (thingC_slotsC t)) (hp t (thingC t))) ([.s (.int .i64 0)], hp t (thingC t)) k = k q.1 q.2.1 q.2.2 := by
  have hid : ∀ (β : Type) (id : Int) (h : Heap) (kp k : A → Heap → Option β), oLend ref11_id [.s (.int .u64 id)] h kp k = k (.s (.bool (decide (1 ≤ id ∧ id < 281474976710656)))) h := fun β id h kp k =>
    oLend_val _ _ _ _ _ _ (by simp) (by simp) (ref11_id_v id)
  refine oLoop_inv' (fun i s => s = ([.s (.int .i64 i)], hp t (thingC t))) (fun q => q = (.ret, [.s (.bool false)], hp t (thingC t)) ∨ q = (.exit 5, [.any], hp t (thingC t))) 4 rfl (by decide) ?_ ?_
  · rintro i s hi rfl
    have key : ∀ r : T.Slot, (∀ {β : Type} (k : A → Option β), oIndex 4 2 (some 2) (.agg (thingC_slotsC t)) (.s (.int .i64 i)) k = k (.agg (slotC r))) →
        (∃ s', ref11_Right_l11 (.agg (thingC_slotsC t)) (hp t (thingC t)) ([.s (.int .i64 i)], hp t (thingC t)) = some (.inl s') ∧ s' = ([.s (.int .i64 (i + 1 : Nat))], hp t (thingC t))) ∨
        (∃ q, ref11_Right_l11 (.agg (thingC_slotsC t)) (hp t (thingC t)) ([.s (.int .i64 i)], hp t (thingC t)) = some (.inr q) ∧ (q = (.ret, [.s (.bool false)], hp t (thingC t)) ∨ q = (.exit 5, [.any], hp t (thingC t)))) := by
      intro r hr
      have hlt : ((i : Int) < 4) := by omega
      have hw : IntKind.i64.wrap ((i : Int) + 1) = (i : Int) + 1 := wrap64_id (by omega) (by omega)
      have hz : eqCells [true, true] (slotC r) [.s (.int .u64 0), .s (.int .u64 0)] = some (decide (r = ⟨0, 0⟩)) := eqCells_slot r ⟨0, 0⟩
      have hput : putCells [A.s (.int .u64 0), .s (.int .u64 0)] 0 (slotC r) = slotC r := rfl
      by_cases hzr : r = ⟨0, 0⟩
      · left
        have hz' : eqCells [true, true] (slotC r) [.s (.int .u64 0), .s (.int .u64 0)] = some true := by rw [hz]; simp [hzr]
        exact ⟨([.s (.int .i64 (i + 1 : Nat))], hp t (thingC t)), by simp [ref11_Right_l11, ref11_Right_k10, hlt, hr, hz', hw, trim, allBelow, hput], rfl⟩
      · by_cases h1 : 1 ≤ r.dir ∧ r.dir < 281474976710656
        · by_cases h2 : 1 ≤ r.seg ∧ r.seg < 281474976710656
          · left
            exact ⟨([.s (.int .i64 (i + 1 : Nat))], hp t (thingC t)), by simp [ref11_Right_l11, ref11_Right_k10, hlt, hr, hz, hzr, hid, h1, h2, hw, trim, allBelow, hput], rfl⟩
          · right
            exact ⟨_, by simp [ref11_Right_l11, ref11_Right_k10, hlt, hr, hz, hzr, hid, h1, h2, hw, trim, allBelow, hput], .inl rfl⟩
        · right
          exact ⟨_, by simp [ref11_Right_l11, ref11_Right_k10, hlt, hr, hz, hzr, hid, h1, hw, trim, allBelow, hput], .inl rfl⟩
    rcases (show i = 0 ∨ i = 1 ∨ i = 2 ∨ i = 3 by omega) with rfl | rfl | rfl | rfl
    · exact key t.s0 fun k => by simp [oIndex_agg, thingC_slotsC, cellsAt, slotC]
    · exact key t.s1 fun k => by simp [oIndex_agg, thingC_slotsC, cellsAt, slotC]
    · exact key t.s2 fun k => by simp [oIndex_agg, thingC_slotsC, cellsAt, slotC]
    · exact key t.s3 fun k => by simp [oIndex_agg, thingC_slotsC, cellsAt, slotC]
  · rintro s rfl
    exact ⟨_, by simp [ref11_Right_l11, trim, allBelow], .inr rfl⟩

theorem okBare {t u : Thing} (ok : okT1 t) (h1 : u.label = t.label) (h2 : u.clear = t.clear ∨ u.clear = ⟨0, []⟩) (h3 : u.links = t.links) (h4 : u.data = t.data ∨ u.data = []) : okT1 u := by
  refine ⟨by rw [h1]; exact ok.label, ?_, by rw [h3]; exact ok.links, ?_⟩
  · rcases h2 with h | h
    · rw [h]; exact ok.clear
    · rw [h]; decide
  · rcases h4 with h | h
    · rw [h]; exact ok.data
    · rw [h]; intro n hn; cases hn

/-- Threads. -/
theorem Right_thr (t : Thing) (ok : okT1 t) (hk : t.kind = 2) : ∃ b : Bool, ref11_Right_k14 [] (.ptr 0 0 0 0) .normal [.s (.bool false)] [Go.Ab.Slot.live ⟨0, 26, [thingC t]⟩] = some (.ok (.s (.bool b)), []) ∧
    (b = true → lr t.clear = true ∧ t.links = [] ∧ t.data = []) := by
  obtain ⟨q, hQ, hq⟩ := Right_regs t
  have hpl : (putCells (thingC t) 4 [.s (.int .i64 0), .s (.slice none 0 0)]).length = 26 := rfl
  have hrun : ref11_Right_k14 [] (.ptr 0 0 0 0) .normal [.s (.bool false)] [Go.Ab.Slot.live ⟨0, 26, [thingC t]⟩] =
      oJoin (oLoop (ref11_Right_l5 (.agg (thingC_regsC t)) (hp t (thingC t))) ([.s (.int .i64 0)], hp t (thingC t)) (ref11_Right_k7 (.ptr 0 0 0 0) (hp t (thingC t)) (.ptr 1 0 0 0))) (ref11_Right_k13 (.ptr 0 0 0 0) (.ptr 1 0 0 0) []) := by
    simp [ref11_Right_k14, hk]
  rw [hrun, hq]
  have hcl : ∀ (β : Type) (h : Heap) (kp k : A → Heap → Option β), oLend ref11_clean [.agg (labelC t.clear)] h kp k = k (.s (.bool (lr t.clear && pure t.clear))) h := fun β h kp k =>
    oLend_val _ _ _ _ _ _ (by simp) (by simp) (clean_v _ ok.clear)
  have hput : putCells (putCells (putCells (putCells (putCells (thingC t) 4 [.s (.int .i64 0), .s (.slice none 0 0)]) 10 [.s (.int .u64 0), .s (.int .u64 0), .s (.int .u64 0), .s (.int .u64 0)]) 14 [.s (.int .i64 0)]) 15 [.s (.int .i64 0)]) 16 [.s (.bool false)] = rowThr t := rfl
  rcases hQ with rfl | rfl
  · exact ⟨false, by simp [ref11_Right_k7, ref11_Right_k13, trim, allBelow, finish_val], by simp⟩
  · by_cases c1 : lr t.clear = true ∧ pure t.clear = true
    · by_cases d : 0 ≤ t.minted ∧ t.minted ≤ 31 ∧ 0 ≤ t.boot ∧ t.boot ≤ 255
      · obtain ⟨d1, d2, d3, d4⟩ := d
        obtain ⟨c1, c2⟩ := c1
        have e1 : ¬ t.minted < 0 := by omega
        have e2 : ¬ 31 < t.minted := by omega
        have e3 : ¬ t.boot < 0 := by omega
        have e4 : ¬ 255 < t.boot := by omega
        have hE := Right_end t ok (rowThr t) (bareThr t) 1 .any rfl rfl (by simp [rowThr]) rfl (by simp [rowThr, thingC, bareThr]) (okBare ok rfl (.inr rfl) rfl (.inl rfl))
        refine ⟨decide (t.quota = 1) && decide (bareThr t = bareT t.id t.kind t.label t.quota), ?_, ?_⟩
        · simp [ref11_Right_k7, ref11_Right_k6, hcl, c1, c2, e1, e2, e3, e4, trim, allBelow, putCells_len, hput, hE]
        · simp only [Bool.and_eq_true, decide_eq_true_eq]
          rintro ⟨_, h⟩
          exact ⟨c1, congrArg Thing.links h, congrArg Thing.data h⟩
      · have : t.minted < 0 ∨ 31 < t.minted ∨ t.boot < 0 ∨ 255 < t.boot := by omega
        obtain ⟨c1, c2⟩ := c1
        refine ⟨false, ?_, by simp⟩
        by_cases e1 : t.minted < 0
        · simp [ref11_Right_k7, ref11_Right_k6, ref11_Right_k13, hcl, c1, c2, e1, trim, allBelow, finish_val]
        by_cases e2 : 31 < t.minted
        · simp [ref11_Right_k7, ref11_Right_k6, ref11_Right_k13, hcl, c1, c2, e1, e2, trim, allBelow, finish_val]
        by_cases e3 : t.boot < 0
        · simp [ref11_Right_k7, ref11_Right_k6, ref11_Right_k13, hcl, c1, c2, e1, e2, e3, trim, allBelow, finish_val]
        by_cases e4 : 255 < t.boot
        · simp [ref11_Right_k7, ref11_Right_k6, ref11_Right_k13, hcl, c1, c2, e1, e2, e3, e4, trim, allBelow, finish_val]
        exact absurd this (by omega)
    · refine ⟨false, ?_, by simp⟩
      have c1' : (lr t.clear && pure t.clear) = false := by
        cases h1 : lr t.clear <;> cases h2 : pure t.clear <;> simp_all
      simp [ref11_Right_k7, ref11_Right_k6, ref11_Right_k13, hcl, c1', trim, allBelow, finish_val]

/-- Gates. -/
theorem Right_gate (t : Thing) (ok : okT1 t) (hk : t.kind = 3) : ∃ b : Bool, ref11_Right_k14 [] (.ptr 0 0 0 0) .normal [.s (.bool false)] [Go.Ab.Slot.live ⟨0, 26, [thingC t]⟩] = some (.ok (.s (.bool b)), []) ∧
    (b = true → lr t.clear = true ∧ t.links = [] ∧ t.data = []) := by
  have hcl : ∀ (β : Type) (n0 : Nat) (wr : List Nat) (h : Heap) (k : A → Heap → Option β), oCallF n0 wr ref11_clean [.agg (labelC t.clear)] h k = k (.s (.bool (lr t.clear && pure t.clear))) h := fun β n0 wr h k =>
    oCallF_val _ _ _ _ _ _ _ (by simp) (by simp) (clean_v _ ok.clear)
  obtain ⟨c, hc⟩ := Canon_v t.value
  have hC : ∀ (β : Type) (n0 : Nat) (wr : List Nat) (h : Heap) (k : A → Heap → Option β), oCallF n0 wr ref01_Canon [.s (.int .u64 t.value)] h k = k (.s (.int .u64 c)) h := fun β n0 wr h k => oCallF_val _ _ _ _ _ _ _ (by simp) (by simp) hc
  have hput : putCells (putCells (thingC t) 4 [.s (.int .i64 0), .s (.slice none 0 0)]) 17 [.s (.int .u64 0)] = rowGate t := rfl
  by_cases c1 : lr t.clear = true ∧ pure t.clear = true
  · obtain ⟨c1, c2⟩ := c1
    by_cases c3 : c = t.value
    · have hE := Right_end t ok (rowGate t) (bareGate t) 1 (.s (.bool false)) rfl rfl (by simp [rowGate]) rfl (by simp [rowGate, thingC, bareGate]) (okBare ok rfl (.inr rfl) rfl (.inl rfl))
      refine ⟨decide (t.quota = 1) && decide (bareGate t = bareT t.id t.kind t.label t.quota), ?_, ?_⟩
      · simp [ref11_Right_k14, ref11_Right_k8, hk, hcl, hC, c1, c2, c3, trim, allBelow, putCells_len, hput, oLoadD, hE]
      · simp only [Bool.and_eq_true, decide_eq_true_eq]
        rintro ⟨_, h⟩
        exact ⟨c1, congrArg Thing.links h, congrArg Thing.data h⟩
    · exact ⟨false, by simp [ref11_Right_k14, ref11_Right_k8, ref11_Right_k13, hk, hcl, hC, c1, c2, c3, trim, allBelow, oLoadD, finish_val], by simp⟩
  · refine ⟨false, ?_, by simp⟩
    have c1' : (lr t.clear && pure t.clear) = false := by
      cases h1 : lr t.clear <;> cases h2 : pure t.clear <;> simp_all
    simp [ref11_Right_k14, ref11_Right_k8, ref11_Right_k13, hk, hcl, c1', trim, allBelow, oLoadD, finish_val]

/-- Segments. -/
theorem Right_seg (t : Thing) (ok : okT1 t) (hl : t.data.length < 2 ^ 63) (hk : t.kind = 4) : ∃ b : Bool, ref11_Right_k14 [] (.ptr 0 0 0 0) .normal [.s (.bool false)] [Go.Ab.Slot.live ⟨0, 26, [thingC t]⟩] = some (.ok (.s (.bool b)), []) ∧
    (b = true → t.clear.cats = [] ∧ t.links = [] ∧ t.data.length ≤ 128) := by
  have hput : putCells (thingC t) 9 [.s (.slice none 0 0)] = rowSeg t := rfl
  generalize hqv : IntKind.i64.wrap (1 + IntKind.i64.wrap ((t.data.length : Int) / 32)) = qv
  by_cases d1 : (t.data.length : Int) < 32
  · exact ⟨false, by simp [ref11_Right_k14, ref11_Right_k9, ref11_Right_k13, hk, d1, trim, allBelow, finish_val], by simp⟩
  by_cases d2 : (128 : Int) < (t.data.length : Int)
  · exact ⟨false, by simp [ref11_Right_k14, ref11_Right_k9, ref11_Right_k13, hk, d1, d2, trim, allBelow, finish_val], by simp⟩
  by_cases d3 : (t.data.length : Int).tmod 32 = 0
  · have hE := Right_end t ok (rowSeg t) (bareSeg t) qv (.s (.bool false)) rfl rfl (by simp [rowSeg]) rfl (by simp [rowSeg, thingC, bareSeg]) (okBare ok rfl (.inl rfl) rfl (.inr rfl))
    refine ⟨decide (t.quota = qv) && decide (bareSeg t = bareT t.id t.kind t.label t.quota), ?_, ?_⟩
    · simp [ref11_Right_k14, ref11_Right_k9, hk, d1, d2, d3, trim, allBelow, putCells_len, hput, hqv, hE]
    · simp only [Bool.and_eq_true, decide_eq_true_eq]
      rintro ⟨_, h⟩
      exact ⟨congrArg (fun u => u.clear.cats) h, congrArg Thing.links h, by omega⟩
  · exact ⟨false, by simp [ref11_Right_k14, ref11_Right_k9, ref11_Right_k13, hk, d1, d2, d3, trim, allBelow, finish_val], by simp⟩

/-- Spaces. -/
theorem Right_space (t : Thing) (ok : okT1 t) (hk : t.kind = 5) : ∃ b : Bool, ref11_Right_k14 [] (.ptr 0 0 0 0) .normal [.s (.bool false)] [Go.Ab.Slot.live ⟨0, 26, [thingC t]⟩] = some (.ok (.s (.bool b)), []) ∧
    (b = true → t.clear.cats = [] ∧ t.links = [] ∧ t.data = []) := by
  obtain ⟨q, hQ, hq⟩ := Right_slots t
  have hrun : ref11_Right_k14 [] (.ptr 0 0 0 0) .normal [.s (.bool false)] [Go.Ab.Slot.live ⟨0, 26, [thingC t]⟩] =
      oJoin (oLoop (ref11_Right_l11 (.agg (thingC_slotsC t)) (hp t (thingC t))) ([.s (.int .i64 0)], hp t (thingC t)) (ref11_Right_k12 (.ptr 1 0 0 0) (hp t (thingC t)))) (ref11_Right_k13 (.ptr 0 0 0 0) (.ptr 1 0 0 0) []) := by
    simp [ref11_Right_k14, hk]
  rw [hrun, hq]
  have hput : putCells (thingC t) 18 [.s (.int .u64 0), .s (.int .u64 0), .s (.int .u64 0), .s (.int .u64 0), .s (.int .u64 0), .s (.int .u64 0), .s (.int .u64 0), .s (.int .u64 0)] = rowSpace t := rfl
  rcases hQ with rfl | rfl
  · exact ⟨false, by simp [ref11_Right_k12, ref11_Right_k13, trim, allBelow, finish_val], by simp⟩
  · have hE := Right_end t ok (rowSpace t) (bareSpace t) 1 .any rfl rfl (by simp [rowSpace]) rfl (by simp [rowSpace, thingC, bareSpace]) (okBare ok rfl (.inl rfl) rfl (.inl rfl))
    refine ⟨decide (t.quota = 1) && decide (bareSpace t = bareT t.id t.kind t.label t.quota), ?_, ?_⟩
    · simp [ref11_Right_k12, trim, allBelow, putCells_len, hput, hE]
    · simp only [Bool.and_eq_true, decide_eq_true_eq]
      rintro ⟨_, h⟩
      exact ⟨congrArg (fun u => u.clear.cats) h, congrArg Thing.links h, congrArg Thing.data h⟩

/-- Devices. -/
theorem Right_dev (t : Thing) (ok : okT1 t) (hk : t.kind = 6) : ∃ b : Bool, ref11_Right_k14 [] (.ptr 0 0 0 0) .normal [.s (.bool false)] [Go.Ab.Slot.live ⟨0, 26, [thingC t]⟩] = some (.ok (.s (.bool b)), []) ∧
    (b = true → t.clear.cats = [] ∧ t.links = [] ∧ t.data = []) := by
  have hE := Right_end t ok (thingC t) t 1 (.s (.bool false)) rfl rfl (by simp [thingC]) rfl (by simp [thingC]) ok
  refine ⟨decide (t.quota = 1) && decide (t = bareT t.id t.kind t.label t.quota), ?_, ?_⟩
  · simp [ref11_Right_k14, hk, trim, allBelow, hE]
  · simp only [Bool.and_eq_true, decide_eq_true_eq]
    rintro ⟨_, h⟩
    exact ⟨congrArg (fun u => u.clear.cats) h, congrArg Thing.links h, congrArg Thing.data h⟩

/-- Which things can be. -/
theorem Right_v (t : Thing) (ok : okT1 t) (hl : t.data.length < 2 ^ 63) : ∃ b : Bool, ref11_Right [.agg (thingC t)] [] = some (.ok (.s (.bool b)), []) ∧ (b = true → okT t) := by
  by_cases k1 : t.kind = 1
  · obtain ⟨b, h1, h2⟩ := Right_dir t ok k1
    exact ⟨b, h1, fun hb => okT_dir (h2.1 hb)⟩
  rw [Right_start' t ok.label]
  by_cases c : (1 ≤ t.id ∧ t.id < 281474976710656) ∧ lr t.label = true ∧ (t.kind = 2 ∨ t.kind = 3 ∨ pure t.label = true)
  · have hB : (decide (1 ≤ t.id ∧ t.id < 281474976710656) && (lr t.label && (decide (t.kind = 2) || (decide (t.kind = 3) || pure t.label)))) = true := by
      simp [c.1, c.2.1, c.2.2]
    rw [hB]
    have hlab := lr_len _ c.2.1
    have mk : ∀ b : Bool, (b = true → t.clear.cats.length ≤ 6 ∧ t.links = [] ∧ t.data.length ≤ 128) → b = true → okT t := fun b h hb => by
      obtain ⟨h1, h2, h3⟩ := h hb
      exact ⟨c.2.1, by rw [h2]; intro i a b ha; simp at ha, by simp [h2], fun hk => absurd hk k1, ⟨by omega, by omega, by simp [h2], by omega⟩, c.1.1, c.1.2⟩
    by_cases k2 : t.kind = 2
    · obtain ⟨b, h1, h2⟩ := Right_thr t ok k2
      exact ⟨b, h1, mk b fun hb => ⟨lr_len _ (h2 hb).1, (h2 hb).2.1, by simp [(h2 hb).2.2]⟩⟩
    by_cases k3 : t.kind = 3
    · obtain ⟨b, h1, h2⟩ := Right_gate t ok k3
      exact ⟨b, h1, mk b fun hb => ⟨lr_len _ (h2 hb).1, (h2 hb).2.1, by simp [(h2 hb).2.2]⟩⟩
    by_cases k4 : t.kind = 4
    · obtain ⟨b, h1, h2⟩ := Right_seg t ok hl k4
      exact ⟨b, h1, mk b fun hb => ⟨by simp [(h2 hb).1], (h2 hb).2.1, (h2 hb).2.2⟩⟩
    by_cases k5 : t.kind = 5
    · obtain ⟨b, h1, h2⟩ := Right_space t ok k5
      exact ⟨b, h1, mk b fun hb => ⟨by simp [(h2 hb).1], (h2 hb).2.1, by simp [(h2 hb).2.2]⟩⟩
    by_cases k6 : t.kind = 6
    · obtain ⟨b, h1, h2⟩ := Right_dev t ok k6
      exact ⟨b, h1, mk b fun hb => ⟨by simp [(h2 hb).1], (h2 hb).2.1, by simp [(h2 hb).2.2]⟩⟩
    exact ⟨false, by simp [ref11_Right_k14, ref11_Right_k13, k1, k2, k3, k4, k5, k6, trim, allBelow, finish_val], by simp⟩
  · have hB : (decide (1 ≤ t.id ∧ t.id < 281474976710656) && (lr t.label && (decide (t.kind = 2) || (decide (t.kind = 3) || pure t.label)))) = false := by
      simpa using c
    rw [hB]
    exact ⟨false, by simp [ref11_Right_k14, finish_val], by simp⟩
end Go.Ab.T
