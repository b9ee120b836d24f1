/-
  THE DOCUMENT'S THINGS: are two the same?
-/
import Derived.Test.YtffjjeifgejplaaT4
set_option linter.unusedSimpArgs false
set_option linter.unusedVariables false
namespace Go.Ab.T
open Go Go.Ab Go.Ab.F

theorem byte_loop (bs : ByteArray) : ∀ (d i : Nat) (r : List UInt8), i + d = bs.size → ByteArray.toList.loop bs i r = r.reverse ++ bs.data.toList.drop i := by
  intro d
  induction d with
  | zero =>
    intro i r h
    rw [ByteArray.toList.loop, if_neg (by omega), List.drop_of_length_le (by simp; show bs.size ≤ i; omega)]; simp
  | succ d ih =>
    intro i r h
    have hlt : i < bs.size := by omega
    have hl : i < bs.data.toList.length := by simpa using hlt
    rw [ByteArray.toList.loop, if_pos hlt, ih (i + 1) _ (by omega), List.drop_eq_getElem_cons hl]
    have : bs.get! i = bs.data.toList[i] := by
      show bs.data[i]! = _
      rw [Array.getElem!_eq_getD, Array.getD_eq_getD_getElem?, Array.getElem?_eq_getElem (by simpa using hl)]
      simp
    simp [this]
theorem bytes_toList (bs : ByteArray) : bs.toList = bs.data.toList := by
  show ByteArray.toList.loop bs 0 [] = _
  rw [byte_loop bs bs.size 0 [] (by omega)]; simp

def byte (n : Int) : UInt8 := UInt8.ofNat n.toNat
def pushAll : ByteArray → List Int → ByteArray
  | s, [] => s
  | s, n :: r => pushAll (s.push (byte n)) r
theorem strOf_data : ∀ (d : List Int) (s : ByteArray), strOf s (d.map (cellC .u8)).flatten = some (pushAll s d)
  | [], s => rfl
  | n :: d, s => by simpa [cellC, strOf, pushAll, byte] using strOf_data d _
theorem pushAll_data : ∀ (d : List Int) (s : ByteArray), (pushAll s d).data.toList = s.data.toList ++ d.map byte
  | [], s => by simp [pushAll]
  | n :: d, s => by
    rw [pushAll, pushAll_data d]
    simp [ByteArray.push]
def bs (d : List Int) : ByteArray := pushAll .empty d
theorem bs_toList (d : List Int) : (bs d).toList = d.map byte := by
  rw [bytes_toList, bs, pushAll_data]; simp
@[simp] theorem oBytesStr_data {β : Type} (d : List Int) (h : Heap) (k : A → Option β) : oBytesStr (mkF 1 (d.map (cellC .u8))) h k = k (.s (.string (bs d))) := by
  simp only [oBytesStr, rowsOf_mkF, strOf_data, bs]
@[simp] theorem oBytesStr_nil {β : Type} (h : Heap) (k : A → Option β) : oBytesStr (.fsl 0 []) h k = k (.s (.string (bs []))) := oBytesStr_data [] h k
def okBytes (d : List Int) : Prop := ∀ n ∈ d, 0 ≤ n ∧ n < 256
theorem byte_inj {a b : Int} (ha : 0 ≤ a ∧ a < 256) (hb : 0 ≤ b ∧ b < 256) (h : byte a = byte b) : a = b := by
  have h := congrArg UInt8.toNat h
  simp only [byte, UInt8.toNat_ofNat'] at h
  omega
theorem bs_eq {a b : List Int} (ha : okBytes a) (hb : okBytes b) : ((bs a).toList == (bs b).toList) = decide (a = b) := by
  rw [bs_toList, bs_toList]
  by_cases h : a = b
  · simp [h]
  · have : ¬ a.map byte = b.map byte := fun he => h (by
      clear h
      induction a generalizing b with
      | nil => cases b <;> simp at he ⊢
      | cons x a ih =>
        cases b with
        | nil => simp at he
        | cons y b =>
          simp only [List.map_cons, List.cons.injEq] at he
          rw [byte_inj (ha x (by simp)) (hb y (by simp)) he.1, ih (fun n hn => ha n (by simp [hn])) (fun n hn => hb n (by simp [hn])) he.2])
    simp [h, this]

theorem slot_eq (x y : T.Slot) : decide (x = y) = (decide (x.dir = y.dir) && decide (x.seg = y.seg)) := by
  obtain ⟨a, b⟩ := x; obtain ⟨c, d⟩ := y
  by_cases h1 : a = c <;> by_cases h2 : b = d <;> simp [h1, h2]
@[simp] theorem eqCells_regs (a b : Thing) : eqCells [true, true, true, true] (thingC_regsC a) (thingC_regsC b) = some (decide (a.r0 = b.r0) && (decide (a.r1 = b.r1) && (decide (a.r2 = b.r2) && decide (a.r3 = b.r3)))) := by
  simp [thingC_regsC, eqCells]
@[simp] theorem eqCells_slots (a b : Thing) : eqCells [true, true, true, true, true, true, true, true] (thingC_slotsC a) (thingC_slotsC b) =
    some (decide (a.s0 = b.s0) && (decide (a.s1 = b.s1) && (decide (a.s2 = b.s2) && decide (a.s3 = b.s3)))) := by
  simp [thingC_slotsC, slotC, eqCells, slot_eq, Bool.and_assoc]

/-- All but the lists' contents. -/
def flat (a b : Thing) : Bool := decide (a.id = b.id) && decide (a.kind = b.kind) && decide (a.quota = b.quota) && decide (a.next = b.next) && (decide (a.r0 = b.r0) && (decide (a.r1 = b.r1) && (decide (a.r2 = b.r2) && decide (a.r3 = b.r3)))) &&
  decide (a.minted = b.minted) && decide (a.boot = b.boot) && decide (a.halted = b.halted) && decide (a.value = b.value) && (decide (a.s0 = b.s0) && (decide (a.s1 = b.s1) && (decide (a.s2 = b.s2) && decide (a.s3 = b.s3))))

theorem Same_flat (a b : Thing) : ref11_Same [.agg (thingC a), .agg (thingC b)] [] = ref11_Same_k4 [] (.ptr 0 0 0 0) (.ptr 1 0 0 0) .normal [.s (.bool (!flat a b))] [.live ⟨0, 26, [thingC a]⟩, .live ⟨0, 26, [thingC b]⟩] := by
  simp [ref11_Same, trim, allBelow, flat, Bool.or_assoc]

theorem flat_eq (a b : Thing) : decide (a = b) = (flat a b && (decide (a.label = b.label) && (decide (a.clear = b.clear) && (decide (a.data = b.data) && decide (a.links = b.links))))) := by
  rw [Bool.eq_iff_iff]
  simp only [decide_eq_true_eq, flat, Bool.and_eq_true]
  constructor
  · rintro rfl; simp
  · intro h
    obtain ⟨a1, a2, a3, a4, a5, a6, a7, a8, a9, a10, a11, a12, a13, a14, a15, a16, a17, a18, a19, a20⟩ := a
    simp only at h
    simp [h]

/-- What a thing must be for its bytes to be told apart. -/
structure okT1 (t : Thing) : Prop where
  label : t.label.cats.length < 2 ^ 63
  clear : t.clear.cats.length < 2 ^ 63
  links : t.links.length < 2 ^ 63
  data : okBytes t.data

theorem ref11_Same_v (a b : Thing) (ha : okT1 a) (hb : okT1 b) : ref11_Same [.agg (thingC a), .agg (thingC b)] [] = some (.ok (.s (.bool (decide (a = b)))), []) := by
  have hE : ∀ (β : Type) (x y : Label) (h : Heap) (kp k : A → Heap → Option β), x.cats.length < 2 ^ 63 → oLend ref09_Exact [.agg (labelC x), .agg (labelC y)] h kp k = k (.s (.bool (decide (x = y)))) h := fun β x y h kp k hx =>
    oLend_val _ _ _ _ _ _ (by simp) (by simp) (ref09_Exact_v x y hx)
  rw [Same_flat, flat_eq]
  by_cases h1 : flat a b = true
  · have hd := bs_eq ha.data hb.data
    have e1 : ref11_Same_k4 [] (.ptr 0 0 0 0) (.ptr 1 0 0 0) .normal [.s (.bool (!flat a b))] [.live ⟨0, 26, [thingC a]⟩, .live ⟨0, 26, [thingC b]⟩] =
        ref11_Same_k3 [] (.ptr 0 0 0 0) (.ptr 1 0 0 0) .normal [.s (.bool (!decide (a.label = b.label) || (!decide (a.clear = b.clear) || (!decide (a.data = b.data) || !decide ((a.links.length : Int) = b.links.length)))))] [.live ⟨0, 26, [thingC a]⟩, .live ⟨0, 26, [thingC b]⟩] := by
      simp [ref11_Same_k4, h1, hE _ _ _ _ _ _ ha.label, hE _ _ _ _ _ _ ha.clear, trim, allBelow, hd]
    rw [e1, h1]
    by_cases h2 : a.label = b.label
    · by_cases h3 : a.clear = b.clear
      · by_cases h4 : a.data = b.data
        · by_cases hl : a.links.length = b.links.length
          · have hzl : (a.links.zip b.links).length = a.links.length := by simp [hl]
            have hal := ha.links
            simp [ref11_Same_k3, h2, h3, h4, hl]
            refine Eq.trans (oLoop_find (enc := fun i => ([.s (.int .i64 i)], [Go.Ab.Slot.live ⟨0, 26, [thingC a]⟩, Go.Ab.Slot.live ⟨0, 26, [thingC b]⟩])) (fun (p : Link × Link) => !decide (p.1 = p.2))
              (fun p => (Ex.ret, [.s (.bool false)], [Go.Ab.Slot.live ⟨0, 26, [thingC a]⟩, Go.Ab.Slot.live ⟨0, 26, [thingC b]⟩])) (Ex.exit 0, [.any], [Go.Ab.Slot.live ⟨0, 26, [thingC a]⟩, Go.Ab.Slot.live ⟨0, 26, [thingC b]⟩]) (a.links.zip b.links) (by simp) (by omega) ?_ ?_) ?_
            · intro i p hp hi
              obtain ⟨e1, e2⟩ := zip_get hp
              rw [hzl] at hi
              have hi2 : i < b.links.length := by omega
              by_cases he : p.1 = p.2
              · simp [ref11_Same_l1, oLoadD, hi, hi2, oIdxA_mkF _ _ _ _ _ _ _ e1, oIdxA_mkF _ _ _ _ _ _ _ e2, trim, allBelow, he, wrap_succ hi hal]
              · simp [ref11_Same_l1, oLoadD, hi, hi2, oIdxA_mkF _ _ _ _ _ _ _ e1, oIdxA_mkF _ _ _ _ _ _ _ e2, trim, allBelow, he, wrap_succ hi hal]
            · simp [ref11_Same_l1, trim, allBelow, hl]
            · have hz := zip_find a.links b.links hl
              cases hf : (a.links.zip b.links).find? (fun p => !decide (p.1 = p.2)) with
              | none => simp [ref11_Same_k2, finish_val, hz.1 hf]
              | some p =>
                have : ¬ a.links = b.links := fun h => by rw [hz.2 h] at hf; cases hf
                simp [ref11_Same_k2, finish_val, this]
          · have : ¬ a.links = b.links := fun h => hl (by rw [h])
            have hl' : ¬ ((a.links.length : Int) = b.links.length) := by omega
            simp [ref11_Same_k3, h2, h3, h4, hl', this, finish_val]
        · simp [ref11_Same_k3, h2, h3, h4, finish_val]
      · simp [ref11_Same_k3, h2, h3, finish_val]
    · simp [ref11_Same_k3, h2, finish_val]
  · simp [h1, ref11_Same_k4, finish_val]
end Go.Ab.T
