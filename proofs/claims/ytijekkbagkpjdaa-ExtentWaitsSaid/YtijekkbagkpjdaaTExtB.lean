/-
  EXTENTS: what is put back.
-/
import Derived.Test.YtijekkbagkpjdaaTExt
set_option linter.unusedSimpArgs false
set_option linter.unusedVariables false
namespace Go.Ab.T
open Go Go.Ab Go.Ab.F

/-- Two neighbours, as one if they touch. -/
def mergeAt (L : List Extent) (j : Nat) : List Extent :=
  match L[j]?, L[j + 1]? with
  | some x, some y => if eend x = y.start then (L.set j ⟨x.start, IntKind.i64.wrap (x.len + y.len)⟩).take (j + 1) ++ L.drop (j + 2) else L
  | _, _ => L
def insS (fs : List Extent) (e : Extent) : List Extent := fs.take (pos fs e) ++ e :: fs.drop (pos fs e)
def putS (fs : List Extent) (e : Extent) : List Extent := if 0 < pos fs e then mergeAt (mergeAt (insS fs e) (pos fs e)) (pos fs e - 1) else mergeAt (insS fs e) (pos fs e)
theorem insS_len (fs : List Extent) (e : Extent) : (insS fs e).length = fs.length + 1 := by
  have := pos_le fs e
  simp [insS]; omega
theorem insS_at (fs : List Extent) (e : Extent) : (insS fs e)[pos fs e]? = some e := by
  have := pos_le fs e
  rw [insS, List.getElem?_append_right (by rw [List.length_take]; exact Nat.min_le_left _ _), List.length_take, Nat.min_eq_left this]
  simp
theorem mergeAt_len (L : List Extent) (j : Nat) : (mergeAt L j).length ≤ L.length ∧ j < L.length → True := fun _ => trivial
theorem mergeAt_le (L : List Extent) (j : Nat) : (mergeAt L j).length ≤ L.length ∧ L.length ≤ (mergeAt L j).length + 1 := by
  unfold mergeAt
  split
  · rename_i x y hx hy
    have h1 := (List.getElem?_eq_some_iff.1 hy).1
    split
    · simp; omega
    · omega
  · omega
theorem finish_first (v sz n : Nat) (rows : List (List A)) (r : Heap) (hp : idsRows rows = []) (hr : ∀ f, renRows f rows = some rows) :
    finish 1 (.ok (.osl 0 v sz 0 n)) (.live ⟨v, sz, rows⟩ :: r) = some (.ok (.osl 0 v sz 0 n), [.live ⟨v, sz, rows⟩]) := by
  have h1 : reach (.live ⟨v, sz, rows⟩ :: r) reachFuel [0] [0] = [0] := by
    rw [show reachFuel = 99998 + 1 + 1 from rfl, reach, if_pos (by simp), reach]
  have h2 : idx [0] 0 = some 0 := by simp [idx]
  have h3 : List.range 1 = [0] := rfl
  unfold finish
  simp [hp, h3, h1, h2, hr]

theorem del_call (w n i : Nat) (L : List Extent) (o1 o2 : Go.Ab.Slot) (hn : n = L.length) (hi : i < n) {β : Type} (kp k : A → Heap → Option β) :
    oCall (primDelete 2 16) [.osl 0 w 2 0 n, .s (.int .i64 i), .int .i64 ((i : Int) + 1)] [.live ⟨w, 2, L.map extentC⟩, o1, o2] kp k = k (.osl 0 (w + 1) 2 0 (n - 1)) [.live ⟨w + 1, 2, (L.take i ++ L.drop (i + 1)).map extentC⟩, o1, o2] := by
  refine (oCall_delete 2 16 _ 0 w n i (L.map extentC) kp k rfl (by simp [hn]) hi (ext_ids L) (fun f l hl => ?_)).trans ?_
  · induction l with
    | nil => rfl
    | cons a r ih =>
      obtain ⟨x, _, rfl⟩ := List.mem_map.1 (hl a (by simp))
      simp [ih fun y hy => hl y (by simp [hy]), extentC]
  · simp [List.map_take, List.map_drop]

/-- The second look. -/
theorem put_second (L : List Extent) (w j : Nat) (hj : j < L.length) (hl : L.length < 1000000) (e : Extent) (o2 : Go.Ab.Slot) (i2 : o2.ids = []) (objs : Heap) (ho : objs.length = 1) :
    ∃ w', extent_put_k7 [.s (.int .i64 j)] objs .normal [.osl 0 w 2 0 L.length] [.live ⟨w, 2, L.map extentC⟩, .live ⟨0, 2, [extentC e]⟩, o2] =
      some (.ok (.osl 0 w' 2 0 (if 0 < j then mergeAt L (j - 1) else L).length), [.live ⟨w', 2, (if 0 < j then mergeAt L (j - 1) else L).map extentC⟩]) := by
  have r0 := ext_ids L
  have hfin : ∀ (w n : Nat) (M : List Extent) (r : Heap), finish 1 (.ok (.osl 0 w 2 0 n)) (.live ⟨w, 2, M.map extentC⟩ :: r) = some (.ok (.osl 0 w 2 0 n), [.live ⟨w, 2, M.map extentC⟩]) := fun w n M r => finish_first w 2 n _ r (ext_ids M) (fun f => ext_ren f M)
  by_cases hz : j = 0
  · subst hz
    refine ⟨w, ?_⟩
    simp [extent_put_k7, extent_put_k5, extent_put_k6, hfin, ho, r0, trim, allBelow]
  · have hpos : 0 < j := by omega
    have hpos' : (0 : Int) < j := by omega
    have hw1 : IntKind.i64.wrap ((j : Int) - 1) = ((j - 1 : Nat) : Int) := by rw [wrap64_id (by omega) (by omega)]; omega
    have hw2 : IntKind.i64.wrap ((j : Int) + 1) = ((j + 1 : Nat) : Int) := by rw [wrap64_id (by omega) (by omega)]; simp
    have hj1 : j - 1 < L.length := by omega
    have hx : L[j - 1]? = some L[j - 1] := List.getElem?_eq_getElem hj1
    have hy : L[j]? = some L[j] := List.getElem?_eq_getElem hj
    rw [if_pos hpos]
    unfold mergeAt
    rw [show j - 1 + 1 = j by omega, show j - 1 + 2 = j + 1 by omega, hx, hy]
    generalize hxe : L[j - 1] = x at hx
    generalize hye : L[j] = y at hy
    have hE := fun (n0 : Nat) (wr : List Nat) (h : Heap) (k : A → Heap → Option (Ex × List A × Heap)) => end_callF x n0 wr h k
    by_cases hc : eend x = y.start
    · refine ⟨w + 1, ?_⟩
      have hput : putCells (extentC x) 1 [.s (.int .i64 (IntKind.i64.wrap (x.len + y.len)))] = extentC ⟨x.start, IntKind.i64.wrap (x.len + y.len)⟩ := rfl
      have hD := fun (o1 o2 : Go.Ab.Slot) (kp k : A → Heap → Option (Ex × List A × Heap)) => del_call w L.length j (L.set (j - 1) ⟨x.start, IntKind.i64.wrap (x.len + y.len)⟩) o1 o2 (by simp) hj kp k
      have hdrop : (L.set (j - 1) ⟨x.start, IntKind.i64.wrap (x.len + y.len)⟩).drop (j + 1) = L.drop (j + 1) := by
        rw [List.drop_set_of_lt (by omega)]
      rw [hdrop] at hD
      simp only [List.map_set] at hD
      have hlen : ((L.set (j - 1) ⟨x.start, IntKind.i64.wrap (x.len + y.len)⟩).take j ++ L.drop (j + 1)).length = L.length - 1 := by simp; omega
      have r1 := ext_ids ((L.set (j - 1) ⟨x.start, IntKind.i64.wrap (x.len + y.len)⟩).take j ++ L.drop (j + 1))
      simp only [if_pos hc]
      rw [hlen]
      generalize ((L.set (j - 1) ⟨x.start, IntKind.i64.wrap (x.len + y.len)⟩).take j ++ L.drop (j + 1)) = M at hD r1
      simp [extent_put_k7, extent_put_k5, extent_put_k6, hfin, ho, hpos, hpos', hw1, hw2, hj, hj1, hxe, hye, hE, hc, hput, hD, r0, r1, i2, oLoadD, trim, allBelow]
    · refine ⟨w, ?_⟩
      simp only [if_neg hc]
      simp [extent_put_k7, extent_put_k5, extent_put_k6, hfin, ho, hpos, hpos', hw1, hw2, hj, hj1, hxe, hye, hE, hc, r0, i2, oLoadD, trim, allBelow]

theorem pos_insS_lt (fs : List Extent) (e : Extent) : pos fs e < (insS fs e).length := by
  rw [insS_len]; have := pos_le fs e; omega
/-- One more, in the list itself. -/
theorem ins_call (v : Nat) (fs : List Extent) (e : Extent) (hl : fs.length < 1000000) {β : Type} (kp k : A → Heap → Option β) :
    oCall (primInsert 2 16) [.osl 0 v 2 0 fs.length, .s (.int .i64 (pos fs e)), .osl 2 0 2 0 1] [.live ⟨v, 2, fs.map extentC⟩, .live ⟨0, 2, [extentC e]⟩, .live ⟨0, 2, [extentC e]⟩] kp k =
      k (.osl 0 (v + 1) 2 0 (insS fs e).length) [.live ⟨v + 1, 2, (insS fs e).map extentC⟩, .live ⟨0, 2, [extentC e]⟩, .live ⟨0, 2, [extentC e]⟩] := by
  refine (oCall_insert 2 16 _ 0 v fs.length (pos fs e) 2 (fs.map extentC) (extentC e) kp k rfl rfl (by simp) (by decide) (pos_le fs e) (by constructor <;> omega) (ext_ids fs) (by simp) (fun f => ext_ren f fs) (fun f => by simp [extentC])).trans ?_
  rw [insS_len]
  simp [insS, List.map_take, List.map_drop]

set_option maxHeartbeats 1000000 in
theorem put_v (fs : List Extent) (e : Extent) (v : Nat) (hl : fs.length < 900000) : ∃ w, extent_put [.osl 0 v 2 0 fs.length, .agg (extentC e)] [.live ⟨v, 2, fs.map extentC⟩] = some (.ok (.osl 0 w 2 0 (putS fs e).length), [.live ⟨w, 2, (putS fs e).map extentC⟩]) := by
  have hj := pos_insS_lt fs e
  have hL := insS_len fs e
  have hI := fun (kp k : A → Heap → Option (Out × Heap)) => ins_call v fs e (by omega) kp k
  have hlp := fun (k : Ex → List A → Heap → Option (Out × Heap)) => put_loop fs e v (by omega) k
  have r0 := ext_ids fs
  have r1 := ext_ids (insS fs e)
  have hp : extent_put [.osl 0 v 2 0 fs.length, .agg (extentC e)] [.live ⟨v, 2, fs.map extentC⟩] =
      extent_put_k8 (.ptr 1 0 0 0) (.osl 0 v 2 0 fs.length) [.live ⟨v, 2, fs.map extentC⟩] (.exit 0) [.s (.int .i64 (pos fs e))] [.live ⟨v, 2, fs.map extentC⟩, .live ⟨0, 2, [extentC e]⟩] := by
    simp [extent_put, oProm, hlp]
  rw [hp]
  unfold putS
  have hat := insS_at fs e
  generalize insS fs e = L at *
  generalize hjj : pos fs e = j at *
  have hx : L[j]? = some e := hat
  have hxe : L[j] = e := by rw [List.getElem?_eq_getElem hj] at hat; exact Option.some.inj hat
  have hw2 : IntKind.i64.wrap ((j : Int) + 1) = ((j + 1 : Nat) : Int) := by rw [wrap64_id (by omega) (by omega)]; simp
  have hw3 : IntKind.i64.wrap ((j : Int) + 2) = ((j + 2 : Nat) : Int) := by rw [wrap64_id (by omega) (by omega)]; simp
  have hE := fun (n0 : Nat) (wr : List Nat) (h : Heap) (k : A → Heap → Option (Ex × List A × Heap)) => end_callF e n0 wr h k
  have h01 : (0 : Int) ≤ (j : Int) + 1 := by omega
  by_cases hj2 : j + 1 < L.length
  · have hj2i : (j : Int) + 1 < (L.length : Int) := by omega
    have hy : L[j + 1]? = some L[j + 1] := List.getElem?_eq_getElem hj2
    generalize hye : L[j + 1] = y at hy
    by_cases hc : eend e = y.start
    · have hput : putCells (extentC e) 1 [.s (.int .i64 (IntKind.i64.wrap (e.len + y.len)))] = extentC ⟨e.start, IntKind.i64.wrap (e.len + y.len)⟩ := rfl
      have hD := fun (o1 o2 : Go.Ab.Slot) (kp k : A → Heap → Option (Ex × List A × Heap)) => del_call (v + 1) L.length (j + 1) (L.set j ⟨e.start, IntKind.i64.wrap (e.len + y.len)⟩) o1 o2 (by simp) hj2 kp k
      have hm : mergeAt L j = (L.set j ⟨e.start, IntKind.i64.wrap (e.len + y.len)⟩).take (j + 1) ++ (L.set j ⟨e.start, IntKind.i64.wrap (e.len + y.len)⟩).drop (j + 1 + 1) := by
        rw [List.drop_set_of_lt (by omega)]
        simp [mergeAt, hx, hy, hc]
      have hml : (mergeAt L j).length = L.length - 1 := by rw [hm]; simp; omega
      have r2 := ext_ids (mergeAt L j)
      rw [← hm] at hD
      rw [← hml] at hD
      simp only [show (((j + 1 : Nat) : Int) + 1) = (j : Int) + 2 by omega, show ((j + 1 : Nat) : Int) = (j : Int) + 1 by omega, show ((j : Int) + 1 + 1) = (j : Int) + 2 by omega] at hD
      simp only [List.map_set] at hD
      have hjm : j < (mergeAt L j).length := by omega
      obtain ⟨w, hS⟩ := put_second (mergeAt L j) (v + 1 + 1) j hjm (by omega) e (.live ⟨0, 2, [extentC e]⟩) (by simp [Go.Ab.Slot.ids]) [.live ⟨v, 2, fs.map extentC⟩] rfl
      refine ⟨w, ?_⟩
      rw [← hS]
      generalize mergeAt L j = M at hD r2
      simp [extent_put_k8, extent_put_k4, asRows, hI, hj, hj2, hj2i, h01, hx, hxe, hye, hw2, hw3, hE, hc, hput, hD, r0, r1, r2, oLoadD, trim, allBelow]
    · have hm : mergeAt L j = L := by simp [mergeAt, hx, hy, hc]
      rw [hm]
      obtain ⟨w, hS⟩ := put_second L (v + 1) j hj (by omega) e (.live ⟨0, 2, [extentC e]⟩) (by simp [Go.Ab.Slot.ids]) [.live ⟨v, 2, fs.map extentC⟩] rfl
      refine ⟨w, ?_⟩
      rw [← hS]
      simp [extent_put_k8, extent_put_k4, asRows, hI, hj, hj2, hj2i, h01, hx, hxe, hye, hw2, hE, hc, r0, r1, oLoadD, trim, allBelow]
  · have hj2i : ¬ (j : Int) + 1 < (L.length : Int) := by omega
    have hm : mergeAt L j = L := by simp [mergeAt, hx, List.getElem?_eq_none (by omega : L.length ≤ j + 1)]
    rw [hm]
    obtain ⟨w, hS⟩ := put_second L (v + 1) j hj (by omega) e (.live ⟨0, 2, [extentC e]⟩) (by simp [Go.Ab.Slot.ids]) [.live ⟨v, 2, fs.map extentC⟩] rfl
    refine ⟨w, ?_⟩
    rw [← hS]
    simp [extent_put_k8, extent_put_k4, asRows, hI, hj, hj2, hj2i, h01, hx, hxe, hw2, r0, r1, oLoadD, trim, allBelow]
end Go.Ab.T
