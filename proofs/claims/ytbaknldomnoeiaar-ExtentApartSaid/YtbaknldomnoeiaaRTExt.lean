import Derived.Test.YtbaknldomnoeiaaRTKit
import Derived.Test.YtbaknldomnoeiaaRFnF
/-
  EXTENTS: what only reads.
-/
set_option linter.unusedSimpArgs false
set_option linter.unusedVariables false
namespace Go.Ab.T
open Go Go.Ab Go.Ab.F

/-- Where an extent ends. -/
def eend (e : Extent) : Int := IntKind.i64.wrap (e.start + e.len)
theorem end_v (e : Extent) : extent_end [.agg (extentC e)] [] = some (.ok (.s (.int .i64 (eend e))), []) := by
  simp [extent_end, finish_val, eend]
theorem end_callF (e : Extent) {β : Type} (n0 : Nat) (wr : List Nat) (h : Heap) (k : A → Heap → Option β) : oCallF n0 wr extent_end [.agg (extentC e)] h k = k (.s (.int .i64 (eend e))) h :=
  oCallF_val _ _ _ _ _ _ _ (by simp) (by simp) (end_v e)
theorem extentC_d00 (e : Extent) : (extentC e).drop 0 = extentC e := rfl

/-- The first of a list that has a mark. -/
theorem IndexE_v (En : String → CallFn) (nm : String) (caps : List A) (p : Extent → Bool) (xs : List Extent) (hp : pureL caps = true) (hc : ∀ x ∈ xs, En nm (.agg (extentC x) :: caps) [] = some (.ok (.s (.bool (p x))), [])) (hl : xs.length < 2 ^ 63) :
    ∃ n : Int, slices_IndexFunc_Sapi_Extent_api_Extent En [mkF 2 (xs.map extentC), .fn nm caps] [] = some (.ok (.s (.int .i64 n)), []) ∧ decide (0 ≤ n) = xs.any p := by
  simp only [slices_IndexFunc_Sapi_Extent_api_Extent, oLen_mkF, List.length_map]
  obtain ⟨q, hQ, hq⟩ := oLoop_inv' (step := slices_IndexFunc_Sapi_Extent_api_Extent_l1 En (.s (.int .i64 xs.length)) (mkF 2 (xs.map extentC)) (.fn nm caps) []) (s0 := ([.s (.int .i64 0)], []))
    (fun i s => s = ([.s (.int .i64 i)], []) ∧ ∀ (j : Nat) x, j < i → xs[j]? = some x → p x = false) (fun q => (∃ n : Nat, q = (.ret, [.s (.int .i64 n)], []) ∧ xs.any p = true) ∨ q = (.exit 0, [.any], []) ∧ xs.any p = false) xs.length ⟨rfl, fun j x hj => by omega⟩ hl
    (by
      rintro i s hi ⟨rfl, hT⟩
      have hx : xs[i]? = some xs[i] := List.getElem?_eq_getElem hi
      have hm := List.mem_of_getElem? hx
      generalize xs[i] = x at hx hm
      have hw := wrap_succ hi hl
      have hC : ∀ (β : Type) (h : Heap) (kp k : A → Heap → Option β), oLend (En nm) (.agg (extentC x) :: caps) h kp k = k (.s (.bool (p x))) h := fun β h kp k => oLend_val _ _ _ _ _ _ (by simp [hp]) (by simp) (hc x hm)
      cases hpx : p x with
      | true => exact .inr ⟨_, by simp [slices_IndexFunc_Sapi_Extent_api_Extent_l1, hi, oIdxA_mkF _ _ _ _ _ _ _ hx, hC, hpx, trim, allBelow], .inl ⟨i, rfl, List.any_eq_true.2 ⟨x, hm, hpx⟩⟩⟩
      | false =>
        refine .inl ⟨([.s (.int .i64 (i + 1 : Nat))], []), by simp [slices_IndexFunc_Sapi_Extent_api_Extent_l1, hi, oIdxA_mkF _ _ _ _ _ _ _ hx, hC, hpx, hw, trim, allBelow], rfl, fun j y hj hy => ?_⟩
        rcases Nat.lt_or_ge j i with h | h
        · exact hT j y h hy
        · obtain rfl : j = i := by omega
          rw [hx] at hy; cases hy; exact hpx)
    (by
      rintro s ⟨rfl, hT⟩
      refine ⟨(.exit 0, [.any], []), by simp [slices_IndexFunc_Sapi_Extent_api_Extent_l1, trim, allBelow], .inr ⟨rfl, ?_⟩⟩
      rw [List.any_eq_false]
      intro x hx
      obtain ⟨j, hj, rfl⟩ := List.mem_iff_getElem.1 hx
      simpa using hT j _ hj (List.getElem?_eq_getElem hj))
  have hq' := fun (k : Ex → List A → Heap → Option (Out × Heap)) => hq k
  rcases hQ with ⟨n, rfl, h⟩ | ⟨rfl, h⟩
  · exact ⟨n, by rw [hq']; simp [slices_IndexFunc_Sapi_Extent_api_Extent_k2, finish_val], by rw [h]; simp⟩
  · exact ⟨-1, by rw [hq']; simp [slices_IndexFunc_Sapi_Extent_api_Extent_k2, finish_val], by rw [h]; simp⟩
theorem ContainsE_v (En : String → CallFn) (nm : String) (caps : List A) (p : Extent → Bool) (xs : List Extent) (hp : pureL caps = true) (hc : ∀ x ∈ xs, En nm (.agg (extentC x) :: caps) [] = some (.ok (.s (.bool (p x))), [])) (hl : xs.length < 2 ^ 63) :
    slices_ContainsFunc_Sapi_Extent_api_Extent En [mkF 2 (xs.map extentC), .fn nm caps] [] = some (.ok (.s (.bool (xs.any p))), []) := by
  obtain ⟨n, h1, h2⟩ := IndexE_v En nm caps p xs hp hc hl
  have hC : ∀ (β : Type) (h : Heap) (kp k : A → Heap → Option β), oLend (slices_IndexFunc_Sapi_Extent_api_Extent En) [mkF 2 (xs.map extentC), .fn nm caps] h kp k = k (.s (.int .i64 n)) h := fun β h kp k => oLend_val _ _ _ _ _ _ (by simp [pureA, hp]) (by simp) h1
  simp [slices_ContainsFunc_Sapi_Extent_api_Extent, hC, finish_val, ← h2]

def meetsB (e x : Extent) : Bool := decide (x.start < eend e) && decide (e.start < eend x)
theorem meets_c1_v (x e : Extent) : extent_meets_c1 [.agg (extentC x), .cptr (extentC e)] [] = some (.ok (.s (.bool (meetsB e x))), []) := by
  have h1 := fun (n0 : Nat) (wr : List Nat) (h : Heap) (k : A → Heap → Option (Out × Heap)) => end_callF e n0 wr h k
  have h2 := fun (n0 : Nat) (wr : List Nat) (h : Heap) (k : A → Heap → Option (Out × Heap)) => end_callF x n0 wr h k
  unfold meetsB
  by_cases c1 : x.start < eend e <;> simp [extent_meets_c1, h1, h2, c1, oLoadD, finish_val]
theorem meets_v (fs : List Extent) (e : Extent) (hl : fs.length < 2 ^ 63) : extent_meets [mkF 2 (fs.map extentC), .agg (extentC e)] [] = some (.ok (.s (.bool (fs.any (meetsB e)))), []) := by
  have hC : ∀ (β : Type) (kp k : A → Heap → Option β), oLend (slices_ContainsFunc_Sapi_Extent_api_Extent En_extent_meets) [mkF 2 (fs.map extentC), .fn "bailey/extent.meets$1" [.ptr 0 0 0 0]] [.live ⟨0, 2, [extentC e]⟩] kp k = k (.s (.bool (fs.any (meetsB e)))) [.live ⟨0, 2, [extentC e]⟩] := fun β kp k =>
    oLend_lent _ _ [mkF 2 (fs.map extentC), .fn "bailey/extent.meets$1" [.cptr (extentC e)]] _ _ _ _ (by
      simp only [show (idsL [mkF 2 (fs.map extentC), A.fn "bailey/extent.meets$1" [.ptr 0 0 0 0]]).isEmpty = false by simp, Bool.false_eq_true, if_false]
      exact lend_cap1 _ _ 0 2 _ _ (by simp) (by simp) rfl (by simp)) (by simp) rfl (ContainsE_v _ _ _ _ _ (by simp [pureA]) (fun x _ => by simpa [En_extent_meets] using meets_c1_v x e) hl)
  simp [extent_meets, hC, finish_val]

def withinB (e x : Extent) : Bool := decide (x.start ≤ e.start) && decide (eend e ≤ eend x)
theorem within_c1_v (x e : Extent) : extent_within_c1 [.agg (extentC x), .cptr (extentC e)] [] = some (.ok (.s (.bool (withinB e x))), []) := by
  have h1 := fun (n0 : Nat) (wr : List Nat) (h : Heap) (k : A → Heap → Option (Out × Heap)) => end_callF e n0 wr h k
  have h2 := fun (n0 : Nat) (wr : List Nat) (h : Heap) (k : A → Heap → Option (Out × Heap)) => end_callF x n0 wr h k
  unfold withinB
  by_cases c1 : x.start ≤ e.start <;> simp [extent_within_c1, h1, h2, c1, oLoadD, finish_val]
theorem within_v (fs : List Extent) (e : Extent) (hl : fs.length < 2 ^ 63) : extent_within [mkF 2 (fs.map extentC), .agg (extentC e)] [] = some (.ok (.s (.bool (fs.any (withinB e)))), []) := by
  have hC : ∀ (β : Type) (kp k : A → Heap → Option β), oLend (slices_ContainsFunc_Sapi_Extent_api_Extent En_extent_within) [mkF 2 (fs.map extentC), .fn "bailey/extent.within$1" [.ptr 0 0 0 0]] [.live ⟨0, 2, [extentC e]⟩] kp k = k (.s (.bool (fs.any (withinB e)))) [.live ⟨0, 2, [extentC e]⟩] := fun β kp k =>
    oLend_lent _ _ [mkF 2 (fs.map extentC), .fn "bailey/extent.within$1" [.cptr (extentC e)]] _ _ _ _ (by
      simp only [show (idsL [mkF 2 (fs.map extentC), A.fn "bailey/extent.within$1" [.ptr 0 0 0 0]]).isEmpty = false by simp, Bool.false_eq_true, if_false]
      exact lend_cap1 _ _ 0 2 _ _ (by simp) (by simp) rfl (by simp)) (by simp) rfl (ContainsE_v _ _ _ _ _ (by simp [pureA]) (fun x _ => by simpa [En_extent_within] using within_c1_v x e) hl)
  simp [extent_within, hC, finish_val]

/-- A map, frozen. -/
def mapF (T : Int) (fs ls : List Extent) : List A := [.s (.int .i64 T), mkF 2 (fs.map extentC), mkF 2 (ls.map extentC)]
@[simp] theorem mapF_0 (T : Int) (fs ls : List Extent) : (mapF T fs ls)[0]? = some (.s (.int .i64 T)) := _root_.id rfl
@[simp] theorem mapF_1 (T : Int) (fs ls : List Extent) : (mapF T fs ls)[1]? = some (mkF 2 (fs.map extentC)) := _root_.id rfl
@[simp] theorem mapF_2 (T : Int) (fs ls : List Extent) : (mapF T fs ls)[2]? = some (mkF 2 (ls.map extentC)) := _root_.id rfl
@[simp] theorem mapF_d0 (T : Int) (fs ls : List Extent) : ((mapF T fs ls).drop 0)[0]? = some (.s (.int .i64 T)) := _root_.id rfl
@[simp] theorem mapF_d1 (T : Int) (fs ls : List Extent) : ((mapF T fs ls).drop 1)[0]? = some (mkF 2 (fs.map extentC)) := _root_.id rfl
@[simp] theorem mapF_d2 (T : Int) (fs ls : List Extent) : ((mapF T fs ls).drop 2)[0]? = some (mkF 2 (ls.map extentC)) := _root_.id rfl
@[simp] theorem mapF_pure (T : Int) (fs ls : List Extent) : pureL (mapF T fs ls) = true := by simp [mapF]
@[simp] theorem mapF_ids (T : Int) (fs ls : List Extent) : idsL (mapF T fs ls) = [] := by simp [mapF]

def thereB (T : Int) (e : Extent) : Bool := decide (1 ≤ e.len) && (decide (e.len ≤ T) && (decide (0 ≤ e.start) && decide (e.start ≤ IntKind.i64.wrap (T - e.len))))
theorem there_v (T : Int) (fs ls : List Extent) (e : Extent) : extent_Map_there [.cptr (mapF T fs ls), .agg (extentC e)] [] = some (.ok (.s (.bool (thereB T e))), []) := by
  unfold thereB
  by_cases c1 : 1 ≤ e.len
  · by_cases c2 : e.len ≤ T
    · by_cases c3 : 0 ≤ e.start <;> simp [extent_Map_there, c1, c2, c3, oLoadD, finish_val]
    · simp [extent_Map_there, c1, c2, oLoadD, finish_val]
  · simp [extent_Map_there, c1, oLoadD, finish_val]
def takenB (T : Int) (fs ls : List Extent) (e : Extent) : Bool := thereB T e && (!fs.any (meetsB e) && !ls.any (meetsB e))
theorem taken_v (T : Int) (fs ls : List Extent) (e : Extent) (h1 : fs.length < 2 ^ 63) (h2 : ls.length < 2 ^ 63) : extent_Map_taken [.cptr (mapF T fs ls), .agg (extentC e)] [] = some (.ok (.s (.bool (takenB T fs ls e))), []) := by
  have c1 : ∀ (n0 : Nat) (wr : List Nat) (h : Heap) (k : A → Heap → Option (Out × Heap)), oCallF n0 wr extent_Map_there [.cptr (mapF T fs ls), .agg (extentC e)] h k = k (.s (.bool (thereB T e))) h := fun n0 wr h k => oCallF_val _ _ _ _ _ _ _ (by simp [pureA]) (by simp) (there_v T fs ls e)
  have c2 : ∀ (n0 : Nat) (wr : List Nat) (h : Heap) (k : A → Heap → Option (Out × Heap)), oCallF n0 wr extent_meets [mkF 2 (fs.map extentC), .agg (extentC e)] h k = k (.s (.bool (fs.any (meetsB e)))) h := fun n0 wr h k => oCallF_val _ _ _ _ _ _ _ (by simp) (by simp) (meets_v fs e h1)
  have c3 : ∀ (n0 : Nat) (wr : List Nat) (h : Heap) (k : A → Heap → Option (Out × Heap)), oCallF n0 wr extent_meets [mkF 2 (ls.map extentC), .agg (extentC e)] h k = k (.s (.bool (ls.any (meetsB e)))) h := fun n0 wr h k => oCallF_val _ _ _ _ _ _ _ (by simp) (by simp) (meets_v ls e h2)
  unfold takenB
  generalize thereB T e = b at c1
  generalize fs.any (meetsB e) = b2 at c2
  generalize ls.any (meetsB e) = b3 at c3
  cases b
  · simp [extent_Map_taken, c1, oLoadD, finish_val]
  · cases b2 <;> simp [extent_Map_taken, c1, c2, c3, oLoadD, finish_val]

def countS (fs : List Extent) : Int := fs.foldl (fun n x => IntKind.i64.wrap (n + x.len)) 0
theorem Count_v (T : Int) (fs ls : List Extent) (h1 : fs.length < 2 ^ 63) : extent_Map_Count [.cptr (mapF T fs ls)] [] = some (.ok (.s (.int .i64 (countS fs))), []) := by
  simp [extent_Map_Count]
  refine Eq.trans (oLoop_fold (enc := fun i n => ([.s (.int .i64 n), .s (.int .i64 i)], ([] : Heap))) (fun n (x : Extent) => IntKind.i64.wrap (n + x.len))
    (fun n => (Ex.exit 0, [.s (.int .i64 n)], [])) fs 0 rfl h1 ?_ ?_) ?_
  · intro i n c hc hi
    have hput : putCells [A.s (.int .i64 0), .s (.int .i64 0)] 0 (extentC c) = extentC c := rfl
    simp [extent_Map_Count_l1, oIdxA_mkF _ _ _ _ _ _ _ hc, hi, wrap_succ hi h1, hput, trim, allBelow]
  · intro n
    simp [extent_Map_Count_l1, trim, allBelow]
  · simp [extent_Map_Count_k2, finish_val, countS]

/-! cutting -/
def cutOne (e x : Extent) : List Extent :=
  if e.start < x.start ∨ eend x < eend e then [x] else
    (if x.start < e.start then [⟨x.start, IntKind.i64.wrap (e.start - x.start)⟩] else []) ++ (if eend e < eend x then [⟨eend e, IntKind.i64.wrap (eend x - eend e)⟩] else [])
def cutS (e : Extent) (fs : List Extent) : List Extent := fs.flatMap (cutOne e)
theorem cutS_succ (e : Extent) (fs : List Extent) (i : Nat) (x : Extent) (h : fs[i]? = some x) : cutS e (fs.take (i + 1)) = cutS e (fs.take i) ++ cutOne e x := by
  rw [List.take_add_one, h]; simp [cutS]
theorem cutOne_le (e x : Extent) : (cutOne e x).length ≤ 2 := by unfold cutOne; split <;> (try split) <;> (try split) <;> simp
theorem cutS_le (e : Extent) (fs : List Extent) : (cutS e fs).length ≤ 2 * fs.length := by
  induction fs with
  | nil => simp [cutS]
  | cons a fs ih =>
    have := cutOne_le e a
    simp only [cutS, List.flatMap_cons, List.length_append, List.length_cons] at *
    omega
theorem ext_ids (l : List Extent) : idsRows (l.map extentC) = [] := idsRows_map _ extentC_ids l
theorem ext_ren (f : Nat → Option Nat) (l : List Extent) : renRows f (l.map extentC) = some (l.map extentC) := renRows_map f extentC (fun x => by simp [extentC]) l
theorem ext_pure (l : List Extent) : pureRows (l.map extentC) = true := pureRows_map _ (fun x => by simp) l
theorem ext_ids1 (l : List Extent) (x : Extent) : idsRows (l.map extentC ++ [extentC x]) = [] := by have := ext_ids (l ++ [x]); rwa [List.map_append] at this
theorem app_e3 (ver : Nat) (rows : List Extent) (x : Extent) (o0 o2 : Go.Ab.Slot) (hap : appendOk (rows.length + 1) 16) {β : Type} (k : A → Heap → Option β) :
    oAppend none 2 16 (.osl 1 ver 2 0 rows.length) (.osl 3 0 2 0 1) [o0, .live ⟨ver, 2, rows.map extentC⟩, o2, .live ⟨0, 2, [extentC x]⟩] k =
      k (.osl 1 (ver + 1) 2 0 (rows.length + 1)) [o0, .live ⟨ver + 1, 2, rows.map extentC ++ [extentC x]⟩, o2, .live ⟨0, 2, [extentC x]⟩] := by
  simp [oAppend_osl, rowsOf_osl, hap, List.take_of_length_le]
theorem app_e4 (ver : Nat) (rows : List Extent) (x : Extent) (o0 o2 : Go.Ab.Slot) (hap : appendOk (rows.length + 1) 16) {β : Type} (k : A → Heap → Option β) :
    oAppend (some 4) 2 16 (.osl 1 ver 2 0 rows.length) (.osl 3 0 2 0 1) [o0, .live ⟨ver, 2, rows.map extentC⟩, o2, .live ⟨0, 2, [extentC x]⟩, .res] k =
      k (.osl 1 (ver + 1) 2 0 (rows.length + 1)) [o0, .live ⟨ver + 1, 2, rows.map extentC ++ [extentC x]⟩, o2, .live ⟨0, 2, [extentC x]⟩, .res] := by
  simp [oAppend_osl, rowsOf_osl, hap, List.take_of_length_le]

def cSt (e : Extent) (out : List Extent) (ver i : Nat) : List A × Heap := ([.osl 1 ver 2 0 out.length, .s (.int .i64 i)], [.live ⟨0, 2, [extentC e]⟩, .live ⟨ver, 2, out.map extentC⟩])
set_option maxHeartbeats 1000000 in
theorem cut_step (fs : List Extent) (e : Extent) (hl : fs.length < 1000000) (h5 : Heap) (hh : h5.length = 2) (i : Nat) (hi : i < fs.length) (ver : Nat) (out : List Extent) (ho : out.length < 3000000) :
    ∃ ver', extent_cut_l4 (.s (.int .i64 fs.length)) (mkF 2 (fs.map extentC)) (.ptr 0 0 0 0) h5 (cSt e out ver i) = some (.inl (cSt e (out ++ cutOne e fs[i]) ver' (i + 1))) := by
  have hx : fs[i]? = some fs[i] := List.getElem?_eq_getElem hi
  generalize fs[i] = x at hx
  have hw := wrap_succ hi (by omega)
  have hap : appendOk (out.length + 1) 16 := by constructor <;> omega
  have hap2 : appendOk (out.length + 1 + 1) 16 := by constructor <;> omega
  have hput : putCells [A.s (.int .i64 0), .s (.int .i64 0)] 0 (extentC x) = extentC x := rfl
  have hE1 := fun (n0 : Nat) (wr : List Nat) (h : Heap) (k : A → Heap → Option (Ex × List A × Heap)) => end_callF e n0 wr h k
  have hE2 := fun (n0 : Nat) (wr : List Nat) (h : Heap) (k : A → Heap → Option (Ex × List A × Heap)) => end_callF x n0 wr h k
  have r0 := ext_ids out
  by_cases c1 : e.start < x.start
  · have hA := fun (o0 o2 : Go.Ab.Slot) (k : A → Heap → Option (Ex × List A × Heap)) => app_e3 ver out x o0 o2 hap k
    have r1 := ext_ids1 out x
    have hc : cutOne e x = [x] := by simp [cutOne, c1]
    refine ⟨ver + 1, ?_⟩
    rw [hc]
    simp [extent_cut_l4, extent_cut_k2, extent_cut_k3, cSt, hi, oIdxA_mkF _ _ _ _ _ _ _ hx, hput, hE1, hE2, c1, hA, r0, r1, hw, hh, oLoadD, trim, allBelow]
  · by_cases c2 : eend x < eend e
    · have hA := fun (o0 o2 : Go.Ab.Slot) (k : A → Heap → Option (Ex × List A × Heap)) => app_e3 ver out x o0 o2 hap k
      have r1 := ext_ids1 out x
      have hc : cutOne e x = [x] := by simp [cutOne, c2]
      refine ⟨ver + 1, ?_⟩
      rw [hc]
      simp [extent_cut_l4, extent_cut_k2, extent_cut_k3, cSt, hi, oIdxA_mkF _ _ _ _ _ _ _ hx, hput, hE1, hE2, c1, c2, hA, r0, r1, hw, hh, oLoadD, trim, allBelow]
    · have hB : ∀ (a b : Int), putCells [A.s (.int .i64 0), .s (.int .i64 0)] 0 [.s (.int .i64 a)] = [.s (.int .i64 a), .s (.int .i64 0)] := fun a b => rfl
      by_cases c3 : x.start < e.start
      · have hA := fun (o0 o2 : Go.Ab.Slot) (k : A → Heap → Option (Ex × List A × Heap)) => app_e3 ver out ⟨x.start, IntKind.i64.wrap (e.start - x.start)⟩ o0 o2 hap k
        have r1 := ext_ids1 out ⟨x.start, IntKind.i64.wrap (e.start - x.start)⟩
        by_cases c4 : eend e < eend x
        · have hc : cutOne e x = [⟨x.start, IntKind.i64.wrap (e.start - x.start)⟩, ⟨eend e, IntKind.i64.wrap (eend x - eend e)⟩] := by simp [cutOne, c1, c2, c3, c4]
          have hD := fun (o0 o2 : Go.Ab.Slot) (k : A → Heap → Option (Ex × List A × Heap)) => app_e4 (ver + 1) (out ++ [⟨x.start, IntKind.i64.wrap (e.start - x.start)⟩]) ⟨eend e, IntKind.i64.wrap (eend x - eend e)⟩ o0 o2 (by simpa using hap2) k
          have r2 := ext_ids1 (out ++ [⟨x.start, IntKind.i64.wrap (e.start - x.start)⟩]) ⟨eend e, IntKind.i64.wrap (eend x - eend e)⟩
          simp only [List.length_append, List.length_cons, List.length_nil, List.map_append, List.map_cons, List.map_nil, extentC] at hA hD r1 r2
          rw [List.append_assoc] at r2
          simp only [List.cons_append, List.nil_append] at r2
          refine ⟨ver + 1 + 1, ?_⟩
          rw [hc]
          simp [extent_cut_l4, extent_cut_k1, extent_cut_k2, extent_cut_k3, cSt, hi, oIdxA_mkF _ _ _ _ _ _ _ hx, hput, hE1, hE2, c1, c2, c3, c4, hA, hD, r0, r1, r2, hw, hh, oLoadD, oAppendD, wrL, wrA, idTop, Go.Ab.place, putCells, trim, allBelow]
          exact ⟨rfl, rfl⟩
        · have hc : cutOne e x = [⟨x.start, IntKind.i64.wrap (e.start - x.start)⟩] := by simp [cutOne, c1, c2, c3, c4]
          simp only [extentC] at hA r1
          refine ⟨ver + 1, ?_⟩
          rw [hc]
          simp [extent_cut_l4, extent_cut_k1, extent_cut_k2, extent_cut_k3, cSt, hi, oIdxA_mkF _ _ _ _ _ _ _ hx, hput, hE1, hE2, c1, c2, c3, c4, hA, r0, r1, hw, hh, oLoadD, putCells, trim, allBelow]
          rfl
      · by_cases c4 : eend e < eend x
        · have hc : cutOne e x = [⟨eend e, IntKind.i64.wrap (eend x - eend e)⟩] := by simp [cutOne, c1, c2, c3, c4]
          have hD := fun (o0 o2 : Go.Ab.Slot) (k : A → Heap → Option (Ex × List A × Heap)) => app_e4 ver out ⟨eend e, IntKind.i64.wrap (eend x - eend e)⟩ o0 o2 hap k
          have r2 := ext_ids1 out ⟨eend e, IntKind.i64.wrap (eend x - eend e)⟩
          simp only [extentC] at hD r2
          refine ⟨ver + 1, ?_⟩
          rw [hc]
          simp [extent_cut_l4, extent_cut_k1, extent_cut_k2, extent_cut_k3, cSt, hi, oIdxA_mkF _ _ _ _ _ _ _ hx, hput, hE1, hE2, c1, c2, c3, c4, hD, r0, r2, hw, hh, oLoadD, oAppendD, wrL, wrA, idTop, Go.Ab.place, putCells, trim, allBelow]
          rfl
        · have hc : cutOne e x = [] := by simp [cutOne, c1, c2, c3, c4]
          refine ⟨ver, ?_⟩
          rw [hc]
          simp [extent_cut_l4, extent_cut_k1, extent_cut_k2, extent_cut_k3, cSt, hi, oIdxA_mkF _ _ _ _ _ _ _ hx, hput, hE1, hE2, c1, c2, c3, c4, r0, hw, hh, oLoadD, trim, allBelow]

theorem cut_v (fs : List Extent) (e : Extent) (hl : fs.length < 1000000) : ∃ ver, extent_cut [mkF 2 (fs.map extentC), .agg (extentC e)] [] = some (.ok (.osl 0 ver 2 0 (cutS e fs).length), [.live ⟨ver, 2, (cutS e fs).map extentC⟩]) := by
  have h0 : cSt e (cutS e (fs.take 0)) 0 0 = ([.osl 1 0 2 0 0, .s (.int .i64 0)], [.live ⟨0, 2, [extentC e]⟩, .live ⟨0, 2, []⟩]) := by simp [cSt, cutS]
  obtain ⟨q, ⟨ver, hQ⟩, hq⟩ := oLoop_inv' (step := extent_cut_l4 (.s (.int .i64 fs.length)) (mkF 2 (fs.map extentC)) (.ptr 0 0 0 0) [.live ⟨0, 2, [extentC e]⟩, .live ⟨0, 2, []⟩]) (s0 := ([.osl 1 0 2 0 0, .s (.int .i64 0)], [.live ⟨0, 2, [extentC e]⟩, .live ⟨0, 2, []⟩]))
    (fun i s => ∃ ver, s = cSt e (cutS e (fs.take i)) ver i)
    (fun q => ∃ ver, q = (.exit 0, [.osl 1 ver 2 0 (cutS e fs).length], [.live ⟨0, 2, [extentC e]⟩, .live ⟨ver, 2, (cutS e fs).map extentC⟩])) fs.length ⟨0, h0.symm⟩ (by omega)
    (by
      rintro i s hi ⟨ver, rfl⟩
      obtain ⟨ver', hs⟩ := cut_step fs e hl [.live ⟨0, 2, [extentC e]⟩, .live ⟨0, 2, []⟩] rfl i hi ver (cutS e (fs.take i)) (by
        have := cutS_le e (fs.take i)
        rw [List.length_take] at this; omega)
      refine .inl ⟨_, hs, ver', ?_⟩
      rw [cutS_succ e fs i fs[i] (List.getElem?_eq_getElem hi)])
    (by
      rintro s ⟨ver, rfl⟩
      refine ⟨_, ?_, ver, rfl⟩
      rw [List.take_length]
      simp [extent_cut_l4, cSt, trim, allBelow, ext_ids])
  subst hQ
  refine ⟨ver, ?_⟩
  have hf : finish 0 (.ok (.osl 1 ver 2 0 (cutS e fs).length)) [.live ⟨0, 2, [extentC e]⟩, .live ⟨ver, 2, (cutS e fs).map extentC⟩] = some (.ok (.osl 0 ver 2 0 (cutS e fs).length), [.live ⟨ver, 2, (cutS e fs).map extentC⟩]) :=
    finish_own 1 ver 2 _ _ _ rfl (ext_ids _) (fun f => ext_ren f _)
  have hq' := fun (k : Ex → List A → Heap → Option (Out × Heap)) => hq k
  simp [extent_cut, oProm]
  rw [hq']
  simp [extent_cut_k5, hf]

/-! putting -/
def pos (fs : List Extent) (e : Extent) : Nat := (fs.takeWhile (fun x => decide (x.start < e.start))).length
theorem pos_le (fs : List Extent) (e : Extent) : pos fs e ≤ fs.length := (List.takeWhile_sublist _).length_le
theorem pos_before (fs : List Extent) (e : Extent) : ∀ i x, i < pos fs e → fs[i]? = some x → x.start < e.start := by
  induction fs with
  | nil => intro i x _ hx; simp at hx
  | cons a fs ih =>
    intro i x hi hx
    by_cases h : a.start < e.start
    · have hp : pos (a :: fs) e = pos fs e + 1 := by simp [pos, h]
      cases i with
      | zero => simp at hx; subst hx; exact h
      | succ i => exact ih i x (by omega) (by simpa using hx)
    · have hp : pos (a :: fs) e = 0 := by simp [pos, h]
      omega
theorem pos_at (fs : List Extent) (e : Extent) (x : Extent) (hx : fs[pos fs e]? = some x) : ¬ x.start < e.start := by
  induction fs with
  | nil => simp at hx
  | cons a fs ih =>
    by_cases h : a.start < e.start
    · have hp : pos (a :: fs) e = pos fs e + 1 := by simp [pos, h]
      rw [hp] at hx
      exact ih (by simpa using hx)
    · have hp : pos (a :: fs) e = 0 := by simp [pos, h]
      rw [hp] at hx
      simp at hx; subst hx; exact h

/-- The search for its place. -/
theorem put_loop (fs : List Extent) (e : Extent) (v : Nat) (hl : fs.length < 1000000) {β : Type} (k : Ex → List A → Heap → Option β) :
    oLoop (extent_put_l3 (.osl 0 v 2 0 fs.length) (.ptr 1 0 0 0) [.live ⟨v, 2, fs.map extentC⟩, .live ⟨0, 2, [extentC e]⟩]) ([.s (.int .i64 0)], [.live ⟨v, 2, fs.map extentC⟩, .live ⟨0, 2, [extentC e]⟩]) k =
      k (.exit 0) [.s (.int .i64 (pos fs e))] [.live ⟨v, 2, fs.map extentC⟩, .live ⟨0, 2, [extentC e]⟩] := by
  have hle := pos_le fs e
  have r0 := ext_ids fs
  obtain ⟨q, rfl, hq⟩ := oLoop_inv' (step := extent_put_l3 (.osl 0 v 2 0 fs.length) (.ptr 1 0 0 0) [.live ⟨v, 2, fs.map extentC⟩, .live ⟨0, 2, [extentC e]⟩]) (s0 := ([.s (.int .i64 0)], [.live ⟨v, 2, fs.map extentC⟩, .live ⟨0, 2, [extentC e]⟩]))
    (fun i s => s = ([.s (.int .i64 i)], [.live ⟨v, 2, fs.map extentC⟩, .live ⟨0, 2, [extentC e]⟩]))
    (fun q => q = (.exit 0, [.s (.int .i64 (pos fs e))], [.live ⟨v, 2, fs.map extentC⟩, .live ⟨0, 2, [extentC e]⟩])) (pos fs e) rfl (by omega)
    (by
      rintro i s hi rfl
      left
      have hif : i < fs.length := by omega
      have hx : fs[i]? = some fs[i] := List.getElem?_eq_getElem hif
      have hb := pos_before fs e i _ hi hx
      generalize hxe : fs[i] = x at hx hb
      have hw := wrap_succ hif (by omega)
      exact ⟨_, by simp [extent_put_l3, extent_put_k1, extent_put_k2, hif, hxe, hb, r0, hw, oLoadD, trim, allBelow]; rfl, by simp⟩)
    (by
      rintro s rfl
      refine ⟨_, ?_, rfl⟩
      by_cases hif : pos fs e < fs.length
      · have hx : fs[pos fs e]? = some fs[pos fs e] := List.getElem?_eq_getElem hif
        have hb := pos_at fs e _ hx
        generalize hxe : fs[pos fs e] = x at hx hb
        simp [extent_put_l3, extent_put_k1, extent_put_k2, hif, hxe, hb, r0, oLoadD, trim, allBelow]
      · simp [extent_put_l3, extent_put_k1, extent_put_k2, hif, r0, oLoadD, trim, allBelow])
  exact hq k

end Go.Ab.T

/-
  EXTENTS: what is put back.
-/
set_option linter.unusedSimpArgs false
set_option linter.unusedVariables false
namespace Go.Ab.T
open Go Go.Ab Go.Ab.F

/-- Two neighbours, as one if they touch. -/
def mergeAt (L : List Extent) (j : Nat) : List Extent :=
  match L[j]?, L[j + 1]? with
  | some x, some y => if eend x = y.start then (L.set j ⟨x.start, IntKind.i64.wrap (x.len + y.len)⟩).take (j + 1) ++ L.drop (j + 2) else L
  | _, _ => L
def insS (fs : List Extent) (e : Extent) : List Extent := fs.take (pos fs e) ++ e :: fs.drop (pos fs e)
def putS (fs : List Extent) (e : Extent) : List Extent := if 0 < pos fs e then mergeAt (mergeAt (insS fs e) (pos fs e)) (pos fs e - 1) else mergeAt (insS fs e) (pos fs e)
theorem insS_len (fs : List Extent) (e : Extent) : (insS fs e).length = fs.length + 1 := by
  have := pos_le fs e
  simp [insS]; omega
theorem insS_at (fs : List Extent) (e : Extent) : (insS fs e)[pos fs e]? = some e := by
  have := pos_le fs e
  rw [insS, List.getElem?_append_right (by rw [List.length_take]; exact Nat.min_le_left _ _), List.length_take, Nat.min_eq_left this]
  simp
theorem mergeAt_len (L : List Extent) (j : Nat) : (mergeAt L j).length ≤ L.length ∧ j < L.length → True := fun _ => trivial
theorem mergeAt_le (L : List Extent) (j : Nat) : (mergeAt L j).length ≤ L.length ∧ L.length ≤ (mergeAt L j).length + 1 := by
  unfold mergeAt
  split
  · rename_i x y hx hy
    have h1 := (List.getElem?_eq_some_iff.1 hy).1
    split
    · simp; omega
    · omega
  · omega
theorem finish_first (v sz n : Nat) (rows : List (List A)) (r : Heap) (hp : idsRows rows = []) (hr : ∀ f, renRows f rows = some rows) :
    finish 1 (.ok (.osl 0 v sz 0 n)) (.live ⟨v, sz, rows⟩ :: r) = some (.ok (.osl 0 v sz 0 n), [.live ⟨v, sz, rows⟩]) := by
  have h1 : reach (.live ⟨v, sz, rows⟩ :: r) reachFuel [0] [0] = [0] := by
    rw [show reachFuel = 99998 + 1 + 1 from rfl, reach, if_pos (by simp), reach]
  have h2 : idx [0] 0 = some 0 := by simp [idx]
  have h3 : List.range 1 = [0] := rfl
  unfold finish
  simp [hp, h3, h1, h2, hr]

theorem del_call (w n i : Nat) (L : List Extent) (o1 o2 : Go.Ab.Slot) (hn : n = L.length) (hi : i < n) {β : Type} (kp k : A → Heap → Option β) :
    oCall (primDelete 2 16) [.osl 0 w 2 0 n, .s (.int .i64 i), .int .i64 ((i : Int) + 1)] [.live ⟨w, 2, L.map extentC⟩, o1, o2] kp k = k (.osl 0 (w + 1) 2 0 (n - 1)) [.live ⟨w + 1, 2, (L.take i ++ L.drop (i + 1)).map extentC⟩, o1, o2] := by
  refine (oCall_delete 2 16 _ 0 w n i (L.map extentC) kp k rfl (by simp [hn]) hi (ext_ids L) (fun f l hl => ?_)).trans ?_
  · induction l with
    | nil => rfl
    | cons a r ih =>
      obtain ⟨x, _, rfl⟩ := List.mem_map.1 (hl a (by simp))
      simp [ih fun y hy => hl y (by simp [hy]), extentC]
  · simp [List.map_take, List.map_drop]

/-- The second look. -/
theorem put_second (L : List Extent) (w j : Nat) (hj : j < L.length) (hl : L.length < 1000000) (e : Extent) (o2 : Go.Ab.Slot) (i2 : o2.ids = []) (objs : Heap) (ho : objs.length = 1) :
    ∃ w', extent_put_k7 [.s (.int .i64 j)] objs .normal [.osl 0 w 2 0 L.length] [.live ⟨w, 2, L.map extentC⟩, .live ⟨0, 2, [extentC e]⟩, o2] =
      some (.ok (.osl 0 w' 2 0 (if 0 < j then mergeAt L (j - 1) else L).length), [.live ⟨w', 2, (if 0 < j then mergeAt L (j - 1) else L).map extentC⟩]) := by
  have r0 := ext_ids L
  have hfin : ∀ (w n : Nat) (M : List Extent) (r : Heap), finish 1 (.ok (.osl 0 w 2 0 n)) (.live ⟨w, 2, M.map extentC⟩ :: r) = some (.ok (.osl 0 w 2 0 n), [.live ⟨w, 2, M.map extentC⟩]) := fun w n M r => finish_first w 2 n _ r (ext_ids M) (fun f => ext_ren f M)
  by_cases hz : j = 0
  · subst hz
    refine ⟨w, ?_⟩
    simp [extent_put_k7, extent_put_k5, extent_put_k6, hfin, ho, r0, trim, allBelow]
  · have hpos : 0 < j := by omega
    have hpos' : (0 : Int) < j := by omega
    have hw1 : IntKind.i64.wrap ((j : Int) - 1) = ((j - 1 : Nat) : Int) := by rw [wrap64_id (by omega) (by omega)]; omega
    have hw2 : IntKind.i64.wrap ((j : Int) + 1) = ((j + 1 : Nat) : Int) := by rw [wrap64_id (by omega) (by omega)]; simp
    have hj1 : j - 1 < L.length := by omega
    have hx : L[j - 1]? = some L[j - 1] := List.getElem?_eq_getElem hj1
    have hy : L[j]? = some L[j] := List.getElem?_eq_getElem hj
    rw [if_pos hpos]
    unfold mergeAt
    rw [show j - 1 + 1 = j by omega, show j - 1 + 2 = j + 1 by omega, hx, hy]
    generalize hxe : L[j - 1] = x at hx
    generalize hye : L[j] = y at hy
    have hE := fun (n0 : Nat) (wr : List Nat) (h : Heap) (k : A → Heap → Option (Ex × List A × Heap)) => end_callF x n0 wr h k
    by_cases hc : eend x = y.start
    · refine ⟨w + 1, ?_⟩
      have hput : putCells (extentC x) 1 [.s (.int .i64 (IntKind.i64.wrap (x.len + y.len)))] = extentC ⟨x.start, IntKind.i64.wrap (x.len + y.len)⟩ := rfl
      have hD := fun (o1 o2 : Go.Ab.Slot) (kp k : A → Heap → Option (Ex × List A × Heap)) => del_call w L.length j (L.set (j - 1) ⟨x.start, IntKind.i64.wrap (x.len + y.len)⟩) o1 o2 (by simp) hj kp k
      have hdrop : (L.set (j - 1) ⟨x.start, IntKind.i64.wrap (x.len + y.len)⟩).drop (j + 1) = L.drop (j + 1) := by
        rw [List.drop_set_of_lt (by omega)]
      rw [hdrop] at hD
      simp only [List.map_set] at hD
      have hlen : ((L.set (j - 1) ⟨x.start, IntKind.i64.wrap (x.len + y.len)⟩).take j ++ L.drop (j + 1)).length = L.length - 1 := by simp; omega
      have r1 := ext_ids ((L.set (j - 1) ⟨x.start, IntKind.i64.wrap (x.len + y.len)⟩).take j ++ L.drop (j + 1))
      simp only [if_pos hc]
      rw [hlen]
      generalize ((L.set (j - 1) ⟨x.start, IntKind.i64.wrap (x.len + y.len)⟩).take j ++ L.drop (j + 1)) = M at hD r1
      simp [extent_put_k7, extent_put_k5, extent_put_k6, hfin, ho, hpos, hpos', hw1, hw2, hj, hj1, hxe, hye, hE, hc, hput, hD, r0, r1, i2, oLoadD, trim, allBelow]
    · refine ⟨w, ?_⟩
      simp only [if_neg hc]
      simp [extent_put_k7, extent_put_k5, extent_put_k6, hfin, ho, hpos, hpos', hw1, hw2, hj, hj1, hxe, hye, hE, hc, r0, i2, oLoadD, trim, allBelow]

theorem pos_insS_lt (fs : List Extent) (e : Extent) : pos fs e < (insS fs e).length := by
  rw [insS_len]; have := pos_le fs e; omega
/-- One more, in the list itself. -/
theorem ins_call (v : Nat) (fs : List Extent) (e : Extent) (hl : fs.length < 1000000) {β : Type} (kp k : A → Heap → Option β) :
    oCall (primInsert 2 16) [.osl 0 v 2 0 fs.length, .s (.int .i64 (pos fs e)), .osl 2 0 2 0 1] [.live ⟨v, 2, fs.map extentC⟩, .live ⟨0, 2, [extentC e]⟩, .live ⟨0, 2, [extentC e]⟩] kp k =
      k (.osl 0 (v + 1) 2 0 (insS fs e).length) [.live ⟨v + 1, 2, (insS fs e).map extentC⟩, .live ⟨0, 2, [extentC e]⟩, .live ⟨0, 2, [extentC e]⟩] := by
  refine (oCall_insert 2 16 _ 0 v fs.length (pos fs e) 2 (fs.map extentC) (extentC e) kp k rfl rfl (by simp) (by decide) (pos_le fs e) (by constructor <;> omega) (ext_ids fs) (by simp) (fun f => ext_ren f fs) (fun f => by simp [extentC])).trans ?_
  rw [insS_len]
  simp [insS, List.map_take, List.map_drop]

set_option maxHeartbeats 1000000 in
theorem put_v (fs : List Extent) (e : Extent) (v : Nat) (hl : fs.length < 900000) : ∃ w, extent_put [.osl 0 v 2 0 fs.length, .agg (extentC e)] [.live ⟨v, 2, fs.map extentC⟩] = some (.ok (.osl 0 w 2 0 (putS fs e).length), [.live ⟨w, 2, (putS fs e).map extentC⟩]) := by
  have hj := pos_insS_lt fs e
  have hL := insS_len fs e
  have hI := fun (kp k : A → Heap → Option (Out × Heap)) => ins_call v fs e (by omega) kp k
  have hlp := fun (k : Ex → List A → Heap → Option (Out × Heap)) => put_loop fs e v (by omega) k
  have r0 := ext_ids fs
  have r1 := ext_ids (insS fs e)
  have hp : extent_put [.osl 0 v 2 0 fs.length, .agg (extentC e)] [.live ⟨v, 2, fs.map extentC⟩] =
      extent_put_k8 (.ptr 1 0 0 0) (.osl 0 v 2 0 fs.length) [.live ⟨v, 2, fs.map extentC⟩] (.exit 0) [.s (.int .i64 (pos fs e))] [.live ⟨v, 2, fs.map extentC⟩, .live ⟨0, 2, [extentC e]⟩] := by
    simp [extent_put, oProm, hlp]
  rw [hp]
  unfold putS
  have hat := insS_at fs e
  generalize insS fs e = L at *
  generalize hjj : pos fs e = j at *
  have hx : L[j]? = some e := hat
  have hxe : L[j] = e := by rw [List.getElem?_eq_getElem hj] at hat; exact Option.some.inj hat
  have hw2 : IntKind.i64.wrap ((j : Int) + 1) = ((j + 1 : Nat) : Int) := by rw [wrap64_id (by omega) (by omega)]; simp
  have hw3 : IntKind.i64.wrap ((j : Int) + 2) = ((j + 2 : Nat) : Int) := by rw [wrap64_id (by omega) (by omega)]; simp
  have hE := fun (n0 : Nat) (wr : List Nat) (h : Heap) (k : A → Heap → Option (Ex × List A × Heap)) => end_callF e n0 wr h k
  have h01 : (0 : Int) ≤ (j : Int) + 1 := by omega
  by_cases hj2 : j + 1 < L.length
  · have hj2i : (j : Int) + 1 < (L.length : Int) := by omega
    have hy : L[j + 1]? = some L[j + 1] := List.getElem?_eq_getElem hj2
    generalize hye : L[j + 1] = y at hy
    by_cases hc : eend e = y.start
    · have hput : putCells (extentC e) 1 [.s (.int .i64 (IntKind.i64.wrap (e.len + y.len)))] = extentC ⟨e.start, IntKind.i64.wrap (e.len + y.len)⟩ := rfl
      have hD := fun (o1 o2 : Go.Ab.Slot) (kp k : A → Heap → Option (Ex × List A × Heap)) => del_call (v + 1) L.length (j + 1) (L.set j ⟨e.start, IntKind.i64.wrap (e.len + y.len)⟩) o1 o2 (by simp) hj2 kp k
      have hm : mergeAt L j = (L.set j ⟨e.start, IntKind.i64.wrap (e.len + y.len)⟩).take (j + 1) ++ (L.set j ⟨e.start, IntKind.i64.wrap (e.len + y.len)⟩).drop (j + 1 + 1) := by
        rw [List.drop_set_of_lt (by omega)]
        simp [mergeAt, hx, hy, hc]
      have hml : (mergeAt L j).length = L.length - 1 := by rw [hm]; simp; omega
      have r2 := ext_ids (mergeAt L j)
      rw [← hm] at hD
      rw [← hml] at hD
      simp only [show (((j + 1 : Nat) : Int) + 1) = (j : Int) + 2 by omega, show ((j + 1 : Nat) : Int) = (j : Int) + 1 by omega, show ((j : Int) + 1 + 1) = (j : Int) + 2 by omega] at hD
      simp only [List.map_set] at hD
      have hjm : j < (mergeAt L j).length := by omega
      obtain ⟨w, hS⟩ := put_second (mergeAt L j) (v + 1 + 1) j hjm (by omega) e (.live ⟨0, 2, [extentC e]⟩) (by simp [Go.Ab.Slot.ids]) [.live ⟨v, 2, fs.map extentC⟩] rfl
      refine ⟨w, ?_⟩
      rw [← hS]
      generalize mergeAt L j = M at hD r2
      simp [extent_put_k8, extent_put_k4, asRows, hI, hj, hj2, hj2i, h01, hx, hxe, hye, hw2, hw3, hE, hc, hput, hD, r0, r1, r2, oLoadD, trim, allBelow]
    · have hm : mergeAt L j = L := by simp [mergeAt, hx, hy, hc]
      rw [hm]
      obtain ⟨w, hS⟩ := put_second L (v + 1) j hj (by omega) e (.live ⟨0, 2, [extentC e]⟩) (by simp [Go.Ab.Slot.ids]) [.live ⟨v, 2, fs.map extentC⟩] rfl
      refine ⟨w, ?_⟩
      rw [← hS]
      simp [extent_put_k8, extent_put_k4, asRows, hI, hj, hj2, hj2i, h01, hx, hxe, hye, hw2, hE, hc, r0, r1, oLoadD, trim, allBelow]
  · have hj2i : ¬ (j : Int) + 1 < (L.length : Int) := by omega
    have hm : mergeAt L j = L := by simp [mergeAt, hx, List.getElem?_eq_none (by omega : L.length ≤ j + 1)]
    rw [hm]
    obtain ⟨w, hS⟩ := put_second L (v + 1) j hj (by omega) e (.live ⟨0, 2, [extentC e]⟩) (by simp [Go.Ab.Slot.ids]) [.live ⟨v, 2, fs.map extentC⟩] rfl
    refine ⟨w, ?_⟩
    rw [← hS]
    simp [extent_put_k8, extent_put_k4, asRows, hI, hj, hj2, hj2i, h01, hx, hxe, hw2, r0, r1, oLoadD, trim, allBelow]
end Go.Ab.T
