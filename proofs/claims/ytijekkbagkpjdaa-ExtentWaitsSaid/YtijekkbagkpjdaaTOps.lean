/-
  EXTENTS: what is done with a map.
-/
import Derived.Test.YtijekkbagkpjdaaTMap
set_option linter.unusedSimpArgs false
set_option linter.unusedVariables false
namespace Go.Ab.T
open Go Go.Ab Go.Ab.F

/-! lending -/
theorem lendA_lA {h : Heap} {p : Option (Nat × Nat)} {l : List Extent} (n : Nat) (hl : lAt h p l) : lendA (n + 2) (lA p l) h = some (mkF 2 (l.map extentC)) := by
  cases p with
  | none => have : l = [] := hl; subst this; rfl
  | some x =>
    have h' : h[x.1]? = _ := hl
    rw [lA, lendA, h']
    simp [lendRows, ext_pure, List.take_of_length_le]
theorem lA_notpure (p : Option (Nat × Nat)) (l : List Extent) : pureA (lA p l) = false := by cases p <;> rfl
theorem lend_row {h : Heap} {p q : Option (Nat × Nat)} {fs ls : List Extent} (T : Int) (n : Nat) (hp : lAt h p fs) (hq : lAt h q ls) : lendL (n + 5) (mrow T p q fs ls) h = some (mapF T fs ls) := by
  rw [mrow, lendL_cons' _ _ _ _ (by simp [lA_notpure]), show n + 4 = (n + 3) + 1 from rfl, show lendA (n + 3 + 1) (.s (.int .i64 T)) h = some (.s (.int .i64 T)) by simp [lendA, nilS], Option.bind_some,
    lendL_cons' _ _ _ _ (by simp [lA_notpure]), show n + 3 = (n + 1) + 2 from rfl, lendA_lA _ hp, Option.bind_some, show n + 1 + 2 = (n + 2) + 1 from rfl, lendL_cons' _ _ _ _ (by simp [lA_notpure]), lendA_lA _ hq, Option.bind_some,
    show n + 2 = (n + 1) + 1 from rfl, lendL_nil']
  rfl
theorem lendA_map {h : Heap} {m : Nat} {p q : Option (Nat × Nat)} {fs ls : List Extent} {T : Int} (n : Nat) (hm : h[m]? = some (mslot T p q fs ls)) (hp : lAt h p fs) (hq : lAt h q ls) : lendA (n + 6) (.ptr m 0 0 0) h = some (.cptr (mapF T fs ls)) := by
  rw [lendA, hm]
  simp [mslot, lend_row T n hp hq]
theorem lend_map1 {h : Heap} {m : Nat} {p q : Option (Nat × Nat)} {fs ls : List Extent} {T : Int} (hm : h[m]? = some (mslot T p q fs ls)) (hp : lAt h p fs) (hq : lAt h q ls) : lendL lendFuel [.ptr m 0 0 0] h = some [.cptr (mapF T fs ls)] := by
  rw [show lendFuel = 999 + 1 from rfl, lendL_cons' _ _ _ _ (by simp), show (999 : Nat) = 993 + 6 from rfl, lendA_map _ hm hp hq, Option.bind_some, show (993 + 6 : Nat) = 998 + 1 from rfl, lendL_nil']
  rfl
theorem lend_map2 {h : Heap} {m : Nat} {p q : Option (Nat × Nat)} {fs ls : List Extent} {T : Int} (e : Extent) (hm : h[m]? = some (mslot T p q fs ls)) (hp : lAt h p fs) (hq : lAt h q ls) : lendL lendFuel [.ptr m 0 0 0, .agg (extentC e)] h = some [.cptr (mapF T fs ls), .agg (extentC e)] := by
  rw [show lendFuel = 999 + 1 from rfl, lendL_cons' _ _ _ _ (by simp), show (999 : Nat) = 993 + 6 from rfl, lendA_map _ hm hp hq, Option.bind_some, show (993 + 6 : Nat) = 998 + 1 from rfl, lendL_pure 998 _ h (by simp)]
  rfl
theorem oLend_map {F : CallFn} {r : A} {h : Heap} {m : Nat} {p q : Option (Nat × Nat)} {fs ls : List Extent} {T : Int} (hm : h[m]? = some (mslot T p q fs ls)) (hp : lAt h p fs) (hq : lAt h q ls)
    (hr : idsA r = []) (ho : ownA r = true) (hF : F [.cptr (mapF T fs ls)] [] = some (.ok r, [])) {β : Type} (kp k : A → Heap → Option β) : oLend F [.ptr m 0 0 0] h kp k = k r h :=
  oLend_lent F _ _ h kp k r (by simpa using lend_map1 hm hp hq) hr ho hF
theorem oLend_map2 {F : CallFn} {r : A} {h : Heap} {m : Nat} {p q : Option (Nat × Nat)} {fs ls : List Extent} {T : Int} (e : Extent) (hm : h[m]? = some (mslot T p q fs ls)) (hp : lAt h p fs) (hq : lAt h q ls)
    (hr : idsA r = []) (ho : ownA r = true) (hF : F [.cptr (mapF T fs ls), .agg (extentC e)] [] = some (.ok r, [])) {β : Type} (kp k : A → Heap → Option β) : oLend F [.ptr m 0 0 0, .agg (extentC e)] h kp k = k r h :=
  oLend_lent F _ _ h kp k r (by simpa using lend_map2 e hm hp hq) hr ho hF
theorem maskH_nil (n : Nat) (h : Heap) (hn : n = h.length) : maskH n [] h = h := by subst hn; simp [maskH, killAll]
theorem oCallF_map2 {F : CallFn} {r : A} {h : Heap} {m n : Nat} {p q : Option (Nat × Nat)} {fs ls : List Extent} {T : Int} (e : Extent) (hn : n = h.length) (hm : h[m]? = some (mslot T p q fs ls)) (hp : lAt h p fs) (hq : lAt h q ls)
    (hr : idsA r = []) (ho : ownA r = true) (hF : F [.cptr (mapF T fs ls), .agg (extentC e)] [] = some (.ok r, [])) {β : Type} (k : A → Heap → Option β) : oCallF n [] F [.ptr m 0 0 0, .agg (extentC e)] h k = k r h := by
  unfold oCallF
  have : (idsL [A.ptr m 0 0 0, .agg (extentC e)]).isEmpty = false := by simp
  simp only [this, Bool.false_eq_true, if_false, maskH_nil n h hn, lend_map2 e hm hp hq, hF, ho, ownH, List.all_nil, Bool.and_self, Bool.or_true, if_true, giveBack, renOut_ok, renA_of_ids r _ hr]
  simp [setAll]
theorem lend_list2 {h : Heap} {p : Option (Nat × Nat)} {fs : List Extent} (e : Extent) (hp : lAt h p fs) : lendL lendFuel [lA p fs, .agg (extentC e)] h = some [mkF 2 (fs.map extentC), .agg (extentC e)] := by
  rw [show lendFuel = 999 + 1 from rfl, lendL_cons' _ _ _ _ (by simp [lA_notpure]), show (999 : Nat) = 997 + 2 from rfl, lendA_lA _ hp, Option.bind_some, show (997 + 2 : Nat) = 998 + 1 from rfl, lendL_pure 998 _ h (by simp)]
  rfl
theorem lend_list2' {h : Heap} {p : Option (Nat × Nat)} {fs : List Extent} (e : Extent) (hp : lAt h p fs) : lendL lendFuel [lA p fs, .agg (extentC e)] (if (idsL [lA p fs, .agg (extentC e)]).isEmpty = true then [] else h) = some [mkF 2 (fs.map extentC), .agg (extentC e)] := by
  cases p with
  | none =>
    have : fs = [] := hp
    subst this
    exact lend_list2 (p := none) e rfl
  | some x => exact lend_list2 (p := some x) e hp
theorem oCallF_list2 {F : CallFn} {r : A} {h : Heap} {n : Nat} {p : Option (Nat × Nat)} {fs : List Extent} (e : Extent) (hn : n = h.length) (hp : lAt h p fs)
    (hr : idsA r = []) (ho : ownA r = true) (hF : F [mkF 2 (fs.map extentC), .agg (extentC e)] [] = some (.ok r, [])) {β : Type} (k : A → Heap → Option β) : oCallF n [] F [lA p fs, .agg (extentC e)] h k = k r h := by
  unfold oCallF
  simp only [maskH_nil n h hn, lend_list2' e hp, hF, ho, ownH, List.all_nil, Bool.and_self, Bool.or_true, if_true, giveBack, renOut_ok, renA_of_ids r _ hr]
  simp [setAll]
theorem cut_call {h : Heap} {n : Nat} {p : Option (Nat × Nat)} {fs : List Extent} (e : Extent) (hn : n = h.length) (hp : lAt h p fs) (hl : fs.length < 1000000) :
    ∃ v, ∀ {β : Type} (k : A → Heap → Option β), oCallF n [] extent_cut [lA p fs, .agg (extentC e)] h k = k (lA (some (h.length, v)) (cutS e fs)) (h ++ [.live ⟨v, 2, (cutS e fs).map extentC⟩]) := by
  obtain ⟨v, hv⟩ := cut_v fs e hl
  refine ⟨v, fun k => ?_⟩
  have ho : ownH [.live ⟨v, 2, (cutS e fs).map extentC⟩] = true := by
    simp [ownH, ownRows, extentC, ownL, ownA]
  unfold oCallF
  simp only [maskH_nil n h hn, lend_list2' e hp, hv, ho, ownA, Bool.and_self, Bool.or_true, if_true, giveBack, renOut_ok, renA_osl]
  have : renSlot (backIdx [] h.length) (.live ⟨v, 2, (cutS e fs).map extentC⟩) = some (.live ⟨v, 2, (cutS e fs).map extentC⟩) := by simp [renSlot, ext_ren]
  simp [setAll, backIdx, this, lA, ext_ren]

/-! putting into a list, wherever it lies -/
theorem put_nil (e : Extent) : extent_put [.s (.slice none 0 0), .agg (extentC e)] [] = some (.ok (.osl 0 1 2 0 1), [.live ⟨1, 2, [extentC e]⟩]) := by
  have hlp : ∀ (k : Ex → List A → Heap → Option (Out × Heap)), oLoop (extent_put_l3 (.osl 1 0 2 0 0) (.ptr 0 0 0 0) [.live ⟨0, 2, [extentC e]⟩, .live ⟨0, 2, []⟩]) ([.s (.int .i64 0)], [.live ⟨0, 2, [extentC e]⟩, .live ⟨0, 2, []⟩]) k =
      k (.exit 0) [.s (.int .i64 0)] [.live ⟨0, 2, [extentC e]⟩, .live ⟨0, 2, []⟩] := by
    obtain ⟨q, rfl, hq⟩ := oLoop_inv' (step := extent_put_l3 (.osl 1 0 2 0 0) (.ptr 0 0 0 0) [.live ⟨0, 2, [extentC e]⟩, .live ⟨0, 2, []⟩]) (s0 := ([.s (.int .i64 0)], [.live ⟨0, 2, [extentC e]⟩, .live ⟨0, 2, []⟩]))
      (fun i s => s = ([.s (.int .i64 0)], [.live ⟨0, 2, [extentC e]⟩, .live ⟨0, 2, []⟩])) (fun q => q = (.exit 0, [.s (.int .i64 0)], [.live ⟨0, 2, [extentC e]⟩, .live ⟨0, 2, []⟩])) 0 rfl (by omega)
      (by intro i s hi; omega)
      (by rintro s rfl; exact ⟨_, by simp [extent_put_l3, extent_put_k1, extent_put_k2, oLoadD, trim, allBelow], rfl⟩)
    exact fun k => hq k
  have hI : ∀ (kp k : A → Heap → Option (Out × Heap)), oCall (primInsert 2 16) [.osl 1 0 2 0 0, .s (.int .i64 0), .osl 2 0 2 0 1] [.live ⟨0, 2, [extentC e]⟩, .live ⟨0, 2, []⟩, .live ⟨0, 2, [extentC e]⟩] kp k =
      k (.osl 1 1 2 0 1) [.live ⟨0, 2, [extentC e]⟩, .live ⟨1, 2, [extentC e]⟩, .live ⟨0, 2, [extentC e]⟩] := fun kp k =>
    oCall_insert 2 16 _ 1 0 0 0 2 [] (extentC e) kp k rfl rfl (by simp) (by decide) (by omega) (by constructor <;> omega) (by simp) (by simp) (fun f => by simp) (fun f => by simp [extentC])
  have hf : finish 0 (.ok (.osl 1 1 2 0 1)) [.live ⟨0, 2, [extentC e]⟩, .live ⟨1, 2, [extentC e]⟩, .live ⟨0, 2, [extentC e]⟩] = some (.ok (.osl 0 1 2 0 1), [.live ⟨1, 2, [extentC e]⟩]) :=
    finish_own 1 1 2 1 [extentC e] _ rfl (by simp) (fun f => by simp [extentC])
  simp [extent_put, oProm]
  rw [hlp]
  simp [extent_put_k8, extent_put_k4, extent_put_k7, extent_put_k5, extent_put_k6, asRows, hI, show IntKind.i64.wrap 1 = 1 from by decide, oLoadD, trim, allBelow, hf]

theorem putS_nil (e : Extent) : putS [] e = [e] := by simp [putS, insS, pos, mergeAt]
theorem putL_call {h : Heap} {p : Option (Nat × Nat)} {l : List Extent} (e : Extent) (hp : lAt h p l) (hl : l.length < 900000) :
    ∃ p' h3, (∀ {β : Type} (kp k : A → Heap → Option β), oCall extent_put [lA p l, .agg (extentC e)] h kp k = k (lA p' (putS l e)) h3) ∧ lAt h3 p' (putS l e) ∧ (∀ j, j < h.length → j ∉ lIds p → h3[j]? = h[j]?) ∧
      (∀ i ∈ lIds p', i ∈ lIds p ∨ i = h.length) ∧ h.length ≤ h3.length ∧ (∀ m, WH m h → m ∉ lIds p → WH m h3) := by
  cases p with
  | none =>
    have : l = [] := hp
    subst this
    refine ⟨some (h.length, 1), h ++ [.live ⟨1, 2, [extentC e]⟩], fun kp k => ?_, ?_, ?_, ?_, ?_, ?_⟩
    · rw [putS_nil]
      have hrs : ∀ f, renL f (extentC e) = some (extentC e) := fun f => renL_of_ids _ f (extentC_ids e)
      simp [oCall, borrow, lA, reach_nil, put_nil, giveBack, backIdx, renSlot, hrs, setAll]
    · show (h ++ _)[h.length]? = _
      rw [putS_nil]; simp
    · intro j hj _; exact List.getElem?_append_left hj
    · intro i hi; simp [lIds] at hi; exact .inr hi
    · simp
    · intro m hW _ j s hj hs
      rcases Nat.lt_or_ge j h.length with hjl | hjl
      · rw [List.getElem?_append_left hjl] at hs; exact hW j s hj hs
      · rw [List.getElem?_append_right hjl] at hs
        have := List.mem_of_getElem? hs
        simp at this; subst this
        simp [flatS]
  | some x =>
    obtain ⟨i, v⟩ := x
    have hi : h[i]? = some (.live ⟨v, 2, l.map extentC⟩) := hp
    obtain ⟨w, hw⟩ := put_v l e v hl
    have hil := lt_of_some hi
    have hre : reach h reachFuel [] [i] = [i] := reach_flat h _ _ _ (by simp [hi, Go.Ab.Slot.ids, ext_ids]) (by simp) (by simp [reachFuel])
    have hx : idx [i] i = some 0 := by simp [idx]
    refine ⟨some (i, w), h.set i (.live ⟨w, 2, (putS l e).map extentC⟩), fun kp k => ?_, ?_, ?_, ?_, ?_, ?_⟩
    · simp [oCall, borrow, lA, hre, hx, hi, ext_ren, renSlot, hw, giveBack, backIdx, setAll, renL_of_ids]
    · show (h.set i _)[i]? = _
      simp [hil]
    · intro j hj hn
      simp [lIds] at hn
      rw [List.getElem?_set_ne (Ne.symm hn)]
    · intro a ha; simp [lIds] at ha ⊢; exact .inl ha
    · simp
    · intro m hW hm j s hj hs
      by_cases hji : j = i
      · subst hji
        rw [List.getElem?_set_self hil] at hs
        cases hs
        exact ext_flat _ _
      · rw [List.getElem?_set_ne (Ne.symm hji)] at hs
        exact hW j s hj hs
end Go.Ab.T
