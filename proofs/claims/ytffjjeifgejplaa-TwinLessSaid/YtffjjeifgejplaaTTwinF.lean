/-
  TwinLess: plain.
-/
import Derived.Test.YtffjjeifgejplaaTTwinE
set_option linter.unusedSimpArgs false
set_option linter.unusedVariables false
namespace Go.Ab.T
open Go Go.Ab Go.Ab.F

/-! what is in the view -/
theorem vrT_id (v : VR) : (vrT v).id = v.1.id := by unfold vrT; split <;> rfl
theorem viewOne_id {g : List Thing} {cats : List Int} {t : Thing} {v : VR} (h : viewOne g cats t = some v) : v.1 = t := by
  unfold viewOne at h
  split at h
  · cases h; rfl
  · split at h
    · cases h; rfl
    · cases h
theorem view_mem {g : List Thing} {cats : List Int} {x : Thing} (h : x ∈ view g cats) : ∃ t ∈ g, x.id = t.id := by
  obtain ⟨v, hv, rfl⟩ := List.mem_map.1 h
  obtain ⟨t, ht, he⟩ := List.mem_filterMap.1 hv
  exact ⟨t, ht, by rw [vrT_id, viewOne_id he]⟩
theorem view_find (g : List Thing) (cats : List Int) : ∀ (ts : List Thing) (hs : sortedL (keyL ts)) (t : Thing) (v : VR), t ∈ ts → viewOne g cats t = some v → findT ((viewR g cats ts).map vrT) t.id = some (vrT v) := by
  intro ts
  induction ts with
  | nil => intro hs t v ht; cases ht
  | cons a ts ih =>
    intro hs t v ht hv
    have hk : keyL (a :: ts) = ⟨a.id, 0⟩ :: keyL ts := rfl
    rw [hk] at hs
    by_cases he : a = t
    · subst he
      have : viewR g cats (a :: ts) = v :: viewR g cats ts := by simp [viewR, hv]
      have hid : ((vrT v).id == a.id) = true := by rw [vrT_id, viewOne_id hv]; simp
      rw [this, List.map_cons, findT, List.find?_cons, hid]
    · have ht' : t ∈ ts := by
        rcases List.mem_cons.1 ht with h | h
        · exact absurd h.symm he
        · exact h
      have h1 := sortedL_lt hs ⟨t.id, 0⟩ (List.mem_map.2 ⟨t, ht', rfl⟩)
      have h2 := ih (sortedL_tail hs) t v ht' hv
      cases ha : viewOne g cats a with
      | none =>
        have : viewR g cats (a :: ts) = viewR g cats ts := by simp [viewR, ha]
        rw [this]; exact h2
      | some w =>
        have : viewR g cats (a :: ts) = w :: viewR g cats ts := by simp [viewR, ha]
        have hid : ((vrT w).id == t.id) = false := by rw [vrT_id, viewOne_id ha]; simp at h1 ⊢; omega
        rw [this, List.map_cons, findT, List.find?_cons, hid]
        exact h2
theorem view_whole {g : List Thing} (h : okN g) {cats : List Int} {t : Thing} (ht : t ∈ g) (hh : hidden t cats = false) : findT (view g cats) t.id = some t := by
  have := view_find g cats g h.rising t (t, false) ht (by simp [viewOne, hh])
  exact this
theorem view_none (g : List Thing) : view g [] = g := by
  have h1 : ∀ t, viewOne g [] t = some (t, false) := fun t => by simp [viewOne, hidden]
  have h2 : ∀ ts : List Thing, (viewR g [] ts).map vrT = ts := fun ts => by
    induction ts with
    | nil => rfl
    | cons a ts ih =>
      have : viewR g [] (a :: ts) = (a, false) :: viewR g [] ts := by simp [viewR, h1]
      rw [this, List.map_cons, ih]; rfl
  exact h2 g
theorem hidden_tail {t : Thing} {c : Int} {cs : List Int} (h : hidden t cs = true) : hidden t (c :: cs) = true := by
  simp only [hidden, List.any_cons, Bool.or_eq_true] at h ⊢; exact .inr h
theorem one_tail {g : List Thing} {c : Int} {cs : List Int} {t : Thing} (h : (viewOne g (c :: cs) t).isSome = true) : (viewOne g cs t).isSome = true := by
  have hh : hidden t (c :: cs) = false ∨ held g (c :: cs) t = true := by
    unfold viewOne at h
    cases h1 : hidden t (c :: cs) <;> cases h2 : held g (c :: cs) t <;> simp_all
  have hh2 : hidden t cs = false ∨ held g cs t = true := by
    rcases hh with h | h
    · left
      cases h2 : hidden t cs with
      | false => rfl
      | true => rw [hidden_tail h2] at h; cases h
    · right
      simp only [held, List.any_eq_true, Bool.and_eq_true, Bool.not_eq_true'] at h ⊢
      obtain ⟨d, h1, h2, h3⟩ := h
      refine ⟨d, h1, h2, ?_⟩
      cases h4 : hidden d cs with
      | false => rfl
      | true => rw [hidden_tail h4] at h3; cases h3
  unfold viewOne
  rcases hh2 with h | h
  · simp [h]
  · cases h1 : hidden t cs <;> by_cases h3 : t.kind = 3 <;> simp [h, h3]
theorem view_tail (g : List Thing) (c : Int) (cs : List Int) : (view g (c :: cs)).length ≤ (view g cs).length := by
  have key : ∀ ts : List Thing, (viewR g (c :: cs) ts).length ≤ (viewR g cs ts).length := fun ts => by
    induction ts with
    | nil => simp [viewR]
    | cons a ts ih =>
      cases h1 : viewOne g (c :: cs) a with
      | none =>
        have e1 : viewR g (c :: cs) (a :: ts) = viewR g (c :: cs) ts := by simp [viewR, h1]
        rw [e1]
        cases h2 : viewOne g cs a with
        | none => have : viewR g cs (a :: ts) = viewR g cs ts := by simp [viewR, h2]
                  rw [this]; exact ih
        | some w => have : viewR g cs (a :: ts) = w :: viewR g cs ts := by simp [viewR, h2]
                    rw [this, List.length_cons]; omega
      | some v =>
        have e1 : viewR g (c :: cs) (a :: ts) = v :: viewR g (c :: cs) ts := by simp [viewR, h1]
        have h2 := one_tail (by rw [h1]; rfl : (viewOne g (c :: cs) a).isSome = true)
        obtain ⟨w, h2⟩ := Option.isSome_iff_exists.1 h2
        have e2 : viewR g cs (a :: ts) = w :: viewR g cs ts := by simp [viewR, h2]
        rw [e1, e2, List.length_cons, List.length_cons]; omega
  simpa [view] using key g

theorem lendA_osl1 (n id : Nat) (row : List A) (H : Heap) (hk : H[id]? = some (.live ⟨0, 26, [row]⟩)) (hp : pureL row = true) : lendA (n + 2) (.osl id 0 26 0 1) H = some (mkF 26 [row]) := by
  have e : lendRows (n + 1) [row] H = some [row] := by rw [lendRows, if_pos (by simp [pureRows, hp])]
  rw [lendA, hk]
  simp [e]
theorem lend_osl2 (i j : Nat) (x t : List A) (H : Heap) (h1 : H[i]? = some (.live ⟨0, 26, [x]⟩)) (h2 : H[j]? = some (.live ⟨0, 26, [t]⟩)) (p1 : pureL x = true) (p2 : pureL t = true) : lendL lendFuel [.osl i 0 26 0 1, .osl j 0 26 0 1] H = some [mkF 26 [x], mkF 26 [t]] := by
  rw [show lendFuel = 999 + 1 from rfl, lendL_cons' _ _ _ _ (by simp [pureA]), show (999 : Nat) = 997 + 2 from rfl, lendA_osl1 _ _ _ _ h1 p1, Option.bind_some, show (997 + 2 : Nat) = 998 + 1 from rfl, lendL_cons' _ _ _ _ (by simp [pureA]),
    show (998 : Nat) = 996 + 2 from rfl, lendA_osl1 _ _ _ _ h2 p2, Option.bind_some, show (996 + 2 : Nat) = 997 + 1 from rfl, lendL_nil']
  rfl

/-- The first loop: what isn't hidden is there, whole. -/
theorem Less_first (g : List Thing) (h : okN g) (cats : List Int) (h2 : cats.length < 2 ^ 63) (ht1 : ∀ t ∈ g, okT1 t) (hv : (view g cats).length < 2 ^ 63) {β : Type} (k : Ex → List A → Heap → Option β) :
    oLoop (law24_TwinLess_l2 (.s (.int .i64 g.length)) (mkF 26 (g.map thingC)) (mkF 26 ((view g cats).map thingC)) (mkF 1 (cats.map (cellC .u64))) [.dead]) ([.s (.int .i64 0)], [.dead]) k = k (.exit 0) [.any] [.dead] := by
  have h3 : g.length < 2 ^ 63 := by have := h.len; omega
  refine Eq.trans (oLoop_find (enc := fun i => ([.s (.int .i64 i)], ([.dead] : Heap))) (fun t : Thing => false)
    (fun c => (.ret, [.s (.bool false)], [.dead])) (.exit 0, [.any], [.dead]) g rfl h3 ?_ ?_) ?_
  · intro i t ht hi
    have hw := wrap_succ hi h3
    have hm := List.mem_of_getElem? ht
    have hF := fun (H : Heap) (kp k : A → Heap → Option ((List A × Heap) ⊕ (Ex × List A × Heap))) => Find_call (view g cats) t.id hv H kp k
    have hD := fun (H : Heap) (kp k : A → Heap → Option (Ex × List A × Heap)) => hidden_call t cats (h.lab t hm) h2 H kp k
    cases hh : hidden t cats with
    | true =>
      generalize (findT (view g cats) t.id).getD zeroT = x at hF
      generalize (findT (view g cats) t.id).isSome = b at hF
      simp [law24_TwinLess_l2, law24_TwinLess_k1, oIdxA_mkF _ _ _ _ _ _ _ ht, hi, hF, hD, hh, hw, trim, allBelow, drop_thing, put_thing]
    | false =>
      have hvw := view_whole h hm hh
      rw [hvw] at hF
      simp only [Option.getD_some, Option.isSome_some] at hF
      have hSm : ref13_Same [mkF 26 [thingC t], mkF 26 [thingC t]] [] = some (.ok (.s (.bool true)), []) := by
        have := ref13_Same_v [t] [t] (by simpa using ht1 t hm) (by simpa using ht1 t hm) (by simp)
        simpa using this
      have hS : ∀ (kp k : A → Heap → Option (Ex × List A × Heap)) (o0 o1 o2 : Go.Ab.Slot), oLend ref13_Same [.osl 3 0 26 0 1, .osl 4 0 26 0 1] [o0, o1, o2, .live ⟨0, 26, [thingC t]⟩, .live ⟨0, 26, [thingC t]⟩] kp k = k (.s (.bool true)) [o0, o1, o2, .live ⟨0, 26, [thingC t]⟩, .live ⟨0, 26, [thingC t]⟩] := fun kp k o0 o1 o2 =>
        oLend_lent _ _ [mkF 26 [thingC t], mkF 26 [thingC t]] _ _ _ _ (by
          simp only [show (idsL [A.osl 3 0 26 0 1, .osl 4 0 26 0 1]).isEmpty = false by simp, Bool.false_eq_true, if_false]
          exact lend_osl2 3 4 _ _ _ rfl rfl (by simp) (by simp)) (by simp) rfl hSm
      simp [law24_TwinLess_l2, law24_TwinLess_k1, oIdxA_mkF _ _ _ _ _ _ _ ht, hi, hF, hD, hh, hS, hw, trim, allBelow, drop_thing, put_thing]
  · simp [law24_TwinLess_l2, trim, allBelow]
  · have e : g.find? (fun t : Thing => false) = none := by rw [List.find?_eq_none]; simp
    rw [e]

/-- The second loop: the view has nothing that isn't there. -/
theorem Less_second (g : List Thing) (h : okN g) (vs : List Thing) (hvs : ∀ x ∈ vs, ∃ t ∈ g, x.id = t.id) (hv : vs.length < 2 ^ 63) {β : Type} (k : Ex → List A → Heap → Option β) :
    oLoop (law24_TwinLess_l3 (.s (.int .i64 vs.length)) (mkF 26 (vs.map thingC)) (mkF 26 (g.map thingC)) [.dead]) ([.s (.int .i64 0)], [.dead]) k = k (.exit 2) [.any] [.dead] := by
  have h3 : g.length < 2 ^ 63 := by have := h.len; omega
  refine Eq.trans (oLoop_find (enc := fun i => ([.s (.int .i64 i)], ([.dead] : Heap))) (fun t : Thing => false)
    (fun c => (.ret, [.s (.bool false)], [.dead])) (.exit 2, [.any], [.dead]) vs rfl hv ?_ ?_) ?_
  · intro i x hx hi
    have hw := wrap_succ hi hv
    have hm := List.mem_of_getElem? hx
    obtain ⟨t, ht, he⟩ := hvs x hm
    have hF := fun (H : Heap) (kp k : A → Heap → Option ((List A × Heap) ⊕ (Ex × List A × Heap))) => Find_call g x.id h3 H kp k
    rw [he, find_self h.rising ht] at hF
    simp only [Option.getD_some, Option.isSome_some, ← he] at hF
    simp [law24_TwinLess_l3, oIdxA_mkF _ _ _ _ _ _ _ hx, hi, hF, hw, trim, allBelow, drop_thing, put_thing]
  · simp [law24_TwinLess_l3, trim, allBelow]
  · have e : vs.find? (fun t : Thing => false) = none := by rw [List.find?_eq_none]; simp
    rw [e]

theorem TwinLess_v (g : List Thing) (cats : List Int) (w1 : g.length ≤ maxLen ∧ ∀ x ∈ g, okThing x) (w2 : cats.length ≤ maxLen ∧ ∀ x ∈ cats, wfI .u64 x) :
    law24_TwinLess [mkF 26 (g.map thingC), mkF 1 (cats.map (cellC .u64))] [] = some (.ok (.s (.bool true)), []) := by
  have c1 : ∀ (β : Type) (h : Heap) (kp k : A → Heap → Option β), oLend law24_twinAlive [] h kp k = k (.s (.bool true)) h := fun β h kp k => oLend_val _ _ _ _ _ _ (by simp) (by simp) twinAlive_v
  have bad : law24_TwinLess_k6 [] (mkF 26 (g.map thingC)) (mkF 1 (cats.map (cellC .u64))) .normal [.s (.bool true)] [] = some (.ok (.s (.bool true)), []) := by
    simp [law24_TwinLess_k6, finish_val]
  by_cases hl1 : (60 : Int) < g.length
  · simp [law24_TwinLess, c1, hl1, trim, allBelow, bad]
  by_cases hl2 : (10 : Int) < cats.length
  · simp [law24_TwinLess, c1, hl1, hl2, trim, allBelow, bad]
  have okg := okG_of w1 (by omega)
  obtain ⟨b, hb, hS⟩ := Sound_v g okg
  have c2 : ∀ (β : Type) (h : Heap) (kp k : A → Heap → Option β), oLend ref13_Sound [mkF 26 (g.map thingC)] h kp k = k (.s (.bool b)) h := fun β h kp k => oLend_val _ _ _ _ _ _ (by simp) (by simp) hb
  cases b with
  | false => simp [law24_TwinLess, c1, c2, hl1, hl2, trim, allBelow, bad]
  | true =>
    have hn : okN g := ⟨by omega, (hS rfl).1, (hS rfl).2⟩
    have h2 : cats.length < 2 ^ 63 := by omega
    have h3 : g.length < 2 ^ 63 := by omega
    have ht1 : ∀ t ∈ g, okT1 t := fun t ht => (okg.2 t ht).1
    have hvt := view_t1 ht1 cats
    have hvl : (view g cats).length < 2 ^ 63 := by
      have := viewR_le g cats g
      simp [view]; omega
    have cV := fun (h : Heap) (kp k : A → Heap → Option (Out × Heap)) => View_call g hn (by omega) cats h2 h kp k
    have hL1 := fun (k : Ex → List A → Heap → Option (Out × Heap)) => Less_first g hn cats h2 ht1 hvl k
    have hL2 := fun (k : Ex → List A → Heap → Option (Out × Heap)) => Less_second g hn (view g cats) (fun x hx => view_mem hx) hvl k
    have cS := fun (h : Heap) (kp k : A → Heap → Option (Out × Heap)) => Same_call (view g cats) g hvt ht1 hvl h kp k
    by_cases hz : cats = []
    · subst hz
      have hvn := view_none g
      rw [hvn] at cV cS hL1 hL2
      simp at cV cS hL1 hL2
      simp [law24_TwinLess, c1, c2, hl1, trim, allBelow, law24_TwinLess_k6, law24_TwinLess_k5, law24_TwinLess_k4, cV, hL1, hL2, cS, finish_val]
    · obtain ⟨c, cs, hcc⟩ := List.exists_cons_of_ne_nil hz
      have hcl : cats.length = cs.length + 1 := by rw [hcc]; rfl
      have h2' : cs.length < 2 ^ 63 := by omega
      have cT := fun (h : Heap) (kp k : A → Heap → Option (Out × Heap)) => View_call g hn (by omega) cs h2' h kp k
      have hle := view_tail g c cs
      rw [← hcc] at hle
      have hle' : ((view g cats).length : Int) ≤ (view g cs).length := by omega
      have hpos : 0 < cats.length := by omega
      have hb : bnd none (cats.map (cellC .u64)).length = some (cs.length + 1) := by simp [bnd, hcl]
      have hsl : ∀ (k : A → Option (Out × Heap)), oSlice 1 (mkF 1 (cats.map (cellC .u64))) (some (.s (.int .i64 1))) none k = k (mkF 1 (cs.map (cellC .u64))) := fun k => by
        rw [oSlice_mkF 1 _ _ _ 1 (cs.length + 1) k (by simp [bnd]) hb (by omega) (by simp [hcl]), hcc]
        simp [List.take_of_length_le]
      have hap : appendOk (0 + cs.length) 8 := by constructor <;> omega
      have hapd : ∀ (o0 : Go.Ab.Slot) (k : A → Heap → Option (Out × Heap)), oAppend none 1 8 (.osl 1 0 1 0 0) (mkF 1 (cs.map (cellC .u64))) [o0, .live ⟨0, 1, []⟩] k = k (.osl 1 1 1 0 (0 + cs.length)) [o0, .live ⟨1, 1, cs.map (cellC .u64)⟩] := fun o0 k => by
        simp only [oAppend_osl, rowsOf_mkF, List.length_map]
        simp only [List.getElem?_cons_succ, List.getElem?_cons_zero]
        rw [if_pos ⟨trivial, trivial, by simp, hap⟩]
        simp
      have hZ : ∀ (o0 : Go.Ab.Slot) (k : A → Heap → Option (Out × Heap)), oFrz (.osl 1 1 1 0 (0 + cs.length)) [o0, .live ⟨1, 1, cs.map (cellC .u64)⟩] k = k (mkF 1 (cs.map (cellC .u64))) [o0, .dead] := fun o0 k =>
        (oFrz_own _ 1 1 1 (0 + cs.length) (cs.map (cellC .u64)) k rfl (by simp) (ids_pure _)).trans (by simp)
      simp only [Nat.zero_add] at hapd hZ
      have hle2 : (view g cats).length ≤ (view g cs).length := hle
      simp [law24_TwinLess, c1, c2, hl1, hl2, hz, hpos, trim, allBelow, law24_TwinLess_k6, law24_TwinLess_k5, law24_TwinLess_k4, cV, hL1, hL2, hsl, hapd, hZ, cT, hle2, finish_val]
end Go.Ab.T
