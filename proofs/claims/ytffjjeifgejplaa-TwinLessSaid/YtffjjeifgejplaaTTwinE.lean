/-
  THE SAME THINGS; TwinTells, TwinLess: plain.
-/
import Derived.Test.YtffjjeifgejplaaTTwin
import Derived.Test.YtffjjeifgejplaaTForm
import Derived.KernelRfl
set_option linter.unusedSimpArgs false
set_option linter.unusedVariables false
namespace Go.Ab.T
open Go Go.Ab Go.Ab.F

theorem ref13_Same_v (a b : List Thing) (ha : ∀ t ∈ a, okT1 t) (hb : ∀ t ∈ b, okT1 t) (hla : a.length < 2 ^ 63) : ref13_Same [mkF 26 (a.map thingC), mkF 26 (b.map thingC)] [] = some (.ok (.s (.bool (decide (a = b)))), []) := by
  by_cases hl : a.length = b.length
  · have hl' : (a.length : Int) = b.length := by omega
    have hzl : (a.zip b).length = a.length := by simp [hl]
    simp only [ref13_Same, oLen_mkF, List.length_map, oCmp_s, cmpInt_neq, if_true, oCond_s, hl', decide_true, Bool.not_true, Bool.false_eq_true, if_false]
    refine Eq.trans (oLoop_find (enc := fun i => ([.s (.int .i64 i)], ([] : Heap))) (fun (p : Thing × Thing) => !decide (p.1 = p.2))
      (fun p => (Ex.ret, [.s (.bool false)], [])) (Ex.exit 0, [.any], []) (a.zip b) rfl (by omega) ?_ ?_) ?_
    · intro i p hp hi
      obtain ⟨h1, h2⟩ := zip_get hp
      rw [hzl] at hi
      have hi2 : i < b.length := by omega
      have hw := wrap_succ hi hla
      have hS : ∀ (n0 : Nat) (wr : List Nat) (h : Heap) (k : A → Heap → Option ((List A × Heap) ⊕ (Ex × List A × Heap))), oCallF n0 wr ref11_Same [.agg (thingC p.1), .agg (thingC p.2)] h k = k (.s (.bool (decide (p.1 = p.2)))) h := fun n0 wr h k =>
        oCallF_val _ _ _ _ _ _ _ (by simp) (by simp) (ref11_Same_v _ _ (ha _ (List.mem_of_getElem? h1)) (hb _ (List.mem_of_getElem? h2)))
      generalize decide (p.1 = p.2) = bb at hS
      cases bb <;> simp [ref13_Same_l1, oLoadD, hi, hi2, oIdxA_mkF _ _ _ _ _ _ _ h1, oIdxA_mkF _ _ _ _ _ _ _ h2, hS, trim, allBelow, hw]
    · simp [ref13_Same_l1, trim, allBelow, hl]
    · have hz := zip_find a b hl
      cases hf : (a.zip b).find? (fun p => !decide (p.1 = p.2)) with
      | none => simp [ref13_Same_k2, finish_val, hz.1 hf]
      | some p =>
        have : ¬ a = b := fun h => by rw [hz.2 h] at hf; cases hf
        simp [ref13_Same_k2, finish_val, this]
  · have : ¬ a = b := fun h => hl (by rw [h])
    have hl' : ¬ ((a.length : Int) = b.length) := by omega
    simp [ref13_Same, hl, hl', this, finish_val]
theorem Same_call (a b : List Thing) (ha : ∀ t ∈ a, okT1 t) (hb : ∀ t ∈ b, okT1 t) (hla : a.length < 2 ^ 63) {β : Type} (h : Heap) (kp k : A → Heap → Option β) :
    oLend ref13_Same [mkF 26 (a.map thingC), mkF 26 (b.map thingC)] h kp k = k (.s (.bool (decide (a = b)))) h := oLend_val _ _ _ _ _ _ (by simp) (by simp) (ref13_Same_v a b ha hb hla)

theorem twinAlive_v : law24_twinAlive [] [] = some (.ok (.s (.bool true)), []) := by kernel_rfl

theorem okG_of {g : List Thing} (w : g.length ≤ maxLen ∧ ∀ x ∈ g, okThing x) (hl : g.length ≤ 60) : okG g :=
  ⟨by omega, fun t ht => by
    have h := w.2 t ht
    have hid := wf_u64 h.id
    exact ⟨h.t1, maxLen_lt h.data.1, hid.1, hid.2⟩⟩
theorem view_t1 {g : List Thing} (h : ∀ t ∈ g, okT1 t) (cats : List Int) : ∀ t ∈ view g cats, okT1 t := by
  intro x hx
  obtain ⟨v, hv, rfl⟩ := List.mem_map.1 hx
  obtain ⟨t, ht, he⟩ := List.mem_filterMap.1 hv
  unfold viewOne at he
  split at he
  · cases he; exact h t ht
  · split at he
    · cases he; exact ⟨by simp [vrT, bareV, bareT], by simp [vrT, bareV, bareT], by simp [vrT, bareV, bareT], by intro n hn; simp [vrT, bareV, bareT] at hn⟩
    · cases he

theorem TwinTells_v (g : List Thing) (cats : List Int) (w1 : g.length ≤ maxLen ∧ ∀ x ∈ g, okThing x) (w2 : cats.length ≤ maxLen ∧ ∀ x ∈ cats, wfI .u64 x) :
    law24_TwinTells [mkF 26 (g.map thingC), mkF 1 (cats.map (cellC .u64))] [] = some (.ok (.s (.bool true)), []) := by
  have c1 : ∀ (β : Type) (h : Heap) (kp k : A → Heap → Option β), oLend law24_twinAlive [] h kp k = k (.s (.bool true)) h := fun β h kp k => oLend_val _ _ _ _ _ _ (by simp) (by simp) twinAlive_v
  have bad : law24_TwinTells_k3 [] (mkF 26 (g.map thingC)) (mkF 1 (cats.map (cellC .u64))) .normal [.s (.bool true)] [] = some (.ok (.s (.bool true)), []) := by
    simp [law24_TwinTells_k3, finish_val]
  by_cases hl1 : (60 : Int) < g.length
  · simp [law24_TwinTells, c1, hl1, trim, allBelow, bad]
  by_cases hl2 : (10 : Int) < cats.length
  · simp [law24_TwinTells, c1, hl1, hl2, trim, allBelow, bad]
  have okg := okG_of w1 (by omega)
  obtain ⟨b, hb, hS⟩ := Sound_v g okg
  have c2 : ∀ (β : Type) (h : Heap) (kp k : A → Heap → Option β), oLend ref13_Sound [mkF 26 (g.map thingC)] h kp k = k (.s (.bool b)) h := fun β h kp k => oLend_val _ _ _ _ _ _ (by simp) (by simp) hb
  cases b with
  | false => simp [law24_TwinTells, c1, c2, hl1, hl2, trim, allBelow, bad]
  | true =>
    have hn : okN g := ⟨by omega, (hS rfl).1, (hS rfl).2⟩
    have h2 : cats.length < 2 ^ 63 := by omega
    have h3 : g.length < 2 ^ 63 := by omega
    have ht1 : ∀ t ∈ g, okT1 t := fun t ht => (okg.2 t ht).1
    have hvt := view_t1 ht1 cats
    have hvl : (view g cats).length < 2 ^ 63 := by
      have := viewR_le g cats g
      simp [view]; omega
    simp [law24_TwinTells, c1, c2, hl1, hl2, trim, allBelow, law24_TwinTells_k3]
    refine Eq.trans (oLoop_find (enc := fun i => ([.s (.int .i64 i)], ([] : Heap))) (fun t : Thing => false)
      (fun c => (.ret, [.s (.bool false)], [])) (.exit 0, [.any], []) g rfl h3 ?_ ?_) ?_
    · intro i t ht hi
      have hw := wrap_succ hi h3
      have hm := List.mem_of_getElem? ht
      have hD : ∀ (n0 : Nat) (wr : List Nat) (h : Heap) (k : A → Heap → Option ((List A × Heap) ⊕ (Ex × List A × Heap))), oCallF n0 wr twin_Hidden [.agg (thingC t), mkF 1 (cats.map (cellC .u64))] h k = k (.s (.bool (hidden t cats))) h := fun n0 wr h k => oCallF_val _ _ _ _ _ _ _ (by simp) (by simp) (Hidden_v t cats (hn.lab t hm) h2)
      have hR : ∀ (n0 : Nat) (wr : List Nat) (h : Heap) (k : A → Heap → Option ((List A × Heap) ⊕ (Ex × List A × Heap))), oCallF n0 wr ref24_Hidden [.agg (thingC t), mkF 1 (cats.map (cellC .u64))] h k = k (.s (.bool (hidden t cats))) h := fun n0 wr h k => oCallF_val _ _ _ _ _ _ _ (by simp) (by simp) (ref24_Hidden_v t cats (hn.lab t hm) h2)
      simp [law24_TwinTells_l1, oIdxA_mkF _ _ _ _ _ _ _ ht, hi, hD, hR, oLoadD, hw, trim, allBelow, drop_thing, put_thing]
    · simp [law24_TwinTells_l1, trim, allBelow]
    · have e : g.find? (fun t : Thing => false) = none := by rw [List.find?_eq_none]; simp
      rw [e]
      have cO := fun (h : Heap) (kp k : A → Heap → Option (Out × Heap)) => oLend_val twin_Owned [mkF 26 (g.map thingC), mkF 1 (cats.map (cellC .u64))] h kp k _ (by simp) (by simp) (Owned_v g cats hn.lab hn.len h2)
      have cP := fun (h : Heap) (kp k : A → Heap → Option (Out × Heap)) => oLend_val ref24_Owned [mkF 26 (g.map thingC), mkF 1 (cats.map (cellC .u64))] h kp k _ (by simp) (by simp) (ref24_Owned_v g cats hn.lab hn.len h2)
      have cN := fun (h : Heap) (kp k : A → Heap → Option (Out × Heap)) => oLend_val twin_Nested [mkF 26 (g.map thingC), mkF 1 (cats.map (cellC .u64))] h kp k _ (by simp) (by simp) (Nested_v g hn cats h2)
      have cM := fun (h : Heap) (kp k : A → Heap → Option (Out × Heap)) => oLend_val ref24_Nested [mkF 26 (g.map thingC), mkF 1 (cats.map (cellC .u64))] h kp k _ (by simp) (by simp) (rNested_v g hn cats h2)
      rw [← owned_eq] at cP
      rw [← nested_eq g hn cats] at cM
      generalize owned g cats = o at cO cP
      generalize (!(g.any fun d => d.links.any (badL g cats d))) = n at cN cM
      have cV := fun (h : Heap) (kp k : A → Heap → Option (Out × Heap)) => View_call g hn (by omega) cats h2 h kp k
      have cW := fun (h : Heap) (kp k : A → Heap → Option (Out × Heap)) => rView_call g hn (by omega) cats h2 h kp k
      have cS := fun (h : Heap) (kp k : A → Heap → Option (Out × Heap)) => Same_call (view g cats) (view g cats) hvt hvt hvl h kp k
      simp [law24_TwinTells_k2, cO, cP, cN, cM, cV, cW, cS, finish_val]
end Go.Ab.T
