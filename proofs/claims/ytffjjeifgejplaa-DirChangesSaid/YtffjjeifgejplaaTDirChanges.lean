/-
  DirChanges: plain.
-/
import Derived.Test.YtffjjeifgejplaaTCopy11
import Derived.Test.YtffjjeifgejplaaTDirBack
set_option linter.unusedSimpArgs false
set_option linter.unusedVariables false
namespace Go.Ab.T
open Go Go.Ab Go.Ab.F

theorem ok1_links {t : Thing} (ok : okT1 t) {ls : List Link} (h : ls.length < 2 ^ 63) : okT1 (withLinks t ls) := ⟨ok.label, ok.clear, h, ok.data⟩
theorem ok1_next {t : Thing} (ok : okT1 t) (n : Int) : okT1 { t with next := n } := ⟨ok.label, ok.clear, ok.links, ok.data⟩
theorem ok1_add {t : Thing} (ok : okT1 t) (sm : small t) (id q : Int) : okT1 (add t id q) := by
  have := sm.links
  unfold add
  split
  · exact ok1_links ok (by rw [addLinks_len]; omega)
  · exact ok
theorem ok1_drop {t : Thing} (ok : okT1 t) (sm : small t) (id : Int) : okT1 (drop t id) := by
  have := sm.links
  unfold drop
  split
  · exact ok1_links ok (by simp [dropLinks]; omega)
  · exact ok
theorem ok1_born {t : Thing} (ok : okT1 t) (sm : small t) (q : Int) : okT1 (born t q).1 := by
  unfold born
  split
  · exact ok
  · split
    · exact ok
    · exact ok1_next (ok1_add ok sm _ _) _

set_option maxHeartbeats 8000000 in
theorem DirChanges_v (t : Thing) (id q : Int) (okT : okThing t) (w1 : (Lit.int .u64 id).wf = true) (w2 : (Lit.int .i64 q).wf = true) :
    law12_DirChanges [.agg (thingC t), .s (.int .u64 id), .s (.int .i64 q)] [] = some (.ok (.s (.bool true)), []) := by
  have ok := okT.t1
  obtain ⟨b, hb, hd⟩ := directory_v t ok
  have c1 : ∀ (β : Type) (h : Heap) (kp k : A → Heap → Option β), oLend law12_dirAlive [] h kp k = k (.s (.bool true)) h := fun β h kp k => oLend_val _ _ _ _ _ _ (by simp) (by simp) dirAlive_v
  have c2 : ∀ (β : Type) (h : Heap) (kp k : A → Heap → Option β), oLend law12_directory [.agg (thingC t)] h kp k = k (.s (.bool b)) h := fun β h kp k => oLend_val _ _ _ _ _ _ (by simp) (by simp) hb
  have start : ∀ bad : Bool, (bad = false → b = true) → law12_DirChanges_k2 [] (.ptr 0 0 0 0) (.s (.int .u64 id)) (.s (.int .i64 q)) .normal [.s (.bool bad)] [.live ⟨0, 26, [thingC t]⟩] = some (.ok (.s (.bool true)), []) := by
    intro bad hbad
    cases bad with
    | true => simp [law12_DirChanges_k2, finish_val]
    | false =>
      obtain ⟨hk, hr⟩ := hd.1 (hbad rfl)
      have hs := goodL_sorted hr.links
      have sm := hr.small
      have cS : ∀ (x : Thing), okT1 x → ∀ (h : Heap) (kp k : A → Heap → Option (Out × Heap)), oLend ref11_Same [.agg (thingC x), .agg (thingC x)] h kp k = k (.s (.bool true)) h := fun x hx h kp k => oLend_val _ _ _ _ _ _ (by simp) (by simp) (by simpa using ref11_Same_v x x hx hx)
      have cSa := cS _ (ok1_add ok sm id q)
      have cSb := cS _ (ok1_born ok sm q)
      have cSd := cS _ (ok1_drop ok sm id)
      have cSt := cS _ ok
      have hC := fun (h : Heap) (kp k : A → Heap → Option (Out × Heap)) => Copy11_call t sm h kp k
      have hB : ∀ (h : Heap) (kp k : A → Heap → Option (Out × Heap)), (oLend dir_Born [.agg (thingC t), .s (.int .i64 q)] h kp fun w h' => oFrz w h' k) = k (.tup [.agg (thingC (born t q).1), .s (.int .u64 (born t q).2.1), .s (.int .i64 (born t q).2.2)]) h := fun h kp k => val_call _ _ _ h kp k (by simp) (by simp) (by simp) (dir_Born_v t q sm hs)
      have hRB : ∀ (h : Heap) (kp k : A → Heap → Option (Out × Heap)), (oLend ref12_Born [.agg (thingC t), .s (.int .i64 q)] h kp fun w h' => oFrz w h' k) = k (.tup [.agg (thingC (born t q).1), .s (.int .u64 (born t q).2.1), .s (.int .i64 (born t q).2.2)]) h := fun h kp k => val_call _ _ _ h kp k (by simp) (by simp) (by simp) (ref12_Born_v t q sm hs (fresh_eq t hr).symm)
      obtain ⟨e1, x1, hA⟩ := Add_call t id q sm hs
      obtain ⟨e2, x2, hRA⟩ := refAdd_call t id q sm hs
      obtain ⟨e3, x3, hD⟩ := Drop_call t id sm hs
      obtain ⟨e4, x4, hRD⟩ := refDrop_call t id sm hs
      have hA' := fun (h : Heap) (kp k : A → Heap → Option (Out × Heap)) => hA h kp k
      have hRA' := fun (h : Heap) (kp k : A → Heap → Option (Out × Heap)) => hRA h kp k
      have hD' := fun (h : Heap) (kp k : A → Heap → Option (Out × Heap)) => hD h kp k
      have hRD' := fun (h : Heap) (kp k : A → Heap → Option (Out × Heap)) => hRD h kp k
      generalize add t id q = ta at *
      generalize addErr t id q = ea at *
      generalize drop t id = td at *
      generalize dropErr t id = ed at *
      generalize born t q = tb at *
      clear hA hRA hD hRD
      rcases x1 with ⟨rfl, h1⟩ | ⟨rfl, h1⟩ <;> rcases x2 with ⟨rfl, h2⟩ | ⟨rfl, h2⟩ <;> first | exact absurd h1 h2 | exact absurd h2 h1 | (rcases x3 with rfl | rfl <;> rcases x4 with rfl | rfl <;>
        simp [law12_DirChanges_k2, law12_DirChanges_k1, hC, hA', hRA', hB, hRB, hD', hRD', cSa, cSb, cSd, cSt, zero_row, dead4, trim, allBelow, finish_val])
  cases b with
  | false => simp [law12_DirChanges, c1, c2, trim, allBelow, start]
  | true =>
    by_cases d1 : id < 1
    · simp [law12_DirChanges, c1, c2, trim, allBelow, d1, start]
    · simp [law12_DirChanges, c1, c2, trim, allBelow, d1, start]
end Go.Ab.T
