/-
  DirBack: plain.
-/
import Derived.Test.YtffjjeifgejplaaTDirs
import Derived.Test.YtffjjeifgejplaaTDirTells
set_option linter.unusedSimpArgs false
set_option linter.unusedVariables false
namespace Go.Ab.T
open Go Go.Ab Go.Ab.F

theorem pairwise_of {ls : List Link} (h : sortedL ls) : ls.Pairwise (fun a b => a.id < b.id) := by
  induction ls with
  | nil => exact .nil
  | cons a ls ih => exact .cons (sortedL_lt h) (ih (sortedL_tail h))
theorem sorted_of {ls : List Link} (h : ls.Pairwise (fun a b => a.id < b.id)) : sortedL ls := by
  intro i a b ha hb
  have hi := (List.getElem?_eq_some_iff.1 ha)
  have hj := (List.getElem?_eq_some_iff.1 hb)
  obtain ⟨h1, rfl⟩ := hi
  obtain ⟨h2, rfl⟩ := hj
  exact List.pairwise_iff_getElem.1 h i (i + 1) h1 h2 (by omega)
theorem take_lt {ls : List Link} (hs : sortedL ls) (id : Int) : ∀ l ∈ ls.take (place ls id), l.id < id := by
  intro l hl
  obtain ⟨i, hi, rfl⟩ := List.mem_iff_getElem.1 hl
  rw [List.length_take] at hi
  rw [List.getElem_take]
  exact (place_lt hs id i _ (List.getElem?_eq_getElem (by omega))).2 (by omega)
theorem drop_ge {ls : List Link} (hs : sortedL ls) (id : Int) : ∀ l ∈ ls.drop (place ls id), ¬ l.id < id := by
  intro l hl hlt
  obtain ⟨i, hi, rfl⟩ := List.mem_iff_getElem.1 hl
  rw [List.length_drop] at hi
  rw [List.getElem_drop] at hlt
  have := (place_lt hs id (place ls id + i) _ (List.getElem?_eq_getElem (by omega))).1 hlt
  omega
theorem no_has {ls : List Link} {id : Int} (h : has ls id = false) : ∀ l ∈ ls, l.id ≠ id := by
  intro l hl he
  have : (ls.find? (fun l => l.id == id)).isSome = true := by
    rw [List.find?_isSome]; exact ⟨l, hl, by simpa using he⟩
  rw [has, this] at h; cases h
theorem addLinks_sorted {ls : List Link} (hs : sortedL ls) {id : Int} (q : Int) (h : has ls id = false) : sortedL (addLinks ls id q) := by
  refine sorted_of ?_
  have hp := pairwise_of hs
  have hno := no_has h
  have hge : ∀ l ∈ ls.drop (place ls id), id < l.id := fun l hl => by
    have h1 := drop_ge hs id l hl
    have h2 := hno l (List.mem_of_mem_drop hl)
    omega
  rw [addLinks, List.pairwise_append]
  refine ⟨hp.sublist (List.take_sublist _ _), .cons hge (hp.sublist (List.drop_sublist _ _)), fun a ha b hb => ?_⟩
  have h1 := take_lt hs id a ha
  rcases List.mem_cons.1 hb with rfl | hb
  · exact h1
  · have := hge b hb; omega
theorem addLinks_place {ls : List Link} (hs : sortedL ls) (id q : Int) : place (addLinks ls id q) id = place ls id := by
  have hle := place_le ls id
  unfold place at *
  rw [addLinks, List.takeWhile_append_of_pos (by
    intro a ha
    simpa using take_lt hs id a ha)]
  simp [place] at hle ⊢
  omega
theorem addLinks_has (ls : List Link) (id q : Int) : has (addLinks ls id q) id = true := by
  rw [has, List.find?_isSome]
  exact ⟨⟨id, q⟩, by simp [addLinks], by simp⟩
theorem drop_addLinks {ls : List Link} (hs : sortedL ls) (id q : Int) : dropLinks (addLinks ls id q) id = ls := by
  have hle := place_le ls id
  rw [dropLinks, addLinks_place hs]
  have hl : (ls.take (place ls id)).length = place ls id := by simp; omega
  rw [addLinks, List.take_append_of_le_length (by omega), List.drop_append]
  have hz : (ls.take (place ls id)).drop (place ls id + 1) = [] := List.drop_eq_nil_of_le (by omega)
  simp [hl, List.take_take, hz]

theorem dirRight.len {t : Thing} (h : dirRight t) : t.links.length ≤ 16 := by
  apply Classical.byContradiction
  intro hc
  have := (h.links 16 (t.links[16]'(by omega)) (List.getElem?_eq_getElem (by omega))).2.2.2.2.2
  omega
theorem dirRight.small {t : Thing} (h : dirRight t) : small t := by
  have h1 := lr_len _ h.label
  have hb := h.bare
  have hc : t.clear = ⟨0, []⟩ := congrArg Thing.clear hb
  have hd : t.data = [] := congrArg Thing.data hb
  have hl := h.len
  exact ⟨by omega, by simp [hc], by omega, by simp [hd]⟩

theorem small_links {t : Thing} (sm : small t) {ls : List Link} (h : ls.length < 1000000) : small (withLinks t ls) := ⟨sm.label, sm.clear, h, sm.data⟩
theorem small_next {t : Thing} (sm : small t) (n : Int) : small { t with next := n } := ⟨sm.label, sm.clear, sm.links, sm.data⟩

theorem again_fresh {t : Thing} (h : dirRight t) (hf : (fresh t).2 = 0) (q : Int) : (born { t with next := IntKind.i64.wrap (t.next + 1) } q).2.1 ≠ (fresh t).1 := by
  have h1 := h.id1; have h2 := h.id2; have h3 := h.next1; have h4 := h.next2
  have hw : IntKind.i64.wrap (t.next + 1) = t.next + 1 := wrap64_id (by omega) (by omega)
  have hc : t.next < 63 ∧ t.id < 4398046511104 := by
    unfold fresh at hf
    split at hf
    · assumption
    · simp at hf
  have hn : ∀ n : Int, 0 ≤ n → n ≤ 63 → IntKind.u64.wrap (IntKind.u64.wrap (IntKind.u64.wrap (t.id * 64) + IntKind.u64.wrap n) + 1) = t.id * 64 + n + 1 := fun n n0 n1 => by
    have := hc.2
    rw [wrap_u64 (n := t.id * 64) (by omega) (by omega), wrap_u64 (n := n) (by omega) (by omega), wrap_u64 (n := t.id * 64 + n) (by omega) (by omega), wrap_u64 (by omega) (by omega)]
  have e1 : (fresh t).1 = t.id * 64 + t.next + 1 := by
    unfold fresh; rw [if_pos hc]; exact hn _ (by omega) (by omega)
  rw [e1, hw]
  unfold born
  split
  · simp; omega
  · split
    · simp; omega
    · rename_i hf2 _
      simp only [ne_eq, Decidable.not_not] at hf2
      have hc2 : t.next + 1 < 63 ∧ t.id < 4398046511104 := by
        unfold fresh at hf2
        split at hf2
        · assumption
        · simp at hf2
      have e2 : (fresh { t with next := t.next + 1 }).1 = t.id * 64 + (t.next + 1) + 1 := by
        unfold fresh; rw [if_pos hc2]; exact hn (t.next + 1) (by omega) (by omega)
      simp only [e2]
      omega

theorem DirBack_v (t : Thing) (id q : Int) (okT : okThing t) (w1 : (Lit.int .u64 id).wf = true) (w2 : (Lit.int .i64 q).wf = true) :
    law12_DirBack [.agg (thingC t), .s (.int .u64 id), .s (.int .i64 q)] [] = some (.ok (.s (.bool true)), []) := by
  have ok := okT.t1
  obtain ⟨b, hb, hd⟩ := directory_v t ok
  have c1 : ∀ (β : Type) (h : Heap) (kp k : A → Heap → Option β), oLend law12_dirAlive [] h kp k = k (.s (.bool true)) h := fun β h kp k => oLend_val _ _ _ _ _ _ (by simp) (by simp) dirAlive_v
  have c2 : ∀ (β : Type) (h : Heap) (kp k : A → Heap → Option β), oLend law12_directory [.agg (thingC t)] h kp k = k (.s (.bool b)) h := fun β h kp k => oLend_val _ _ _ _ _ _ (by simp) (by simp) hb
  have start : ∀ bad : Bool, (bad = false → b = true) → law12_DirBack_k3 [] (.ptr 0 0 0 0) (.s (.int .u64 id)) (.s (.int .i64 q)) .normal [.s (.bool bad)] [.live ⟨0, 26, [thingC t]⟩] = some (.ok (.s (.bool true)), []) := by
    intro bad hbad
    cases bad with
    | true => simp [law12_DirBack_k3, finish_val]
    | false =>
      obtain ⟨hk, hr⟩ := hd.1 (hbad rfl)
      have hs := goodL_sorted hr.links
      have sm := hr.small
      have hlen := hr.len
      have cS : ∀ (β : Type) (h : Heap) (kp k : A → Heap → Option β), oLend ref11_Same [.agg (thingC t), .agg (thingC t)] h kp k = k (.s (.bool true)) h := fun β h kp k => oLend_val _ _ _ _ _ _ (by simp) (by simp) (by simpa using ref11_Same_v t t ok ok)
      have fin : law12_DirBack_k2 (.ptr 0 0 0 0) (.s (.int .i64 q)) [] .normal [.s (.bool false)] [.live ⟨0, 26, [thingC t]⟩] = some (.ok (.s (.bool true)), []) := by
        have cB : ∀ (h : Heap) (kp k : A → Heap → Option (Out × Heap)), (oLend dir_Born [.agg (thingC t), .s (.int .i64 q)] h kp fun w h' => oFrz w h' k) = k (.tup [.agg (thingC (born t q).1), .s (.int .u64 (born t q).2.1), .s (.int .i64 (born t q).2.2)]) h := fun h kp k => val_call _ _ _ h kp k (by simp) (by simp) (by simp) (dir_Born_v t q sm hs)
        by_cases e1 : (fresh t).2 = 0
        · by_cases e2 : addErr t (fresh t).1 q = 0
          · have hno : has t.links (fresh t).1 = false := by
              cases hh : has t.links (fresh t).1 with
              | false => rfl
              | true => simp [addErr, hh] at e2
            have hx : (born t q).1 = { withLinks t (addLinks t.links (fresh t).1 q) with next := IntKind.i64.wrap (t.next + 1) } := by simp [born, e1, e2, add]
            have hbq : (born t q).2 = ((fresh t).1, 0) := by simp [born, e1, e2]
            have hxl : (born t q).1.links = addLinks t.links (fresh t).1 q := by rw [hx]; rfl
            have smx : small (born t q).1 := by rw [hx]; exact small_next (small_links sm (by rw [addLinks_len]; omega)) _
            obtain ⟨ex, hex, hD⟩ := Drop_call (born t q).1 (fresh t).1 smx (by rw [hxl]; exact addLinks_sorted hs q hno)
            have hD' := fun (h : Heap) (kp k : A → Heap → Option (Out × Heap)) => hD h kp k
            have hdr : drop (born t q).1 (fresh t).1 = { t with next := IntKind.i64.wrap (t.next + 1) } := by
              rw [drop, hxl, if_pos (addLinks_has _ _ _), drop_addLinks hs, hx]; rfl
            have hde : dropErr (born t q).1 (fresh t).1 = 0 := by rw [dropErr, hxl, if_pos (addLinks_has _ _ _)]
            have smy : small { t with next := IntKind.i64.wrap (t.next + 1) } := small_next sm _
            have cY : ∀ (h : Heap) (kp k : A → Heap → Option (Out × Heap)), (oLend dir_Born [.agg (thingC { t with next := IntKind.i64.wrap (t.next + 1) }), .s (.int .i64 q)] h kp fun w h' => oFrz w h' k) = k (.tup [.agg (thingC (born { t with next := IntKind.i64.wrap (t.next + 1) } q).1), .s (.int .u64 (born { t with next := IntKind.i64.wrap (t.next + 1) } q).2.1), .s (.int .i64 (born { t with next := IntKind.i64.wrap (t.next + 1) } q).2.2)]) h := fun h kp k => val_call _ _ _ h kp k (by simp) (by simp) (by simp) (dir_Born_v _ q smy hs)
            have hne := again_fresh hr e1 q
            rw [hdr, hde] at hD'
            generalize born { t with next := IntKind.i64.wrap (t.next + 1) } q = y at cY hne
            generalize hbx : born t q = x at *
            obtain ⟨x1, x2, x3⟩ := x
            simp only [Prod.mk.injEq] at hbq
            obtain ⟨rfl, rfl⟩ := hbq
            rcases hex with rfl | rfl <;> simp [law12_DirBack_k2, cB, hD', cY, hne, zero_row, dead4, finish_val]
          · have hx : born t q = (t, 0, addErr t (fresh t).1 q) := by simp [born, e1, e2]
            simp [law12_DirBack_k2, cB, hx, e2, cS, zero_row, finish_val]
        · have hx : born t q = (t, 0, (fresh t).2) := by simp [born, e1]
          simp [law12_DirBack_k2, cB, hx, e1, cS, zero_row, finish_val]
      obtain ⟨ex, hex, hA⟩ := Add_call t id q sm hs
      have hA' := fun (h : Heap) (kp k : A → Heap → Option (Ex × List A × Heap)) => hA h kp k
      rcases hex with ⟨rfl, he⟩ | ⟨rfl, he⟩
      · simp [law12_DirBack_k3, hA', he, zero_row, trim, allBelow, fin]
      · have hno : has t.links id = false := by
          cases hh : has t.links id with
          | false => rfl
          | true => simp [addErr, hh] at he
        have hx : add t id q = withLinks t (addLinks t.links id q) := by simp [add, he]
        obtain ⟨ex2, hex2, hD⟩ := Drop_call (add t id q) id (by rw [hx]; exact small_links sm (by rw [addLinks_len]; omega)) (by rw [hx]; exact addLinks_sorted hs q hno)
        have hD' := fun (h : Heap) (kp k : A → Heap → Option (Ex × List A × Heap)) => hD h kp k
        have hdr : drop (add t id q) id = t := by
          rw [hx, drop]
          rw [show (withLinks t (addLinks t.links id q)).links = addLinks t.links id q from rfl, if_pos (addLinks_has _ _ _), drop_addLinks hs]; rfl
        have hde : dropErr (add t id q) id = 0 := by rw [hx, dropErr, show (withLinks t (addLinks t.links id q)).links = addLinks t.links id q from rfl, if_pos (addLinks_has _ _ _)]
        rw [hdr, hde] at hD'
        rcases hex2 with rfl | rfl <;> simp [law12_DirBack_k3, law12_DirBack_k1, hA', hD', cS, he, zero_row, dead4, trim, allBelow, fin]
  cases b with
  | false => simp [law12_DirBack, c1, c2, trim, allBelow, start]
  | true =>
    by_cases d1 : id < 1
    · simp [law12_DirBack, c1, c2, trim, allBelow, d1, start]
    · simp [law12_DirBack, c1, c2, trim, allBelow, d1, start]
end Go.Ab.T
