/-
  THE PLAIN LAWS, AND WHAT THEY STAND ON, TOGETHER.
-/
import Derived.Test.YtdeecocfcihkjaaTAllA
import Derived.Test.YtdeecocfcihkjaaFnF
import Derived.KernelRfl
import Derived.Test.YtdeecocfcihkjaaFnE
/-
  WHAT SMALL FUNCTIONS COME TO, over the program's plain types.
-/
set_option linter.unusedSimpArgs false
set_option linter.unusedVariables false
namespace Go.Ab.T
open Go Go.Ab Go.Ab.F

/-- The level of a category. -/
def level (l : Label) (id : Int) : Int :=
  match l.cats.find? (fun c => c.id == id) with
  | some c => c.level
  | none => l.df

end Go.Ab.T

/-
  WHAT IS HIDDEN, OWNED, NESTED.
-/
set_option linter.unusedSimpArgs false
set_option linter.unusedVariables false
namespace Go.Ab.T
open Go Go.Ab Go.Ab.F

/-! hidden -/
def hidden (t : Thing) (cats : List Int) : Bool := cats.any fun c => decide (4 ≤ level t.label c)
theorem rlevel_call (l : Label) (c : Int) (hl : l.cats.length < 2 ^ 63) {β : Type} (h : Heap) (kp k : A → Heap → Option β) : oLend ref09_Level [.agg (labelC l), .s (.int .u64 c)] h kp k = k (.s (.int .i64 (level l c))) h :=
  oLend_val _ _ _ _ _ _ (by simp) (by simp) ((ref09_Level_v l c hl).trans rfl)
/-! owned -/
def owners (g : List Thing) (c : Int) : List Int := (g.filter fun t => decide (level t.label c = 0)).map Thing.id
theorem owners_succ (g : List Thing) (c : Int) (i : Nat) (t : Thing) (h : g[i]? = some t) : owners (g.take (i + 1)) c = owners (g.take i) c ++ if level t.label c = 0 then [t.id] else [] := by
  rw [List.take_add_one, h]
  by_cases hz : level t.label c = 0 <;> simp [owners, List.filter_append, hz]
theorem owners_le (g : List Thing) (c : Int) : (owners g c).length ≤ g.length := by simp [owners]; exact List.length_filter_le _ _

def owned (g : List Thing) (cats : List Int) : Bool := cats.any fun c => decide (0 < (owners g c).length)
theorem owned_eq (g : List Thing) (cats : List Int) : owned g cats = g.any fun t => cats.any fun c => decide (level t.label c = 0) := by
  rw [Bool.eq_iff_iff]
  simp only [owned, List.any_eq_true, decide_eq_true_eq, owners, List.length_map, List.length_pos_iff_exists_mem, List.mem_filter]
  exact ⟨fun ⟨c, h1, t, h2, h3⟩ => ⟨t, h2, c, h1, h3⟩, fun ⟨t, h2, c, h1, h3⟩ => ⟨c, h1, t, h2, h3⟩⟩
end Go.Ab.T

/-
  NESTED, AND FINDING IN ORDER.
-/
set_option linter.unusedSimpArgs false
set_option linter.unusedVariables false
namespace Go.Ab.T
open Go Go.Ab Go.Ab.F

/-! finding by halves -/
theorem keyL_has (g : List Thing) (id : Int) : has (keyL g) id = (findT g id).isSome := by
  rw [has, findT, Bool.eq_iff_iff, List.find?_isSome, List.find?_isSome]
  constructor
  · rintro ⟨l, hl, h⟩
    obtain ⟨t, ht, rfl⟩ := List.mem_map.1 hl
    exact ⟨t, ht, h⟩
  · rintro ⟨t, ht, h⟩
    exact ⟨⟨t.id, 0⟩, List.mem_map.2 ⟨t, ht, rfl⟩, h⟩
theorem find_place : ∀ (g : List Thing) (hs : sortedL (keyL g)) (id : Int), findT g id = if has (keyL g) id = true then g[place (keyL g) id]? else none
  | [], _, id => by simp [findT, has, keyL]
  | a :: g, hs, id => by
    have ih := find_place g (sortedL_tail hs) id
    have hk : keyL (a :: g) = ⟨a.id, 0⟩ :: keyL g := rfl
    by_cases h1 : a.id < id
    · have hp : place (keyL (a :: g)) id = place (keyL g) id + 1 := by simp [hk, place, h1]
      have hne : (a.id == id) = false := by simp; omega
      have hh : has (keyL (a :: g)) id = has (keyL g) id := by simp [hk, has, List.find?_cons, hne]
      have hf : findT (a :: g) id = findT g id := by simp [findT, List.find?_cons, hne]
      rw [hp, hh, hf, ih]
      simp
    · have hp : place (keyL (a :: g)) id = 0 := by simp [hk, place, h1]
      by_cases h2 : a.id = id
      · have hb : (a.id == id) = true := by simpa using h2
        have hh : has (keyL (a :: g)) id = true := by simp [hk, has, List.find?_cons, hb]
        rw [hp, hh]
        simp [findT, List.find?_cons, hb]
      · have hnone : findT (a :: g) id = none := by
          rw [findT, List.find?_eq_none]
          intro t ht
          rcases List.mem_cons.1 ht with rfl | ht
          · simpa using h2
          · have := sortedL_lt (hk ▸ hs) ⟨t.id, 0⟩ (List.mem_map.2 ⟨t, ht, rfl⟩)
            simp at this ⊢; omega
        have hh : has (keyL (a :: g)) id = false := by rw [keyL_has, hnone]; rfl
        rw [hh, hnone]; simp

theorem search_thing (En : String → CallFn) : slices_BinarySearchFunc_Sapi_Thing_api_Thing_uint64 En = gSearch 26 (some 26) En := by
  funext args objs; rcases args with _ | ⟨a0, _ | ⟨a1, _ | ⟨a2, _ | ⟨a3, r⟩⟩⟩⟩ <;> rfl
theorem graph_place_c1_v (t : Thing) (id : Int) : graph_place_c1 [.agg (thingC t), .s (.int .u64 id)] [] = some (.ok (.s (.int .i64 (cmpI t.id id))), []) := by
  have h : ∀ (β : Type) (x y : Int) (h : Heap) (kp k : A → Heap → Option β), oLend cmp_Compare_uint64 [.s (.int .u64 x), .s (.int .u64 y)] h kp k = k (.s (.int .i64 (cmpI x y))) h := fun β x y h kp k =>
    oLend_val _ _ _ _ _ _ (by simp [pureL, pureA]) (by simp) (cmp_Compare_v x y)
  simp [graph_place_c1, h, finish_val]
theorem graph_place_v (g : List Thing) (id : Int) (hg : g.length < 2 ^ 63) (hs : sortedL (keyL g)) :
    graph_place [mkF 26 (g.map thingC), .s (.int .u64 id)] [] = some (.ok (.tup [.s (.int .i64 (place (keyL g) id)), .s (.bool (has (keyL g) id))]), []) := by
  have h1 := gSearch_v thingE En_graph_place "bailey/graph.place$1" [] (.s (.int .u64 id)) (fun t => cmpI t.id id) g (place (keyL g) id) (by simp [pureL]) rfl rfl rfl
    (fun x _ => by simpa [En_graph_place, thingE] using graph_place_c1_v x id) hg (by have := place_le (keyL g) id; simpa [keyL] using this)
    (fun i t ht => by
      rw [← place_lt hs id i ⟨t.id, 0⟩ (by rw [keyL_get, ht]; rfl)]
      unfold cmpI; by_cases h1 : t.id < id <;> by_cases h2 : id < t.id <;> simp [h1, h2])
  have e : (g[place (keyL g) id]?.any fun x => decide (cmpI x.id id = 0)) = has (keyL g) id := by
    rw [← place_has hs, keyL_get]
    cases g[place (keyL g) id]? <;> rfl
  rw [e] at h1
  have h : ∀ (β : Type) (h : Heap) (kp k : A → Heap → Option β), oLend (gSearch 26 (some 26) En_graph_place) [mkF 26 (g.map thingC), .s (.int .u64 id), .fn "bailey/graph.place$1" []] h kp k = k (.tup [.s (.int .i64 (place (keyL g) id)), .s (.bool (has (keyL g) id))]) h := fun β h kp k =>
    oLend_val _ _ _ _ _ _ (by simp [pureL, pureA]) (by simp) h1
  simp only [graph_place, search_thing]
  simp [h, finish_val, oFrz_pure, pureA, pureL]

/-- A copy that is lent. -/
theorem Copy_frz (t : Thing) (sm : small t) {β : Type} (h : Heap) (kp k : A → Heap → Option β) :
    (oLend thing_Copy [.agg (thingC t)] h kp fun w h' => oFrz w h' k) = k (.agg (thingC t)) (h ++ dead4) := by
  rw [Copy_call t sm]
  refine oFrz_agg (l' := thingC t) (H' := h ++ dead4) ?_ (by simp) (by simp) k
  have hcells : FrzCells (ownRow t h.length (h.length + 1) (h.length + 2) (h.length + 3) 1 t.links.length) (h ++ own4 t 1 t.links)
      (List.map normA [.s (.int .u64 t.id), .s (.int .i64 t.kind), .s (.int .i64 t.label.df)] ++ (mkF 2 (t.label.cats.map catC) :: normA (.s (.int .i64 t.clear.df)) :: mkF 2 (t.clear.cats.map catC) :: normA (.s (.int .i64 t.quota)) :: normA (.s (.int .i64 t.next)) :: mkF 2 (t.links.map linkC) :: mkF 1 (t.data.map (cellC .u8)) ::
        List.map normA [.s (.int .u64 t.r0), .s (.int .u64 t.r1), .s (.int .u64 t.r2), .s (.int .u64 t.r3), .s (.int .i64 t.minted), .s (.int .i64 t.boot), .s (.bool t.halted), .s (.int .u64 t.value), .s (.int .u64 t.s0.dir), .s (.int .u64 t.s0.seg), .s (.int .u64 t.s1.dir), .s (.int .u64 t.s1.seg), .s (.int .u64 t.s2.dir), .s (.int .u64 t.s2.seg), .s (.int .u64 t.s3.dir), .s (.int .u64 t.s3.seg)]))
      ((((((h ++ own4 t 1 t.links).set h.length .dead).set (h.length + 1) .dead).set (h.length + 2) .dead).set (h.length + 3) .dead)) := by
    refine .flat _ _ _ _ _ rfl (.flat _ _ _ _ _ rfl (.flat _ _ _ _ _ rfl (.own _ 1 2 _ (t.label.cats.map catC) _ _ _ _ (by simp [own4]) (by simp) (pureRows_map _ (fun x => by simp) _)
      (.flat _ _ _ _ _ rfl (.own _ 1 2 _ (t.clear.cats.map catC) _ _ _ _ (by rw [List.getElem?_set_ne (by omega), List.getElem?_append_right (by omega)]; simp [own4]) (by simp) (pureRows_map _ (fun x => by simp) _)
      (.flat _ _ _ _ _ rfl (.flat _ _ _ _ _ rfl (.own _ 1 2 _ (t.links.map linkC) _ _ _ _ (by rw [List.getElem?_set_ne (by omega), List.getElem?_set_ne (by omega), List.getElem?_append_right (by omega)]; simp [own4]) (by simp) (pureRows_map _ (fun x => by simp) _)
      (.own _ 1 1 _ (t.data.map (cellC .u8)) _ _ _ _ (by rw [List.getElem?_set_ne (by omega), List.getElem?_set_ne (by omega), List.getElem?_set_ne (by omega), List.getElem?_append_right (by omega)]; simp [own4]) (by simp) (pureRows_map _ (fun x => by simp) _) ?_)))))))))
    repeat (first | exact .nil _ | refine .flat _ _ _ _ _ rfl ?_)
  have hH : ((((h ++ own4 t 1 t.links).set h.length .dead).set (h.length + 1) .dead).set (h.length + 2) .dead).set (h.length + 3) .dead = h ++ dead4 := by
    rw [List.set_append_right _ _ (by omega), List.set_append_right _ _ (by omega), List.set_append_right _ _ (by omega), List.set_append_right _ _ (by omega)]
    simp [own4, dead4]
  rw [hH] at hcells
  exact hcells

theorem graph_Find_v (g : List Thing) (id : Int) (hg : g.length < 2 ^ 63) (hs : sortedL (keyL g)) (hsm : ∀ t ∈ g, small t) : graph_Find [mkF 26 (g.map thingC), .s (.int .u64 id)] [] =
    some (.ok (match findT g id with | some t => .tup [.agg (thingC t), .s (.bool true)] | none => .tup [.agg zeroRow, .s (.bool false)]), []) := by
  have hP : ∀ (β : Type) (h : Heap) (kp k : A → Heap → Option β), oLend graph_place [mkF 26 (g.map thingC), .s (.int .u64 id)] h kp k = k (.tup [.s (.int .i64 (place (keyL g) id)), .s (.bool (has (keyL g) id))]) h := fun β h kp k =>
    oLend_val _ _ _ _ _ _ (by simp) (by simp) (graph_place_v g id hg hs)
  have hfp := find_place g hs id
  simp only [graph_Find]
  rw [show ([A.s (.int .u64 0), .s (.int .i64 0), .s (.int .i64 0), .s (.slice none 0 0), .s (.int .i64 0), .s (.slice none 0 0), .s (.int .i64 0), .s (.int .i64 0), .s (.slice none 0 0), .s (.slice none 0 0), .s (.int .u64 0), .s (.int .u64 0), .s (.int .u64 0), .s (.int .u64 0), .s (.int .i64 0), .s (.int .i64 0), .s (.bool false), .s (.int .u64 0), .s (.int .u64 0), .s (.int .u64 0), .s (.int .u64 0), .s (.int .u64 0), .s (.int .u64 0), .s (.int .u64 0), .s (.int .u64 0), .s (.int .u64 0)]) = zeroRow from rfl]
  have hzne : ¬ zeroRow = [] := by simp [zeroRow]
  cases hh : has (keyL g) id with
  | false =>
    rw [hh] at hfp
    have hf : fillA zeroRow [] = some zeroRow := rfl
    simp [hP, hh, hf, hfp, hzne, zeroRow_len, zeroRow_at, zeroRow_ids, zeroRow_drop, finish_val]
  | true =>
    rw [hh] at hfp
    simp only [if_true] at hfp
    have hsome : (findT g id).isSome = true := by rw [← keyL_has, hh]
    obtain ⟨t, ht⟩ := Option.isSome_iff_exists.1 hsome
    rw [ht] at hfp
    have hi : ∀ (β : Type) (k : A → Option β), oIdxA 26 (mkF 26 (g.map thingC)) (.s (.int .i64 (place (keyL g) id))) k = k (.cptr (thingC t)) := fun β k => oIdxA_mkF 26 thingC g .i64 _ t k hfp.symm
    have hcp := fun (h : Heap) (kp k : A → Heap → Option (Out × Heap)) => Copy_frz t (hsm t (List.mem_of_getElem? hfp.symm)) h kp k
    simp [hP, hh, hi, hcp, ht, hzne, zeroRow_len, zeroRow_at, zeroRow_ids, zeroRow_drop, dead4, put_thing, drop_thing, finish_val]
theorem graph_Find_call (g : List Thing) (id : Int) (hg : g.length < 2 ^ 63) (hs : sortedL (keyL g)) (hsm : ∀ t ∈ g, small t) {β : Type} (h : Heap) (kp k : A → Heap → Option β) :
    (oLend graph_Find [mkF 26 (g.map thingC), .s (.int .u64 id)] h kp fun w h' => oFrz w h' k) = k (.tup [.agg (thingC ((findT g id).getD zeroT)), .s (.bool (findT g id).isSome)]) h := by
  have hv := graph_Find_v g id hg hs hsm
  cases hf : findT g id with
  | some t =>
    rw [hf] at hv
    rw [oLend_val _ _ _ _ _ _ (by simp) (by simp) hv]
    simp
  | none =>
    rw [hf] at hv
    rw [oLend_val _ _ _ _ _ _ (by simp) (by simp [zeroRow_ids]) hv]
    exact oFrz_tup (zeroRow_frz h) (by simp [zeroRow, notSlice]) (by simp [zeroRow]) [.s (.bool false)] (by simp) k
end Go.Ab.T

/-
  NESTED, AND THE VIEW.
-/
set_option linter.unusedSimpArgs false
set_option linter.unusedVariables false
namespace Go.Ab.T
open Go Go.Ab Go.Ab.F

/-- What is asked of a graph. -/
structure okN (g : List Thing) : Prop where
  len : g.length < 1000000
  rising : sortedL (keyL g)
  each : ∀ t ∈ g, okT t
theorem okN.lab {g : List Thing} (h : okN g) : ∀ t ∈ g, t.label.cats.length < 2 ^ 63 := fun t ht => by have := (h.each t ht).small.label; omega
theorem okN.small {g : List Thing} (h : okN g) : ∀ t ∈ g, small t := fun t ht => (h.each t ht).small
theorem okN.t1 {g : List Thing} (h : okN g) : ∀ t ∈ g, t.links.length < 2 ^ 63 := fun t ht => by have := (h.each t ht).few; omega
theorem find_self {g : List Thing} (hs : sortedL (keyL g)) {t : Thing} (ht : t ∈ g) : findT g t.id = some t := by
  induction g with
  | nil => cases ht
  | cons a g ih =>
    have hk : keyL (a :: g) = ⟨a.id, 0⟩ :: keyL g := rfl
    rw [hk] at hs
    by_cases he : a = t
    · subst he
      have hb : (a.id == a.id) = true := by simp
      rw [findT, List.find?_cons, hb]
    · have ht' : t ∈ g := by
        rcases List.mem_cons.1 ht with h | h
        · exact absurd h.symm he
        · exact h
      have h1 := sortedL_lt hs ⟨t.id, 0⟩ (List.mem_map.2 ⟨t, ht', rfl⟩)
      have hne : (a.id == t.id) = false := by simp at h1 ⊢; omega
      have h2 := ih (sortedL_tail hs) ht'
      rw [findT, List.find?_cons, hne]
      exact h2
theorem find_mem {g : List Thing} {id : Int} {t : Thing} (h : findT g id = some t) : t ∈ g ∧ t.id = id := ⟨List.mem_of_find?_eq_some h, by have := List.find?_some h; simpa using this⟩
theorem found_lab {g : List Thing} (h : okN g) (id : Int) : ((findT g id).getD zeroT).label.cats.length < 2 ^ 63 := by
  cases hf : findT g id with
  | none => simp [zeroT, bareT]
  | some t => simpa using h.lab t (find_mem hf).1

/-! nested -/
def badL (g : List Thing) (cats : List Int) (d : Thing) (l : Link) : Bool := (findT g l.id).isSome && (hidden d cats && !hidden ((findT g l.id).getD zeroT) cats)
def badR (cats : List Int) (d t : Thing) : Bool := hidden d cats && (has d.links t.id && !hidden t cats)
theorem any_find {α : Type} (p : α → Bool) (xs : List α) : xs.any p = (xs.find? p).isSome := by
  rw [Bool.eq_iff_iff, List.any_eq_true, List.find?_isSome]

theorem has_iff (ls : List Link) (id : Int) : has ls id = true ↔ ∃ l ∈ ls, l.id = id := by
  rw [has, List.find?_isSome]; simp
theorem nested_eq (g : List Thing) (h : okN g) (cats : List Int) : (g.any fun d => d.links.any (badL g cats d)) = (g.any fun d => g.any (badR cats d)) := by
  rw [Bool.eq_iff_iff]
  simp only [List.any_eq_true, badL, badR, Bool.and_eq_true, Bool.not_eq_true', has_iff]
  constructor
  · rintro ⟨d, hd, l, hl, h1, h2, h3⟩
    obtain ⟨t, ht⟩ := Option.isSome_iff_exists.1 h1
    rw [ht] at h3
    obtain ⟨m1, m2⟩ := find_mem ht
    exact ⟨d, hd, t, m1, h2, ⟨l, hl, m2.symm⟩, h3⟩
  · rintro ⟨d, hd, t, ht, h2, ⟨l, hl, e⟩, h3⟩
    have := find_self h.rising ht
    exact ⟨d, hd, l, hl, by rw [e, this]; rfl, h2, by rw [e, this]; exact h3⟩

/-! the view -/
def held (g : List Thing) (cats : List Int) (t : Thing) : Bool := g.any fun d => has d.links t.id && !hidden d cats
/-- One thing of the view: whole, or bare. -/
abbrev VR := Thing × Bool
def bareV (t : Thing) : Thing := bareT t.id t.kind ⟨0, []⟩ t.quota
def bareVRow (t : Thing) : List A := [.s (.int .u64 t.id), .s (.int .i64 t.kind), .s (.int .i64 0), .s (.slice none 0 0), .s (.int .i64 0), .s (.slice none 0 0), .s (.int .i64 t.quota), .s (.int .i64 0), .s (.slice none 0 0), .s (.slice none 0 0), .s (.int .u64 0), .s (.int .u64 0), .s (.int .u64 0), .s (.int .u64 0), .s (.int .i64 0), .s (.int .i64 0), .s (.bool false), .s (.int .u64 0), .s (.int .u64 0), .s (.int .u64 0), .s (.int .u64 0), .s (.int .u64 0), .s (.int .u64 0), .s (.int .u64 0), .s (.int .u64 0), .s (.int .u64 0)]
def vrC (v : VR) : List A := if v.2 then bareVRow v.1 else thingC v.1
def vrT (v : VR) : Thing := if v.2 then bareV v.1 else v.1
def viewOne (g : List Thing) (cats : List Int) (t : Thing) : Option VR :=
  if (!hidden t cats || (held g cats t && decide (t.kind = 3))) = true then some (t, false) else if held g cats t = true then some (t, true) else none
def viewR (g : List Thing) (cats : List Int) (ts : List Thing) : List VR := ts.filterMap (viewOne g cats)
def view (g : List Thing) (cats : List Int) : List Thing := (viewR g cats g).map vrT
theorem viewR_succ (g : List Thing) (cats : List Int) (ts : List Thing) (i : Nat) (t : Thing) (h : ts[i]? = some t) : viewR g cats (ts.take (i + 1)) = viewR g cats (ts.take i) ++ (viewOne g cats t).toList := by
  rw [List.take_add_one, h]
  cases hv : viewOne g cats t <;> simp [viewR, List.filterMap_append, hv]
theorem viewR_le (g : List Thing) (cats : List Int) (ts : List Thing) : (viewR g cats ts).length ≤ ts.length := List.length_filterMap_le _ _
theorem vrC_len (v : VR) : (vrC v).length = 26 := by unfold vrC; split <;> rfl
theorem vrC_ids (v : VR) : idsL (vrC v) = [] := by unfold vrC; split <;> rfl
theorem vrC_flat (v : VR) : ∀ a ∈ vrC v, flatA a = true := by unfold vrC; split <;> simp [bareVRow, thingC]
theorem vrC_norm (v : VR) : (vrC v).map normA = thingC (vrT v) := by
  unfold vrC vrT; split
  · rfl
  · simp [thingC]
theorem vr_ids (l : List VR) : idsRows (l.map vrC) = [] := idsRows_map _ vrC_ids l
theorem vr_ren (f : Nat → Option Nat) (l : List VR) : renRows f (l.map vrC) = some (l.map vrC) := renRows_map f vrC (fun v => by
  unfold vrC; split
  · simp [bareVRow]
  · simp [thingC]) l

/-- What is frozen of rows of flat cells. -/
theorem frzL_flat (h : Heap) : ∀ (l : List A) (n : Nat), (∀ a ∈ l, flatA a = true) → frzL (n + l.length + 2) l h = some (l.map normA, h)
  | [], n, _ => by simp [frzL]
  | a :: r, n, hf => by
    rw [show n + (a :: r).length + 2 = (n + r.length + 2) + 1 by simp; omega, frzL]
    split
    · rename_i hp
      rw [norm_pure hp hf]
    · have e1 : frzA (n + r.length + 2) a h = some (normA a, h) := by
        have hfa := hf a (by simp)
        cases a <;> simp [flatA] at hfa <;> simp [frzA, normA]
      rw [e1, Option.bind_some]
      simp only
      rw [frzL_flat h r n fun x hx => hf x (by simp [hx])]
      simp
theorem frzRows_flat (h : Heap) : ∀ (rows : List (List A)) (n : Nat), (∀ r ∈ rows, (∀ a ∈ r, flatA a = true) ∧ r.length ≤ 30) → frzRows (n + rows.length + 40) rows h = some (rows.map (List.map normA), h)
  | [], n, _ => by simp [frzRows, pureRows]
  | r :: rs, n, hf => by
    have hr := hf r (by simp)
    rw [show n + (r :: rs).length + 40 = (n + rs.length + 40) + 1 by simp; omega, frzRows]
    split
    · rename_i hp
      have hall : ∀ x ∈ r :: rs, x.map normA = x := fun x hx => norm_pure (by simp only [pureRows, List.all_eq_true] at hp; exact hp x hx) (hf x hx).1
      have : (r :: rs).map (List.map normA) = (r :: rs).map fun x => x := List.map_congr_left hall
      rw [this]; simp
    · have e1 : frzL (n + rs.length + 40) r h = some (r.map normA, h) := by
        have := frzL_flat h r (n + rs.length + 38 - r.length) hr.1
        rwa [show n + rs.length + 38 - r.length + r.length + 2 = n + rs.length + 40 by omega] at this
      rw [e1, Option.bind_some]
      simp only
      rw [frzRows_flat h rs n fun x hx => hf x (by simp [hx])]
      simp
theorem oFrz_vr (H : Heap) (id ver : Nat) (l : List VR) (hl : l.length < 900) {β : Type} (k : A → Heap → Option β) (hk : H[id]? = some (.live ⟨ver, 26, l.map vrC⟩)) :
    oFrz (.osl id ver 26 0 l.length) H k = k (mkF 26 ((l.map vrT).map thingC)) (H.set id .dead) := by
  have e : frzRows 999 (l.map vrC) (H.set id .dead) = some ((l.map vrC).map (List.map normA), H.set id .dead) := by
    have := frzRows_flat (H.set id .dead) (l.map vrC) (959 - l.length) (fun r hr => by
      obtain ⟨v, _, rfl⟩ := List.mem_map.1 hr
      exact ⟨vrC_flat v, by rw [vrC_len]; decide⟩)
    rwa [show 959 - l.length + (l.map vrC).length + 40 = 999 by simp; omega] at this
  have e2 : (l.map vrC).map (List.map normA) = (l.map vrT).map thingC := by
    simp [vrC_norm]
  have e3 : frzA 1000 (.osl id ver 26 0 l.length) H = some (mkF 26 ((l.map vrT).map thingC), H.set id .dead) := by
    rw [show (1000 : Nat) = 999 + 1 from rfl, frzA, hk]
    simp only [List.length_map, List.drop_zero]
    rw [if_pos ⟨trivial, by omega⟩, List.take_of_length_le (by simp), e, e2]
    rfl
  simp only [oFrz, pureA, Bool.false_eq_true, if_false, e3]
end Go.Ab.T

/-
  THE VIEW.
-/
set_option linter.unusedSimpArgs false
set_option linter.unusedVariables false
namespace Go.Ab.T
open Go Go.Ab Go.Ab.F

theorem app_whole (ver n : Nat) (rows : List (List A)) (row : List A) (o0 o2 : Go.Ab.Slot) (hn : n = rows.length) (hap : appendOk (n + 1) 272) {β : Type} (k : A → Heap → Option β) :
    oAppend none 26 272 (.osl 1 ver 26 0 n) (.osl 7 0 26 0 1) [o0, .live ⟨ver, 26, rows⟩, o2, .dead, .dead, .dead, .dead, .live ⟨0, 26, [row]⟩] k =
      k (.osl 1 (ver + 1) 26 0 (n + 1)) [o0, .live ⟨ver + 1, 26, rows ++ [row]⟩, o2, .dead, .dead, .dead, .dead, .live ⟨0, 26, [row]⟩] := by
  subst hn
  simp [oAppend_osl, rowsOf_osl, hap, List.take_of_length_le]
theorem app_bare (ver n : Nat) (rows : List (List A)) (row : List A) (o0 o2 : Go.Ab.Slot) (hn : n = rows.length) (hap : appendOk (n + 1) 272) {β : Type} (k : A → Heap → Option β) :
    oAppend none 26 272 (.osl 1 ver 26 0 n) (.osl 3 0 26 0 1) [o0, .live ⟨ver, 26, rows⟩, o2, .live ⟨0, 26, [row]⟩] k =
      k (.osl 1 (ver + 1) 26 0 (n + 1)) [o0, .live ⟨ver + 1, 26, rows ++ [row]⟩, o2, .live ⟨0, 26, [row]⟩] := by
  subst hn
  simp [oAppend_osl, rowsOf_osl, hap, List.take_of_length_le]
theorem app_view (ver n : Nat) (rows : List (List A)) (row : List A) (o1 : Go.Ab.Slot) (hn : n = rows.length) (hap : appendOk (n + 1) 272) {β : Type} (k : A → Heap → Option β) :
    oAppend none 26 272 (.osl 0 ver 26 0 n) (.osl 2 0 26 0 1) [.live ⟨ver, 26, rows⟩, o1, .live ⟨0, 26, [row]⟩] k =
      k (.osl 0 (ver + 1) 26 0 (n + 1)) [.live ⟨ver + 1, 26, rows ++ [row]⟩, o1, .live ⟨0, 26, [row]⟩] := by
  subst hn
  simp [oAppend_osl, rowsOf_osl, hap, List.take_of_length_le]
theorem rows_one (rows : List VR) (v : VR) : idsRows (rows.map vrC ++ [vrC v]) = [] := by have := vr_ids (rows ++ [v]); rwa [List.map_append] at this
theorem rows_whole (rows : List VR) (t : Thing) : idsRows (rows.map vrC ++ [thingC t]) = [] := rows_one rows (t, false)
theorem rows_bare (rows : List VR) (t : Thing) : idsRows (rows.map vrC ++ [bareVRow t]) = [] := rows_one rows (t, true)

def vHeap (cats : List Int) (rows : List VR) (ver : Nat) : Heap := [.live ⟨0, 1, [[mkF 1 (cats.map (cellC .u64))]]⟩, .live ⟨ver, 26, rows.map vrC⟩]
def vSt (cats : List Int) (rows : List VR) (ver i : Nat) : List A × Heap := ([.osl 1 ver 26 0 rows.length, .s (.int .i64 i)], vHeap cats rows ver)

/-! the document's view -/
theorem held_take (g : List Thing) (cats : List Int) (t : Thing) (i : Nat) (d : Thing) (h : g[i]? = some d) : held (g.take (i + 1)) cats t = (held (g.take i) cats t || (has d.links t.id && !hidden d cats)) := by
  rw [List.take_add_one, h]
  simp [held]
def rSt (rows : List VR) (ver i : Nat) : List A × Heap := ([.osl 0 ver 26 0 rows.length, .s (.int .i64 i)], [.live ⟨ver, 26, rows.map vrC⟩])
end Go.Ab.T

/-
  HOW MUCH THINGS ARE: never more than the first one's quota.
-/
set_option linter.unusedSimpArgs false
set_option linter.unusedVariables false
namespace Go.Ab.T
open Go Go.Ab Go.Ab.F

def unitsT (t : Thing) : Int := 1 + (t.data.length : Int) / 32
def unitsG (g : List Thing) : Int := (g.map unitsT).sum

theorem sum_le_mul (l : List Thing) (f : Thing → Int) (c : Int) (h : ∀ t ∈ l, f t ≤ c) : (l.map f).sum ≤ c * l.length := by
  induction l with
  | nil => simp
  | cons a r ih =>
    have h1 := h a (by simp)
    have h2 := ih fun t ht => h t (by simp [ht])
    simp only [List.map_cons, List.sum_cons, List.length_cons]
    have : c * ((r.length + 1 : Nat) : Int) = c * (r.length : Int) + c := by push_cast; rw [Int.mul_add, Int.mul_one]
    omega
theorem sum_nonneg (l : List Thing) (f : Thing → Int) (h : ∀ t ∈ l, 0 ≤ f t) : 0 ≤ (l.map f).sum := by
  induction l with
  | nil => simp
  | cons a r ih =>
    have h1 := h a (by simp)
    have h2 := ih fun t ht => h t (by simp [ht])
    simp only [List.map_cons, List.sum_cons]
    omega
def psum (g : List Thing) (f : Thing → Int) (i : Nat) : Int := ((g.take i).map f).sum
theorem psum_zero (g : List Thing) (f : Thing → Int) : psum g f 0 = 0 := rfl
theorem psum_succ (g : List Thing) (f : Thing → Int) (i : Nat) (t : Thing) (h : g[i]? = some t) : psum g f (i + 1) = psum g f i + f t := by
  unfold psum
  rw [List.take_add_one, h, List.map_append, List.sum_append]; simp
theorem psum_all (g : List Thing) (f : Thing → Int) : psum g f g.length = (g.map f).sum := by simp [psum]
theorem psum_le (g : List Thing) (f : Thing → Int) (c : Int) (i : Nat) (hi : i ≤ g.length) (h : ∀ t ∈ g, 0 ≤ f t ∧ f t ≤ c) : 0 ≤ psum g f i ∧ psum g f i ≤ c * i := by
  have hlen : (g.take i).length = i := by simp; omega
  have h1 := sum_le_mul (g.take i) f c fun t ht => (h t (List.mem_of_mem_take ht)).2
  have h2 := sum_nonneg (g.take i) f fun t ht => (h t (List.mem_of_mem_take ht)).1
  rw [hlen] at h1
  exact ⟨h2, h1⟩

def dT (t : Thing) : Int := (t.data.length : Int) / 32
theorem unitsT_eq (t : Thing) : unitsT t = 1 + dT t := rfl
theorem dT_eq (t : Thing) : (t.data.length : Int) / 32 = dT t := rfl
theorem dT_le {t : Thing} (h : t.data.length ≤ 128) : 0 ≤ dT t ∧ dT t ≤ 4 := by unfold dT; omega

theorem watch_Units_v (g : List Thing) (hg : g.length ≤ 60) (hd : ∀ t ∈ g, t.data.length ≤ 128) : watch_Units [mkF 26 (g.map thingC)] [] = some (.ok (.s (.int .i64 (unitsG g))), []) := by
  simp [watch_Units]
  obtain ⟨q, rfl, hq⟩ := oLoop_inv' (step := watch_Units_l1 (.s (.int .i64 g.length)) (mkF 26 (g.map thingC)) []) (s0 := ([.s (.int .i64 0), .s (.int .i64 0)], []))
    (fun i s => s = ([.s (.int .i64 (psum g unitsT i)), .s (.int .i64 i)], [])) (fun q => q = (.exit 0, [.s (.int .i64 (unitsG g))], [])) g.length rfl (by omega)
    (by
      rintro i s hi rfl
      left
      have hx : g[i]? = some g[i] := List.getElem?_eq_getElem hi
      have hm := List.mem_of_getElem? hx
      generalize g[i] = x at hx hm
      have hw := wrap_succ hi (by omega)
      have hdx := dT_le (hd x hm)
      have hT := psum_succ g unitsT i x hx
      have hB := psum_le g unitsT 5 i (by omega) fun t ht => by have := dT_le (hd t ht); rw [unitsT_eq]; omega
      have hu := unitsT_eq x
      have hq : IntKind.i64.wrap (dT x) = dT x := wrap64_id (by omega) (by omega)
      have h1 : IntKind.i64.wrap (1 + dT x) = unitsT x := wrap64_id (by omega) (by omega)
      have h2 : IntKind.i64.wrap (psum g unitsT i + unitsT x) = psum g unitsT (i + 1) := by
        rw [hT]; exact wrap64_id (by omega) (by omega)
      exact ⟨_, by simp [watch_Units_l1, hi, oIdxA_mkF _ _ _ _ _ _ _ hx, dT_eq, hq, h1, h2, hw, trim, allBelow, drop_thing, put_thing]; rfl, by simp⟩)
    (by
      rintro s rfl
      refine ⟨_, by simp [watch_Units_l1, trim, allBelow]; rfl, by simp [unitsG, psum_all]⟩)
  rw [hq]
  simp [watch_Units_k2, finish_val]

theorem ref23_Units_v (g : List Thing) (hg : g.length ≤ 60) (hd : ∀ t ∈ g, t.data.length ≤ 128) : ref23_Units [mkF 26 (g.map thingC)] [] = some (.ok (.s (.int .i64 (unitsG g))), []) := by
  simp [ref23_Units]
  have e0 : ∀ l : List Thing, (l.map unitsT).sum = (l.length : Int) + (l.map dT).sum := by
    intro l
    induction l with
    | nil => simp
    | cons a r ih => simp only [List.map_cons, List.sum_cons, List.length_cons, ih, unitsT_eq]; push_cast; omega
  obtain ⟨q, rfl, hq⟩ := oLoop_inv' (step := ref23_Units_l1 (.s (.int .i64 g.length)) (mkF 26 (g.map thingC)) []) (s0 := ([.s (.int .i64 g.length), .s (.int .i64 0)], []))
    (fun i s => s = ([.s (.int .i64 ((g.length : Int) + psum g dT i)), .s (.int .i64 i)], [])) (fun q => q = (.exit 0, [.s (.int .i64 (unitsG g))], [])) g.length (by simp [psum_zero]) (by omega)
    (by
      rintro i s hi rfl
      left
      have hx : g[i]? = some g[i] := List.getElem?_eq_getElem hi
      have hm := List.mem_of_getElem? hx
      generalize g[i] = x at hx hm
      have hw := wrap_succ hi (by omega)
      have hdx := dT_le (hd x hm)
      have hT := psum_succ g dT i x hx
      have hB := psum_le g dT 4 i (by omega) fun t ht => dT_le (hd t ht)
      have hq : IntKind.i64.wrap (dT x) = dT x := wrap64_id (by omega) (by omega)
      have h2 : IntKind.i64.wrap ((g.length : Int) + psum g dT i + dT x) = (g.length : Int) + psum g dT (i + 1) := by
        rw [hT, ← Int.add_assoc]; exact wrap64_id (by omega) (by omega)
      exact ⟨_, by simp [ref23_Units_l1, hi, oIdxA_mkF _ _ _ _ _ _ _ hx, dT_eq, hq, h2, hw, trim, allBelow, drop_thing, put_thing]; rfl, by simp⟩)
    (by
      rintro s rfl
      refine ⟨_, by simp [ref23_Units_l1, trim, allBelow]; rfl, by simp [unitsG, psum_all, e0]⟩)
  rw [hq]
  simp [ref23_Units_k2, finish_val]

/-! ### never more than the first one's quota -/
theorem sum_pos0 {f : Int → Int} (hf : ∀ x, 0 ≤ f x) (L : List Int) : 0 ≤ (L.map f).sum := by
  induction L with
  | nil => simp
  | cons a r ih => have := hf a; simp only [List.map_cons, List.sum_cons]; omega
theorem sum_sub {f : Int → Int} (hf : ∀ x, 0 ≤ f x) : ∀ (xs L : List Int), xs.Nodup → (∀ x ∈ xs, x ∈ L) → (xs.map f).sum ≤ (L.map f).sum
  | [], L, _, _ => by
    simp only [List.map_nil, List.sum_nil]
    exact sum_pos0 hf L
  | x :: xs, L, hn, hs => by
    obtain ⟨hx, hn⟩ := List.nodup_cons.1 hn
    have hm : x ∈ L := hs x (by simp)
    obtain ⟨A, B, rfl⟩ := List.append_of_mem hm
    have := sum_sub hf xs (A ++ B) hn fun y hy => by
      have := hs y (by simp [hy])
      simp only [List.mem_append, List.mem_cons] at this ⊢
      rcases this with h | rfl | h
      · exact .inl h
      · exact absurd hy hx
      · exact .inr h
    simp only [List.map_append, List.sum_append, List.map_cons, List.sum_cons] at this ⊢
    omega

theorem has_iff2 (ls : List Link) (id : Int) : has ls id = true ↔ ∃ l ∈ ls, l.id = id := by
  simp [has, List.find?_isSome]
theorem ids_pairwise {g : List Thing} (hs : sortedL (keyL g)) : g.Pairwise (fun a b => a.id < b.id) := by
  have := pairwise_of hs
  unfold keyL at this
  rw [List.pairwise_map] at this
  exact this
theorem ids_nodup {g : List Thing} (hs : sortedL (keyL g)) : (g.map Thing.id).Nodup := by
  rw [List.Nodup, List.pairwise_map]
  exact (ids_pairwise hs).imp fun h => by omega
theorem findT_of {g : List Thing} (hs : sortedL (keyL g)) {t : Thing} (ht : t ∈ g) : findT g t.id = some t := by
  have hp := ids_pairwise hs
  clear hs
  unfold findT
  induction g with
  | nil => simp at ht
  | cons a r ih =>
    obtain ⟨h1, h2⟩ := List.pairwise_cons.1 hp
    rcases List.mem_cons.1 ht with rfl | ht
    · simp
    · have := h1 t ht
      have hb : (a.id == t.id) = false := by simp; omega
      simp only [List.find?_cons, hb]
      exact ih ht h2

def qOf (g : List Thing) (id : Int) : Int := match findT g id with | some t => t.quota | none => 0
theorem qOf_id {g : List Thing} (hs : sortedL (keyL g)) {t : Thing} (ht : t ∈ g) : qOf g t.id = t.quota := by
  simp [qOf, findT_of hs ht]

theorem quota_pos {t : Thing} (ok : okT t) : unitsT t + sumQ t.links ≤ t.quota ∧ 0 ≤ t.quota := by
  rcases ok.body with ⟨h1, h2⟩ | ⟨h1, h2, h3⟩
  · have hd := ok.dir h1
    have := used_sum hd.links
    have := hd.room
    simp only [unitsT, h2, List.length_nil]
    omega
  · simp only [unitsT, h1, sumQ, List.map_nil, List.sum_nil]
    omega

theorem flat_sum (g : List Thing) (f : Int → Int) : ((g.flatMap fun t => t.links.map Link.id).map f).sum = (g.map fun t => ((t.links.map Link.id).map f).sum).sum := by
  induction g with
  | nil => rfl
  | cons a r ih => simp only [List.flatMap_cons, List.map_append, List.sum_append, ih, List.map_cons, List.sum_cons]

theorem units_le {g : List Thing} (h : soundG g) (t : Thing) (r : List Thing) (hg : g = t :: r) : unitsG g ≤ t.quota := by
  have hall : ∀ x ∈ g, okT x ∧ ∀ l ∈ x.links, ∃ y, fitL g x l y := fun x hx => by
    obtain ⟨j, hj, rfl⟩ := List.mem_iff_getElem.1 hx
    have := h.all j _ (List.getElem?_eq_getElem hj)
    exact ⟨this.ok, this.fits⟩
  have hq0 : ∀ x, 0 ≤ qOf g x := fun x => by
    unfold qOf
    cases hf : findT g x with
    | none => simp
    | some u => exact (quota_pos (hall u (List.mem_of_find?_eq_some hf)).1).2
  have h1 : ∀ x ∈ g, ((x.links.map Link.id).map (qOf g)).sum = sumQ x.links := fun x hx => by
    unfold sumQ
    rw [List.map_map]
    congr 1
    refine List.map_congr_left fun l hl => ?_
    obtain ⟨y, hy⟩ := (hall x hx).2 l hl
    simp only [Function.comp]
    rw [← hy.id, qOf_id h.sorted hy.mem, hy.quota]
  have h2 : (r.map fun x => qOf g x.id).sum ≤ ((g.flatMap fun t => t.links.map Link.id).map (qOf g)).sum := by
    have hn : (r.map Thing.id).Nodup := by
      have := ids_nodup h.sorted
      rw [hg] at this
      exact (List.nodup_cons.1 this).2
    have := sum_sub hq0 (r.map Thing.id) (g.flatMap fun t => t.links.map Link.id) hn fun x hx => by
      obtain ⟨y, hy, rfl⟩ := List.mem_map.1 hx
      obtain ⟨j, hj, rfl⟩ := List.mem_iff_getElem.1 hy
      obtain ⟨d, hd, hl⟩ := (h.all (j + 1) r[j] (by rw [hg]; simp)).ref (by omega)
      obtain ⟨l, hl, he⟩ := (has_iff2 _ _).1 hl
      exact List.mem_flatMap.2 ⟨d, hd, List.mem_map.2 ⟨l, hl, he⟩⟩
    rwa [List.map_map] at this
  rw [flat_sum] at h2
  have h3 : (g.map fun t => ((t.links.map Link.id).map (qOf g)).sum).sum = (g.map fun t => sumQ t.links).sum := by
    congr 1
    exact List.map_congr_left h1
  have h4 : (r.map fun x => qOf g x.id).sum = (r.map Thing.quota).sum := by
    congr 1
    exact List.map_congr_left fun x hx => qOf_id h.sorted (by rw [hg]; simp [hx])
  have h5 : ∀ l : List Thing, (∀ x ∈ l, okT x) → (l.map unitsT).sum + (l.map fun t => sumQ t.links).sum ≤ (l.map Thing.quota).sum := by
    intro l
    induction l with
    | nil => simp
    | cons a l ih =>
      intro hl
      have := ih fun x hx => hl x (by simp [hx])
      have := (quota_pos (hl a (by simp))).1
      simp only [List.map_cons, List.sum_cons]
      omega
  have h6 := h5 g fun x hx => (hall x hx).1
  have h7 : (g.map Thing.quota).sum = t.quota + (r.map Thing.quota).sum := by rw [hg]; simp
  unfold unitsG
  omega

theorem watchAlive_v : law23_watchAlive [] [] = some (.ok (.s (.bool true)), []) := by kernel_rfl

theorem okG_of2 {g : List Thing} (w : ∀ x ∈ g, okThing x) (hl : g.length ≤ 60) : okG g :=
  ⟨by omega, fun t ht => ⟨(w t ht).t1, fits_lt (w t ht).data.1, (wf_u64 (w t ht).id).1, (wf_u64 (w t ht).id).2⟩⟩

theorem WatchUnits_v (g : List Thing) (w1 : fitsM g.length 272 ∧ ∀ x ∈ g, okThing x) : law23_WatchUnits [mkF 26 (g.map thingC)] [] = some (.ok (.s (.bool true)), []) := by
  have hA : ∀ (β : Type) (h : Heap) (kp k : A → Heap → Option β), oLend law23_watchAlive [] h kp k = k (.s (.bool true)) h := fun β h kp k => oLend_val _ _ _ _ _ _ (by simp) (by simp) watchAlive_v
  by_cases c0 : 60 < g.length
  · have c0' : (60 : Int) < (g.length : Int) := by omega
    simp [law23_WatchUnits, law23_WatchUnits_k1, hA, c0, c0', trim, allBelow, finish_val]
  · have c0' : ¬ (60 : Int) < (g.length : Int) := by omega
    have ok := okG_of2 w1.2 (by omega)
    obtain ⟨b, hb, hs⟩ := Sound_v' g ok
    have hS : ∀ (β : Type) (h : Heap) (kp k : A → Heap → Option β), oLend ref13_Sound [mkF 26 (g.map thingC)] h kp k = k (.s (.bool b)) h := fun β h kp k => oLend_val _ _ _ _ _ _ (by simp) (by simp) hb
    cases b with
    | false => simp [law23_WatchUnits, law23_WatchUnits_k1, hA, hS, c0, c0', trim, allBelow, finish_val]
    | true =>
      have hs := hs rfl
      obtain ⟨t, r, hg, h1, h2⟩ := hs.first
      have hd : ∀ t ∈ g, t.data.length ≤ 128 := fun t ht => by
        obtain ⟨j, hj, rfl⟩ := List.mem_iff_getElem.1 ht
        rcases (hs.all j _ (List.getElem?_eq_getElem hj)).ok.body with ⟨_, h⟩ | ⟨_, h, _⟩
        · simp [h]
        · exact h
      have hU : ∀ (β : Type) (h : Heap) (kp k : A → Heap → Option β), oLend watch_Units [mkF 26 (g.map thingC)] h kp k = k (.s (.int .i64 (unitsG g))) h := fun β h kp k => oLend_val _ _ _ _ _ _ (by simp) (by simp) (watch_Units_v g (by omega) hd)
      have hR : ∀ (β : Type) (h : Heap) (kp k : A → Heap → Option β), oLend ref23_Units [mkF 26 (g.map thingC)] h kp k = k (.s (.int .i64 (unitsG g))) h := fun β h kp k => oLend_val _ _ _ _ _ _ (by simp) (by simp) (ref23_Units_v g (by omega) hd)
      have hx : g[0]? = some t := by rw [hg]; rfl
      have i0 : ∀ (β : Type) (k : A → Option β), oIdxA 26 (mkF 26 (g.map thingC)) (.s (.int .i64 0)) k = k (.cptr (thingC t)) := fun β k => oIdxA_mkF 26 thingC g .i64 0 t k hx
      have hle := units_le hs t r hg
      simp [law23_WatchUnits, law23_WatchUnits_k1, hA, hS, hU, hR, i0, c0, c0', hle, trim, allBelow, finish_val]
end Go.Ab.T

/-
  WAYS THROUGH A GRAPH, the shortest first, the lesser first: plain lists alone.
-/
set_option linter.unusedSimpArgs false
set_option linter.unusedVariables false

namespace Go.Ab.T
/-! ### ways, the shortest first, the lesser first -/
def lastW (w : List Int) : Int := w.getLastD 0
def lessL : List Int → List Int → Bool
  | [], _ => false
  | _ :: _, [] => false
  | a :: al, b :: bl => if a = b then lessL al bl else decide (a < b)
theorem lessL_irr : ∀ a, lessL a a = false
  | [] => rfl
  | a :: al => by simp [lessL, lessL_irr al]
theorem lessL_asym : ∀ a b, lessL a b = true → lessL b a = false
  | [], _, h => by simp [lessL] at h
  | _ :: _, [], h => by simp [lessL] at h
  | a :: al, b :: bl, h => by
    simp only [lessL] at h ⊢
    by_cases e : a = b
    · subst e; simp only [if_true] at h ⊢; exact lessL_asym al bl h
    · rw [if_neg e] at h; rw [if_neg (Ne.symm e)]; simp only [decide_eq_true_eq, decide_eq_false_iff_not] at h ⊢; omega
theorem lessL_app : ∀ (a b c d : List Int), lessL a b = true → lessL (a ++ c) (b ++ d) = true
  | [], _, _, _, h => by simp [lessL] at h
  | _ :: _, [], _, _, h => by simp [lessL] at h
  | a :: al, b :: bl, c, d, h => by
    simp only [lessL, List.cons_append] at h ⊢
    by_cases e : a = b
    · rw [if_pos e] at h ⊢; exact lessL_app al bl c d h
    · rw [if_neg e] at h ⊢; exact h
theorem lessL_same : ∀ (a : List Int) (x y : Int), x < y → lessL (a ++ [x]) (a ++ [y]) = true
  | [], x, y, h => by simp [lessL]; omega
  | a :: al, x, y, h => by simp [lessL, lessL_same al x y h]
def slt (a b : List Int) : Prop := a.length < b.length ∨ (a.length = b.length ∧ lessL a b = true)
theorem slt_app {a b : List Int} (x y : Int) (h : slt a b) : slt (a ++ [x]) (b ++ [y]) := by
  rcases h with h | ⟨h1, h2⟩
  · left; simp; omega
  · right; exact ⟨by simp [h1], lessL_app _ _ _ _ h2⟩
@[simp] theorem lastW_app (w : List Int) (x : Int) : lastW (w ++ [x]) = x := by simp [lastW]
@[simp] theorem lastW_one (x : Int) : lastW [x] = x := _root_.id rfl

def ext (w : List Int) (E : List (List Int)) (x : Int) : List (List Int) := if x ∈ E.map lastW then E else E ++ [w ++ [x]]
def nxt (lk : Int → List Int) (E : List (List Int)) (w : List Int) : List (List Int) := (lk (lastW w)).foldl (ext w) E
def bfs (lk : Int → List Int) (r : Int) : Nat → List (List Int)
  | 0 => [[r]]
  | i + 1 => match (bfs lk r i)[i]? with
    | some w => nxt lk (bfs lk r i) w
    | none => bfs lk r i

/-- What is so of the ways found, when so many have been gone on from; `N`: of the numbers that there are. -/
structure WayI (lk : Int → List Int) (r : Int) (N : Int → Prop) (i : Nat) (E : List (List Int)) : Prop where
  root : E[0]? = some [r]
  nodup : (E.map lastW).Nodup
  sorted : E.Pairwise slt
  from_ : ∀ w ∈ E, w = [r] ∨ ∃ j u x, j < i ∧ E[j]? = some u ∧ w = u ++ [x] ∧ x ∈ lk (lastW u) ∧ ∀ j' u', j' < j → E[j']? = some u' → x ∉ lk (lastW u')
  closed : ∀ j u x, j < i → E[j]? = some u → x ∈ lk (lastW u) → x ∈ E.map lastW
  there : ∀ w ∈ E, N (lastW w) ∧ w ≠ []

/-- While the links of one are gone through. -/
structure WayJ (lk : Int → List Int) (r : Int) (N : Int → Prop) (i : Nat) (w : List Int) (done : List Int) (E : List (List Int)) : Prop where
  root : E[0]? = some [r]
  cur : E[i]? = some w
  nodup : (E.map lastW).Nodup
  sorted : E.Pairwise slt
  from_ : ∀ v ∈ E, v = [r] ∨ ∃ j u x, j < i + 1 ∧ E[j]? = some u ∧ v = u ++ [x] ∧ x ∈ lk (lastW u) ∧ (j = i → x ∈ done) ∧ ∀ j' u', j' < j → E[j']? = some u' → x ∉ lk (lastW u')
  closed : ∀ j u x, j < i → E[j]? = some u → x ∈ lk (lastW u) → x ∈ E.map lastW
  closed' : ∀ x ∈ done, x ∈ E.map lastW
  there : ∀ v ∈ E, N (lastW v) ∧ v ≠ []

theorem get_app {E : List (List Int)} {j : Nat} {u : List Int} (h : E[j]? = some u) (r : List (List Int)) : (E ++ r)[j]? = some u := by
  have hj : j < E.length := by
    rcases Nat.lt_or_ge j E.length with h' | h'
    · exact h'
    · rw [List.getElem?_eq_none h'] at h; exact absurd h (by simp)
  rw [List.getElem?_append_left hj]; exact h
theorem get_app' {E : List (List Int)} {j i : Nat} {u w : List Int} (r : List (List Int)) (hi : E[i]? = some w) (hj : j ≤ i) (h : (E ++ r)[j]? = some u) : E[j]? = some u := by
  have hi' : i < E.length := by
    rcases Nat.lt_or_ge i E.length with h' | h'
    · exact h'
    · rw [List.getElem?_eq_none h'] at hi; exact absurd hi (by simp)
  rw [List.getElem?_append_left (by omega)] at h; exact h

theorem slt_lt {E : List (List Int)} (hs : E.Pairwise slt) {i j : Nat} {u w : List Int} (hij : i < j) (hu : E[i]? = some u) (hw : E[j]? = some w) : slt u w := by
  obtain ⟨h1, rfl⟩ := List.getElem?_eq_some_iff.1 hu
  obtain ⟨h2, rfl⟩ := List.getElem?_eq_some_iff.1 hw
  exact List.pairwise_iff_getElem.1 hs i j h1 h2 hij

theorem wayJ_step {lk : Int → List Int} {r : Int} {N : Int → Prop} {i : Nat} {w done : List Int} {E : List (List Int)} {x : Int} (h : WayJ lk r N i w done E) (hx : x ∈ lk (lastW w)) (hN : N x) (hd : ∀ y ∈ done, y < x) : WayJ lk r N i w (done ++ [x]) (ext w E x) := by
  unfold ext
  split
  · rename_i hm
    exact ⟨h.root, h.cur, h.nodup, h.sorted, fun v hv => by
      rcases h.from_ v hv with e | ⟨j, u, y, a, b, c, d, e, f⟩
      · exact .inl e
      · exact .inr ⟨j, u, y, a, b, c, d, fun g => by simp [e g], f⟩, h.closed, fun y hy => by
      rcases List.mem_append.1 hy with hy | hy
      · exact h.closed' y hy
      · simp at hy; exact hy ▸ hm, h.there⟩
  · rename_i hm
    have hwm := List.mem_of_getElem? h.cur
    refine ⟨get_app h.root _, get_app h.cur _, ?_, ?_, ?_, ?_, ?_, ?_⟩
    · rw [List.map_append, List.nodup_append]
      refine ⟨h.nodup, by simp, ?_⟩
      intro a ha b hb
      simp at hb
      rintro rfl
      subst hb
      exact hm ha
    · rw [List.pairwise_append]
      refine ⟨h.sorted, by simp, ?_⟩
      intro v hv b hb
      simp only [List.mem_singleton] at hb
      subst hb
      rcases h.from_ v hv with rfl | ⟨j, u, y, a, b, rfl, d, e, f⟩
      · left
        have := (h.there w hwm).2
        have : 0 < w.length := List.length_pos_iff.2 this
        simp; omega
      · rcases Nat.lt_or_ge j i with hj | hj
        · exact slt_app _ _ (slt_lt h.sorted hj b h.cur)
        · have hji : j = i := by omega
          subst hji
          have : u = w := by rw [h.cur] at b; exact (Option.some.inj b).symm
          subst this
          right
          exact ⟨by simp, lessL_same _ _ _ (hd _ (e rfl))⟩
    · intro v hv
      rcases List.mem_append.1 hv with hv | hv
      · rcases h.from_ v hv with e | ⟨j, u, y, a, b, c, d, e, f⟩
        · exact .inl e
        · exact .inr ⟨j, u, y, a, get_app b _, c, d, fun g => by simp [e g], fun j' u' h1 h2 => f j' u' h1 (get_app' _ h.cur (by omega) h2)⟩
      · simp only [List.mem_singleton] at hv
        refine .inr ⟨i, w, x, by omega, get_app h.cur _, hv, hx, by simp, fun j' u' h1 h2 hxu => ?_⟩
        exact hm (h.closed j' u' x h1 (get_app' _ h.cur (by omega) h2) hxu)
    · intro j u y h1 h2 h3
      have := h.closed j u y h1 (get_app' _ h.cur (by omega) h2) h3
      rw [List.map_append]; exact List.mem_append_left _ this
    · intro y hy
      rw [List.map_append, List.mem_append]
      rcases List.mem_append.1 hy with hy | hy
      · exact .inl (h.closed' y hy)
      · simp at hy; right; simp [hy]
    · intro v hv
      rcases List.mem_append.1 hv with hv | hv
      · exact h.there v hv
      · simp only [List.mem_singleton] at hv
        subst hv
        exact ⟨by simpa using hN, by simp⟩

theorem wayJ_all {lk : Int → List Int} {r : Int} {N : Int → Prop} {i : Nat} {w : List Int} : ∀ (xs done : List Int) (E : List (List Int)), WayJ lk r N i w done E → (∀ x ∈ xs, x ∈ lk (lastW w) ∧ N x) → (done ++ xs).Pairwise (· < ·) → WayJ lk r N i w (done ++ xs) (xs.foldl (ext w) E)
  | [], done, E, h, _, _ => by simpa using h
  | x :: xs, done, E, h, hx, hs => by
    have h1 := wayJ_step h (hx x (by simp)).1 (hx x (by simp)).2 (fun y hy => (List.pairwise_append.1 hs).2.2 y hy x (by simp))
    have := wayJ_all xs (done ++ [x]) _ h1 (fun y hy => hx y (by simp [hy])) (by simpa using hs)
    simpa using this

theorem wayI_step {lk : Int → List Int} {r : Int} {N : Int → Prop} {i : Nat} {w : List Int} {E : List (List Int)} (hlk : ∀ y, (lk y).Pairwise (· < ·) ∧ ∀ x ∈ lk y, N x) (h : WayI lk r N i E) (hw : E[i]? = some w) : WayI lk r N (i + 1) (nxt lk E w) := by
  have hJ : WayJ lk r N i w [] E := ⟨h.root, hw, h.nodup, h.sorted, fun v hv => by
    rcases h.from_ v hv with e | ⟨j, u, x, a, b, c, d, e⟩
    · exact .inl e
    · exact .inr ⟨j, u, x, by omega, b, c, d, fun g => by omega, e⟩, h.closed, by simp, h.there⟩
  have := wayJ_all (lk (lastW w)) [] E hJ (fun x hx => ⟨hx, (hlk _).2 x hx⟩) (by simpa using (hlk _).1)
  rw [List.nil_append] at this
  have hc : (nxt lk E w)[i]? = some w := this.cur
  refine ⟨this.root, this.nodup, this.sorted, fun v hv => ?_, fun j u x h1 h2 h3 => ?_, this.there⟩
  · rcases this.from_ v hv with e | ⟨j, u, x, a, b, c, d, e, f⟩
    · exact .inl e
    · exact .inr ⟨j, u, x, a, b, c, d, f⟩
  · rcases Nat.lt_or_ge j i with hj | hj
    · exact this.closed j u x hj h2 h3
    · have hji : j = i := by omega
      subst hji
      have h2' := h2
      rw [hc] at h2'
      have : u = w := (Option.some.inj h2').symm
      subst this
      exact WayJ.closed' ‹_› x h3

theorem bfs_inv {lk : Int → List Int} {r : Int} {N : Int → Prop} (hlk : ∀ y, (lk y).Pairwise (· < ·) ∧ ∀ x ∈ lk y, N x) (hr : N r) : ∀ i, WayI lk r N i (bfs lk r i)
  | 0 => ⟨rfl, by simp [bfs], by simp [bfs], by simp [bfs], by simp, by simpa [bfs] using hr⟩
  | i + 1 => by
    have ih := bfs_inv hlk hr i
    rw [bfs]
    split
    · rename_i w hw
      exact wayI_step hlk ih hw
    · rename_i hn
      have hlen : (bfs lk r i).length ≤ i := by simpa using hn
      refine ⟨ih.root, ih.nodup, ih.sorted, fun v hv => ?_, fun j u x h1 h2 h3 => ?_, ih.there⟩
      · rcases ih.from_ v hv with e | ⟨j, u, x, a, b, c, d, e⟩
        · exact .inl e
        · exact .inr ⟨j, u, x, by omega, b, c, d, e⟩
      · have := (List.getElem?_eq_some_iff.1 h2).1
        exact ih.closed j u x (by omega) h2 h3

theorem ext_pre (w : List Int) (E : List (List Int)) (x : Int) : ∃ r, ext w E x = E ++ r := by
  unfold ext
  split
  · exact ⟨[], by simp⟩
  · exact ⟨_, rfl⟩
theorem foldl_ext_pre (w : List Int) : ∀ (xs : List Int) (E : List (List Int)), ∃ r, xs.foldl (ext w) E = E ++ r
  | [], E => ⟨[], by simp⟩
  | x :: xs, E => by
    obtain ⟨r, hr⟩ := foldl_ext_pre w xs (ext w E x)
    obtain ⟨r', hr'⟩ := ext_pre w E x
    exact ⟨r' ++ r, by rw [List.foldl_cons, hr, hr', List.append_assoc]⟩
theorem bfs_pre1 (lk : Int → List Int) (r : Int) (i : Nat) : ∃ t, bfs lk r (i + 1) = bfs lk r i ++ t := by
  rw [bfs]
  split
  · exact foldl_ext_pre _ _ _
  · exact ⟨[], by simp⟩
theorem bfs_pre (lk : Int → List Int) (r : Int) (i : Nat) : ∀ n, ∃ t, bfs lk r (i + n) = bfs lk r i ++ t
  | 0 => ⟨[], by simp⟩
  | n + 1 => by
    obtain ⟨t, ht⟩ := bfs_pre lk r i n
    obtain ⟨t', ht'⟩ := bfs_pre1 lk r (i + n)
    exact ⟨t ++ t', by rw [show i + (n + 1) = i + n + 1 by omega, ht', ht, List.append_assoc]⟩
theorem bfs_stop (lk : Int → List Int) (r : Int) (i : Nat) (h : (bfs lk r i).length ≤ i) : ∀ n, bfs lk r (i + n) = bfs lk r i
  | 0 => rfl
  | n + 1 => by
    have ih := bfs_stop lk r i h n
    rw [show i + (n + 1) = i + n + 1 by omega, bfs, ih, List.getElem?_eq_none (by omega)]

/-- A way's length is at most its place. -/
theorem way_len {lk : Int → List Int} {r : Int} {N : Int → Prop} {i : Nat} {E : List (List Int)} (h : WayI lk r N i E) : ∀ (n j : Nat) (w : List Int), j < n → E[j]? = some w → w.length ≤ j + 1
  | 0, _, _, hn, _ => by omega
  | n + 1, j, w, hn, hw => by
    rcases h.from_ w (List.mem_of_getElem? hw) with rfl | ⟨k, u, x, a, b, rfl, d, e⟩
    · simp
    · have hkj : k < j := by
        rcases Nat.lt_or_ge k j with hk | hk
        · exact hk
        · exfalso
          rcases Nat.eq_or_lt_of_le hk with hk | hk
          · subst hk; rw [hw] at b; have := congrArg List.length (Option.some.inj b); simp at this
          · rcases slt_lt h.sorted hk hw b with h1 | ⟨h1, _⟩ <;> simp at h1 <;> omega
      have := way_len h n k u (by omega) b
      simp; omega


/-! ### the answer by rounds -/
def findW (E : List (List Int)) (x : Int) : Option (List Int) := E.find? fun w => lastW w == x
theorem findW_mem {E : List (List Int)} {x : Int} {w : List Int} (h : findW E x = some w) : w ∈ E ∧ lastW w = x := by
  refine ⟨List.mem_of_find?_eq_some h, ?_⟩
  have := List.find?_some h
  simpa using this
theorem findW_of {E : List (List Int)} (hn : (E.map lastW).Nodup) {w : List Int} (hw : w ∈ E) : findW E (lastW w) = some w := by
  induction E with
  | nil => simp at hw
  | cons a r ih =>
    simp only [List.map_cons, List.nodup_cons] at hn
    unfold findW
    rw [List.find?_cons]
    rcases List.mem_cons.1 hw with rfl | hw
    · simp
    · have : (lastW a == lastW w) = false := by
        simp only [beq_eq_false_iff_ne]
        intro e
        exact hn.1 (e ▸ List.mem_map_of_mem hw)
      rw [this]
      exact ih hn.2 hw
theorem findW_none {E : List (List Int)} {x : Int} (h : findW E x = none) : x ∉ E.map lastW := by
  intro hm
  obtain ⟨w, hw, rfl⟩ := List.mem_map.1 hm
  have := List.find?_eq_none.1 h w hw
  simp at this
/-- The way to one after so many rounds. -/
def wayR (E : List (List Int)) (r : Nat) (x : Int) : List Int := match findW E x with
  | some w => if w.length ≤ r + 1 then w else []
  | none => []
def pickStep (x : Int) (cur : List Int) (p : List Int × List Int) : List Int := if p.2 = [] ∨ x ∉ p.1 then cur else if cur = [] ∨ lessL (p.2 ++ [x]) cur = true then p.2 ++ [x] else cur
/-- Of the ways behind others by one link the least; `ps`: the links and the way of each. -/
def pickW (x : Int) (ps : List (List Int × List Int)) : List Int := ps.foldl (pickStep x) []
theorem pick_none (x : Int) : ∀ (ps : List (List Int × List Int)) (cur : List Int), (∀ p ∈ ps, p.2 = [] ∨ x ∉ p.1) → ps.foldl (pickStep x) cur = cur
  | [], cur, _ => rfl
  | p :: ps, cur, h => by
    have e : pickStep x cur p = cur := by unfold pickStep; rw [if_pos (h p (by simp))]
    rw [List.foldl_cons, e]
    exact pick_none x ps cur fun q hq => h q (by simp [hq])
theorem pick_is {x : Int} {T : List Int} (hT : T ≠ []) : ∀ (ps : List (List Int × List Int)) (cur : List Int),
    (∀ p ∈ ps, p.2 = [] ∨ x ∉ p.1 ∨ p.2 ++ [x] = T ∨ (lessL T (p.2 ++ [x]) = true)) → (cur = T ∨ (∃ p ∈ ps, p.2 ≠ [] ∧ x ∈ p.1 ∧ p.2 ++ [x] = T) ∧ (cur = [] ∨ lessL T cur = true)) → ps.foldl (pickStep x) cur = T
  | [], cur, _, hc => by
    rcases hc with h | ⟨⟨p, hp, _⟩, _⟩
    · exact h
    · simp at hp
  | p :: ps, cur, h, hc => by
    rw [List.foldl_cons]
    refine pick_is hT ps _ (fun q hq => h q (by simp [hq])) ?_
    by_cases hcond : p.2 = [] ∨ x ∉ p.1
    · have e : pickStep x cur p = cur := by unfold pickStep; rw [if_pos hcond]
      rw [e]
      rcases hc with hc | ⟨⟨q, hq, h1, h2, h3⟩, hc⟩
      · exact .inl hc
      · rcases List.mem_cons.1 hq with rfl | hq
        · rcases hcond with h | h
          · exact absurd h h1
          · exact absurd h2 h
        · exact .inr ⟨⟨q, hq, h1, h2, h3⟩, hc⟩
    · have e : pickStep x cur p = if cur = [] ∨ lessL (p.2 ++ [x]) cur = true then p.2 ++ [x] else cur := by unfold pickStep; rw [if_neg hcond]
      have hp : p.2 ++ [x] = T ∨ lessL T (p.2 ++ [x]) = true := by
        rcases h p (by simp) with h | h | h | h
        · exact absurd (.inl h) hcond
        · exact absurd (.inr h) hcond
        · exact .inl h
        · exact .inr h
      rw [e]
      rcases hc with rfl | ⟨⟨q, hq, h1, h2, h3⟩, hc⟩
      · left
        rcases hp with hp | hp
        · split
          · exact hp
          · rfl
        · rw [if_neg]
          rintro (h | h)
          · exact hT h
          · rw [lessL_asym _ _ hp] at h; exact absurd h (by simp)
      · by_cases hpT : p.2 ++ [x] = T
        · left
          rw [if_pos, hpT]
          rw [hpT]
          exact hc
        · have hp' : lessL T (p.2 ++ [x]) = true := hp.resolve_left hpT
          right
          refine ⟨?_, ?_⟩
          · rcases List.mem_cons.1 hq with rfl | hq
            · exact absurd h3 hpT
            · exact ⟨q, hq, h1, h2, h3⟩
          · split
            · exact .inr hp'
            · exact hc

/-- One more round, of one that no way leads to yet. -/
theorem round_v {lk : Int → List Int} {r0 : Int} {N : Int → Prop} {n : Nat} {E : List (List Int)} (h : WayI lk r0 N n E) (hlen : E.length ≤ n) (ids : List Int) (hids : ∀ y, N y → y ∈ ids) (r : Nat) (x : Int) (he : wayR E r x = []) :
    pickW x (ids.map fun y => (lk y, wayR E r y)) = wayR E (r + 1) x := by
  have hnE : ∀ (w : List Int), findW E x = some w → ¬ w.length ≤ r + 1 := by
    intro w hw hl
    unfold wayR at he
    rw [hw] at he
    simp only [if_pos hl] at he
    exact (h.there w (findW_mem hw).1).2 he
  -- who can be gone on from
  have cand : ∀ y, wayR E r y ≠ [] → x ∈ lk y → ∃ (u : List Int) (j : Nat), E[j]? = some u ∧ wayR E r y = u ∧ lastW u = y ∧ u.length ≤ r + 1 := by
    intro y h1 h2
    unfold wayR at h1 ⊢
    split at h1
    · rename_i u hu
      split at h1
      · rename_i hl
        obtain ⟨hm, hy⟩ := findW_mem hu
        obtain ⟨j, hj⟩ := List.getElem?_of_mem hm
        exact ⟨u, j, hj, by rw [if_pos hl], hy, hl⟩
      · exact absurd rfl h1
    · exact absurd rfl h1
  cases hf : findW E x with
  | none =>
    have hx := findW_none hf
    have e1 : wayR E (r + 1) x = [] := by unfold wayR; rw [hf]
    rw [e1]
    refine pick_none x _ [] fun p hp => ?_
    obtain ⟨y, hy, rfl⟩ := List.mem_map.1 hp
    by_cases h1 : wayR E r y = []
    · exact .inl h1
    · right
      intro h2
      obtain ⟨u, j, hj, _, hlu, _⟩ := cand y h1 h2
      have hjl := (List.getElem?_eq_some_iff.1 hj).1
      exact hx (h.closed j u x (by omega) hj (hlu ▸ h2))
  | some w =>
    obtain ⟨hwm, hwx⟩ := findW_mem hf
    have hw1 := hnE w hf
    have e1 : wayR E (r + 1) x = if w.length ≤ r + 1 + 1 then w else [] := by unfold wayR; rw [hf]
    rcases h.from_ w hwm with rfl | ⟨k, u, x', a, b, rfl, d, e⟩
    · exfalso; simp at hw1
    have hxx : x' = x := by simpa using hwx
    subst hxx
    have hum := List.mem_of_getElem? b
    have first : ∀ (v : List Int) (j : Nat), E[j]? = some v → x' ∈ lk (lastW v) → v = u ∨ slt u v := by
      intro v j hv hxv
      rcases Nat.lt_trichotomy j k with hj | hj | hj
      · exact absurd hxv (e j v hj hv)
      · subst hj; rw [b] at hv; exact .inl (Option.some.inj hv).symm
      · exact .inr (slt_lt h.sorted hj b hv)
    rw [e1]
    simp only [List.length_append, List.length_cons, List.length_nil] at hw1 ⊢
    by_cases hul : u.length ≤ r + 1
    · rw [if_pos (by omega)]
      have hul' : u.length = r + 1 := by omega
      refine pick_is (by simp) _ [] (fun p hp => ?_) (.inr ⟨?_, .inl rfl⟩)
      · obtain ⟨y, hy, rfl⟩ := List.mem_map.1 hp
        by_cases h1 : wayR E r y = []
        · exact .inl h1
        · by_cases h2 : x' ∈ lk y
          · obtain ⟨v, j, hj, hv, hlv, hvl⟩ := cand y h1 h2
            simp only [hv]
            right; right
            rcases first v j hj (hlv ▸ h2) with h | h
            · left; rw [h]
            · right
              rcases h with h | ⟨_, h⟩
              · omega
              · exact lessL_app _ _ _ _ h
          · exact .inr (.inl h2)
      · have hur : wayR E r (lastW u) = u := by
          unfold wayR
          rw [findW_of h.nodup hum]
          simp only [if_pos hul]
        exact ⟨_, List.mem_map.2 ⟨lastW u, hids _ (h.there u hum).1, rfl⟩, by simpa [hur] using (h.there u hum).2, d, by simp [hur]⟩
    · rw [if_neg (by omega)]
      refine pick_none x' _ [] fun p hp => ?_
      obtain ⟨y, hy, rfl⟩ := List.mem_map.1 hp
      by_cases h1 : wayR E r y = []
      · exact .inl h1
      · right
        intro h2
        obtain ⟨v, j, hj, hv, hlv, hvl⟩ := cand y h1 h2
        rcases first v j hj (hlv ▸ h2) with h | h
        · subst h; exact hul hvl
        · rcases h with h | ⟨h, _⟩ <;> omega

theorem wayR_mono {E : List (List Int)} {r : Nat} {x : Int} (h : wayR E r x ≠ []) : wayR E (r + 1) x = wayR E r x := by
  cases hf : findW E x with
  | none => exact absurd (by simp [wayR, hf]) h
  | some w =>
    simp only [wayR, hf] at h ⊢
    by_cases hl : w.length ≤ r + 1
    · rw [if_pos hl, if_pos (by omega)]
    · rw [if_neg hl] at h; exact absurd rfl h
theorem wayR_all {lk : Int → List Int} {r0 : Int} {N : Int → Prop} {n : Nat} {E : List (List Int)} (h : WayI lk r0 N n E) (m : Nat) (hlen : E.length ≤ m) (x : Int) : wayR E m x = (findW E x).getD [] := by
  unfold wayR
  split
  · rename_i w hw
    obtain ⟨j, hj⟩ := List.getElem?_of_mem (findW_mem hw).1
    have := way_len h (j + 1) j w (by omega) hj
    have := (List.getElem?_eq_some_iff.1 hj).1
    rw [if_pos (by omega), hw]; rfl
  · rename_i hw; rw [hw]; rfl
theorem wayR_zero {lk : Int → List Int} {r0 : Int} {N : Int → Prop} {n : Nat} {E : List (List Int)} (h : WayI lk r0 N n E) (x : Int) : wayR E 0 x = if x = r0 then [r0] else [] := by
  have hm : [r0] ∈ E := List.mem_of_getElem? h.root
  by_cases hx : x = r0
  · subst hx
    unfold wayR
    have := findW_of h.nodup hm
    simp only [lastW_one] at this
    rw [this, if_pos rfl]; simp
  · rw [if_neg hx]
    unfold wayR
    split
    · rename_i w hw
      obtain ⟨h1, h2⟩ := findW_mem hw
      rw [if_neg]
      intro hl
      rcases h.from_ w h1 with rfl | ⟨k, u, x', a, b, rfl, d, e⟩
      · exact hx (by simpa using h2.symm)
      · have := (h.there u (List.mem_of_getElem? b)).2
        have : 0 < u.length := List.length_pos_iff.2 this
        simp only [List.length_append, List.length_cons, List.length_nil] at hl; omega
    · rfl

end Go.Ab.T

/-
  WAYS THROUGH SOUND THINGS: all are reached.
-/
set_option linter.unusedSimpArgs false
set_option linter.unusedVariables false
namespace Go.Ab.T
open Go Go.Ab Go.Ab.F

def lkG (g : List Thing) (y : Int) : List Int := match findT g y with
  | some t => t.links.map Link.id
  | none => []
def inG (g : List Thing) (y : Int) : Prop := y ∈ g.map Thing.id
theorem mem_lkG {g : List Thing} {y x : Int} : x ∈ lkG g y ↔ ∃ t, findT g y = some t ∧ has t.links x = true := by
  unfold lkG
  split
  · rename_i t ht
    rw [ht]
    simp only [List.mem_map, has_iff2, Option.some.injEq]
    constructor
    · rintro ⟨l, h1, h2⟩; exact ⟨t, rfl, l, h1, h2⟩
    · rintro ⟨t', rfl, l, h1, h2⟩; exact ⟨l, h1, h2⟩
  · rename_i ht
    rw [ht]; simp
theorem findT_some {g : List Thing} {y : Int} {t : Thing} (h : findT g y = some t) : t ∈ g ∧ t.id = y := by
  refine ⟨List.mem_of_find?_eq_some h, ?_⟩
  have := List.find?_some h
  simpa using this
theorem inG_find {g : List Thing} (hs : sortedL (keyL g)) {y : Int} : inG g y ↔ ∃ t, findT g y = some t := by
  constructor
  · intro h
    obtain ⟨t, ht, rfl⟩ := List.mem_map.1 h
    exact ⟨t, findT_of hs ht⟩
  · rintro ⟨t, ht⟩
    obtain ⟨h1, h2⟩ := findT_some ht
    exact List.mem_map.2 ⟨t, h1, h2⟩
theorem sound_at {g : List Thing} (h : soundG g) {t : Thing} (ht : t ∈ g) : okT t ∧ ∀ l ∈ t.links, ∃ x, fitL g t l x := by
  obtain ⟨j, hj, rfl⟩ := List.mem_iff_getElem.1 ht
  have := h.all j _ (List.getElem?_eq_getElem hj)
  exact ⟨this.ok, this.fits⟩
theorem lkG_ok {g : List Thing} (h : soundG g) (y : Int) : (lkG g y).Pairwise (· < ·) ∧ ∀ x ∈ lkG g y, inG g x := by
  constructor
  · unfold lkG
    split
    · rename_i t ht
      have := (sound_at h (findT_some ht).1).1.links
      rw [List.pairwise_map]
      exact pairwise_of this
    · exact List.Pairwise.nil
  · intro x hx
    obtain ⟨t, ht, hl0⟩ := mem_lkG.1 hx
    obtain ⟨l, hl, rfl⟩ := (has_iff2 _ _).1 hl0
    obtain ⟨u, hu⟩ := (sound_at h (findT_some ht).1).2 l hl
    exact List.mem_map.2 ⟨u, hu.mem, hu.id⟩
theorem inG_one {g : List Thing} (h : soundG g) : inG g 1 := by
  obtain ⟨t, r, hg, h1, h2⟩ := h.first
  rw [hg]; simp [inG, h1]
def bfsG (g : List Thing) : List (List Int) := bfs (lkG g) 1 g.length
theorem bfsG_at {g : List Thing} (h : soundG g) (i : Nat) : WayI (lkG g) 1 (inG g) i (bfs (lkG g) 1 i) := bfs_inv (lkG_ok h) (inG_one h) i
theorem sum_ones (l : List Int) : (l.map fun _ => (1 : Int)).sum = l.length := by
  induction l with
  | nil => rfl
  | cons a r ih => simp only [List.map_cons, List.sum_cons, ih, List.length_cons]; push_cast; omega
theorem bfs_few {g : List Thing} (h : soundG g) (i : Nat) : (bfs (lkG g) 1 i).length ≤ g.length := by
  have hI := bfsG_at h i
  have := sum_sub (f := fun _ => 1) (by simp) ((bfs (lkG g) 1 i).map lastW) (g.map Thing.id) hI.nodup fun x hx => by
    obtain ⟨w, hw, rfl⟩ := List.mem_map.1 hx
    exact (hI.there w hw).1
  rw [sum_ones, sum_ones] at this
  simpa using this
/-- All directories are reached. -/
theorem dirs_reached {g : List Thing} (h : soundG g) : ∀ (n : Nat) (t : Thing), t ∈ g → t.kind = 1 → t.id < n → t.id ∈ (bfsG g).map lastW
  | 0, t, ht, hk, hn => by
    have := (sound_at h ht).1.id1
    omega
  | n + 1, t, ht, hk, hn => by
    have hI := bfsG_at h g.length
    obtain ⟨j, hj, rfl⟩ := List.mem_iff_getElem.1 ht
    have hs := h.all j _ (List.getElem?_eq_getElem hj)
    rcases Nat.eq_zero_or_pos j with rfl | hj0
    · obtain ⟨u, r, hg, h1, h2⟩ := h.first
      have : g[0] = u := by simp [hg]
      rw [this, h1]
      have := List.mem_map_of_mem (f := lastW) (List.mem_of_getElem? hI.root)
      exact this
    · obtain ⟨d, hd, hl⟩ := hs.ref hj0
      obtain ⟨l, hl', he⟩ := (has_iff2 _ _).1 hl
      have hdk : d.kind = 1 := by
        rcases (sound_at h hd).1.body with ⟨h1, _⟩ | ⟨h1, _⟩
        · exact h1
        · rw [h1] at hl'; simp at hl'
      obtain ⟨x, hx⟩ := (sound_at h hd).2 l hl'
      have hxt : x = g[j] := by
        have e1 := findT_of h.sorted hx.mem
        rw [hx.id, he, findT_of h.sorted (List.getElem_mem hj)] at e1
        exact (Option.some.inj e1).symm
      have hd2 := hx.dir (by rw [hxt]; exact hk)
      have hid := hs.ok
      have hlt : d.id < g[j].id := by
        rw [hxt] at hd2
        have h1 := hid.id1
        have h2 := hid.id2
        have e : g[j].id.tdiv 64 = g[j].id / 64 := Int.tdiv_eq_ediv_of_nonneg (by omega)
        rw [e, wrap_u64 (by omega) (by omega)] at hd2
        omega
      have := dirs_reached h n d hd hdk (by omega)
      obtain ⟨w, hw, hwl⟩ := List.mem_map.1 this
      obtain ⟨k, hk'⟩ := List.getElem?_of_mem hw
      have hkl := (List.getElem?_eq_some_iff.1 hk').1
      have hfew := bfs_few h g.length
      have hkl' : k < (bfs (lkG g) 1 g.length).length := hkl
      exact hI.closed k w _ (by omega) hk' (mem_lkG.2 ⟨d, by rw [hwl]; exact findT_of h.sorted hd, hl⟩)
theorem all_reached {g : List Thing} (h : soundG g) (t : Thing) (ht : t ∈ g) : t.id ∈ (bfsG g).map lastW := by
  have hI := bfsG_at h g.length
  obtain ⟨j, hj, rfl⟩ := List.mem_iff_getElem.1 ht
  have hs := h.all j _ (List.getElem?_eq_getElem hj)
  rcases Nat.eq_zero_or_pos j with rfl | hj0
  · obtain ⟨u, r, hg, h1, h2⟩ := h.first
    have : g[0] = u := by simp [hg]
    rw [this, h1]
    have := List.mem_map_of_mem (f := lastW) (List.mem_of_getElem? hI.root)
    exact this
  · obtain ⟨d, hd, hl⟩ := hs.ref hj0
    obtain ⟨l, hl', he⟩ := (has_iff2 _ _).1 hl
    have hdk : d.kind = 1 := by
      rcases (sound_at h hd).1.body with ⟨h1, _⟩ | ⟨h1, _⟩
      · exact h1
      · rw [h1] at hl'; simp at hl'
    have := dirs_reached h (d.id.toNat + 1) d hd hdk (by omega)
    obtain ⟨w, hw, hwl⟩ := List.mem_map.1 this
    obtain ⟨k, hk'⟩ := List.getElem?_of_mem hw
    have hkl' : k < (bfs (lkG g) 1 g.length).length := (List.getElem?_eq_some_iff.1 hk').1
    have hfew := bfs_few h g.length
    exact hI.closed k w _ (by omega) hk' (mem_lkG.2 ⟨d, by rw [hwl]; exact findT_of h.sorted hd, hl⟩)

/-- A way: from the first on, each name's directory ahead of it. -/
structure isWay (g : List Thing) (w : List Int) : Prop where
  head : w[0]? = some 1
  step : ∀ i a b, w[i]? = some a → w[i + 1]? = some b → ∃ d, findT g a = some d ∧ has d.links b = true
theorem ways_ok {g : List Thing} (h : soundG g) : ∀ (n j : Nat) (w : List Int), j < n → (bfsG g)[j]? = some w → isWay g w
  | 0, _, _, hn, _ => by omega
  | n + 1, j, w, hn, hw => by
    have hI := bfsG_at h g.length
    rcases hI.from_ w (List.mem_of_getElem? hw) with rfl | ⟨k, u, x, a, b, rfl, d, e⟩
    · exact ⟨rfl, fun i a b h1 h2 => by simp at h2⟩
    · have hkj : k < j := by
        rcases Nat.lt_or_ge k j with hk | hk
        · exact hk
        · exfalso
          rcases Nat.eq_or_lt_of_le hk with hk | hk
          · subst hk
            have := hw.symm.trans b
            have := congrArg List.length (Option.some.inj this); simp at this
          · rcases slt_lt hI.sorted hk hw b with h1 | ⟨h1, _⟩ <;> simp at h1 <;> omega
      have ih := ways_ok h n k u (by omega) b
      have hu0 : u ≠ [] := by
        intro e
        have := ih.head
        rw [e] at this; simp at this
      have hul : 0 < u.length := List.length_pos_iff.2 hu0
      refine ⟨?_, fun i a' b' h1 h2 => ?_⟩
      · rw [List.getElem?_append_left hul]; exact ih.head
      · rcases Nat.lt_or_ge (i + 1) u.length with hi | hi
        · rw [List.getElem?_append_left (by omega)] at h1 h2
          exact ih.step i a' b' h1 h2
        · have hi2 : i + 1 = u.length := by
            have := (List.getElem?_eq_some_iff.1 h2).1
            simp at this; omega
          rw [List.getElem?_append_left (by omega)] at h1
          rw [List.getElem?_append_right (by omega), hi2, Nat.sub_self] at h2
          simp at h2
          subst h2
          obtain ⟨t, ht, hl⟩ := mem_lkG.1 d
          refine ⟨t, ?_, hl⟩
          rw [← ht]
          congr 1
          have : u.getLast? = some a' := by rw [List.getLast?_eq_getElem?, show u.length - 1 = i by omega]; exact h1
          simp [lastW, List.getLastD_eq_getLast?, this]
end Go.Ab.T

/-
  THE WAY TO A THING: the program's search, over plain lists.
-/
set_option linter.unusedSimpArgs false
set_option linter.unusedVariables false
namespace Go.Ab.T
open Go Go.Ab Go.Ab.F

abbrev wC (w : List Int) : List (List A) := w.map (cellC .u64)
/-- A row that stands for a way. -/
def wayRow (H : Heap) (row : List A) (w : List Int) : Prop := ∃ id v, row = [.osl id v 1 0 w.length] ∧ H[id]? = some (.live ⟨v, 1, wC w⟩)
structure wayRows (H : Heap) (rows : List (List A)) (ws : List (List Int)) : Prop where
  len : rows.length = ws.length
  each : ∀ (i : Nat) row w, rows[i]? = some row → ws[i]? = some w → wayRow H row w
theorem wayRows.at {H : Heap} {rows : List (List A)} {ws : List (List Int)} (h : wayRows H rows ws) {i : Nat} {w : List Int} (hw : ws[i]? = some w) : ∃ id v, rows[i]? = some [.osl id v 1 0 w.length] ∧ H[id]? = some (.live ⟨v, 1, wC w⟩) := by
  have hi := (List.getElem?_eq_some_iff.1 hw).1
  have hr : rows[i]? = some (rows[i]'(by rw [h.len]; exact hi)) := List.getElem?_eq_getElem _
  obtain ⟨id, v, h1, h2⟩ := h.each i _ w hr hw
  exact ⟨id, v, by rw [hr, h1], h2⟩
theorem wayRows.mono {H H' : Heap} {rows : List (List A)} {ws : List (List Int)} (h : wayRows H rows ws) (hk : ∀ (i : Nat) (id v n : Nat) (w : List Int), rows[i]? = some [.osl id v 1 0 n] → H[id]? = some (.live ⟨v, 1, wC w⟩) → H'[id]? = H[id]?) : wayRows H' rows ws := by
  refine ⟨h.len, fun i row w h1 h2 => ?_⟩
  obtain ⟨id, v, rfl, h3⟩ := h.each i row w h1 h2
  exact ⟨id, v, rfl, by rw [hk i id v _ w h1 h3]; exact h3⟩
theorem wayRows.app {H : Heap} {rows : List (List A)} {ws : List (List Int)} (h : wayRows H rows ws) {row : List A} {w : List Int} (hr : wayRow H row w) : wayRows H (rows ++ [row]) (ws ++ [w]) := by
  have hl := h.len
  refine ⟨by simp [hl], fun i r' w' h1 h2 => ?_⟩
  rcases Nat.lt_or_ge i rows.length with hi | hi
  · rw [List.getElem?_append_left hi] at h1
    rw [List.getElem?_append_left (by omega)] at h2
    exact h.each i r' w' h1 h2
  · rw [List.getElem?_append_right hi] at h1
    rw [List.getElem?_append_right (by omega), ← hl] at h2
    have : i - rows.length = 0 := by
      have := (List.getElem?_eq_some_iff.1 h1).1
      simp at this; omega
    rw [this] at h1 h2
    simp at h1 h2
    subst h1; subst h2; exact hr
theorem wayRows.drop {H : Heap} {rows : List (List A)} {ws : List (List Int)} (h : wayRows H rows ws) (n : Nat) : wayRows H (rows.drop n) (ws.drop n) :=
  ⟨by simp [h.len], fun i row w h1 h2 => h.each (n + i) row w (by rwa [List.getElem?_drop] at h1) (by rwa [List.getElem?_drop] at h2)⟩

theorem mem_idsL {a : A} {id : Nat} (hid : id ∈ idsA a) : ∀ row : List A, a ∈ row → id ∈ idsL row
  | [], h => by simp at h
  | b :: r, h => by
    simp only [idsL_cons, List.mem_append]
    rcases List.mem_cons.1 h with rfl | h
    · exact .inl hid
    · exact .inr (mem_idsL hid r h)
theorem mem_idsRows' {row : List A} {id : Nat} (hid : id ∈ idsL row) : ∀ rows : List (List A), row ∈ rows → id ∈ idsRows rows
  | [], h => by simp at h
  | b :: r, h => by
    simp only [idsRows_cons, List.mem_append]
    rcases List.mem_cons.1 h with rfl | h
    · exact .inl hid
    · exact .inr (mem_idsRows' hid r h)
theorem mem_idsRows {rows : List (List A)} {row : List A} {i : Nat} {a : A} {id : Nat} (h : rows[i]? = some row) (ha : a ∈ row) (hid : id ∈ idsA a) : id ∈ idsRows rows := mem_idsRows' (mem_idsL hid row ha) rows (List.mem_of_getElem? h)

/-- What a join keeps. -/
theorem trim_keep (n0 : Nat) (vs : List A) (h : Heap) : ∃ H', trim true n0 vs h = some (vs, H') ∧ (∀ (i : Nat), (i < n0 ∨ i ∈ idsL vs ∨ ∃ (j : Nat) (o : Go.Ab.Slot), j < n0 ∧ h[j]? = some o ∧ i ∈ o.ids) → H'[i]? = h[i]?) ∧ (n0 ≤ h.length → n0 ≤ H'.length) := by
  unfold trim
  split
  · rename_i hc
    simp only [Bool.true_and, Bool.and_eq_true, allBelow, List.all_eq_true, decide_eq_true_eq] at hc
    refine ⟨h.take n0, rfl, fun i hi => ?_, fun hl => by simp; omega⟩
    have : i < n0 := by
      rcases hi with hi | hi | ⟨j, o, hj, ho, hi⟩
      · exact hi
      · exact hc.1 i hi
      · refine hc.2 o ?_ i hi
        obtain ⟨hjl, rfl⟩ := List.getElem?_eq_some_iff.1 ho
        rw [List.mem_take_iff_getElem]
        exact ⟨j, by omega, rfl⟩
    rw [List.getElem?_take, if_pos this]
  · exact ⟨h, rfl, fun _ _ => rfl, fun hl => hl⟩
theorem trim_same (vs : List A) (h : Heap) (n : Nat) (hn : n = h.length) : trim true n vs h = some (vs, h) := by
  subst hn
  unfold trim
  rw [List.take_length]; split <;> rfl

/-! ### the names that were seen -/
def seenM (l : List Int) : List (Int × A) := l.map fun x => (x, .s (.bool true))
theorem seen_get (x : Int) : ∀ l, mpGet x (seenM l) = if x ∈ l then some (.s (.bool true)) else none
  | [] => rfl
  | y :: l => by
    have ih := seen_get x l
    unfold seenM at ih ⊢
    simp only [List.map_cons, mpGet, ih, List.mem_cons]
    by_cases h : x = y
    · subst h; simp
    · have : (x == y) = false := by simp [h]
      simp [this, h]
theorem seen_put (x : Int) : ∀ l, x ∉ l → mpPut x (.s (.bool true)) (seenM l) = seenM (l ++ [x])
  | [], _ => rfl
  | y :: l, h => by
    have ih := seen_put x l (fun hm => h (by simp [hm]))
    unfold seenM at ih ⊢
    have : (x == y) = false := by simp; rintro rfl; simp at h
    simp [mpPut, this, ih]

theorem lendA_osl' (n id ver sz' sz m : Nat) (rows : List (List A)) (H : Heap) (hk : H[id]? = some (.live ⟨ver, sz, rows⟩)) (hm : m = rows.length) (hp : pureRows rows = true) : lendA (n + 2) (.osl id ver sz' 0 m) H = some (mkF sz rows) := by
  subst hm
  rw [lendA, hk]
  have : lendRows (n + 1) rows H = some rows := by unfold lendRows; rw [if_pos hp]
  simp [this]
/-- One more way, behind all others. -/
theorem push_v (K : Heap) (ver lo q idw vw lid : Nat) (rows : List (List A)) (w : List Int) (x : Int) (qv : A) (hq : 0 < q) (h2 : K[2]? = some (.live ⟨ver, 1, rows⟩)) (hlo : lo + q = rows.length)
    (hrow : rows[lo]? = some [.osl idw vw 1 0 w.length]) (hw : K[idw]? = some (.live ⟨vw, 1, wC w⟩)) (hx : K[lid]? = some (.live ⟨0, 2, [[.s (.int .u64 x), qv]]⟩)) (hwl : w.length < 1000) (hql : q < 1000) :
    ∃ F, (∀ {β : Type} (k : A → Heap → Option β), (oIdxA 1 (.osl 2 ver 1 lo q) (.s (.int .i64 0)) fun x60 =>
      oLoadD K.length [] none x60 (K ++ List.replicate 4 .res) fun x61 h62 =>
      oCallF K.length [] (primClone 1 8) [x61] h62 fun x63 h64 =>
      oFieldA 0 (.ptr lid 0 0 0) fun x65 =>
      oLoadD K.length [] none x65 h64 fun x66 h67 =>
      oNewSlice (some K.length) 1 (asRows none [x66]) h67 fun x68 h69 =>
      oAppendD K.length [] (K.length + 1) 1 8 x63 x68 h69 fun x70 h71 =>
      oNewSlice (some (K.length + 2)) 1 (asRows none [x70]) h71 fun x72 h73 =>
      oAppend (some (K.length + 3)) 1 24 (.osl 2 ver 1 lo q) x72 h73 k) = k (.osl 2 (ver + 1) 1 0 (q + 1)) F) ∧
      F[2]? = some (.live ⟨ver + 1, 1, rows.drop lo ++ [[.osl (K.length + 4) 2 1 0 (w ++ [x]).length]]⟩) ∧ (∀ (i : Nat), i ≠ 2 → i < K.length → F[i]? = K[i]?) ∧ F[K.length + 4]? = some (.live ⟨2, 1, wC (w ++ [x])⟩) ∧ K.length ≤ F.length := by
  have l2 := lt_of_some h2
  have lw := lt_of_some hw
  have lx := lt_of_some hx
  have hlend : lendL lendFuel [.osl idw vw 1 0 w.length] K = some [mkF 1 (wC w)] := by
    rw [show lendFuel = 999 + 1 from rfl, lendL_cons' _ _ _ _ (by simp), show (999 : Nat) = 998 + 1 from rfl, lendL_nil']
    have hp : pureRows (wC w) = true := pureRows_map _ (fun x => by simp [cellC]) w
    rw [show (998 + 1 : Nat) = 997 + 2 from rfl, lendA_osl' _ _ _ _ _ _ _ _ hw (by simp) hp]
    rfl
  have hclone : primClone 1 8 [mkF 1 (wC w)] [] = some (.ok (.osl 0 1 1 0 w.length), [.live ⟨1, 1, wC w⟩]) := by
    have : appendOk w.length 8 := by unfold appendOk; omega
    simp [primClone, this]
  have hren : ∀ f, renRows f (wC w) = some (wC w) := fun f => renRows_map f _ (fun x => by simp [cellC]) w
  have hown : ownRows (wC w) = true := by simp [ownRows, wC, cellC, ownL, ownA]
  let C : Go.Ab.Slot := .live ⟨2, 1, wC (w ++ [x])⟩
  let W : Go.Ab.Slot := .live ⟨ver + 1, 1, rows.drop lo ++ [[.osl (K.length + 4) 2 1 0 (w ++ [x]).length]]⟩
  refine ⟨K.set 2 W ++ [.live ⟨0, 1, [[.s (.int .u64 x)]]⟩, .res, .live ⟨0, 1, [[.osl (K.length + 4) 2 1 0 (w.length + 1)]]⟩, .res, C], @fun β k => ?_, ?_, fun i h1 h3 => ?_, ?_, ?_⟩
  · have a1 : (K ++ List.replicate 4 Go.Ab.Slot.res)[2]? = some (.live ⟨ver, 1, rows⟩) := app_some h2 _
    have hc : ∀ (k : A → Heap → Option β), oCallF K.length [] (primClone 1 8) [.osl idw vw 1 0 w.length] (K ++ List.replicate 4 .res) k = k (.osl (K.length + 4) 1 1 0 w.length) (K ++ [.res, .res, .res, .res, .live ⟨1, 1, wC w⟩]) := by
      intro k
      have hm : maskH K.length [] (K ++ List.replicate 4 Go.Ab.Slot.res) = K := by simp [maskH, killAll]
      simp only [oCallF, hm, idsL_cons, idsA_osl, idsL_nil, List.append_nil, List.isEmpty_cons, Bool.false_eq_true, if_false, hlend, hclone]
      simp only [ownH, List.all_cons, List.all_nil, hown, show ownA (.osl 0 1 1 0 w.length) = true from rfl, Bool.and_self, Bool.or_true, if_true, giveBack, renOut_ok, renA_osl, renHeap_cons, renHeap_nil, renSlot_live', hren, Option.map_some, Option.bind_some, setAll]
      simp [backIdx]
    have hrow' : rows[lo + Int.toNat 0]? = some [.osl idw vw 1 0 w.length] := hrow
    have g0 : ∀ (a b c d e : Go.Ab.Slot), (K ++ [a, b, c, d, e])[K.length]? = some a := fun a b c d e => by simp
    have g2 : ∀ (a b c d e : Go.Ab.Slot), (K ++ [a, b, c, d, e])[K.length + 2]? = some c := fun a b c d e => by simp
    have g4 : ∀ (a b c d e : Go.Ab.Slot), (K ++ [a, b, c, d, e])[K.length + 4]? = some e := fun a b c d e => by simp
    have s0 : ∀ (a b c d e x : Go.Ab.Slot), (K ++ [a, b, c, d, e]).set K.length x = K ++ [x, b, c, d, e] := fun a b c d e x => by simp
    have s2 : ∀ (a b c d e x : Go.Ab.Slot), (K ++ [a, b, c, d, e]).set (K.length + 2) x = K ++ [a, b, x, d, e] := fun a b c d e x => by rw [List.set_append_right _ _ (by omega)]; simp
    have s4 : ∀ (a b c d e x : Go.Ab.Slot), (K ++ [a, b, c, d, e]).set (K.length + 4) x = K ++ [a, b, c, d, x] := fun a b c d e x => by rw [List.set_append_right _ _ (by omega)]; simp
    have sw : ∀ (a b c d e x : Go.Ab.Slot), (K ++ [a, b, c, d, e]).set 2 x = K.set 2 x ++ [a, b, c, d, e] := fun a b c d e x => app_set' h2 _ _
    have gw : ∀ (a b c d e : Go.Ab.Slot), (K ++ [a, b, c, d, e])[2]? = some (.live ⟨ver, 1, rows⟩) := fun a b c d e => app_some h2 _
    have gx : ∀ (a b c d e : Go.Ab.Slot), (K ++ [a, b, c, d, e])[lid]? = some (.live ⟨0, 2, [[.s (.int .u64 x), qv]]⟩) := fun a b c d e => app_some hx _
    have k1 : appendOk (w.length + 1) 8 := by unfold appendOk; omega
    have k2 : appendOk (q + 1) 24 := by unfold appendOk; omega
    have t1 : (rows.drop lo).take q = rows.drop lo := List.take_of_length_le (by simp; omega)
    have t2 : (wC w).length = w.length := by simp
    have t3 : lo + q ≤ rows.length := by omega
    have t4 : 0 < (q : Int) := by omega
    simp only [oIdxA_osl, true_and, Int.le_refl, t4, if_true, oLoadD, l2, List.not_mem_nil, not_false_eq_true, and_true, oLoad_ptr, a1, hrow', cellsAt_none, List.getElem?_cons_zero, hc, oFieldA_ptr, Nat.zero_add, lx, gx,
      oNewSlice_eq, asRows_cons, asRows_nil, asCells_none, isCell_s, isCell_osl, Option.bind_some, Option.map_some, Nat.one_ne_zero, if_false, Go.Ab.place, g0, s0, List.length_cons, List.length_nil,
      oAppendD, Nat.le_add_right, true_or, oAppend_osl, rowsOf_osl, g4, s4, t2, Nat.le_refl, k1, List.drop_zero, List.take_of_length_le (Nat.le_of_eq t2), g2, s2, gw, sw, t1, t3, k2, List.take_succ_cons, List.take_zero, List.take_nil, and_self, List.drop_zero]
    simp [W, C]
    rfl
  · rw [List.getElem?_append_left (by simp; omega), List.getElem?_set_self l2]
  · rw [List.getElem?_append_left (by simp; omega), List.getElem?_set_ne (by omega)]
  · rw [List.getElem?_append_right (by simp)]; simp [C]
  · simp

/-- The search's heap: the names seen, and the ways that wait. -/
structure PI (ver lo : Nat) (rows : List (List A)) (H : Heap) (E : List (List Int)) (k : Nat) : Prop where
  live : H[2]? = some (.live ⟨ver, 1, rows⟩)
  len : lo + (E.length - k) = rows.length
  rws : wayRows H (rows.drop lo) (E.drop k)
  seen : H[0]? = some (.mp .u64 (seenM (E.map lastW)))
  ins : ∀ id ∈ idsRows rows, id < H.length
theorem PI.len3 {ver lo : Nat} {rows : List (List A)} {H : Heap} {E : List (List Int)} {k : Nat} (h : PI ver lo rows H E k) : 3 ≤ H.length := by
  have := lt_of_some h.live
  omega
theorem PI.mono {ver lo : Nat} {rows : List (List A)} {H H' : Heap} {E : List (List Int)} {k : Nat} (h : PI ver lo rows H E k) (hk : ∀ i, (i = 0 ∨ i = 2 ∨ i ∈ idsRows rows) → H'[i]? = H[i]?) : PI ver lo rows H' E k :=
  ⟨by rw [hk 2 (by simp)]; exact h.live, h.len, h.rws.mono fun i id v n w hi _ => hk id (.inr (.inr (mem_idsRows (by rw [List.getElem?_drop] at hi; exact hi) (List.mem_singleton.2 rfl) (by simp)))), by rw [hk 0 (by simp)]; exact h.seen,
    fun id hid => by
      have h1 := hk id (.inr (.inr hid))
      rw [List.getElem?_eq_getElem (h.ins id hid)] at h1
      exact lt_of_some h1⟩
theorem PI.trim {ver lo : Nat} {rows : List (List A)} {H : Heap} {E : List (List Int)} {k : Nat} (h : PI ver lo rows H E k) (n0 : Nat) (hn : 3 ≤ n0) (vs : List A) :
    ∃ H', Go.Ab.trim true n0 vs H = some (vs, H') ∧ PI ver lo rows H' E k ∧ (n0 ≤ H.length → n0 ≤ H'.length) ∧ (∀ id ∈ idsL vs, H'[id]? = H[id]?) := by
  obtain ⟨H', h1, h2, h3⟩ := trim_keep n0 vs H
  refine ⟨H', h1, h.mono fun i hi => h2 i ?_, h3, fun id hid => h2 id (.inr (.inl hid))⟩
  rcases hi with rfl | rfl | hi
  · left; omega
  · left; omega
  · exact .inr (.inr ⟨2, _, by omega, h.live, hi⟩)
theorem PI.app {ver lo : Nat} {rows : List (List A)} {H : Heap} {E : List (List Int)} {k : Nat} (h : PI ver lo rows H E k) (r : Heap) : PI ver lo rows (H ++ r) E k :=
  h.mono fun i hi => by
    have := h.len3
    rw [List.getElem?_append_left]
    rcases hi with rfl | rfl | hi
    · omega
    · omega
    · exact h.ins i hi

theorem drop_cons_ids {rows : List (List A)} {lo : Nat} : ∀ id ∈ idsRows (rows.drop lo), id ∈ idsRows rows := by
  intro id h
  rw [← List.take_append_drop lo rows, idsRows_append]
  exact List.mem_append_right _ h
theorem PI.head {ver lo : Nat} {rows : List (List A)} {H : Heap} {E : List (List Int)} {k : Nat} (h : PI ver lo rows H E k) {w : List Int} (hw : E[k]? = some w) :
    ∃ idw vw, rows[lo]? = some [.osl idw vw 1 0 w.length] ∧ H[idw]? = some (.live ⟨vw, 1, wC w⟩) := by
  have : (E.drop k)[0]? = some w := by rw [List.getElem?_drop]; exact hw
  obtain ⟨id, v, h1, h2⟩ := h.rws.at this
  rw [List.getElem?_drop] at h1
  exact ⟨id, v, h1, h2⟩
@[simp] theorem ext_len (w : List Int) (E : List (List Int)) (x : Int) : (ext w E x).length = if x ∈ E.map lastW then E.length else E.length + 1 := by unfold ext; split <;> simp

/-- One link of the thing that is gone on from. -/
theorem link_step {ver lo : Nat} {rows : List (List A)} {H h41 : Heap} {E : List (List Int)} {k : Nat} (h : PI ver lo rows H E k) {w : List Int} (hw : E[k]? = some w) (hwl : w.length < 1000) (hE : E.length < 1000) (h3 : 3 ≤ h41.length) (hL : h41.length ≤ H.length)
    (ls : List Link) (i : Nat) (l : Link) (hl : ls[i]? = some l) (hls : ls.length < 1000) :
    ∃ ver' lo' rows' H', watch_Path_l2 (.s (.int .i64 ls.length)) (mkF 2 (ls.map linkC)) (.mref 0) h41 ([.osl 2 ver 1 lo (E.length - k), .s (.int .i64 i)], H) = some (.inl ([.osl 2 ver' 1 lo' ((ext w E l.id).length - k), .s (.int .i64 (i + 1 : Nat))], H')) ∧
      PI ver' lo' rows' H' (ext w E l.id) k ∧ h41.length ≤ H'.length := by
  have hi : i < ls.length := (List.getElem?_eq_some_iff.1 hl).1
  have hk : k < E.length := (List.getElem?_eq_some_iff.1 hw).1
  have hw1 := wrap_succ hi (by omega)
  have hlen := h.len3
  -- the link is taken out
  let H1 := H ++ [Go.Ab.Slot.live ⟨0, 2, [linkC l]⟩]
  have g1 : H1[H.length]? = some (.live ⟨0, 2, [linkC l]⟩) := by simp [H1]
  have p1 : PI ver lo rows H1 E k := h.app _
  have hL1 : H1.length = H.length + 1 := by simp [H1]
  have f0 : watch_Path_l2 (.s (.int .i64 ls.length)) (mkF 2 (ls.map linkC)) (.mref 0) h41 ([.osl 2 ver 1 lo (E.length - k), .s (.int .i64 i)], H) =
      oJoin (oLookup (.s (.bool false)) false (.mref 0) (.s (.int .u64 l.id)) H1 fun x55 =>
      oNot x55 fun x56 =>
      oCond x56 (oMapPut (.mref 0) (.s (.int .u64 l.id)) (.s (.bool true)) H1 fun h59 =>
      oIdxA 1 (.osl 2 ver 1 lo (E.length - k)) (.s (.int .i64 0)) fun x60 =>
      oLoadD h59.length [] none x60 (h59 ++ List.replicate 4 .res) fun x61 h62 =>
      oCallF h59.length [] (primClone 1 8) [x61] h62 fun x63 h64 =>
      oFieldA 0 (.ptr H.length 0 0 0) fun x65 =>
      oLoadD h59.length [] none x65 h64 fun x66 h67 =>
      oNewSlice (some h59.length) 1 (asRows none [x66]) h67 fun x68 h69 =>
      oAppendD h59.length [] (h59.length + 1) 1 8 x63 x68 h69 fun x70 h71 =>
      oNewSlice (some (h59.length + 2)) 1 (asRows none [x70]) h71 fun x72 h73 =>
      oAppend (some (h59.length + 3)) 1 24 (.osl 2 ver 1 lo (E.length - k)) x72 h73 fun x74 h75 =>
      (Go.Ab.trim true H.length [x74] h75).map fun p => (Ex.normal, p.1, p.2))
      ((Go.Ab.trim true H.length [.osl 2 ver 1 lo (E.length - k)] H1).map fun p => (Ex.normal, p.1, p.2))) (watch_Path_k1 ([.osl 2 ver 1 lo (E.length - k), .s (.int .i64 i)], H) h41) := by
    have e1 : ∀ {β : Type} (k : A → Option β), oIdxA 2 (mkF 2 (ls.map linkC)) (.s (.int .i64 i)) k = k (.cptr (linkC l)) := fun k => oIdxA_mkF 2 linkC ls _ i l k hl
    have e2 : (H ++ [Go.Ab.Slot.live ⟨0, 2, [[.s (.int .u64 0), .s (.int .i64 0)]]⟩]).set H.length (.live ⟨0, 2, [linkC l]⟩) = H1 := by simp [H1]
    have e3 : putCells [.s (.int .u64 0), .s (.int .i64 0)] 0 (linkC l) = linkC l := rfl
    simp only [watch_Path_l2, List.getD_cons_zero, List.getD_cons_succ, oCmp_s, if_true, cmpInt_lss, Int.ofNat_lt, hi, decide_true, oCond_s, e1, oLoad_cptr, linkC_at, oNew_agg, List.length_cons, List.length_nil, Nat.zero_add, List.isEmpty_cons, Bool.false_eq_true, if_false, place_none, oStore_ptr, at_end,
      List.getElem?_cons_zero, asCells_some, linkC_len, Nat.le_refl, List.set_cons_zero, e3, e2, oFieldA_ptr, oLoad_ptr, g1, cellsAt_none, linkC_0]
  have hsn : H1[0]? = some (.mp .u64 (seenM (E.map lastW))) := p1.seen
  by_cases hm : l.id ∈ E.map lastW
  · have hext : ext w E l.id = E := by unfold ext; rw [if_pos hm]
    obtain ⟨H2, t1, t2, t3, -⟩ := p1.trim H.length hlen [.osl 2 ver 1 lo (E.length - k)]
    obtain ⟨H3, u1, u2, u3, -⟩ := t2.trim h41.length h3 [.osl 2 ver 1 lo (E.length - k), .s (.int .i64 ((i : Int) + 1))]
    refine ⟨ver, lo, rows, H3, ?_, by rw [hext]; exact u2, u3 (by have := t3 (by omega); omega)⟩
    rw [f0, hext]
    simp only [oLookup, hsn, seen_get, hm, if_true, oNot_s, Bool.not_true, oCond_s, Bool.false_eq_true, if_false, t1, Option.map_some, oJoin_some]
    simp [watch_Path_k1, hw1, u1]
  · have hext : ext w E l.id = E ++ [w ++ [l.id]] := by unfold ext; rw [if_neg hm]
    obtain ⟨idw, vw, r1, r2⟩ := p1.head hw
    let K := H1.set 0 (.mp .u64 (seenM (E.map lastW ++ [l.id])))
    have hKl : K.length = H1.length := by simp [K]
    have k2 : K[2]? = some (.live ⟨ver, 1, rows⟩) := by rw [List.getElem?_set_ne (by omega)]; exact p1.live
    have kw : K[idw]? = some (.live ⟨vw, 1, wC w⟩) := by
      have : idw ≠ 0 := by rintro rfl; rw [hsn] at r2; simp at r2
      rw [List.getElem?_set_ne (by omega)]; exact r2
    have kx : K[H.length]? = some (.live ⟨0, 2, [[.s (.int .u64 l.id), .s (.int .i64 l.quota)]]⟩) := by
      rw [List.getElem?_set_ne (by omega)]; exact g1
    obtain ⟨F, f1, f2, f3, f4, f5⟩ := push_v K ver lo (E.length - k) idw vw H.length rows w l.id _ (by omega) k2 p1.len r1 kw kx hwl (by omega)
    have pF : PI (ver + 1) 0 (rows.drop lo ++ [[.osl (K.length + 4) 2 1 0 (w ++ [l.id]).length]]) F (E ++ [w ++ [l.id]]) k := by
      have hnew : (K.length + 4) < F.length := lt_of_some f4
      have hold : ∀ id ∈ idsRows rows, id < F.length := fun id hid => by have := p1.ins id hid; omega
      have hne : ∀ (i : Nat) (id v n : Nat) (w : List Int), (rows.drop lo)[i]? = some [.osl id v 1 0 n] → H1[id]? = some (.live ⟨v, 1, wC w⟩) → F[id]? = H1[id]? := by
        intro i id v n w' hi ho
        have h0 : id ≠ 0 := by rintro rfl; rw [hsn] at ho; simp at ho
        have h2' : id ≠ 2 := by
          rintro rfl
          rw [p1.live] at ho
          simp only [Option.some.injEq, Go.Ab.Slot.live.injEq, Obj.mk.injEq] at ho
          rw [ho.2.2, List.getElem?_drop] at hi
          simp [cellC] at hi
        have hlt := lt_of_some ho
        rw [f3 id h2' (by omega)]
        exact List.getElem?_set_ne (by omega)
      refine ⟨f2, ?_, ?_, ?_, ?_⟩
      · have := p1.len; simp; omega
      · rw [List.drop_zero, List.drop_append_of_le_length (by omega)]
        exact (p1.rws.mono hne).app ⟨_, _, rfl, f4⟩
      · rw [f3 0 (by omega) (by omega), List.map_append]
        show (H1.set 0 _)[0]? = _
        rw [List.getElem?_set_self (by omega)]
        simp
      · intro id hid
        rw [idsRows_append, List.mem_append] at hid
        rcases hid with hid | hid
        · exact hold id (drop_cons_ids id hid)
        · simp at hid; omega
    obtain ⟨H2, t1, t2, t3, -⟩ := pF.trim H.length hlen [.osl 2 (ver + 1) 1 0 (E.length - k + 1)]
    obtain ⟨H3, u1, u2, u3, -⟩ := t2.trim h41.length h3 [.osl 2 (ver + 1) 1 0 (E.length - k + 1), .s (.int .i64 ((i : Int) + 1))]
    have e4 : (E ++ [w ++ [l.id]]).length - k = E.length - k + 1 := by simp; omega
    refine ⟨ver + 1, 0, _, H3, ?_, by rw [hext]; exact u2, u3 (by have := t3 (by omega); omega)⟩
    rw [f0, hext, e4]
    have hput : ∀ {β : Type} (k : Heap → Option β), oMapPut (.mref 0) (.s (.int .u64 l.id)) (.s (.bool true)) H1 k = k K := by
      intro β k
      simp [oMapPut, hsn, seen_put _ _ hm, K]
    simp only [oLookup, hsn, seen_get, hm, if_true, if_false, oNot_s, Bool.not_false, oCond_s, hput]
    rw [f1]
    simp [t1, watch_Path_k1, hw1, u1]

/-- All links of the thing that is gone on from. -/
theorem links_run {ver lo : Nat} {rows : List (List A)} {h41 : Heap} {E : List (List Int)} {k : Nat} (h : PI ver lo rows h41 E k) {w : List Int} (hw : E[k]? = some w) (hwl : w.length < 1000) (ls : List Link) (hE : ((ls.map Link.id).foldl (ext w) E).length < 1000) (hls : ls.length < 1000) :
    ∃ q, (∃ ver' lo' rows' H', q = (Ex.exit 2, [A.osl 2 ver' 1 lo' (((ls.map Link.id).foldl (ext w) E).length - k)], H') ∧ PI ver' lo' rows' H' ((ls.map Link.id).foldl (ext w) E) k) ∧
      ∀ {β : Type} (k' : Ex → List A → Heap → Option β), oLoop (watch_Path_l2 (.s (.int .i64 ls.length)) (mkF 2 (ls.map linkC)) (.mref 0) h41) ([.osl 2 ver 1 lo (E.length - k), .s (.int .i64 0)], h41) k' = k' q.1 q.2.1 q.2.2 := by
  have hpre : ∀ i, ∃ r, (ls.map Link.id).foldl (ext w) E = ((ls.take i).map Link.id).foldl (ext w) E ++ r := fun i => by
    obtain ⟨r, hr⟩ := foldl_ext_pre w ((ls.drop i).map Link.id) (((ls.take i).map Link.id).foldl (ext w) E)
    refine ⟨r, ?_⟩
    rw [← hr, ← List.foldl_append, ← List.map_append, List.take_append_drop]
  have hlt : ∀ i, (((ls.take i).map Link.id).foldl (ext w) E).length < 1000 := fun i => by
    obtain ⟨r, hr⟩ := hpre i
    rw [hr, List.length_append] at hE; omega
  have hcur : ∀ i, (((ls.take i).map Link.id).foldl (ext w) E)[k]? = some w := fun i => by
    obtain ⟨r, hr⟩ := foldl_ext_pre w ((ls.take i).map Link.id) E
    rw [hr]; exact get_app hw r
  have h3 := h.len3
  refine oLoop_inv' (fun i s => ∃ ver' lo' rows' H', s = ([A.osl 2 ver' 1 lo' ((((ls.take i).map Link.id).foldl (ext w) E).length - k), .s (.int .i64 i)], H') ∧ PI ver' lo' rows' H' (((ls.take i).map Link.id).foldl (ext w) E) k ∧ h41.length ≤ H'.length) _ ls.length
    ⟨ver, lo, rows, h41, by simp, by simpa using h, Nat.le_refl _⟩ (by omega) ?_ ?_
  · rintro i s hi ⟨ver', lo', rows', H', rfl, hP, hL⟩
    left
    have hl : ls[i]? = some ls[i] := List.getElem?_eq_getElem hi
    obtain ⟨v2, l2, r2, H2, e1, e2, e3⟩ := link_step hP (hcur i) hwl (hlt i) h3 hL ls i ls[i] hl hls
    have e4 : ((ls.take (i + 1)).map Link.id).foldl (ext w) E = ext w (((ls.take i).map Link.id).foldl (ext w) E) ls[i].id := by
      rw [List.take_add_one, hl, List.map_append, List.foldl_append]; rfl
    refine ⟨_, e1, v2, l2, r2, H2, ?_, ?_, e3⟩
    · rw [e4]
    · rw [e4]; exact e2
  · rintro s ⟨ver', lo', rows', H', rfl, hP, hL⟩
    rw [List.take_length] at hP ⊢
    obtain ⟨H2, t1, t2, -, -⟩ := hP.trim h41.length h3 [A.osl 2 ver' 1 lo' (((ls.map Link.id).foldl (ext w) E).length - k)]
    refine ⟨_, ?_, ver', lo', rows', H2, rfl, t2⟩
    simp [watch_Path_l2, t1]

theorem PI.next {ver lo : Nat} {rows : List (List A)} {H : Heap} {E : List (List Int)} {k : Nat} (h : PI ver lo rows H E k) (hk : k < E.length) : PI ver (lo + 1) rows H E (k + 1) :=
  ⟨h.live, by have := h.len; omega, by have := h.rws.drop 1; rwa [List.drop_drop, List.drop_drop] at this, h.seen, h.ins⟩
/-- The search's step: one way gone on from, or found, or none left. -/
theorem way_step {g : List Thing} (hs : soundG g) (hg : g.length ≤ 60) (id : Int) (h15 : Heap) (h3 : h15.length = 3) {ver lo : Nat} {rows : List (List A)} {H : Heap} {k : Nat} (h : PI ver lo rows H (bfs (lkG g) 1 k) k) :
    (∀ w, (bfs (lkG g) 1 k)[k]? = some w → lastW w ≠ id → ∃ ver' lo' rows' H', watch_Path_l5 (.s (.int .u64 id)) (mkF 26 (g.map thingC)) (.mref 0) h15 ([.osl 2 ver 1 lo ((bfs (lkG g) 1 k).length - k)], H) =
        some (.inl ([.osl 2 ver' 1 lo' ((bfs (lkG g) 1 (k + 1)).length - (k + 1))], H')) ∧ PI ver' lo' rows' H' (bfs (lkG g) 1 (k + 1)) (k + 1)) ∧
    (∀ w, (bfs (lkG g) 1 k)[k]? = some w → lastW w = id → ∃ idw vw H', watch_Path_l5 (.s (.int .u64 id)) (mkF 26 (g.map thingC)) (.mref 0) h15 ([.osl 2 ver 1 lo ((bfs (lkG g) 1 k).length - k)], H) =
        some (.inr (.ret, [.osl idw vw 1 0 w.length], H')) ∧ H'[idw]? = some (.live ⟨vw, 1, wC w⟩)) ∧
    ((bfs (lkG g) 1 k)[k]? = none → ∃ H', watch_Path_l5 (.s (.int .u64 id)) (mkF 26 (g.map thingC)) (.mref 0) h15 ([.osl 2 ver 1 lo ((bfs (lkG g) 1 k).length - k)], H) = some (.inr (.exit 0, [.any], H'))) := by
  have hI := bfsG_at hs k
  have hfew := bfs_few hs k
  have hfew' := bfs_few hs (k + 1)
  have hbk : ∀ w, (bfs (lkG g) 1 k)[k]? = some w → bfs (lkG g) 1 (k + 1) = nxt (lkG g) (bfs (lkG g) 1 k) w := fun w hw => by rw [bfs, hw]
  generalize bfs (lkG g) 1 k = E at *
  have hlen := h.len3
  have start : ∀ w, E[k]? = some w → ∃ idw vw, H[idw]? = some (.live ⟨vw, 1, wC w⟩) ∧ rows[lo]? = some [.osl idw vw 1 0 w.length] ∧ watch_Path_l5 (.s (.int .u64 id)) (mkF 26 (g.map thingC)) (.mref 0) h15 ([.osl 2 ver 1 lo (E.length - k)], H) =
      oJoin (oCond (.s (.bool (decide (lastW w = id)))) ((Go.Ab.trim true H.length [.osl idw vw 1 0 w.length, .osl 2 ver 1 lo (E.length - k)] H).map fun p => (Ex.ret, p.1, p.2))
      (oLend graph_Find [mkF 26 (g.map thingC), .s (.int .u64 (lastW w))] H (fun v35 h36 => some (Ex.panic v35, [], h36)) fun w87 h88 => oFrz w87 h88 fun x33 h34 =>
      oExtract 0 x33 fun x37 =>
      oExtract 1 x33 fun x38 =>
      oNew none (some 26) (.agg [.s (.int .u64 0), .s (.int .i64 0), .s (.int .i64 0), .s (.slice none 0 0), .s (.int .i64 0), .s (.slice none 0 0), .s (.int .i64 0), .s (.int .i64 0), .s (.slice none 0 0), .s (.slice none 0 0), .s (.int .u64 0), .s (.int .u64 0), .s (.int .u64 0), .s (.int .u64 0), .s (.int .i64 0), .s (.int .i64 0), .s (.bool false), .s (.int .u64 0), .s (.int .u64 0), .s (.int .u64 0), .s (.int .u64 0), .s (.int .u64 0), .s (.int .u64 0), .s (.int .u64 0), .s (.int .u64 0), .s (.int .u64 0)]) h34 fun x39 h40 =>
      oStore (some 26) x39 x37 h40 fun h41 =>
      oNot x38 fun x42 =>
      oCond x42 ((Go.Ab.trim true H.length [.any, .osl 2 ver 1 lo (E.length - k)] h41).map fun p => (Ex.normal, p.1, p.2))
      (oFieldA 8 x39 fun x43 =>
      oLoad none x43 h41 fun x44 =>
      oLen x44 fun x45 =>
      oLoop (watch_Path_l2 x45 x44 (.mref 0) h41) ([.osl 2 ver 1 lo (E.length - k), (.s (.int .i64 0))], h41) (watch_Path_k3 ([.osl 2 ver 1 lo (E.length - k)], H))))) (watch_Path_k4 h15) := by
    intro w hw
    obtain ⟨idw, vw, r1, r2⟩ := h.head hw
    refine ⟨idw, vw, r2, r1, ?_⟩
    have hk : k < E.length := (List.getElem?_eq_some_iff.1 hw).1
    have hw0 := (hI.there w (List.mem_of_getElem? hw)).2
    have hwl : 0 < w.length := List.length_pos_iff.2 hw0
    have hwk := way_len hI (k + 1) k w (by omega) hw
    have q0 : (0 : Int) < ((E.length - k : Nat) : Int) := by omega
    have q1 : IntKind.i64.wrap ((w.length : Int) - 1) = ((w.length - 1 : Nat) : Int) := by rw [wrap64_id (by omega) (by omega)]; omega
    have q2 : (0 : Int) ≤ ((w.length - 1 : Nat) : Int) ∧ ((w.length - 1 : Nat) : Int) < (w.length : Int) := by omega
    have q3 : (wC w)[w.length - 1]? = some [.s (.int .u64 (lastW w))] := by
      rw [List.getElem?_map, ← List.getLast?_eq_getElem?]
      simp [lastW, List.getLastD_eq_getLast?, List.getLast?_eq_some_getLast hw0, cellC]
    have l2 : 2 < H.length := by omega
    have lw := lt_of_some r2
    have r1' : rows[lo + Int.toNat 0]? = some [.osl idw vw 1 0 w.length] := r1
    simp only [watch_Path_l5, List.getD_cons_zero, oLen_osl, oCmp_s, if_true, cmpInt_gtr, q0, decide_true, oCond_s, oIdxA_osl, Int.le_refl, and_self, oLoadD, l2, List.not_mem_nil, not_false_eq_true, oLoad_ptr, h.live, r1', cellsAt_none, List.getElem?_cons_zero, oAr_s, arInt_sub, q1, q2, Int.toNat_natCast, Nat.zero_add, lw, r2, q3, cmpInt_eql]
  refine ⟨fun w hw hid => ?_, fun w hw hid => ?_, fun hn => ?_⟩
  · obtain ⟨idw, vw, r2, r1, hst⟩ := start w hw
    have hk : k < E.length := (List.getElem?_eq_some_iff.1 hw).1
    obtain ⟨t, ht⟩ := (inG_find hs.sorted).1 (hI.there w (List.mem_of_getElem? hw)).1
    have okt := (sound_at hs (findT_some ht).1).1
    have hF := fun (kp k : A → Heap → Option (Ex × List A × Heap)) => graph_Find_call g (lastW w) (by omega) hs.sorted (fun t ht => (sound_at hs ht).1.small) H kp k
    have hwk := way_len hI (k + 1) k w (by omega) hw
    have hnx : ((t.links.map Link.id).foldl (ext w) E) = bfs (lkG g) 1 (k + 1) := by
      rw [hbk w hw, nxt, lkG, ht]
    have hgo := links_run (h.app [Go.Ab.Slot.live ⟨0, 26, [thingC t]⟩]) hw (by omega) t.links (by rw [hnx]; omega) (by have := okt.few; omega)
    rw [hnx] at hgo
    obtain ⟨q, ⟨v2, l2, R2, H2, rfl, p2⟩, hq⟩ := hgo
    have hk2 : k < (bfs (lkG g) 1 (k + 1)).length := by
      obtain ⟨r, hr⟩ := foldl_ext_pre w (t.links.map Link.id) E
      rw [← hnx, hr, List.length_append]; omega
    obtain ⟨H3, t1, t2, -, -⟩ := p2.trim H.length hlen [.any, .osl 2 v2 1 l2 ((bfs (lkG g) 1 (k + 1)).length - k)]
    have p3 := t2.next hk2
    obtain ⟨H4, u1, u2, -, -⟩ := p3.trim h15.length (by omega) [.osl 2 v2 1 (l2 + 1) ((bfs (lkG g) 1 (k + 1)).length - (k + 1))]
    refine ⟨v2, l2 + 1, R2, H4, ?_, u2⟩
    have e1 : (bfs (lkG g) 1 (k + 1)).length - k - 1 = (bfs (lkG g) 1 (k + 1)).length - (k + 1) := by omega
    have e2 : 1 ≤ (bfs (lkG g) 1 (k + 1)).length - k := by omega
    have e3 : ((H ++ [Go.Ab.Slot.live ⟨0, 26, [thingC t]⟩])[H.length]?) = some (.live ⟨0, 26, [thingC t]⟩) := by simp
    rw [hst]
    simp only [hid, decide_false, oCond_s, Bool.false_eq_true, if_false, hF, ht, Option.getD_some, Option.isSome_some]
    simp [hq, watch_Path_k3, watch_Path_k4, t1, u1, oSlice, e1, e2, put_thing, drop_thing]
  · obtain ⟨idw, vw, r2, r1, hst⟩ := start w hw
    obtain ⟨H', t1, t2, t3, t4⟩ := h.trim h15.length (by omega) [.osl idw vw 1 0 w.length]
    refine ⟨idw, vw, H', ?_, by rw [t4 idw (by simp)]; exact r2⟩
    rw [hst]
    simp [hid, trim_same, watch_Path_k4, t1]
  · have hk : E.length ≤ k := by simpa using hn
    have q0 : E.length - k = 0 := by omega
    obtain ⟨H', t1, -⟩ := h.trim h15.length (by omega) [.any]
    exact ⟨H', by simp [watch_Path_l5, q0, t1]⟩

theorem watch_Path_v {g : List Thing} (hs : soundG g) (hg : g.length ≤ 60) (id : Int) :
    (∃ w vw, findW (bfsG g) id = some w ∧ watch_Path [mkF 26 (g.map thingC), .s (.int .u64 id)] [] = some (.ok (.osl 0 vw 1 0 w.length), [.live ⟨vw, 1, wC w⟩])) ∨
    (findW (bfsG g) id = none ∧ watch_Path [mkF 26 (g.map thingC), .s (.int .u64 id)] [] = some (.ok (.s (.slice none 0 0)), [])) := by
  obtain ⟨t, r, hgr, ht1, ht2⟩ := hs.first
  have hx : g[0]? = some t := by rw [hgr]; rfl
  have hg0 : ¬ g.length = 0 := by rw [hgr]; simp
  have i0 : ∀ (β : Type) (k : A → Option β), oIdxA 26 (mkF 26 (g.map thingC)) (.s (.int .i64 0)) k = k (.cptr (thingC t)) := fun β k => oIdxA_mkF 26 thingC g .i64 0 t k hx
  let h15 : Heap := [.mp .u64 [(1, .s (.bool true))], .live ⟨0, 1, [[.s (.int .u64 1)]]⟩, .live ⟨0, 1, [[.osl 1 0 1 0 1]]⟩]
  have hbI := fun i => bfsG_at hs i
  have hI0 : PI 0 0 [[.osl 1 0 1 0 1]] h15 (bfs (lkG g) 1 0) 0 := by
    refine ⟨rfl, rfl, ⟨rfl, fun i row w h1 h2 => ?_⟩, rfl, by simp [h15]⟩
    have : i = 0 := by
      have := (List.getElem?_eq_some_iff.1 h1).1
      simp at this; exact this
    subst this
    simp [bfs] at h1 h2
    subst h1; subst h2
    exact ⟨1, 0, rfl, rfl⟩
  obtain ⟨q, hQ, hq⟩ := oLoop_inv' (step := watch_Path_l5 (.s (.int .u64 id)) (mkF 26 (g.map thingC)) (.mref 0) h15) (s0 := ([.osl 2 0 1 0 1], h15))
    (fun i s => ∃ ver lo rows H, s = ([A.osl 2 ver 1 lo ((bfs (lkG g) 1 i).length - i)], H) ∧ PI ver lo rows H (bfs (lkG g) 1 i) i ∧ ∀ j w, j < i → (bfs (lkG g) 1 i)[j]? = some w → lastW w ≠ id)
    (fun q => (∃ w idw vw H', findW (bfsG g) id = some w ∧ q = (Ex.ret, [A.osl idw vw 1 0 w.length], H') ∧ H'[idw]? = some (.live ⟨vw, 1, wC w⟩)) ∨ (findW (bfsG g) id = none ∧ ∃ H', q = (Ex.exit 0, [.any], H')))
    g.length ⟨0, 0, _, h15, rfl, hI0, by omega⟩ (by omega)
    (by
      rintro i s hi ⟨ver, lo, rows, H, rfl, hP, hno⟩
      obtain ⟨c1, c2, c3⟩ := way_step hs hg id h15 rfl hP
      cases hE : (bfs (lkG g) 1 i)[i]? with
      | none =>
        obtain ⟨H', e⟩ := c3 hE
        refine .inr ⟨_, e, .inr ⟨?_, H', rfl⟩⟩
        have hlen : (bfs (lkG g) 1 i).length ≤ i := by simpa using hE
        have : bfsG g = bfs (lkG g) 1 i := by
          have := bfs_stop (lkG g) 1 i hlen (g.length - i)
          rwa [show i + (g.length - i) = g.length by omega] at this
        rw [this, findW, List.find?_eq_none]
        intro w hw
        obtain ⟨j, hj⟩ := List.getElem?_of_mem hw
        have hjl := (List.getElem?_eq_some_iff.1 hj).1
        simpa using hno j w (by omega) hj
      | some w =>
        by_cases hid : lastW w = id
        · obtain ⟨idw, vw, H', e, e2⟩ := c2 w hE hid
          refine .inr ⟨_, e, .inl ⟨w, idw, vw, H', ?_, rfl, e2⟩⟩
          rw [← hid]
          obtain ⟨p, hp⟩ := bfs_pre (lkG g) 1 i (g.length - i)
          rw [show i + (g.length - i) = g.length by omega] at hp
          refine findW_of (hbI g.length).nodup ?_
          rw [hp]
          exact List.mem_append_left _ (List.mem_of_getElem? hE)
        · obtain ⟨v2, l2, R2, H2, e, p2⟩ := c1 w hE hid
          refine .inl ⟨_, e, v2, l2, R2, H2, rfl, p2, fun j w' hj hw' => ?_⟩
          obtain ⟨p, hp⟩ := bfs_pre1 (lkG g) 1 i
          rw [hp] at hw'
          have := get_app' p hE (by omega) hw'
          rcases Nat.lt_or_ge j i with hji | hji
          · exact hno j w' hji this
          · have : j = i := by omega
            subst this
            rw [hE] at this
            rw [← Option.some.inj this]; exact hid)
    (by
      rintro s ⟨ver, lo, rows, H, rfl, hP, hno⟩
      obtain ⟨c1, c2, c3⟩ := way_step hs hg id h15 rfl hP
      have hlen := bfs_few hs g.length
      obtain ⟨H', e⟩ := c3 (List.getElem?_eq_none hlen)
      refine ⟨_, e, .inr ⟨?_, H', rfl⟩⟩
      rw [findW, List.find?_eq_none]
      intro w hw
      obtain ⟨j, hj⟩ := List.getElem?_of_mem hw
      have hjl : j < (bfs (lkG g) 1 g.length).length := (List.getElem?_eq_some_iff.1 hj).1
      simpa using hno j w (by omega) hj)
  have hstart : watch_Path [mkF 26 (g.map thingC), .s (.int .u64 id)] [] = oLoop (watch_Path_l5 (.s (.int .u64 id)) (mkF 26 (g.map thingC)) (.mref 0) h15) ([.osl 2 0 1 0 1], h15) (watch_Path_k6 []) := by
    simp [watch_Path, hg0, oMkMap, i0, oMapPut, mpPut, ht1, h15]
  rw [hstart, hq]
  rcases hQ with ⟨w, idw, vw, H', h1, rfl, h2⟩ | ⟨h1, H', rfl⟩
  · refine .inl ⟨w, vw, h1, ?_⟩
    simp only [watch_Path_k6, List.getD_cons_zero, List.length_nil]
    exact finish_own idw vw 1 _ _ H' h2 (idsRows_map _ (fun x => by simp [cellC]) w) fun f => renRows_map f _ (fun x => by simp [cellC]) w
  · refine .inr ⟨h1, ?_⟩
    simp [watch_Path_k6, finish_val]

/-- The way to one: none, if there is none. -/
def pathG (g : List Thing) (id : Int) : List Int := (findW (bfsG g) id).getD []
theorem watch_Path_call {g : List Thing} (hs : soundG g) (hg : g.length ≤ 60) (id : Int) (h : Heap) : ∃ d, (d = [] ∨ d = [Go.Ab.Slot.dead]) ∧ ∀ {β : Type} (kp k : A → Heap → Option β),
    (oLend watch_Path [mkF 26 (g.map thingC), .s (.int .u64 id)] h kp fun w h' => oFrz w h' k) = k (mkF 1 (wC (pathG g id))) (h ++ d) := by
  rcases watch_Path_v hs hg id with ⟨w, vw, h1, h2⟩ | ⟨h1, h2⟩
  · refine ⟨[.dead], .inr rfl, fun kp k => ?_⟩
    rw [oLend_own _ _ [mkF 26 (g.map thingC), .s (.int .u64 id)] _ _ _ vw 1 w.length (wC w) (by simp) (lendL_pure 999 _ _ (by simp)) (fun f => renRows_map f _ (fun x => by simp [cellC]) w) h2]
    rw [oFrz_own _ _ _ _ _ _ _ (at_end _ _) (by simp) (pureRows_map _ (fun x => by simp [cellC]) w)]
    simp [pathG, h1]
  · refine ⟨[], .inl rfl, fun kp k => ?_⟩
    rw [oLend_val _ _ _ _ _ _ (by simp) (by simp) h2]
    simp [pathG, h1]
end Go.Ab.T

/-
  EVERYTHING IS REACHED: to each of some sound things there is a way.
-/
set_option linter.unusedSimpArgs false
set_option linter.unusedVariables false
namespace Go.Ab.T
open Go Go.Ab Go.Ab.F

def flatH (H : Heap) : Prop := ∀ s ∈ H, Go.Ab.Slot.ids s = []
theorem trim_flat {H : Heap} (r : Heap) (vs : List A) (hf : flatH H) (hv : idsL vs = []) (n : Nat) (hn : n = H.length) : trim true n vs (H ++ r) = some (vs, H) := by
  subst hn
  rw [trim_yes hv (by rw [List.take_left']; exact hf; rfl), List.take_left']
  rfl

theorem reach_loop {g : List Thing} (hs : soundG g) (hg : g.length ≤ 60) {w : List Int} (hw : isWay g w) (hwl : w.length < 1000) (H : Heap) (hf : flatH H) {β : Type} (k : Ex → List A → Heap → Option β) :
    oLoop (law23_WatchReach_l2 (mkF 1 (wC w)) (mkF 26 (g.map thingC)) H) ([.s (.int .i64 1)], H) k = k (.exit 0) [.any] H := by
  have hw0 : 0 < w.length := (List.getElem?_eq_some_iff.1 hw.head).1
  have hF := fun (β : Type) (id : Int) (h : Heap) (kp k : A → Heap → Option β) => Find_call g id (by omega) h kp k
  obtain ⟨q, rfl, hq⟩ := oLoop_inv' (step := law23_WatchReach_l2 (mkF 1 (wC w)) (mkF 26 (g.map thingC)) H) (s0 := ([.s (.int .i64 1)], H))
    (fun i s => s = ([.s (.int .i64 ((i + 1 : Nat) : Int))], H)) (fun q => q = (.exit 0, [.any], H)) (w.length - 1) rfl (by omega)
    (by
      rintro i s hi rfl
      left
      have hxa : w[i]? = some w[i] := List.getElem?_eq_getElem (by omega)
      have hxb : w[i + 1]? = some w[i + 1] := List.getElem?_eq_getElem (by omega)
      obtain ⟨d, hd, hl⟩ := hw.step i _ _ hxa hxb
      have i1 : ∀ (β : Type) (k : A → Option β), oIdxA 1 (mkF 1 (wC w)) (.s (.int .i64 (i : Nat))) k = k (.cptr (cellC .u64 w[i])) := fun β k => oIdxA_mkF 1 _ w .i64 i _ k hxa
      have i2 : ∀ (β : Type) (k : A → Option β), oIdxA 1 (mkF 1 (wC w)) (.s (.int .i64 ((i + 1 : Nat) : Int))) k = k (.cptr (cellC .u64 w[i + 1])) := fun β k => oIdxA_mkF 1 _ w .i64 (i + 1) _ k hxb
      simp only [Int.natCast_add, Int.cast_ofNat_Int] at i2
      generalize w[i] = a at hd i1
      generalize w[i + 1] = b at hl i2
      have okt := (sound_at hs (findT_some hd).1).1
      have hH : ∀ (β : Type) (n : Nat) (h : Heap) (k : A → Heap → Option β), oCallF n [] ref12_Has [.agg (thingC d), .s (.int .u64 b)] h k = k (.s (.bool true)) h := fun β n h k => by
        refine oCallF_val _ _ _ _ _ _ _ (by simp) (by simp) ?_
        have := ref12_Has_v d b (by have := okt.few; omega)
        rw [this]
        simp only [has] at hl
        rw [hl]
      have q1 : IntKind.i64.wrap (((i + 1 : Nat) : Int) - 1) = (i : Int) := by rw [wrap64_id (by omega) (by omega)]; omega
      have q2 : IntKind.i64.wrap (((i + 1 : Nat) : Int) + 1) = ((i + 1 + 1 : Nat) : Int) := by rw [wrap64_id (by omega) (by omega)]; omega
      have c1 : ((i + 1 : Nat) : Int) < (w.length : Int) := by omega
      have t1 := fun vs hv => trim_flat [Go.Ab.Slot.live ⟨0, 26, [thingC d]⟩] vs hf hv H.length rfl
      have t2 := trim_same [A.s (.bool false)] (H ++ [Go.Ab.Slot.live ⟨0, 26, [thingC d]⟩]) (H.length + 1) (by simp)
      have e3 : ((H ++ [Go.Ab.Slot.live ⟨0, 26, [thingC d]⟩])[H.length]?) = some (.live ⟨0, 26, [thingC d]⟩) := by simp
      refine ⟨_, ?_, rfl⟩
      simp only [law23_WatchReach_l2, List.getD_cons_zero, oLen_mkF, List.length_map, oCmp_s, if_true, cmpInt_lss, c1, decide_true, oCond_s, oAr_s, arInt_sub, q1, i1, oLoad_cptr, cellC, cellsAt_none, List.getElem?_cons_zero, hF, hd, Option.getD_some, Option.isSome_some]
      simp [oLoadD, put_thing, drop_thing, i2, hH, cellC, law23_WatchReach_k1, t2, q2, t1]
      exact wrap64_id (by omega) (by omega))
    (by
      rintro s rfl
      have c1 : ¬ ((w.length - 1 + 1 : Nat) : Int) < (w.length : Int) := by omega
      have t1 := trim_same [A.any] H H.length rfl
      refine ⟨_, ?_, rfl⟩
      simp only [law23_WatchReach_l2, List.getD_cons_zero, oLen_mkF, List.length_map, oCmp_s, if_true, cmpInt_lss, c1, decide_false, oCond_s, Bool.false_eq_true, if_false, t1, Option.map_some])
  rw [hq]

theorem path_reached {g : List Thing} (hs : soundG g) (id : Int) : (findT g id = none → pathG g id = []) ∧ (∀ t, findT g id = some t → isWay g (pathG g id) ∧ (pathG g id).getLast? = some id ∧ (pathG g id).length ≤ g.length) := by
  constructor
  · intro h
    unfold pathG
    cases hf : findW (bfsG g) id with
    | none => rfl
    | some w =>
      exfalso
      obtain ⟨h1, h2⟩ := findW_mem hf
      obtain ⟨t, ht⟩ := (inG_find hs.sorted).1 ((bfsG_at hs g.length).there w h1).1
      rw [h2, h] at ht
      simp at ht
  · intro t ht
    obtain ⟨htg, rfl⟩ := findT_some ht
    obtain ⟨w, hw, hwl⟩ := List.mem_map.1 (all_reached hs t htg)
    have hf : findW (bfsG g) t.id = some w := by rw [← hwl]; exact findW_of (bfsG_at hs g.length).nodup hw
    have e : pathG g t.id = w := by simp [pathG, hf]
    rw [e]
    obtain ⟨j, hj⟩ := List.getElem?_of_mem hw
    have hjl : j < (bfs (lkG g) 1 g.length).length := (List.getElem?_eq_some_iff.1 hj).1
    have hfew := bfs_few hs g.length
    have hlen := way_len (bfsG_at hs g.length) (j + 1) j w (by omega) hj
    refine ⟨ways_ok hs (j + 1) j w (by omega) hj, ?_, by omega⟩
    have hw0 := ((bfsG_at hs g.length).there w hw).2
    rw [← hwl]
    simp [lastW, List.getLastD_eq_getLast?, List.getLast?_eq_some_getLast hw0]

theorem WatchReach_v (g : List Thing) (id : Int) (w1 : fitsM g.length 272 ∧ ∀ x ∈ g, okThing x) (_w2 : (Lit.int .u64 id).wf = true) : law23_WatchReach [mkF 26 (g.map thingC), .s (.int .u64 id)] [] = some (.ok (.s (.bool true)), []) := by
  have hA : ∀ (β : Type) (h : Heap) (kp k : A → Heap → Option β), oLend law23_watchAlive [] h kp k = k (.s (.bool true)) h := fun β h kp k => oLend_val _ _ _ _ _ _ (by simp) (by simp) watchAlive_v
  by_cases c0 : 60 < g.length
  · have c0' : (60 : Int) < (g.length : Int) := by omega
    simp [law23_WatchReach, law23_WatchReach_k5, hA, c0, c0', trim, allBelow, finish_val]
  · have c0' : ¬ (60 : Int) < (g.length : Int) := by omega
    have ok := okG_of2 w1.2 (by omega)
    obtain ⟨b, hb, hs⟩ := Sound_v' g ok
    have hS : ∀ (β : Type) (h : Heap) (kp k : A → Heap → Option β), oLend ref13_Sound [mkF 26 (g.map thingC)] h kp k = k (.s (.bool b)) h := fun β h kp k => oLend_val _ _ _ _ _ _ (by simp) (by simp) hb
    cases b with
    | false => simp [law23_WatchReach, law23_WatchReach_k5, hA, hS, c0, c0', trim, allBelow, finish_val]
    | true =>
      have hs := hs rfl
      obtain ⟨d, hd, hP⟩ := watch_Path_call hs (by omega) id []
      have hdf : flatH d := by rcases hd with rfl | rfl <;> simp [flatH]
      have hF := fun (h : Heap) (kp k : A → Heap → Option (Out × Heap)) => Find_call g id (by omega) h kp k
      obtain ⟨hn, hy⟩ := path_reached hs id
      cases hf : findT g id with
      | none =>
        have hp := hn hf
        simp [law23_WatchReach, law23_WatchReach_k5, hA, hS, c0, c0', trim, allBelow, hP, hF, hf, hp, put_thing, drop_thing, finish_val]
      | some t =>
        obtain ⟨p1, p2, p3⟩ := hy t hf
        generalize pathG g id = w at hP p1 p2 p3
        have hw0 : 0 < w.length := (List.getElem?_eq_some_iff.1 p1.head).1
        have hw1 : ¬ w.length = 0 := by omega
        have hH := flatH
        let H : Heap := d ++ [Go.Ab.Slot.live ⟨0, 26, [thingC t]⟩]
        have hHf : flatH H := by
          intro s hsm
          rcases List.mem_append.1 hsm with h | h
          · exact hdf s h
          · simp at h; subst h; simp
        have hL := fun (k : Ex → List A → Heap → Option (Out × Heap)) => reach_loop hs (by omega) p1 (by omega) H hHf k
        have i0 : ∀ (β : Type) (k : A → Option β), oIdxA 1 (mkF 1 (wC w)) (.s (.int .i64 0)) k = k (.cptr (cellC .u64 1)) := fun β k => oIdxA_mkF 1 _ w .i64 0 _ k p1.head
        have q1 : IntKind.i64.wrap ((w.length : Int) - 1) = ((w.length - 1 : Nat) : Int) := by rw [wrap64_id (by omega) (by omega)]; omega
        have hl : w[w.length - 1]? = some id := by rw [← List.getLast?_eq_getElem?]; exact p2
        have i1 : ∀ (β : Type) (k : A → Option β), oIdxA 1 (mkF 1 (wC w)) (.s (.int .i64 ((w.length - 1 : Nat) : Int))) k = k (.cptr (cellC .u64 id)) := fun β k => oIdxA_mkF 1 _ w .i64 (w.length - 1) _ k hl
        have e1 : (d ++ [Go.Ab.Slot.live ⟨0, 26, [thingC t]⟩]) = H := rfl
        have hts : ∀ vs : List A, trim true H.length vs H = some (vs, H) := fun vs => trim_same vs H _ rfl
        have hHl : d.length + 1 = H.length := by simp [H]
        simp only [law23_WatchReach, law23_WatchReach_k5, hA, oFrz_bool, oNot_s, oCond_s, Bool.not_true, Bool.false_eq_true, if_false, oLen_mkF, List.length_map, oCmp_s, if_true, cmpInt_gtr, c0', decide_false, oGuard_s, hS]
        simp [law23_WatchReach_k5, trim, allBelow, hP, hF, hf, put_thing, drop_thing, e1, hHl, hw1, i0, q1, i1, cellC, hts, law23_WatchReach_k4, hL, law23_WatchReach_k3, finish_val]
end Go.Ab.T

/-
  THE WAY TO A THING: the answer by rounds, over plain lists.
-/
set_option linter.unusedSimpArgs false
set_option linter.unusedVariables false
namespace Go.Ab.T
open Go Go.Ab Go.Ab.F

theorem drop_cons' {l : List Int} {i : Nat} (h : i < l.length) : l.drop i = l[i] :: l.drop (i + 1) := List.drop_eq_getElem_cons h
theorem ref23_less_v (a b : List Int) (ha : a.length < 1000) (hb : b.length < 1000) : ref23_less [mkF 1 (wC a), mkF 1 (wC b)] [] = some (.ok (.s (.bool (lessL a b))), []) := by
  simp only [ref23_less, oLen_mkF, List.length_map]
  obtain ⟨q, hQ, hq⟩ := oLoop_inv' (step := ref23_less_l2 (.s (.int .i64 a.length)) (mkF 1 (wC b)) (mkF 1 (wC a)) []) (s0 := ([.s (.int .i64 0)], []))
    (fun i s => s = ([.s (.int .i64 i)], []) ∧ lessL (a.drop i) (b.drop i) = lessL a b) (fun q => (q = (.exit 0, [.any], []) ∧ lessL a b = false) ∨ q = (.ret, [.s (.bool (lessL a b))], [])) a.length ⟨rfl, by simp⟩ (by omega)
    (by
      rintro i s hi ⟨rfl, hl⟩
      have hxa : a[i]? = some a[i] := List.getElem?_eq_getElem hi
      have ia : ∀ (β : Type) (k : A → Option β), oIdxA 1 (mkF 1 (wC a)) (.s (.int .i64 i)) k = k (.cptr (cellC .u64 a[i])) := fun β k => oIdxA_mkF 1 _ a .i64 i _ k hxa
      have c0 : (i : Int) < (a.length : Int) := by omega
      rw [drop_cons' hi] at hl
      by_cases hbi : i < b.length
      · have hxb : b[i]? = some b[i] := List.getElem?_eq_getElem hbi
        have ib : ∀ (β : Type) (k : A → Option β), oIdxA 1 (mkF 1 (wC b)) (.s (.int .i64 i)) k = k (.cptr (cellC .u64 b[i])) := fun β k => oIdxA_mkF 1 _ b .i64 i _ k hxb
        rw [drop_cons' hbi] at hl
        have c1 : ¬ ((b.length : Int) ≤ (i : Int)) := by omega
        have c2 : (i : Int) < (b.length : Int) := by omega
        have hw := wrap_succ hi (by omega)
        simp only [lessL] at hl
        by_cases he : a[i] = b[i]
        · left
          rw [if_pos he] at hl
          refine ⟨_, ?_, rfl, hl⟩
          simp [ref23_less_l2, ia, ib, c0, c1, c2, oLoadD, cellC, he, trim, allBelow, ref23_less_k1, hw]
        · right
          rw [if_neg he] at hl
          refine ⟨_, ?_, .inr rfl⟩
          rw [← hl]
          simp [ref23_less_l2, ia, ib, c0, c1, c2, oLoadD, cellC, he, trim, allBelow, ref23_less_k1, hw]
      · have c1 : ((b.length : Int) ≤ (i : Int)) := by omega
        have c2 : ¬ (i : Int) < (b.length : Int) := by omega
        right
        rw [show b.drop i = [] from List.drop_eq_nil_of_le (by omega)] at hl
        simp only [lessL] at hl
        refine ⟨_, ?_, .inr rfl⟩
        rw [← hl]
        simp [ref23_less_l2, c0, c1, c2, trim, allBelow, ref23_less_k1])
    (by
      rintro s ⟨rfl, hl⟩
      rw [List.drop_length] at hl
      exact ⟨_, by simp [ref23_less_l2, trim, allBelow], .inl ⟨rfl, by rw [← hl]; rfl⟩⟩)
  rw [hq]
  rcases hQ with ⟨rfl, h⟩ | rfl
  · simp [ref23_less_k3, finish_val, h]
  · simp [ref23_less_k3, finish_val]

/-! ### lists of ways in the heap -/
structure WA (wid ver : Nat) (rows : List (List A)) (H : Heap) (ws : List (List Int)) : Prop where
  live : H[wid]? = some (.live ⟨ver, 1, rows⟩)
  rws : wayRows H rows ws
theorem wayRows.ids {H : Heap} {rows : List (List A)} {ws : List (List Int)} (h : wayRows H rows ws) {id : Nat} (hid : id ∈ idsRows rows) : ∃ v w, w ∈ ws ∧ H[id]? = some (.live ⟨v, 1, wC w⟩) := by
  have key : ∀ (rows : List (List A)) (ws : List (List Int)), wayRows H rows ws → id ∈ idsRows rows → ∃ v w, w ∈ ws ∧ H[id]? = some (.live ⟨v, 1, wC w⟩) := by
    intro rows
    induction rows with
    | nil => intro ws _ h; simp at h
    | cons r rs ih =>
      intro ws hw h
      cases ws with
      | nil => have := hw.len; simp at this
      | cons w ws =>
        simp only [idsRows_cons, List.mem_append] at h
        rcases h with h | h
        · obtain ⟨id', v, rfl, h2⟩ := hw.each 0 r w rfl rfl
          simp at h
          subst h
          exact ⟨v, w, by simp, h2⟩
        · obtain ⟨v, w', h1, h2⟩ := ih ws (hw.drop 1) h
          exact ⟨v, w', by simp [h1], h2⟩
  exact key rows ws h hid
theorem WA.ins {wid ver : Nat} {rows : List (List A)} {H : Heap} {ws : List (List Int)} (h : WA wid ver rows H ws) : ∀ id ∈ idsRows rows, id < H.length := fun id hid => by
  obtain ⟨v, w, _, h2⟩ := h.rws.ids hid
  exact lt_of_some h2
theorem WA.mono {wid ver : Nat} {rows : List (List A)} {H H' : Heap} {ws : List (List Int)} (h : WA wid ver rows H ws) (hk : ∀ i, (i = wid ∨ i ∈ idsRows rows) → H'[i]? = H[i]?) : WA wid ver rows H' ws :=
  ⟨by rw [hk wid (.inl rfl)]; exact h.live, h.rws.mono fun i id v n w hi _ => hk id (.inr (mem_idsRows hi (List.mem_singleton.2 rfl) (by simp)))⟩
theorem WA.app {wid ver : Nat} {rows : List (List A)} {H : Heap} {ws : List (List Int)} (h : WA wid ver rows H ws) (r : Heap) : WA wid ver rows (H ++ r) ws :=
  h.mono fun i hi => by
    rw [List.getElem?_append_left]
    rcases hi with rfl | hi
    · exact lt_of_some h.live
    · exact h.ins i hi
/-- What a join keeps: all below, what is handed on, and what these lead to. -/
theorem trim_keep2 (n0 : Nat) (vs : List A) (h : Heap) : ∃ H', trim true n0 vs h = some (vs, H') ∧ (∀ (i : Nat), (i < n0 ∨ i ∈ idsL vs ∨ ∃ (j : Nat) (o : Go.Ab.Slot), (j < n0 ∨ j ∈ idsL vs) ∧ h[j]? = some o ∧ i ∈ o.ids) → H'[i]? = h[i]?) ∧ (n0 ≤ h.length → n0 ≤ H'.length) := by
  unfold trim
  split
  · rename_i hc
    simp only [Bool.true_and, Bool.and_eq_true, allBelow, List.all_eq_true, decide_eq_true_eq] at hc
    refine ⟨h.take n0, rfl, fun i hi => ?_, fun hl => by simp; omega⟩
    have : i < n0 := by
      rcases hi with hi | hi | ⟨j, o, hj, ho, hi⟩
      · exact hi
      · exact hc.1 i hi
      · have hj : j < n0 := by
          rcases hj with hj | hj
          · exact hj
          · exact hc.1 j hj
        refine hc.2 o ?_ i hi
        obtain ⟨hjl, rfl⟩ := List.getElem?_eq_some_iff.1 ho
        rw [List.mem_take_iff_getElem]
        exact ⟨j, by omega, rfl⟩
    rw [List.getElem?_take, if_pos this]
  · exact ⟨h, rfl, fun _ _ => rfl, fun hl => hl⟩
theorem WA.keep {wid ver n0 : Nat} {vs : List A} {rows : List (List A)} {H H' : Heap} {ws : List (List Int)} (h : WA wid ver rows H ws) (hn : wid < n0 ∨ wid ∈ idsL vs)
    (hk : ∀ (i : Nat), (i < n0 ∨ i ∈ idsL vs ∨ ∃ (j : Nat) (o : Go.Ab.Slot), (j < n0 ∨ j ∈ idsL vs) ∧ H[j]? = some o ∧ i ∈ o.ids) → H'[i]? = H[i]?) : WA wid ver rows H' ws :=
  h.mono fun i hi => hk i (by
    rcases hi with rfl | hi
    · rcases hn with hn | hn
      · exact .inl hn
      · exact .inr (.inl hn)
    · exact .inr (.inr ⟨wid, _, hn, h.live, hi⟩))
/-- A row's object is no list of ways. -/
theorem WA.ne {wid ver : Nat} {rows : List (List A)} {H : Heap} {ws : List (List Int)} (h : WA wid ver rows H ws) {i : Nat} {id v n : Nat} (hi : rows[i]? = some [.osl id v 1 0 n]) {w : List Int} {v' : Nat} {o : Nat} (hw : H[o]? = some (.live ⟨v', 1, wC w⟩)) : o ≠ wid := by
  rintro rfl
  rw [h.live] at hw
  simp only [Option.some.injEq, Go.Ab.Slot.live.injEq, Obj.mk.injEq] at hw
  rw [hw.2.2] at hi
  simp [cellC] at hi
/-- Another row in a place. -/
theorem WA.set {wid ver : Nat} {rows : List (List A)} {H : Heap} {ws : List (List Int)} (h : WA wid ver rows H ws) {i : Nat} (hi : i < ws.length) {id v : Nat} {w : List Int} (hw : H[id]? = some (.live ⟨v, 1, wC w⟩)) :
    WA wid ver (rows.set i [.osl id v 1 0 w.length]) (H.set wid (.live ⟨ver, 1, rows.set i [.osl id v 1 0 w.length]⟩)) (ws.set i w) := by
  have hl := h.rws.len
  obtain ⟨id0, v0, hr0, _⟩ := h.rws.at (List.getElem?_eq_getElem hi)
  have hne := h.ne hr0 hw
  refine ⟨List.getElem?_set_self (lt_of_some h.live), by simp [hl], fun j row w' h1 h2 => ?_⟩
  rw [List.getElem?_set] at h1 h2
  by_cases hij : i = j
  · subst hij
    rw [if_pos rfl] at h1 h2
    rw [if_pos (by omega)] at h1 h2
    simp at h1 h2
    subst h1; subst h2
    exact ⟨id, v, rfl, by rw [List.getElem?_set_ne (Ne.symm hne)]; exact hw⟩
  · rw [if_neg hij] at h1 h2
    obtain ⟨id', v', rfl, h3⟩ := h.rws.each j row w' h1 h2
    exact ⟨id', v', rfl, by rw [List.getElem?_set_ne (Ne.symm (h.ne hr0 h3))]; exact h3⟩

/-- A way, and one more name behind it. -/
theorem mk_way {K : Heap} {wid v1 idw vw tid n k : Nat} {r1 : List (List A)} {w : List Int} {x : Int} {row : List A} (hW : K[wid]? = some (.live ⟨v1, 1, r1⟩)) (hr : r1[k]? = some [.osl idw vw 1 0 w.length]) (hw : K[idw]? = some (.live ⟨vw, 1, wC w⟩))
    (ht : K[tid]? = some (.live ⟨0, 26, [row]⟩)) (hx : row[0]? = some (.s (.int .u64 x))) (hk : k < n) (hwl : w.length < 1000) {β : Type} (kk : A → Heap → Option β) :
    (oNewSlice (some K.length) 1 (asRows none []) (K ++ List.replicate 4 .res) fun x81 h82 =>
      oIdxA 1 (.osl wid v1 1 0 n) (.s (.int .i64 k)) fun x83 =>
      oLoadD K.length [] none x83 h82 fun x84 h85 =>
      oAppendD K.length [] (K.length + 1) 1 8 x81 x84 h85 fun x86 h87 =>
      oFieldA 0 (.ptr tid 0 0 0) fun x88 =>
      oLoadD K.length [] none x88 h87 fun x89 h90 =>
      oNewSlice (some (K.length + 2)) 1 (asRows none [x89]) h90 fun x91 h92 =>
      oAppendD K.length [] (K.length + 3) 1 8 x86 x91 h92 kk) = kk (.osl K.length 2 1 0 (w ++ [x]).length) (K ++ [.live ⟨2, 1, wC (w ++ [x])⟩, .res, .live ⟨0, 1, [[.s (.int .u64 x)]]⟩, .res]) := by
  have l1 := lt_of_some hW
  have l2 := lt_of_some hw
  have l3 := lt_of_some ht
  have e0 : K ++ List.replicate 4 Go.Ab.Slot.res = K ++ [.res, .res, .res, .res] := rfl
  have g0 : ∀ (a b c d : Go.Ab.Slot), (K ++ [a, b, c, d])[K.length]? = some a := fun a b c d => by simp
  have g2 : ∀ (a b c d : Go.Ab.Slot), (K ++ [a, b, c, d])[K.length + 2]? = some c := fun a b c d => by simp
  have s0 : ∀ (a b c d x : Go.Ab.Slot), (K ++ [a, b, c, d]).set K.length x = K ++ [x, b, c, d] := fun a b c d x => by simp
  have s2 : ∀ (a b c d x : Go.Ab.Slot), (K ++ [a, b, c, d]).set (K.length + 2) x = K ++ [a, b, x, d] := fun a b c d x => by rw [List.set_append_right _ _ (by omega)]; simp
  have gW : ∀ (a b c d : Go.Ab.Slot), (K ++ [a, b, c, d])[wid]? = some (.live ⟨v1, 1, r1⟩) := fun a b c d => app_some hW _
  have gw : ∀ (a b c d : Go.Ab.Slot), (K ++ [a, b, c, d])[idw]? = some (.live ⟨vw, 1, wC w⟩) := fun a b c d => app_some hw _
  have gt : ∀ (a b c d : Go.Ab.Slot), (K ++ [a, b, c, d])[tid]? = some (.live ⟨0, 26, [row]⟩) := fun a b c d => app_some ht _
  have k1 : appendOk (0 + w.length) 8 := by unfold appendOk; omega
  have k2 : appendOk (w.length + 1) 8 := by unfold appendOk; omega
  have t2 : (wC w).length = w.length := by simp
  have t4 : (0 : Int) ≤ (k : Int) ∧ (k : Int) < (n : Int) := by omega
  simp only [oNewSlice_eq, asRows_nil, asRows_cons, e0, Nat.one_ne_zero, if_false, Go.Ab.place, g0, s0, List.length_nil, oIdxA_osl, true_and, t4, and_self, if_true, oLoadD, l1, List.not_mem_nil, not_false_eq_true, oLoad_ptr, gW, Nat.zero_add, Int.toNat_natCast, hr, cellsAt_none, List.getElem?_cons_zero,
    oAppendD, Nat.le_refl, true_or, oAppend_osl, rowsOf_osl, gw, t2, List.drop_zero, List.take_of_length_le (Nat.le_of_eq t2), k1, List.take_nil, List.nil_append, oFieldA_ptr, l3, gt, hx, asCells_none, isCell_s, Option.bind_some, Option.map_some, g2, s2, List.length_cons, k2, List.take_succ_cons, Nat.le_add_right]
  rw [Nat.zero_add] at k1
  simp [k1]
  rfl

/-- Both lists of ways: those that were, those that come next. -/
structure W2 (wid v1 : Nat) (r1 : List (List A)) (nid v2 : Nat) (r2 : List (List A)) (H : Heap) (ws nx : List (List Int)) : Prop where
  a : WA wid v1 r1 H ws
  b : WA nid v2 r2 H nx
  ne : wid ≠ nid
theorem W2.app {wid v1 nid v2 : Nat} {r1 r2 : List (List A)} {H : Heap} {ws nx : List (List Int)} (h : W2 wid v1 r1 nid v2 r2 H ws nx) (r : Heap) : W2 wid v1 r1 nid v2 r2 (H ++ r) ws nx := ⟨h.a.app r, h.b.app r, h.ne⟩
theorem W2.trim {wid v1 nid v2 : Nat} {r1 r2 : List (List A)} {H : Heap} {ws nx : List (List Int)} (h : W2 wid v1 r1 nid v2 r2 H ws nx) (n0 : Nat) (h1 : wid < n0) (h2 : nid < n0) (vs : List A) :
    ∃ H', Go.Ab.trim true n0 vs H = some (vs, H') ∧ W2 wid v1 r1 nid v2 r2 H' ws nx ∧ (n0 ≤ H.length → n0 ≤ H'.length) ∧ ∀ i < n0, H'[i]? = H[i]? := by
  obtain ⟨H', t1, t2, t3⟩ := trim_keep2 n0 vs H
  exact ⟨H', t1, ⟨h.a.keep (.inl h1) t2, h.b.keep (.inl h2) t2, h.ne⟩, t3, fun i hi => t2 i (.inl hi)⟩
theorem W2.set {wid v1 nid v2 : Nat} {r1 r2 : List (List A)} {H : Heap} {ws nx : List (List Int)} (h : W2 wid v1 r1 nid v2 r2 H ws nx) {i : Nat} (hi : i < nx.length) {id v : Nat} {w : List Int} (hw : H[id]? = some (.live ⟨v, 1, wC w⟩)) :
    W2 wid v1 r1 nid v2 (r2.set i [.osl id v 1 0 w.length]) (H.set nid (.live ⟨v2, 1, r2.set i [.osl id v 1 0 w.length]⟩)) ws (nx.set i w) := by
  refine ⟨⟨?_, ?_⟩, h.b.set hi hw, h.ne⟩
  · rw [List.getElem?_set_ne (Ne.symm h.ne)]; exact h.a.live
  · obtain ⟨id0, v0, hr0, _⟩ := h.b.rws.at (List.getElem?_eq_getElem hi)
    exact h.a.rws.mono fun i' id' v' n' w' h1 h2 => List.getElem?_set_ne (Ne.symm (h.b.ne hr0 h2))

theorem lend_less {H : Heap} {a b va vb : Nat} {x y : List Int} (ha : H[a]? = some (.live ⟨va, 1, wC x⟩)) (hb : H[b]? = some (.live ⟨vb, 1, wC y⟩)) (hx : x.length < 1000) (hy : y.length < 1000) {β : Type} (kp k : A → Heap → Option β) :
    oLend ref23_less [.osl a va 1 0 x.length, .osl b vb 1 0 y.length] H kp k = k (.s (.bool (lessL x y))) H := by
  refine oLend_lent _ _ [mkF 1 (wC x), mkF 1 (wC y)] _ _ _ _ ?_ (by simp) rfl (ref23_less_v x y hx hy)
  have hp : ∀ w : List Int, pureRows (wC w) = true := fun w => pureRows_map _ (fun x => by simp [cellC]) w
  simp only [idsL_cons, idsA_osl, idsL_nil, List.append_nil, List.cons_append, List.nil_append, List.isEmpty_cons, Bool.false_eq_true, if_false]
  rw [show lendFuel = 999 + 1 from rfl, lendL_cons' _ _ _ _ (by simp), show (999 : Nat) = 997 + 2 from rfl, lendA_osl' _ _ _ _ _ _ _ _ ha (by simp) (hp x), Option.bind_some,
    show (997 + 2 : Nat) = 998 + 1 from rfl, lendL_cons' _ _ _ _ (by simp), show (998 : Nat) = 996 + 2 from rfl, lendA_osl' _ _ _ _ _ _ _ _ hb (by simp) (hp y), Option.bind_some, show (996 + 2 : Nat) = 997 + 1 from rfl, lendL_nil']
  rfl

abbrev idsT (d : Thing) : List Int := d.links.map Link.id
theorem mem_idsT {d : Thing} {x : Int} : has d.links x = true ↔ x ∈ idsT d := by simp [has_iff2]
abbrev zeroA : List A := [.s (.int .u64 0), .s (.int .i64 0), .s (.int .i64 0), .s (.slice none 0 0), .s (.int .i64 0), .s (.slice none 0 0), .s (.int .i64 0), .s (.int .i64 0), .s (.slice none 0 0), .s (.slice none 0 0), .s (.int .u64 0), .s (.int .u64 0), .s (.int .u64 0), .s (.int .u64 0), .s (.int .i64 0), .s (.int .i64 0), .s (.bool false), .s (.int .u64 0), .s (.int .u64 0), .s (.int .u64 0), .s (.int .u64 0), .s (.int .u64 0), .s (.int .u64 0), .s (.int .u64 0), .s (.int .u64 0), .s (.int .u64 0)]

theorem new_thing (H : Heap) (d : Thing) {β : Type} (K : A → Heap → Option β) :
    (oNew none (some 26) (.agg [.s (.int .u64 0), .s (.int .i64 0), .s (.int .i64 0), .s (.slice none 0 0), .s (.int .i64 0), .s (.slice none 0 0), .s (.int .i64 0), .s (.int .i64 0), .s (.slice none 0 0), .s (.slice none 0 0), .s (.int .u64 0), .s (.int .u64 0), .s (.int .u64 0), .s (.int .u64 0), .s (.int .i64 0), .s (.int .i64 0), .s (.bool false), .s (.int .u64 0), .s (.int .u64 0), .s (.int .u64 0), .s (.int .u64 0), .s (.int .u64 0), .s (.int .u64 0), .s (.int .u64 0), .s (.int .u64 0), .s (.int .u64 0)]) H fun x h =>
      oStore (some 26) x (.agg (thingC d)) h fun h' => K x h') = K (.ptr H.length 0 0 0) (H ++ [.live ⟨0, 26, [thingC d]⟩]) := by
  simp [put_thing]
/-- One thing that may have a link: is there a lesser way by it? -/
theorem pick_step1 {g : List Thing} (hg : g.length < 1000) {H h44 : Heap} {wid v1 nid v2 tid i k : Nat} {r1 r2 : List (List A)} {ws nx : List (List Int)} (h : W2 wid v1 r1 nid v2 r2 H ws nx) (hw44 : wid < h44.length) (hn44 : nid < h44.length) (ht44 : tid < h44.length) (hL : h44.length ≤ H.length)
    {t d : Thing} (ht : H[tid]? = some (.live ⟨0, 26, [thingC t]⟩)) (hd : g[k]? = some d) (hdl : d.links.length < 1000) {w cur : List Int} (hw : ws[k]? = some w) (hc : nx[i]? = some cur) (hwl : w.length < 900) (hcl : cur.length < 1000) (hln : nx.length = ws.length) (y z : List A) (s31 s38 : List A × Heap) (hs3 : s31.1 = (.osl wid v1 1 0 ws.length) :: y) (hs : s38.1 = (.s (.int .i64 i)) :: z) :
    ∃ r2' H', ref23_Path_l7 (.s (.int .i64 g.length)) (mkF 26 (g.map thingC)) s31 (.ptr tid 0 0 0) (.osl nid v2 1 0 nx.length) s38 h44 ([.s (.int .i64 k)], H) = some (.inl ([.s (.int .i64 (k + 1 : Nat))], H')) ∧
      W2 wid v1 r1 nid v2 r2' H' ws (nx.set i (pickStep t.id cur (idsT d, w))) ∧ h44.length ≤ H'.length ∧ H'[tid]? = some (.live ⟨0, 26, [thingC t]⟩) := by
  have hkg : k < g.length := (List.getElem?_eq_some_iff.1 hd).1
  have hkw : k < ws.length := (List.getElem?_eq_some_iff.1 hw).1
  have hin : i < nx.length := (List.getElem?_eq_some_iff.1 hc).1
  obtain ⟨idw, vw, rw1, rw2⟩ := h.a.rws.at hw
  obtain ⟨H1, eH1⟩ : ∃ H1, H1 = H ++ [Go.Ab.Slot.live ⟨0, 26, [thingC d]⟩] := ⟨_, rfl⟩
  have p1 : W2 wid v1 r1 nid v2 r2 H1 ws nx := eH1 ▸ h.app _
  have ht1 : H1[tid]? = some (.live ⟨0, 26, [thingC t]⟩) := eH1 ▸ app_some ht _
  have rw2' : H1[idw]? = some (.live ⟨vw, 1, wC w⟩) := eH1 ▸ app_some rw2 _
  have g1 : H1[H.length]? = some (.live ⟨0, 26, [thingC d]⟩) := by simp [eH1]
  have hH1 : H1.length = H.length + 1 := by simp [eH1]
  have nt := fun (β : Type) (K : A → Heap → Option β) => new_thing H d K
  simp only [← eH1] at nt
  have ha : ∀ (β : Type) (h : Heap) (kp k : A → Heap → Option β), oLend ref12_Has [.agg (thingC d), .s (.int .u64 t.id)] h kp k = k (.s (.bool (has d.links t.id))) h := fun β h kp k =>
    oLend_val _ _ _ _ _ _ (by simp) (by simp) (ref12_Has_v d t.id (by omega))
  have ig : ∀ (β : Type) (kk : A → Option β), oIdxA 26 (mkF 26 (g.map thingC)) (.s (.int .i64 k)) kk = kk (.cptr (thingC d)) := fun β kk => oIdxA_mkF 26 thingC g .i64 k d kk hd
  have c0 : (k : Int) < (g.length : Int) := by omega
  have c1 : (0 : Int) ≤ (k : Int) ∧ (k : Int) < (ws.length : Int) := by omega
  have hts : ∀ vs : List A, Go.Ab.trim true H1.length vs H1 = some (vs, H1) := fun vs => trim_same vs H1 _ rfl
  have q1 : IntKind.i64.wrap ((k : Int) + 1) = ((k + 1 : Nat) : Int) := wrap_succ hkg (by omega)
  -- up to the question
  have f0 : ref23_Path_l7 (.s (.int .i64 g.length)) (mkF 26 (g.map thingC)) s31 (.ptr tid 0 0 0) (.osl nid v2 1 0 nx.length) s38 h44 ([.s (.int .i64 k)], H) =
      oJoin (oJoin (if w = [] ∨ t.id ∉ idsT d then some (Ex.exit 7, [.s (.bool true)], H1) else some (Ex.normal, [.s (.bool false)], H1)) (ref23_Path_k5 s31 ([.s (.int .i64 k)], H) (.ptr tid 0 0 0) (.osl nid v2 1 0 nx.length) s38)) (ref23_Path_k6 ([.s (.int .i64 k)], H) h44) := by
    have e4 : ref23_Path_l7 (.s (.int .i64 g.length)) (mkF 26 (g.map thingC)) s31 (.ptr tid 0 0 0) (.osl nid v2 1 0 nx.length) s38 h44 ([.s (.int .i64 k)], H) =
      oJoin (oJoin (oJoin (oGuard (.s (.bool (decide (w.length = 0)))) false (fun _ => Go.Ab.trim true H1.length [.s (.bool !(has d.links t.id))] H1 |>.map fun p => (Ex.normal, p.1, p.2))
        (fun _ => (Go.Ab.trim true H1.length [.s (.bool true)] H1).map fun p => (Ex.normal, p.1, p.2))) (ref23_Path_k3 H1)) (ref23_Path_k5 s31 ([.s (.int .i64 k)], H) (.ptr tid 0 0 0) (.osl nid v2 1 0 nx.length) s38)) (ref23_Path_k6 ([.s (.int .i64 k)], H) h44) := by
      simp only [ref23_Path_l7, hs3, List.getD_cons_zero, oCmp_s, if_true, cmpInt_lss, c0, decide_true, oCond_s, ig, oLoad_cptr, thingC_at, nt, oIdxA_osl, true_and, c1, and_self, oLoad_ptr, p1.a.live, Nat.zero_add, Int.toNat_natCast, rw1, cellsAt_none, List.getElem?_cons_zero, oLen_osl, cmpInt_eql, Int.natCast_eq_zero, g1, ht1, oFieldA_ptr, thingC_0, ha, oFrz_bool, oNot_s]
    rw [e4]
    by_cases hw0 : w = []
    · simp [hw0, hts, ref23_Path_k3]
    · cases hh : has d.links t.id with
      | true =>
        have hm := mem_idsT.1 hh
        rw [if_neg (by simp only [hw0, hm, not_true, or_self, not_false_eq_true])]
        simp [hw0, hts, ref23_Path_k3]
      | false =>
        have hm : t.id ∉ idsT d := fun h => by rw [mem_idsT.2 h] at hh; simp at hh
        rw [if_pos (.inr hm)]
        simp [hw0, hts, ref23_Path_k3]
  by_cases hc' : w = [] ∨ t.id ∉ idsT d
  · obtain ⟨H2, t1, t2, t3, t4⟩ := p1.trim H.length (by omega) (by omega) []
    obtain ⟨H3, u1, u2, u3, u4⟩ := t2.trim h44.length hw44 hn44 [.s (.int .i64 ((k : Int) + 1))]
    have ps : pickStep t.id cur (idsT d, w) = cur := by unfold pickStep; rw [if_pos hc']
    have nx' : nx.set i cur = nx := by
      apply List.ext_getElem?
      intro j
      rw [List.getElem?_set]
      split
      · rename_i hij; subst hij; rw [hc]
      · rfl
    refine ⟨r2, H3, ?_, by rw [ps, nx']; exact u2, u3 (by have := t3 (by omega); omega), by rw [u4 tid ht44, t4 tid (by omega)]; exact ht1⟩
    rw [f0, if_pos hc']
    simp [ref23_Path_k5, t1, ref23_Path_k6, q1, u1]
  · have hpick : pickStep t.id cur (idsT d, w) = if cur = [] ∨ lessL (w ++ [t.id]) cur = true then w ++ [t.id] else cur := by unfold pickStep; rw [if_neg hc']
    have hmk := fun (kk : A → Heap → Option (Ex × List A × Heap)) => mk_way (K := H1) (n := ws.length) (k := k) p1.a.live rw1 rw2' ht1 (thingC_0 t) hkw (by omega) kk
    have pF := p1.app [Go.Ab.Slot.live ⟨2, 1, wC (w ++ [t.id])⟩, Go.Ab.Slot.res, Go.Ab.Slot.live ⟨0, 1, [[.s (.int .u64 t.id)]]⟩, Go.Ab.Slot.res]
    have hnew : (H1 ++ [Go.Ab.Slot.live ⟨2, 1, wC (w ++ [t.id])⟩, Go.Ab.Slot.res, Go.Ab.Slot.live ⟨0, 1, [[.s (.int .u64 t.id)]]⟩, Go.Ab.Slot.res])[H1.length]? = some (.live ⟨2, 1, wC (w ++ [t.id])⟩) := by simp
    have htF : (H1 ++ [Go.Ab.Slot.live ⟨2, 1, wC (w ++ [t.id])⟩, Go.Ab.Slot.res, Go.Ab.Slot.live ⟨0, 1, [[.s (.int .u64 t.id)]]⟩, Go.Ab.Slot.res])[tid]? = some (.live ⟨0, 26, [thingC t]⟩) := app_some ht1 _
    have hlF : H1.length ≤ (H1 ++ [Go.Ab.Slot.live ⟨2, 1, wC (w ++ [t.id])⟩, Go.Ab.Slot.res, Go.Ab.Slot.live ⟨0, 1, [[.s (.int .u64 t.id)]]⟩, Go.Ab.Slot.res]).length := by simp
    generalize H1 ++ [Go.Ab.Slot.live ⟨2, 1, wC (w ++ [t.id])⟩, Go.Ab.Slot.res, Go.Ab.Slot.live ⟨0, 1, [[.s (.int .u64 t.id)]]⟩, Go.Ab.Slot.res] = F at hmk pF hnew htF hlF
    obtain ⟨idc, vc, rc1, rc2⟩ := pF.b.rws.at hc
    have hless := fun (kp k : A → Heap → Option (Ex × List A × Heap)) => lend_less hnew rc2 (by simp; omega) hcl kp k
    have c2 : (0 : Int) ≤ (i : Int) ∧ (i : Int) < (nx.length : Int) := by omega
    have htF' : ∀ vs : List A, Go.Ab.trim true F.length vs F = some (vs, F) := fun vs => trim_same vs F _ rfl
    have f1 : ref23_Path_k5 s31 ([.s (.int .i64 k)], H) (.ptr tid 0 0 0) (.osl nid v2 1 0 nx.length) s38 .normal [.s (.bool false)] H1 =
        ref23_Path_k4 (.osl nid v2 1 0 nx.length) s38 (.osl H1.length 2 1 0 (w ++ [t.id]).length) ([.s (.int .i64 k)], H) .normal [.s (.bool (decide (cur = [] ∨ lessL (w ++ [t.id]) cur = true)))] F := by
      have f2 : ref23_Path_k5 s31 ([.s (.int .i64 k)], H) (.ptr tid 0 0 0) (.osl nid v2 1 0 nx.length) s38 .normal [.s (.bool false)] H1 = ref23_Path_k5 ((.osl wid v1 1 0 ws.length) :: y, s31.2) ([.s (.int .i64 k)], H) (.ptr tid 0 0 0) (.osl nid v2 1 0 nx.length) s38 .normal [.s (.bool false)] H1 := by
        simp only [ref23_Path_k5, hs3]
      rw [f2]
      refine (hmk _).trans ?_
      simp only [List.getD_cons_zero, hs, oIdxA_osl, true_and, c2, and_self, if_true, oLoad_ptr, pF.b.live, Nat.zero_add, Int.toNat_natCast, rc1, cellsAt_none, List.getElem?_cons_zero, oLen_osl, oCmp_s, cmpInt_eql, Int.natCast_eq_zero, oGuard_s, hless, oFrz_bool, htF', Option.map_some]
      by_cases hcur : cur = []
      · simp [hcur]
      · simp [hcur]
    by_cases hB : cur = [] ∨ lessL (w ++ [t.id]) cur = true
    · have pS := pF.set hin hnew
      have e1 : putCells [A.osl idc vc 1 0 cur.length] 0 [A.osl H1.length 2 1 0 (w ++ [t.id]).length] = [A.osl H1.length 2 1 0 (w ++ [t.id]).length] := by simp
      have htS : (F.set nid (.live ⟨v2, 1, r2.set i [.osl H1.length 2 1 0 (w ++ [t.id]).length]⟩))[tid]? = some (.live ⟨0, 26, [thingC t]⟩) := by
        have : nid ≠ tid := by
          rintro rfl
          rw [pF.b.live] at htF
          simp at htF
        rw [List.getElem?_set_ne this]; exact htF
      have hlS : (F.set nid (.live ⟨v2, 1, r2.set i [.osl H1.length 2 1 0 (w ++ [t.id]).length]⟩)).length = F.length := by simp
      have hst : ∀ {β : Type} (kk : Heap → Option β), oStore none (.ptr nid v2 i 0) (.osl H1.length 2 1 0 (w ++ [t.id]).length) F kk = kk (F.set nid (.live ⟨v2, 1, r2.set i [.osl H1.length 2 1 0 (w ++ [t.id]).length]⟩)) := by
        intro β kk
        simp only [oStore_ptr, pF.b.live, if_true, rc1, asCells_none, isCell_osl, List.length_cons, List.length_nil, Nat.zero_add, Nat.le_refl, e1]
      generalize F.set nid (.live ⟨v2, 1, r2.set i [.osl H1.length 2 1 0 (w ++ [t.id]).length]⟩) = S at pS htS hlS hst
      obtain ⟨H2, t1, t2, t3, t4⟩ := pS.trim H.length (by omega) (by omega) []
      obtain ⟨H3, u1, u2, u3, u4⟩ := t2.trim h44.length hw44 hn44 [.s (.int .i64 ((k : Int) + 1))]
      refine ⟨_, H3, ?_, by rw [hpick, if_pos hB]; exact u2, u3 (by have := t3 (by omega); omega), by rw [u4 tid ht44, t4 tid (by omega)]; exact htS⟩
      rw [f0, if_neg hc', oJoin_some, f1]
      simp only [ref23_Path_k4, List.getD_cons_zero, hB, decide_true, oCond_s, if_true, hs, oIdxA_osl, c2, and_self, Nat.zero_add, Int.toNat_natCast, hst, t1, Option.map_some, oJoin_some, ref23_Path_k6, oAr_s, arInt_add, q1]
      simp [u1]
    · obtain ⟨H2, t1, t2, t3, t4⟩ := pF.trim H.length (by omega) (by omega) []
      obtain ⟨H3, u1, u2, u3, u4⟩ := t2.trim h44.length hw44 hn44 [.s (.int .i64 ((k : Int) + 1))]
      have nx' : nx.set i cur = nx := by
        apply List.ext_getElem?
        intro j
        rw [List.getElem?_set]
        split
        · rename_i hij; subst hij; rw [hc]
        · rfl
      refine ⟨_, H3, ?_, by rw [hpick, if_neg hB, nx']; exact u2, u3 (by have := t3 (by omega); omega), by rw [u4 tid ht44, t4 tid (by omega)]; exact htF⟩
      rw [f0, if_neg hc', oJoin_some, f1]
      simp only [ref23_Path_k4, List.getD_cons_zero, hB, decide_false, oCond_s, Bool.false_eq_true, if_false, t1, Option.map_some, oJoin_some, ref23_Path_k6, oAr_s, arInt_add, if_true, q1]
      simp [u1]

/-- The links and the way of each thing. -/
def psOf (g : List Thing) (ws : List (List Int)) : List (List Int × List Int) := (g.zip ws).map fun p => (idsT p.1, p.2)
theorem psOf_len {g : List Thing} {ws : List (List Int)} (h : ws.length = g.length) : (psOf g ws).length = g.length := by simp [psOf, h]
theorem psOf_get {g : List Thing} {ws : List (List Int)} {k : Nat} {d : Thing} {w : List Int} (hd : g[k]? = some d) (hw : ws[k]? = some w) : (psOf g ws)[k]? = some (idsT d, w) := by
  have : (g.zip ws)[k]? = some (d, w) := List.getElem?_zip_eq_some.2 ⟨hd, hw⟩
  simp only [psOf, List.getElem?_map, this, Option.map_some]
theorem pickStep_len {x : Int} {cur : List Int} {p : List Int × List Int} {n : Nat} (hc : cur.length ≤ n) (hp : p.2.length < n) : (pickStep x cur p).length ≤ n := by
  unfold pickStep
  split
  · exact hc
  · split
    · simp; omega
    · exact hc
theorem pickF_len {x : Int} {n : Nat} : ∀ (ps : List (List Int × List Int)) (cur : List Int), cur.length ≤ n → (∀ p ∈ ps, p.2.length < n) → (ps.foldl (pickStep x) cur).length ≤ n
  | [], cur, hc, _ => hc
  | p :: ps, cur, hc, hp => pickF_len ps _ (pickStep_len hc (hp p (by simp))) fun q hq => hp q (by simp [hq])

/-- All things that may have a link. -/
theorem pick_run {g : List Thing} (hg : g.length < 100) (hgl : ∀ d ∈ g, d.links.length < 1000) {h44 : Heap} {wid v1 nid v2 tid i : Nat} {r1 r2 : List (List A)} {ws nx : List (List Int)} (h : W2 wid v1 r1 nid v2 r2 h44 ws nx) {t : Thing} (ht : h44[tid]? = some (.live ⟨0, 26, [thingC t]⟩)) {cur : List Int}
    (hc : nx[i]? = some cur) (hwl : ∀ w ∈ ws, w.length < 500) (hcl : cur.length ≤ 500) (hln : nx.length = ws.length) (hlg : ws.length = g.length) (y z : List A) (s31 s38 : List A × Heap) (hs3 : s31.1 = (.osl wid v1 1 0 ws.length) :: y) (hs : s38.1 = (.s (.int .i64 i)) :: z) :
    ∃ q, (∃ r2' H', q = (Ex.exit 6, [], H') ∧ W2 wid v1 r1 nid v2 r2' H' ws (nx.set i ((psOf g ws).foldl (pickStep t.id) cur)) ∧ h44.length ≤ H'.length) ∧
      ∀ {β : Type} (k' : Ex → List A → Heap → Option β), oLoop (ref23_Path_l7 (.s (.int .i64 g.length)) (mkF 26 (g.map thingC)) s31 (.ptr tid 0 0 0) (.osl nid v2 1 0 nx.length) s38 h44) ([.s (.int .i64 0)], h44) k' = k' q.1 q.2.1 q.2.2 := by
  have hin : i < nx.length := (List.getElem?_eq_some_iff.1 hc).1
  have hps : ∀ p ∈ psOf g ws, p.2.length < 500 := by
    intro p hp
    obtain ⟨q, hq, rfl⟩ := List.mem_map.1 hp
    exact hwl _ (List.of_mem_zip (a := q.1) (b := q.2) hq).2
  have hw44 := lt_of_some h.a.live
  have hn44 := lt_of_some h.b.live
  have ht44 := lt_of_some ht
  refine oLoop_inv' (fun k s => ∃ r2' H', s = ([A.s (.int .i64 k)], H') ∧ W2 wid v1 r1 nid v2 r2' H' ws (nx.set i (((psOf g ws).take k).foldl (pickStep t.id) cur)) ∧ h44.length ≤ H'.length ∧ H'[tid]? = some (.live ⟨0, 26, [thingC t]⟩)) _ g.length
    ⟨r2, h44, rfl, ?_, Nat.le_refl _, ht⟩ (by omega) ?_ ?_
  · have : nx.set i cur = nx := by
      apply List.ext_getElem?
      intro j
      rw [List.getElem?_set]
      split
      · rename_i hij; subst hij; rw [hc]
      · rfl
    simpa [this] using h
  · rintro k s hk ⟨r2', H', rfl, hW, hL, htH⟩
    left
    have hd : g[k]? = some g[k] := List.getElem?_eq_getElem hk
    have hw : ws[k]? = some (ws[k]'(by omega)) := List.getElem?_eq_getElem _
    have hlen := pickF_len (x := t.id) ((psOf g ws).take k) cur hcl (fun p hp => hps p (List.mem_of_mem_take hp))
    obtain ⟨r3, H3, e1, e2, e3, e4⟩ := pick_step1 (by omega) hW hw44 hn44 ht44 hL htH hd (hgl _ (List.getElem_mem hk)) hw (cur := ((psOf g ws).take k).foldl (pickStep t.id) cur) (by rw [List.getElem?_set_self hin]) (by have := hwl _ (List.mem_of_getElem? hw); omega) (by omega) (by simp [hln]) y z s31 s38 hs3 hs
    have e5 : ((psOf g ws).take (k + 1)).foldl (pickStep t.id) cur = pickStep t.id (((psOf g ws).take k).foldl (pickStep t.id) cur) (idsT g[k], ws[k]) := by
      rw [List.take_add_one, psOf_get hd hw, List.foldl_append]; rfl
    rw [List.set_set, ← e5] at e2
    simp only [List.length_set] at e1
    exact ⟨_, e1, r3, H3, rfl, e2, e3, e4⟩
  · rintro s ⟨r2', H', rfl, hW, hL, htH⟩
    rw [List.take_of_length_le (by rw [psOf_len hlg]; exact Nat.le_refl _)] at hW
    obtain ⟨H2, t1, t2, t3, t4⟩ := hW.trim h44.length hw44 hn44 []
    refine ⟨_, ?_, r2', H2, rfl, t2, t3 hL⟩
    simp [ref23_Path_l7, t1]

/-- What a round makes of a thing's way. -/
def rndW (ps : List (List Int × List Int)) (t : Thing) (w : List Int) : List Int := if w = [] then ps.foldl (pickStep t.id) [] else w
def rnd (g : List Thing) (ws : List (List Int)) : List (List Int) := (g.zip ws).map fun p => rndW (psOf g ws) p.1 p.2
theorem rnd_len {g : List Thing} {ws : List (List Int)} (h : ws.length = g.length) : (rnd g ws).length = g.length := by simp [rnd, h]
theorem rnd_get {g : List Thing} {ws : List (List Int)} {k : Nat} {d : Thing} {w : List Int} (hd : g[k]? = some d) (hw : ws[k]? = some w) : (rnd g ws)[k]? = some (rndW (psOf g ws) d w) := by
  have : (g.zip ws)[k]? = some (d, w) := List.getElem?_zip_eq_some.2 ⟨hd, hw⟩
  simp only [rnd, List.getElem?_map, this, Option.map_some]
theorem set_id {α : Type} {l : List α} {i : Nat} {a : α} (h : l[i]? = some a) : l.set i a = l := by
  apply List.ext_getElem?
  intro j
  rw [List.getElem?_set]
  split
  · rename_i hij; subst hij; rw [h]; simp [(List.getElem?_eq_some_iff.1 h).1]
  · rfl

/-- One thing in a round. -/
theorem thing_step {g : List Thing} (hg : g.length < 100) (hgl : ∀ d ∈ g, d.links.length < 1000) {h36 H : Heap} {wid v1 nid v2 i : Nat} {r1 r2 : List (List A)} {ws nx : List (List Int)} (h : W2 wid v1 r1 nid v2 r2 H ws nx) (hw36 : wid < h36.length) (hn36 : nid < h36.length) (hL : h36.length ≤ H.length)
    {t : Thing} (ht : g[i]? = some t) {w : List Int} (hw : ws[i]? = some w) (hx : nx[i]? = some w) (hwl : ∀ w ∈ ws, w.length < 500) (hln : nx.length = ws.length) (hlg : ws.length = g.length) (y : List A) (s31 : List A × Heap) (hs3 : s31.1 = (.osl wid v1 1 0 ws.length) :: y) :
    ∃ r2' H', ref23_Path_l10 (.s (.int .i64 g.length)) (mkF 26 (g.map thingC)) s31 (.osl nid v2 1 0 nx.length) h36 ([.s (.int .i64 i)], H) = some (.inl ([.s (.int .i64 (i + 1 : Nat))], H')) ∧
      W2 wid v1 r1 nid v2 r2' H' ws (nx.set i (rndW (psOf g ws) t w)) ∧ h36.length ≤ H'.length := by
  have hig : i < g.length := (List.getElem?_eq_some_iff.1 ht).1
  have hiw : i < ws.length := (List.getElem?_eq_some_iff.1 hw).1
  obtain ⟨idw, vw, rw1, rw2⟩ := h.a.rws.at hw
  obtain ⟨H1, eH1⟩ : ∃ H1, H1 = H ++ [Go.Ab.Slot.live ⟨0, 26, [thingC t]⟩] := ⟨_, rfl⟩
  have p1 : W2 wid v1 r1 nid v2 r2 H1 ws nx := eH1 ▸ h.app _
  have g1 : H1[H.length]? = some (.live ⟨0, 26, [thingC t]⟩) := by simp [eH1]
  have hH1 : H1.length = H.length + 1 := by simp [eH1]
  have nt := fun (β : Type) (K : A → Heap → Option β) => new_thing H t K
  simp only [← eH1] at nt
  have ig : ∀ (β : Type) (kk : A → Option β), oIdxA 26 (mkF 26 (g.map thingC)) (.s (.int .i64 i)) kk = kk (.cptr (thingC t)) := fun β kk => oIdxA_mkF 26 thingC g .i64 i t kk ht
  have c0 : (i : Int) < (g.length : Int) := by omega
  have c1 : (0 : Int) ≤ (i : Int) ∧ (i : Int) < (ws.length : Int) := by omega
  have q1 : IntKind.i64.wrap ((i : Int) + 1) = ((i + 1 : Nat) : Int) := wrap_succ hig (by omega)
  have e4 : ref23_Path_l10 (.s (.int .i64 g.length)) (mkF 26 (g.map thingC)) s31 (.osl nid v2 1 0 nx.length) h36 ([.s (.int .i64 i)], H) =
      oJoin (oCond (.s (.bool (decide ((0 : Int) < (w.length : Int))))) ((Go.Ab.trim true H.length [] H1).map fun p => (Ex.normal, p.1, p.2))
        (oLoop (ref23_Path_l7 (.s (.int .i64 g.length)) (mkF 26 (g.map thingC)) s31 (.ptr H.length 0 0 0) (.osl nid v2 1 0 nx.length) ([.s (.int .i64 i)], H) H1) ([(.s (.int .i64 0))], H1) (ref23_Path_k8 ([.s (.int .i64 i)], H)))) (ref23_Path_k9 ([.s (.int .i64 i)], H) h36) := by
    simp only [ref23_Path_l10, hs3, List.getD_cons_zero, oCmp_s, if_true, cmpInt_lss, c0, decide_true, oCond_s, ig, oLoad_cptr, thingC_at, nt, oIdxA_osl, true_and, c1, and_self, oLoad_ptr, p1.a.live, Nat.zero_add, Int.toNat_natCast, rw1, cellsAt_none, List.getElem?_cons_zero, oLen_osl, cmpInt_gtr, oLen_mkF, List.length_map]
  by_cases hw0 : w = []
  · have hr : rndW (psOf g ws) t w = (psOf g ws).foldl (pickStep t.id) [] := by unfold rndW; rw [if_pos hw0]
    obtain ⟨q, ⟨r3, H3, rfl, hW3, hL3⟩, hq⟩ := pick_run hg hgl p1 g1 (hw0 ▸ hx) hwl (by simp) hln hlg y [] s31 ([.s (.int .i64 i)], H) hs3 rfl
    obtain ⟨H4, t1, t2, t3, t4⟩ := hW3.trim H.length (by omega) (by omega) []
    obtain ⟨H5, u1, u2, u3, u4⟩ := t2.trim h36.length hw36 hn36 [.s (.int .i64 ((i : Int) + 1))]
    refine ⟨r3, H5, ?_, by rw [hr]; exact u2, u3 (by have := t3 (by omega); omega)⟩
    rw [e4]
    simp [hw0, hq, ref23_Path_k8, t1, ref23_Path_k9, q1, u1]
  · have hr : rndW (psOf g ws) t w = w := by unfold rndW; rw [if_neg hw0]
    have hwp : (0 : Int) < (w.length : Int) := by have := List.length_pos_iff.2 hw0; omega
    obtain ⟨H4, t1, t2, t3, t4⟩ := p1.trim H.length (by omega) (by omega) []
    obtain ⟨H5, u1, u2, u3, u4⟩ := t2.trim h36.length hw36 hn36 [.s (.int .i64 ((i : Int) + 1))]
    refine ⟨r2, H5, ?_, by rw [hr, set_id hx]; exact u2, u3 (by have := t3 (by omega); omega)⟩
    rw [e4]
    simp only [hwp, decide_true, oCond_s, if_true, t1, Option.map_some, oJoin_some]
    simp [ref23_Path_k9, q1, u1]

/-- All things in a round. -/
theorem things_run {g : List Thing} (hg : g.length < 100) (hgl : ∀ d ∈ g, d.links.length < 1000) {h36 : Heap} {wid v1 nid v2 : Nat} {r1 r2 : List (List A)} {ws : List (List Int)} (h : W2 wid v1 r1 nid v2 r2 h36 ws ws)
    (hwl : ∀ w ∈ ws, w.length < 500) (hlg : ws.length = g.length) (y : List A) (s31 : List A × Heap) (hs3 : s31.1 = (.osl wid v1 1 0 ws.length) :: y) :
    ∃ q, (∃ r2' H', q = (Ex.exit 4, [], H') ∧ W2 wid v1 r1 nid v2 r2' H' ws (rnd g ws) ∧ h36.length ≤ H'.length) ∧
      ∀ {β : Type} (k' : Ex → List A → Heap → Option β), oLoop (ref23_Path_l10 (.s (.int .i64 g.length)) (mkF 26 (g.map thingC)) s31 (.osl nid v2 1 0 ws.length) h36) ([.s (.int .i64 0)], h36) k' = k' q.1 q.2.1 q.2.2 := by
  have hw36 := lt_of_some h.a.live
  have hn36 := lt_of_some h.b.live
  have hrl := rnd_len hlg
  refine oLoop_inv' (fun i s => ∃ r2' H', s = ([A.s (.int .i64 i)], H') ∧ W2 wid v1 r1 nid v2 r2' H' ws ((rnd g ws).take i ++ ws.drop i) ∧ h36.length ≤ H'.length) _ g.length
    ⟨r2, h36, rfl, by simpa using h, Nat.le_refl _⟩ (by omega) ?_ ?_
  · rintro i s hi ⟨r2', H', rfl, hW, hL⟩
    left
    have hd : g[i]? = some g[i] := List.getElem?_eq_getElem hi
    have hw : ws[i]? = some (ws[i]'(by omega)) := List.getElem?_eq_getElem _
    have hx : ((rnd g ws).take i ++ ws.drop i)[i]? = some (ws[i]'(by omega)) := by
      rw [List.getElem?_append_right (by simp; omega), List.getElem?_drop]
      simp only [List.length_take, hrl]
      rw [show i + (i - min i g.length) = i by omega]; exact hw
    have hl : ((rnd g ws).take i ++ ws.drop i).length = ws.length := by simp; omega
    obtain ⟨r3, H3, e1, e2, e3⟩ := thing_step hg hgl hW hw36 hn36 hL hd hw hx hwl hl hlg y s31 hs3
    have e5 : ((rnd g ws).take i ++ ws.drop i).set i (rndW (psOf g ws) g[i] ws[i]) = (rnd g ws).take (i + 1) ++ ws.drop (i + 1) := by
      apply List.ext_getElem?
      intro j
      rw [List.getElem?_set]
      split
      · rename_i hij
        subst hij
        rw [if_pos (by rw [hl]; omega), List.getElem?_append_left (by simp; omega), List.getElem?_take, if_pos (by omega), rnd_get hd hw]
      · rename_i hij
        rcases Nat.lt_or_ge j i with h1 | h1
        · rw [List.getElem?_append_left (by simp; omega), List.getElem?_append_left (by simp; omega), List.getElem?_take, List.getElem?_take, if_pos h1, if_pos (by omega)]
        · rw [List.getElem?_append_right (by simp; omega), List.getElem?_append_right (by simp; omega), List.getElem?_drop, List.getElem?_drop]
          simp only [List.length_take, hrl]
          congr 1; omega
    rw [hl] at e1
    rw [e5] at e2
    exact ⟨_, e1, r3, H3, rfl, e2, e3⟩
  · rintro s ⟨r2', H', rfl, hW, hL⟩
    rw [List.take_of_length_le (by omega), List.drop_eq_nil_of_le (by omega), List.append_nil] at hW
    obtain ⟨H2, t1, t2, t3, t4⟩ := hW.trim h36.length hw36 hn36 []
    refine ⟨_, ?_, r2', H2, rfl, t2, t3 hL⟩
    simp [ref23_Path_l10, t1]

theorem rnd_each {g : List Thing} {ws : List (List Int)} {n : Nat} (h : ∀ w ∈ ws, w.length ≤ n) : ∀ w ∈ rnd g ws, w.length ≤ n + 1 := by
  intro w hw
  obtain ⟨p, hp, rfl⟩ := List.mem_map.1 hw
  have h2 := h _ (List.of_mem_zip (a := p.1) (b := p.2) hp).2
  unfold rndW
  split
  · refine pickF_len _ _ (by simp) fun q hq => ?_
    obtain ⟨q', hq', rfl⟩ := List.mem_map.1 hq
    have := h _ (List.of_mem_zip (a := q'.1) (b := q'.2) hq').2
    simp only; omega
  · omega
def rounds (g : List Thing) (ws : List (List Int)) : Nat → List (List Int)
  | 0 => ws
  | r + 1 => rnd g (rounds g ws r)
theorem rounds_len {g : List Thing} {ws : List (List Int)} (h : ws.length = g.length) : ∀ r, (rounds g ws r).length = g.length
  | 0 => h
  | r + 1 => rnd_len (rounds_len h r)
theorem rounds_each {g : List Thing} {ws : List (List Int)} (h : ∀ w ∈ ws, w.length ≤ 1) : ∀ r, ∀ w ∈ rounds g ws r, w.length ≤ r + 1
  | 0 => h
  | r + 1 => rnd_each (rounds_each h r)

/-- A round. -/
theorem round_step {g : List Thing} (hg : g.length < 100) (hgl : ∀ d ∈ g, d.links.length < 1000) {h27 H : Heap} {wid v r : Nat} {r1 : List (List A)} {ws : List (List Int)} (h : WA wid v r1 H ws) (hr : r < g.length)
    (hwl : ∀ w ∈ ws, w.length < 500) (hlg : ws.length = g.length) :
    ∃ nid r2 H', ref23_Path_l12 (.s (.int .i64 g.length)) (mkF 26 (g.map thingC)) h27 ([.osl wid v 1 0 ws.length, .s (.int .i64 r)], H) = some (.inl ([.osl nid 1 1 0 ws.length, .s (.int .i64 (r + 1 : Nat))], H')) ∧ WA nid 1 r2 H' (rnd g ws) := by
  have hlt := lt_of_some h.live
  have hl := h.rws.len
  have c0 : (r : Int) < (g.length : Int) := by omega
  have q1 : IntKind.i64.wrap ((r : Int) + 1) = ((r + 1 : Nat) : Int) := wrap_succ hr (by omega)
  let H1 := H ++ [Go.Ab.Slot.live ⟨1, 1, r1⟩]
  have hW : W2 wid v r1 H.length 1 r1 H1 ws ws := by
    refine ⟨h.app _, ⟨by simp [H1], (h.app _).rws⟩, by omega⟩
  obtain ⟨q, ⟨r2, H2, rfl, hW2, hL2⟩, hq⟩ := things_run hg hgl hW hwl hlg [.s (.int .i64 r)] ([.osl wid v 1 0 ws.length, .s (.int .i64 r)], H) rfl
  obtain ⟨H3, t1, t2, t3⟩ := trim_keep2 h27.length [.osl H.length 1 1 0 ws.length, .s (.int .i64 ((r : Int) + 1))] H2
  refine ⟨H.length, r2, H3, ?_, hW2.b.keep (.inr (by simp)) t2⟩
  have k1 : appendOk (0 + ws.length) 24 := by unfold appendOk; omega
  have e1 : (H ++ [Go.Ab.Slot.live ⟨0, 1, []⟩])[wid]? = some (.live ⟨v, 1, r1⟩) := app_some h.live _
  have e2 : (r1.drop 0).take ws.length = r1 := by rw [List.drop_zero, List.take_of_length_le (by omega)]
  have e3 : (H ++ [Go.Ab.Slot.live ⟨0, 1, []⟩]).set H.length (.live ⟨1, 1, r1⟩) = H1 := by simp [H1]
  simp only [ref23_Path_l12, List.getD_cons_zero, List.getD_cons_succ, oCmp_s, if_true, cmpInt_lss, c0, decide_true, oCond_s, oNewSlice_eq, asRows_nil, Nat.one_ne_zero, if_false, place_none, List.length_nil, oAppend_osl, rowsOf_osl, e1, true_and, Nat.zero_add, show ws.length ≤ r1.length by omega, if_true, e2, at_end,
    Nat.le_refl, hl, List.drop_nil, List.take_nil, List.nil_append, e3, oLen_mkF, List.length_map]
  rw [Nat.zero_add] at k1
  rw [if_pos k1, hq]
  simp [ref23_Path_k11, q1, t1]

/-- All rounds. -/
theorem rounds_run {g : List Thing} (hg : g.length < 100) (hgl : ∀ d ∈ g, d.links.length < 1000) {h27 : Heap} {wid v : Nat} {r1 : List (List A)} {ws : List (List Int)} (h : WA wid v r1 h27 ws) (hwl : ∀ w ∈ ws, w.length ≤ 1) (hlg : ws.length = g.length) :
    ∃ q, (∃ wid' v' r1' H', q = (Ex.exit 2, [.osl wid' v' 1 0 g.length], H') ∧ WA wid' v' r1' H' (rounds g ws g.length)) ∧
      ∀ {β : Type} (k' : Ex → List A → Heap → Option β), oLoop (ref23_Path_l12 (.s (.int .i64 g.length)) (mkF 26 (g.map thingC)) h27) ([.osl wid v 1 0 g.length, .s (.int .i64 0)], h27) k' = k' q.1 q.2.1 q.2.2 := by
  refine oLoop_inv' (fun i s => ∃ wid' v' r1' H', s = ([A.osl wid' v' 1 0 g.length, .s (.int .i64 i)], H') ∧ WA wid' v' r1' H' (rounds g ws i)) _ g.length ⟨wid, v, r1, h27, rfl, h⟩ (by omega) ?_ ?_
  · rintro i s hi ⟨wid', v', r1', H', rfl, hW⟩
    left
    have hl := rounds_len hlg i
    obtain ⟨nid, r2, H2, e1, e2⟩ := round_step (h27 := h27) hg hgl hW hi (fun w hw => by have := rounds_each hwl i w hw; omega) hl
    rw [hl] at e1
    exact ⟨_, e1, nid, 1, r2, H2, rfl, e2⟩
  · rintro s ⟨wid', v', r1', H', rfl, hW⟩
    obtain ⟨H3, t1, t2, t3⟩ := trim_keep2 h27.length [.osl wid' v' 1 0 g.length] H'
    refine ⟨_, ?_, wid', v', r1', H3, rfl, hW.keep (.inr (by simp)) t2⟩
    simp [ref23_Path_l12, t1]

/-- One more row. -/
theorem WA.push {wid ver : Nat} {rows : List (List A)} {K : Heap} {ws : List (List Int)} (h : WA wid ver rows K ws) {id v : Nat} {w : List Int} (hw : K[id]? = some (.live ⟨v, 1, wC w⟩)) (hne : id ≠ wid) (hl : ws.length < 1000) :
    ∃ F, (∀ {β : Type} (k : A → Heap → Option β), (oNewSlice none 1 (asRows none [.osl id v 1 0 w.length]) K fun x h => oAppend none 1 24 (.osl wid ver 1 0 ws.length) x h k) = k (.osl wid (ver + 1) 1 0 (ws.length + 1)) F) ∧
      WA wid (ver + 1) (rows ++ [[.osl id v 1 0 w.length]]) F (ws ++ [w]) := by
  have hrl := h.rws.len
  have hlt := lt_of_some h.live
  have hlt2 := lt_of_some hw
  refine ⟨(K ++ [Go.Ab.Slot.live ⟨0, 1, [[.osl id v 1 0 w.length]]⟩]).set wid (.live ⟨ver + 1, 1, rows ++ [[.osl id v 1 0 w.length]]⟩), fun k => ?_, ?_⟩
  · have e1 : (K ++ [Go.Ab.Slot.live ⟨0, 1, [[.osl id v 1 0 w.length]]⟩])[wid]? = some (.live ⟨ver, 1, rows⟩) := app_some h.live _
    have k1 : appendOk (ws.length + 1) 24 := by unfold appendOk; omega
    simp only [oNewSlice_eq, asRows_cons, asRows_nil, asCells_none, isCell_osl, if_true, Option.bind_some, Option.map_some, if_neg (show ¬ (1 : Nat) = 0 by decide), place_none, oAppend_osl, rowsOf_osl, at_end, List.length_cons, List.length_nil, e1]
    simp [k1, hrl, List.take_of_length_le]
  · refine ⟨by rw [List.getElem?_set_self (by simp; omega)], ?_⟩
    have h1 : wayRows ((K ++ [Go.Ab.Slot.live ⟨0, 1, [[.osl id v 1 0 w.length]]⟩]).set wid (.live ⟨ver + 1, 1, rows ++ [[.osl id v 1 0 w.length]]⟩)) rows ws := h.rws.mono fun i id' v' n' w' hi ho => by
      have := h.ne hi ho
      rw [List.getElem?_set_ne (Ne.symm this), List.getElem?_append_left (lt_of_some ho)]
    exact h1.app ⟨id, v, rfl, by rw [List.getElem?_set_ne (Ne.symm hne), List.getElem?_append_left hlt2]; exact hw⟩

def w0 (r0 : Int) (i : Nat) : List Int := if i = 0 then [r0] else []
def ws0 (r0 : Int) (n : Nat) : List (List Int) := (List.range n).map (w0 r0)
theorem ws0_len (r0 : Int) (n : Nat) : (ws0 r0 n).length = n := by simp [ws0]
theorem ws0_succ (r0 : Int) (n : Nat) : ws0 r0 (n + 1) = ws0 r0 n ++ [w0 r0 n] := by simp [ws0, List.range_succ]
theorem ws0_each (r0 : Int) (n : Nat) : ∀ w ∈ ws0 r0 n, w.length ≤ 1 := by
  intro w hw
  obtain ⟨i, _, rfl⟩ := List.mem_map.1 hw
  unfold w0; split <;> simp

/-- In the beginning. -/
theorem begin_run {g : List Thing} (hg : g.length < 100) {t : Thing} (hx : g[0]? = some t) :
    ∃ q, (∃ v' r1' H', q = (Ex.exit 0, [.osl 0 v' 1 0 g.length], H') ∧ WA 0 v' r1' H' (ws0 t.id g.length)) ∧
      ∀ {β : Type} (k' : Ex → List A → Heap → Option β), oLoop (ref23_Path_l2 (.s (.int .i64 g.length)) (mkF 26 (g.map thingC)) [.live ⟨0, 1, []⟩]) ([.osl 0 0 1 0 0, .s (.int .i64 0)], [.live ⟨0, 1, []⟩]) k' = k' q.1 q.2.1 q.2.2 := by
  refine oLoop_inv' (fun i s => ∃ v' r1' H', s = ([A.osl 0 v' 1 0 i, .s (.int .i64 i)], H') ∧ WA 0 v' r1' H' (ws0 t.id i)) _ g.length ⟨0, [], _, rfl, rfl, ⟨rfl, by intro i row w h1 h2; simp at h1⟩⟩ (by omega) ?_ ?_
  · rintro i s hi ⟨v', r1', H', rfl, hW⟩
    left
    have c0 : (i : Int) < (g.length : Int) := by omega
    have q1 : IntKind.i64.wrap ((i : Int) + 1) = ((i + 1 : Nat) : Int) := wrap_succ hi (by omega)
    have hl := ws0_len t.id i
    have hHl := lt_of_some hW.live
    -- the new one's way
    have f1 : ∃ id K, ref23_Path_l2 (.s (.int .i64 g.length)) (mkF 26 (g.map thingC)) [.live ⟨0, 1, []⟩] ([.osl 0 v' 1 0 i, .s (.int .i64 i)], H') = ref23_Path_k1 ([.osl 0 v' 1 0 i, .s (.int .i64 i)], H') [.live ⟨0, 1, []⟩] .normal [.osl id 0 1 0 (w0 t.id i).length] K ∧
        WA 0 v' r1' K (ws0 t.id i) ∧ id ≠ 0 ∧ K[id]? = some (.live ⟨0, 1, wC (w0 t.id i)⟩) := by
      have p1 := hW.app [.live ⟨0, 1, []⟩]
      by_cases h0 : i = 0
      · subst h0
        have i0 : ∀ (β : Type) (k : A → Option β), oIdxA 26 (mkF 26 (g.map thingC)) (.s (.int .i64 0)) k = k (.cptr (thingC t)) := fun β k => oIdxA_mkF 26 thingC g .i64 0 t k hx
        have p2 := p1.app [.live ⟨0, 1, [[.s (.int .u64 t.id)]]⟩]
        obtain ⟨H4, t1, t2, t3⟩ := trim_keep2 (H'.length + 1) [.osl (H'.length + 1) 0 1 0 1] (H' ++ [.live ⟨0, 1, []⟩] ++ [.live ⟨0, 1, [[.s (.int .u64 t.id)]]⟩])
        refine ⟨H'.length + 1, H4, ?_, p2.keep (.inl (by omega)) t2, by omega, ?_⟩
        · simp at t1
          have hgne : g ≠ [] := by rintro rfl; simp at hi
          simp [ref23_Path_l2, i0, w0, t1, hgne]
        · rw [t2 _ (.inr (.inl (by simp)))]
          simp [w0, cellC]
      · refine ⟨H'.length, H' ++ [.live ⟨0, 1, []⟩], ?_, p1, by omega, by simp [w0, h0]⟩
        have c1 : ¬ (i : Int) = 0 := by omega
        have t1 : ∀ vs : List A, Go.Ab.trim true (H'.length + 1) vs (H' ++ [.live ⟨0, 1, []⟩]) = some (vs, H' ++ [.live ⟨0, 1, []⟩]) := fun vs => trim_same vs _ _ (by simp)
        simp [ref23_Path_l2, hi, h0, w0, t1]
    obtain ⟨id, K, f1, f2, f3, f4⟩ := f1
    obtain ⟨F, e1, e2⟩ := f2.push f4 f3 (by omega)
    rw [hl] at e1
    obtain ⟨H4, t1, t2, t3⟩ := trim_keep2 1 [.osl 0 (v' + 1) 1 0 (i + 1), .s (.int .i64 ((i : Int) + 1))] F
    have e3 := e2.keep (vs := [.osl 0 (v' + 1) 1 0 (i + 1), .s (.int .i64 ((i : Int) + 1))]) (n0 := 1) (.inl (by omega)) t2
    rw [← ws0_succ] at e3
    refine ⟨_, ?_, v' + 1, _, H4, rfl, e3⟩
    · rw [f1]
      simp only [ref23_Path_k1, List.getD_cons_zero, List.getD_cons_succ]
      rw [e1]
      simp [q1, t1]
  · rintro s ⟨v', r1', H', rfl, hW⟩
    obtain ⟨H3, t1, t2, t3⟩ := trim_keep2 1 [.osl 0 v' 1 0 g.length] H'
    refine ⟨_, ?_, v', r1', H3, rfl, hW.keep (.inl (by omega)) t2⟩
    simp [ref23_Path_l2, t1]

/-- The last question: whose way? -/
theorem ask_run {g : List Thing} (hg : g.length < 100) (id : Int) {h140 : Heap} {wid v n : Nat} {r1 : List (List A)} {ws : List (List Int)} (h : WA wid v r1 h140 ws) (hlg : ws.length = g.length) (hn : n = g.length) (y : List A) :
    ∃ q, ((∃ (i : Nat) (t : Thing) (w : List Int) (idw vw : Nat) (H' : Heap), g[i]? = some t ∧ t.id = id ∧ ws[i]? = some w ∧ q = (Ex.ret, [.osl idw vw 1 0 w.length], H') ∧ H'[idw]? = some (.live ⟨vw, 1, wC w⟩)) ∨ ((∀ t ∈ g, t.id ≠ id) ∧ ∃ H', q = (Ex.exit 8, [.any], H'))) ∧
      ∀ {β : Type} (k' : Ex → List A → Heap → Option β), oLoop (ref23_Path_l13 (.s (.int .i64 g.length)) (mkF 26 (g.map thingC)) (.s (.int .u64 id)) ((.osl wid v 1 0 n) :: y) h140) ([.s (.int .i64 0)], h140) k' = k' q.1 q.2.1 q.2.2 := by
  subst hn
  have hlt := lt_of_some h.live
  refine oLoop_inv' (fun i s => ∃ H', s = ([A.s (.int .i64 i)], H') ∧ WA wid v r1 H' ws ∧ h140.length ≤ H'.length ∧ ∀ (j : Nat) t, j < i → g[j]? = some t → t.id ≠ id) _ g.length ⟨h140, rfl, h, Nat.le_refl _, by omega⟩ (by omega) ?_ ?_
  · rintro i s hi ⟨H, rfl, hW, hL, hno⟩
    have ht : g[i]? = some g[i] := List.getElem?_eq_getElem hi
    have hw : ws[i]? = some (ws[i]'(by omega)) := List.getElem?_eq_getElem _
    generalize g[i] = t at ht
    generalize ws[i]'(by omega) = w at hw
    obtain ⟨H1, eH1⟩ : ∃ H1, H1 = H ++ [Go.Ab.Slot.live ⟨0, 26, [thingC t]⟩] := ⟨_, rfl⟩
    have p1 : WA wid v r1 H1 ws := eH1 ▸ hW.app _
    obtain ⟨idw, vw, rw1, rw2⟩ := p1.rws.at hw
    have g1 : H1[H.length]? = some (.live ⟨0, 26, [thingC t]⟩) := by simp [eH1]
    have hH1 : H1.length = H.length + 1 := by simp [eH1]
    have nt := fun (β : Type) (K : A → Heap → Option β) => new_thing H t K
    simp only [← eH1] at nt
    have ig : ∀ (β : Type) (kk : A → Option β), oIdxA 26 (mkF 26 (g.map thingC)) (.s (.int .i64 i)) kk = kk (.cptr (thingC t)) := fun β kk => oIdxA_mkF 26 thingC g .i64 i t kk ht
    have c0 : (i : Int) < (g.length : Int) := by omega
    have c1 : (0 : Int) ≤ (i : Int) ∧ (i : Int) < (g.length : Int) := by omega
    have q1 : IntKind.i64.wrap ((i : Int) + 1) = ((i + 1 : Nat) : Int) := wrap_succ hi (by omega)
    have e4 : ref23_Path_l13 (.s (.int .i64 g.length)) (mkF 26 (g.map thingC)) (.s (.int .u64 id)) ((.osl wid v 1 0 g.length) :: y) h140 ([.s (.int .i64 i)], H) =
        oCond (.s (.bool (decide (t.id = id)))) ((Go.Ab.trim true h140.length [.osl idw vw 1 0 w.length] H1).map fun p => .inr (Ex.ret, p.1, p.2)) ((Go.Ab.trim true h140.length [.s (.int .i64 ((i : Int) + 1))] H1).map .inl) := by
      simp only [ref23_Path_l13, List.getD_cons_zero, oCmp_s, if_true, cmpInt_lss, c0, decide_true, oCond_s, ig, oLoad_cptr, thingC_at, nt, oIdxA_osl, true_and, c1, and_self, oLoad_ptr, p1.live, Nat.zero_add, Int.toNat_natCast, rw1, cellsAt_none, List.getElem?_cons_zero, oFieldA_ptr, g1, thingC_0, cmpInt_eql, oAr_s, arInt_add, q1]
      rfl
    by_cases hid : t.id = id
    · right
      obtain ⟨H4, t1, t2, t3⟩ := trim_keep2 h140.length [.osl idw vw 1 0 w.length] H1
      refine ⟨_, by rw [e4]; simp [hid, t1], .inl ⟨i, t, w, idw, vw, H4, ht, hid, hw, rfl, ?_⟩⟩
      rw [t2 idw (.inr (.inl (by simp)))]; exact rw2
    · left
      obtain ⟨H4, t1, t2, t3⟩ := trim_keep2 h140.length [.s (.int .i64 ((i : Int) + 1))] H1
      refine ⟨([.s (.int .i64 (i + 1 : Nat))], H4), by rw [e4]; simp [hid, t1], H4, rfl, p1.keep (.inl hlt) t2, t3 (by omega), fun j t' hj hj' => ?_⟩
      rcases Nat.lt_or_ge j i with h | h
      · exact hno j t' h hj'
      · have : j = i := by omega
        subst this
        rw [ht] at hj'
        exact Option.some.inj hj' ▸ hid
  · rintro s ⟨H, rfl, hW, hL, hno⟩
    obtain ⟨H4, t1, t2, t3⟩ := trim_keep2 h140.length [.any] H
    refine ⟨_, by simp [ref23_Path_l13, t1], .inr ⟨fun t ht => ?_, H4, rfl⟩⟩
    obtain ⟨j, hj⟩ := List.getElem?_of_mem ht
    exact hno j t (List.getElem?_eq_some_iff.1 hj).1 hj

theorem ref23_Path_v {g : List Thing} (hg : g.length < 100) (hgl : ∀ d ∈ g, d.links.length < 1000) {t0 : Thing} (hx : g[0]? = some t0) (id : Int) :
    (∃ (i : Nat) (t : Thing) (w : List Int) (vw : Nat), g[i]? = some t ∧ t.id = id ∧ (rounds g (ws0 t0.id g.length) g.length)[i]? = some w ∧ ref23_Path [mkF 26 (g.map thingC), .s (.int .u64 id)] [] = some (.ok (.osl 0 vw 1 0 w.length), [.live ⟨vw, 1, wC w⟩])) ∨
    ((∀ t ∈ g, t.id ≠ id) ∧ ref23_Path [mkF 26 (g.map thingC), .s (.int .u64 id)] [] = some (.ok (.s (.slice none 0 0)), [])) := by
  obtain ⟨q, ⟨v', r1', H', rfl, hW⟩, hq⟩ := begin_run hg hx
  obtain ⟨q2, ⟨wid, v2, r2, H2, rfl, hW2⟩, hq2⟩ := rounds_run hg hgl hW (ws0_each _ _) (ws0_len _ _)
  obtain ⟨q3, hQ, hq3⟩ := ask_run hg id hW2 (rounds_len (ws0_len _ _) _) rfl []
  have hstart : ref23_Path [mkF 26 (g.map thingC), .s (.int .u64 id)] [] = ref23_Path_k14 [] q3.1 q3.2.1 q3.2.2 := by
    rw [← hq3 (ref23_Path_k14 [])]
    have e0 : ref23_Path [mkF 26 (g.map thingC), .s (.int .u64 id)] [] = oLoop (ref23_Path_l2 (.s (.int .i64 g.length)) (mkF 26 (g.map thingC)) [.live ⟨0, 1, []⟩]) ([.osl 0 0 1 0 0, .s (.int .i64 0)], [.live ⟨0, 1, []⟩]) (ref23_Path_k16 (mkF 26 (g.map thingC)) (.s (.int .u64 id)) []) := by
      simp [ref23_Path]
    rw [e0, hq]
    simp only [ref23_Path_k16, if_true, oLen_mkF, List.length_map, List.getD_cons_zero]
    rw [hq2]
    simp only [ref23_Path_k15, if_true, oLen_mkF, List.length_map]
  rw [hstart]
  rcases hQ with ⟨i, t, w, idw, vw, H3, h1, h2, h3, rfl, h4⟩ | ⟨h1, H3, rfl⟩
  · refine .inl ⟨i, t, w, vw, h1, h2, h3, ?_⟩
    simp only [ref23_Path_k14, List.getD_cons_zero, List.length_nil]
    exact finish_own idw vw 1 _ _ H3 h4 (idsRows_map _ (fun x => by simp [cellC]) w) fun f => renRows_map f _ (fun x => by simp [cellC]) w
  · refine .inr ⟨h1, ?_⟩
    simp [ref23_Path_k14, finish_val]
end Go.Ab.T

/-
  THE WAY TO A THING: the program's search and the answer by rounds come to the same.
-/
set_option linter.unusedSimpArgs false
set_option linter.unusedVariables false
namespace Go.Ab.T
open Go Go.Ab Go.Ab.F

theorem lkG_of {g : List Thing} (hs : soundG g) {d : Thing} (hd : d ∈ g) : lkG g d.id = idsT d := by
  unfold lkG
  rw [findT_of hs.sorted hd]
theorem zip_map {α β : Type} (f : α → β) (l : List α) : l.zip (l.map f) = l.map fun x => (x, f x) := by
  induction l with
  | nil => rfl
  | cons a r ih => simp [ih]
theorem rounds_v {g : List Thing} (hs : soundG g) : ∀ r, rounds g (ws0 1 g.length) r = g.map fun t => wayR (bfsG g) r t.id
  | 0 => by
    obtain ⟨u, r, hg, h1, h2⟩ := hs.first
    have hp := ids_pairwise hs.sorted
    apply List.ext_getElem?
    intro i
    rcases Nat.lt_or_ge i g.length with hi | hi
    · have ht : g[i]? = some g[i] := List.getElem?_eq_getElem hi
      have e1 : (rounds g (ws0 1 g.length) 0)[i]? = some (w0 1 i) := by
        simp [rounds, ws0, List.getElem?_range hi]
      have e2 : (g.map fun t => wayR (bfsG g) 0 t.id)[i]? = some (wayR (bfsG g) 0 g[i].id) := by
        rw [List.getElem?_map, ht]; rfl
      have e3 : wayR (bfsG g) 0 g[i].id = if g[i].id = 1 then [1] else [] := wayR_zero (bfsG_at hs g.length) _
      rw [e1, e2, e3]
      congr 1
      unfold w0
      by_cases h0 : i = 0
      · subst h0
        have : g[0].id = 1 := by simp [hg, h1]
        rw [if_pos rfl, if_pos this]
      · rw [if_neg h0, if_neg]
        have := List.pairwise_iff_getElem.1 hp 0 i (by omega) hi (by omega)
        have h3 : g[0].id = 1 := by simp [hg, h1]
        omega
    · rw [List.getElem?_eq_none (by rw [rounds_len (ws0_len _ _)]; exact hi), List.getElem?_eq_none (by simpa using hi)]
  | r + 1 => by
    have hI := bfsG_at hs g.length
    have hfew : (bfsG g).length ≤ g.length := bfs_few hs g.length
    rw [rounds, rounds_v hs r]
    unfold rnd
    rw [zip_map, List.map_map]
    refine List.map_congr_left fun t ht => ?_
    have hps : psOf g (g.map fun t => wayR (bfsG g) r t.id) = (g.map Thing.id).map fun y => (lkG g y, wayR (bfsG g) r y) := by
      unfold psOf
      rw [zip_map, List.map_map, List.map_map]
      refine List.map_congr_left fun d hd => ?_
      simp only [Function.comp, lkG_of hs hd]
    simp only [Function.comp, hps]
    unfold rndW
    by_cases h0 : wayR (bfsG g) r t.id = []
    · rw [if_pos h0]
      exact round_v hI hfew (g.map Thing.id) (fun y hy => hy) r t.id h0
    · rw [if_neg h0]
      exact (wayR_mono h0).symm

theorem ref23_Path_call {g : List Thing} (hs : soundG g) (hg : g.length ≤ 60) (id : Int) (h : Heap) : ∃ d, ∀ {β : Type} (kp k : A → Heap → Option β),
    (oLend ref23_Path [mkF 26 (g.map thingC), .s (.int .u64 id)] h kp fun w h' => oFrz w h' k) = k (mkF 1 (wC (pathG g id))) (h ++ d) := by
  obtain ⟨u, r, hgr, h1, h2⟩ := hs.first
  have hx : g[0]? = some u := by rw [hgr]; rfl
  have hv := ref23_Path_v (by omega) (fun d hd => by have := (sound_at hs hd).1.few; omega) hx id
  rw [h1] at hv
  rcases hv with ⟨i, t, w, vw, e1, e2, e3, e4⟩ | ⟨e1, e2⟩
  · rw [rounds_v hs, List.getElem?_map, e1] at e3
    have hw : w = pathG g id := by
      have := Option.some.inj e3
      rw [← this]
      show wayR (bfsG g) g.length t.id = _
      rw [e2]
      exact wayR_all (bfsG_at hs g.length) g.length (bfs_few hs g.length) id
    refine ⟨[.dead], fun kp k => ?_⟩
    rw [oLend_own _ _ [mkF 26 (g.map thingC), .s (.int .u64 id)] _ _ _ vw 1 w.length (wC w) (by simp) (lendL_pure 999 _ _ (by simp)) (fun f => renRows_map f _ (fun x => by simp [cellC]) w) e4]
    rw [oFrz_own _ _ _ _ _ _ _ (at_end _ _) (by simp) (pureRows_map _ (fun x => by simp [cellC]) w)]
    simp [hw]
  · have hp : pathG g id = [] := (path_reached hs id).1 (List.find?_eq_none.2 fun t ht => by simpa using e1 t ht)
    refine ⟨[], fun kp k => ?_⟩
    rw [oLend_val _ _ _ _ _ _ (by simp) (by simp) e2]
    simp [hp]

theorem SameIDs_v (a : List Int) (ha : a.length < 1000) : ref13_SameIDs [mkF 1 (wC a), mkF 1 (wC a)] [] = some (.ok (.s (.bool true)), []) := by
  simp [ref13_SameIDs]
  obtain ⟨q, rfl, hq⟩ := oLoop_inv' (step := ref13_SameIDs_l1 (.s (.int .i64 a.length)) (mkF 1 (wC a)) (mkF 1 (wC a)) []) (s0 := ([.s (.int .i64 0)], []))
    (fun i s => s = ([.s (.int .i64 i)], [])) (fun q => q = (.exit 0, [.any], [])) a.length rfl (by omega)
    (by
      rintro i s hi rfl
      left
      have hxa : a[i]? = some a[i] := List.getElem?_eq_getElem hi
      have ia : ∀ (β : Type) (k : A → Option β), oIdxA 1 (mkF 1 (wC a)) (.s (.int .i64 i)) k = k (.cptr (cellC .u64 a[i])) := fun β k => oIdxA_mkF 1 _ a .i64 i _ k hxa
      have hw := wrap_succ hi (by omega)
      exact ⟨_, by simp [ref13_SameIDs_l1, hi, ia, oLoadD, cellC, trim, allBelow, hw], rfl⟩)
    (by
      rintro s rfl
      exact ⟨_, by simp [ref13_SameIDs_l1, trim, allBelow], rfl⟩)
  rw [hq]
  simp [ref13_SameIDs_k2, finish_val]
theorem Same_call (a : List Int) (ha : a.length < 1000) {β : Type} (h : Heap) (kp k : A → Heap → Option β) : oLend ref23_Same [mkF 1 (wC a), mkF 1 (wC a)] h kp k = k (.s (.bool true)) h := by
  refine oLend_val _ _ _ _ _ _ (by simp) (by simp) ?_
  have hS : ∀ (β : Type) (h : Heap) (kp k : A → Heap → Option β), oLend ref13_SameIDs [mkF 1 (wC a), mkF 1 (wC a)] h kp k = k (.s (.bool true)) h := fun β h kp k => oLend_val _ _ _ _ _ _ (by simp) (by simp) (SameIDs_v a ha)
  simp [ref23_Same, hS, finish_val]

theorem WatchPaths_v (g : List Thing) (id : Int) (w1 : fitsM g.length 272 ∧ ∀ x ∈ g, okThing x) (_w2 : (Lit.int .u64 id).wf = true) : law23_WatchPaths [mkF 26 (g.map thingC), .s (.int .u64 id)] [] = some (.ok (.s (.bool true)), []) := by
  have hA : ∀ (β : Type) (h : Heap) (kp k : A → Heap → Option β), oLend law23_watchAlive [] h kp k = k (.s (.bool true)) h := fun β h kp k => oLend_val _ _ _ _ _ _ (by simp) (by simp) watchAlive_v
  by_cases c0 : 40 < g.length
  · have c0' : (40 : Int) < (g.length : Int) := by omega
    simp [law23_WatchPaths, law23_WatchPaths_k1, hA, c0, c0', trim, allBelow, finish_val]
  · have c0' : ¬ (40 : Int) < (g.length : Int) := by omega
    have ok := okG_of2 w1.2 (by omega)
    obtain ⟨b, hb, hs⟩ := Sound_v' g ok
    have hS : ∀ (β : Type) (h : Heap) (kp k : A → Heap → Option β), oLend ref13_Sound [mkF 26 (g.map thingC)] h kp k = k (.s (.bool b)) h := fun β h kp k => oLend_val _ _ _ _ _ _ (by simp) (by simp) hb
    cases b with
    | false => simp [law23_WatchPaths, law23_WatchPaths_k1, hA, hS, c0, c0', trim, allBelow, finish_val]
    | true =>
      have hs := hs rfl
      obtain ⟨d, hd, hP⟩ := watch_Path_call hs (by omega) id []
      obtain ⟨d', hR⟩ := ref23_Path_call hs (by omega) id ([] ++ d)
      have hl : (pathG g id).length < 1000 := by
        cases hf : findT g id with
        | none => simp [(path_reached hs id).1 hf]
        | some t => have := ((path_reached hs id).2 t hf).2.2; omega
      have hE := fun (h : Heap) (kp k : A → Heap → Option (Out × Heap)) => Same_call (pathG g id) hl h kp k
      simp only [law23_WatchPaths, hA, oFrz_bool, oNot_s, oCond_s, Bool.not_true, Bool.false_eq_true, if_false, oLen_mkF, List.length_map, oCmp_s, if_true, cmpInt_gtr, c0', decide_false, oGuard_s, hS]
      simp [trim, allBelow, law23_WatchPaths_k1]
      simp only [List.nil_append] at hP hR
      rw [hP, hR]
      simp [hE, finish_val]
end Go.Ab.T

/-
  WHAT IS READ OF A VALUE OF THE PROGRAM'S TYPES. Written by a program (tread.py).
-/
set_option linter.unusedSimpArgs false
set_option linter.unusedVariables false
set_option maxRecDepth 10000
namespace Go.Ab.T
open Go Go.Ab Go.Ab.F Go.Proofs

theorem form_u64 (d : Nat) : Form PP (d + 1) 26 (cellC .u64) (wfI .u64) := form_int Try.underlying26
theorem form_i64 (d : Nat) : Form PP (d + 1) 3 (cellC .i64) (wfI .i64) := form_int Try.underlying3
theorem form_u8 (d : Nat) : Form PP (d + 1) 5 (cellC .u8) (wfI .u8) := form_int Try.underlying5
theorem form_bool (d : Nat) : Form PP (d + 1) 4 (fun b : Bool => [.s (.bool b)]) (fun _ => True) := form_bool' Try.underlying4
theorem form_cat (d : Nat) : Form PP (d + 2) 71 catC okCat := by
  intro cs h
  obtain ⟨a, b, rfl, h1, a', b', rfl, h2, rfl⟩ := gd_struct Try.underlying71 h
  obtain ⟨x, rfl, w1⟩ := form_u64 d _ h1
  obtain ⟨y, rfl, w2⟩ := form_i64 d _ h2
  exact ⟨⟨x, y⟩, rfl, w1, w2⟩
theorem form_link (d : Nat) : Form PP (d + 2) 54 linkC okLink := by
  intro cs h
  obtain ⟨a, b, rfl, h1, a', b', rfl, h2, rfl⟩ := gd_struct Try.underlying54 h
  obtain ⟨x, rfl, w1⟩ := form_u64 d _ h1
  obtain ⟨y, rfl, w2⟩ := form_i64 d _ h2
  exact ⟨⟨x, y⟩, rfl, w1, w2⟩
theorem form_slot (d : Nat) : Form PP (d + 2) 34 slotC okSlot := by
  intro cs h
  obtain ⟨a, b, rfl, h1, a', b', rfl, h2, rfl⟩ := gd_struct Try.underlying34 h
  obtain ⟨x, rfl, w1⟩ := form_u64 d _ h1
  obtain ⟨y, rfl, w2⟩ := form_u64 d _ h2
  exact ⟨⟨x, y⟩, rfl, w1, w2⟩
theorem form_cats (d : Nat) : Form PP (d + 3) 27 (fun xs : List Cat => [mkF 2 (xs.map catC)]) (fun xs => fitsM xs.length 16 ∧ ∀ x ∈ xs, okCat x) := form_slice Try.underlying27 (by kernel_rfl) (by kernel_rfl) (form_cat d)
theorem form_links (d : Nat) : Form PP (d + 3) 30 (fun xs : List Link => [mkF 2 (xs.map linkC)]) (fun xs => fitsM xs.length 16 ∧ ∀ x ∈ xs, okLink x) := form_slice Try.underlying30 (by kernel_rfl) (by kernel_rfl) (form_link d)
theorem form_data (d : Nat) : Form PP (d + 2) 31 (fun xs : List Int => [mkF 1 (xs.map (cellC .u8))]) (fun xs => fitsM xs.length 1 ∧ ∀ x ∈ xs, wfI .u8 x) := form_slice Try.underlying31 (by kernel_rfl) (by kernel_rfl) (form_u8 d)
theorem form_label (d : Nat) : Form PP (d + 4) 29 labelC okLabel := by
  intro cs h
  obtain ⟨a, b, rfl, h1, a', b', rfl, h2, rfl⟩ := gd_struct Try.underlying29 h
  obtain ⟨x, rfl, w1⟩ := form_i64 (d + 2) _ h1
  obtain ⟨y, rfl, w2, w3⟩ := form_cats d _ h2
  exact ⟨⟨x, y⟩, rfl, w1, w2, w3⟩
theorem form_regs (d : Nat) : Form PP (d + 2) 32 (fun r : Int × Int × Int × Int => cellC .u64 r.1 ++ (cellC .u64 r.2.1 ++ (cellC .u64 r.2.2.1 ++ cellC .u64 r.2.2.2))) (fun r => wfI .u64 r.1 ∧ wfI .u64 r.2.1 ∧ wfI .u64 r.2.2.1 ∧ wfI .u64 r.2.2.2) := form_four Try.underlying32 (form_u64 d)
theorem form_slots (d : Nat) : Form PP (d + 3) 35 (fun r : Slot × Slot × Slot × Slot => slotC r.1 ++ (slotC r.2.1 ++ (slotC r.2.2.1 ++ slotC r.2.2.2))) (fun r => okSlot r.1 ∧ okSlot r.2.1 ∧ okSlot r.2.2.1 ∧ okSlot r.2.2.2) := form_four Try.underlying35 (form_slot d)
theorem form_thing (d : Nat) : Form PP (d + 5) 37 thingC okThing := by
  intro cs h
  obtain ⟨_, _, rfl, h1, _, _, rfl, h2, _, _, rfl, h3, _, _, rfl, h4, _, _, rfl, h5, _, _, rfl, h6, _, _, rfl, h7, _, _, rfl, h8, _, _, rfl, h9, _, _, rfl, h10, _, _, rfl, h11, _, _, rfl, h12, _, _, rfl, h13, _, _, rfl, h14, rfl⟩ := gd_struct Try.underlying37 h
  obtain ⟨x1, rfl, w1⟩ := form_u64 (d + 3) _ h1
  obtain ⟨x2, rfl, w2⟩ := form_i64 (d + 3) _ h2
  obtain ⟨x3, rfl, w3⟩ := form_label d _ h3
  obtain ⟨x4, rfl, w4⟩ := form_label d _ h4
  obtain ⟨x5, rfl, w5⟩ := form_i64 (d + 3) _ h5
  obtain ⟨x6, rfl, w6⟩ := form_i64 (d + 3) _ h6
  obtain ⟨x7, rfl, w7⟩ := form_links (d + 1) _ h7
  obtain ⟨x8, rfl, w8⟩ := form_data (d + 2) _ h8
  obtain ⟨⟨r0, r1, r2, r3⟩, rfl, w9⟩ := form_regs (d + 2) _ h9
  obtain ⟨x10, rfl, w10⟩ := form_i64 (d + 3) _ h10
  obtain ⟨x11, rfl, w11⟩ := form_i64 (d + 3) _ h11
  obtain ⟨x12, rfl, w12⟩ := form_bool (d + 3) _ h12
  obtain ⟨x13, rfl, w13⟩ := form_u64 (d + 3) _ h13
  obtain ⟨⟨s0, s1, s2, s3⟩, rfl, w14⟩ := form_slots (d + 1) _ h14
  exact ⟨⟨x1, x2, x3, x4, x5, x6, x7, x8, r0, r1, r2, r3, x10, x11, x12, x13, s0, s1, s2, s3⟩, rfl, ⟨w1, w2, w3, w4, w5, w6, w7, w8, w9, w10, w11, w13, w14⟩⟩
theorem form_things (d : Nat) : Form PP (d + 6) 22 (fun xs : List Thing => [mkF 26 (xs.map thingC)]) (fun xs => fitsM xs.length 272 ∧ ∀ x ∈ xs, okThing x) := form_slice Try.underlying22 (by kernel_rfl) (by kernel_rfl) (form_thing d)
theorem form_ids (d : Nat) : Form PP (d + 2) 39 (fun xs : List Int => [mkF 1 (xs.map (cellC .u64))]) (fun xs => fitsM xs.length 8 ∧ ∀ x ∈ xs, wfI .u64 x) := form_slice Try.underlying39 (by kernel_rfl) (by kernel_rfl) (form_u64 d)
end Go.Ab.T
