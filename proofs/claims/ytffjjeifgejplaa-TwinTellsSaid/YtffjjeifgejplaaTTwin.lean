import Derived.Test.YtffjjeifgejplaaTKit
import Derived.Test.YtffjjeifgejplaaFnF
import Derived.Test.YtffjjeifgejplaaTGraph
/-
  WHAT SMALL FUNCTIONS COME TO, over the program's plain types.
-/
set_option linter.unusedSimpArgs false
set_option linter.unusedVariables false
namespace Go.Ab.T
open Go Go.Ab Go.Ab.F

/-- The level of a category. -/
def level (l : Label) (id : Int) : Int :=
  match l.cats.find? (fun c => c.id == id) with
  | some c => c.level
  | none => l.df

theorem label_Level_v (l : Label) (id : Int) (hl : l.cats.length < 2 ^ 63) : label_Level [.agg (labelC l), .s (.int .u64 id)] [] = some (.ok (.s (.int .i64 (level l id))), []) := by
  simp [label_Level]
  refine Eq.trans (oLoop_find (enc := fun i => ([.s (.int .i64 i)], [Slot.live ⟨0, 2, [labelC l]⟩])) (fun c => c.id == id)
    (fun c => (Ex.ret, [.s (.int .i64 c.level)], [Slot.live ⟨0, 2, [labelC l]⟩])) (Ex.exit 0, [.any], [Slot.live ⟨0, 2, [labelC l]⟩]) l.cats (by simp) hl ?_ ?_) ?_
  · intro i c hc hi
    simp [label_Level_l1, oIdxA_mkF _ _ _ _ _ _ _ hc, hi, wrap_succ hi hl, trim, allBelow]
  · simp [label_Level_l1, trim, allBelow]
  · unfold level
    cases l.cats.find? (fun c => c.id == id) <;> simp [label_Level_k2, finish_val]
end Go.Ab.T

/-
  WHAT IS HIDDEN, OWNED, NESTED.
-/
set_option linter.unusedSimpArgs false
set_option linter.unusedVariables false
namespace Go.Ab.T
open Go Go.Ab Go.Ab.F

theorem lendL_cons' (n : Nat) (a : A) (r : List A) (H : Heap) (hp : pureL (a :: r) = false) : lendL (n + 1) (a :: r) H = (lendA n a H).bind fun a => (lendL n r H).map fun r => a :: r := by
  rw [lendL, if_neg (by simp [hp])]
theorem lendL_nil' (n : Nat) (H : Heap) : lendL (n + 1) [] H = some [] := by rw [lendL]; split <;> rfl
theorem lendA_fn' (n : Nat) (nm : String) (cs : List A) (H : Heap) : lendA (n + 1) (.fn nm cs) H = (lendL n cs H).map (.fn nm) := by rw [lendA]
theorem lendA_ptr' (n id sz : Nat) (row : List A) (H : Heap) (hk : H[id]? = some (.live ⟨0, sz, [row]⟩)) (hp : pureL row = true) : lendA (n + 2) (.ptr id 0 0 0) H = some (.cptr row) := by
  rw [lendA, hk]
  simp [lendL_pure n row H hp]
theorem lend_cap1 (a : A) (nm : String) (id sz : Nat) (row : List A) (H : Heap) (hf : flatA a = true) (hn : normA a = a) (hk : H[id]? = some (.live ⟨0, sz, [row]⟩)) (hp : pureL row = true) :
    lendL lendFuel [a, .fn nm [.ptr id 0 0 0]] H = some [a, .fn nm [.cptr row]] := by
  rw [show lendFuel = 999 + 1 from rfl, lendL_cons' _ _ _ _ (by simp [pureA]), show (999 : Nat) = 998 + 1 from rfl, lendA_flat _ _ _ hf, hn, Option.bind_some, lendL_cons' _ _ _ _ (by simp [pureA]),
    show (998 : Nat) = 997 + 1 from rfl, lendA_fn', show (997 : Nat) = 996 + 1 from rfl, lendL_cons' _ _ _ _ (by simp [pureA]), show (996 : Nat) = 994 + 2 from rfl, lendA_ptr' _ _ _ _ _ hk hp, lendL_nil', lendL_nil']
  rfl
theorem lend_cap2 (a : A) (nm : String) (id1 id2 sz1 sz2 : Nat) (row1 row2 : List A) (H : Heap) (hf : flatA a = true) (hn : normA a = a) (hk1 : H[id1]? = some (.live ⟨0, sz1, [row1]⟩)) (hp1 : pureL row1 = true) (hk2 : H[id2]? = some (.live ⟨0, sz2, [row2]⟩)) (hp2 : pureL row2 = true) :
    lendL lendFuel [a, .fn nm [.ptr id1 0 0 0, .ptr id2 0 0 0]] H = some [a, .fn nm [.cptr row1, .cptr row2]] := by
  rw [show lendFuel = 999 + 1 from rfl, lendL_cons' _ _ _ _ (by simp [pureA]), show (999 : Nat) = 998 + 1 from rfl, lendA_flat _ _ _ hf, hn, Option.bind_some, lendL_cons' _ _ _ _ (by simp [pureA]),
    show (998 : Nat) = 997 + 1 from rfl, lendA_fn', show (997 : Nat) = 996 + 1 from rfl, lendL_cons' _ _ _ _ (by simp [pureA]), show (996 : Nat) = 994 + 2 from rfl, lendA_ptr' _ _ _ _ _ hk1 hp1, lendL_cons' _ _ _ _ (by simp [pureA]),
    show (994 + 1 : Nat) = 993 + 2 from rfl, lendA_ptr' _ _ _ _ _ hk2 hp2, lendL_nil', lendL_nil']
  rfl

/-- The first of a list that has a mark. -/
theorem IndexU_v (En : String → CallFn) (nm : String) (caps : List A) (p : Int → Bool) (xs : List Int) (hp : pureL caps = true) (hc : ∀ x ∈ xs, En nm (.s (.int .u64 x) :: caps) [] = some (.ok (.s (.bool (p x))), [])) (hl : xs.length < 2 ^ 63) :
    ∃ n : Int, slices_IndexFunc_Suint64_uint64 En [mkF 1 (xs.map (cellC .u64)), .fn nm caps] [] = some (.ok (.s (.int .i64 n)), []) ∧ decide (0 ≤ n) = xs.any p := by
  simp only [slices_IndexFunc_Suint64_uint64, oLen_mkF, List.length_map]
  obtain ⟨q, hQ, hq⟩ := oLoop_inv' (step := slices_IndexFunc_Suint64_uint64_l1 En (.s (.int .i64 xs.length)) (mkF 1 (xs.map (cellC .u64))) (.fn nm caps) []) (s0 := ([.s (.int .i64 0)], []))
    (fun i s => s = ([.s (.int .i64 i)], []) ∧ ∀ (j : Nat) x, j < i → xs[j]? = some x → p x = false) (fun q => (∃ n : Nat, q = (.ret, [.s (.int .i64 n)], []) ∧ xs.any p = true) ∨ q = (.exit 0, [.any], []) ∧ xs.any p = false) xs.length ⟨rfl, fun j x hj => by omega⟩ hl
    (by
      rintro i s hi ⟨rfl, hT⟩
      have hx : xs[i]? = some xs[i] := List.getElem?_eq_getElem hi
      have hm := List.mem_of_getElem? hx
      generalize xs[i] = x at hx hm
      have hw := wrap_succ hi hl
      have hC : ∀ (β : Type) (h : Heap) (kp k : A → Heap → Option β), oLend (En nm) (.s (.int .u64 x) :: caps) h kp k = k (.s (.bool (p x))) h := fun β h kp k => oLend_val _ _ _ _ _ _ (by simp [hp]) (by simp) (hc x hm)
      cases hpx : p x with
      | true => exact .inr ⟨_, by simp [slices_IndexFunc_Suint64_uint64_l1, hi, oIdxA_mkF _ _ _ _ _ _ _ hx, hC, hpx, trim, allBelow], .inl ⟨i, rfl, List.any_eq_true.2 ⟨x, hm, hpx⟩⟩⟩
      | false =>
        refine .inl ⟨([.s (.int .i64 (i + 1 : Nat))], []), by simp [slices_IndexFunc_Suint64_uint64_l1, hi, oIdxA_mkF _ _ _ _ _ _ _ hx, hC, hpx, hw, trim, allBelow], rfl, fun j y hj hy => ?_⟩
        rcases Nat.lt_or_ge j i with h | h
        · exact hT j y h hy
        · obtain rfl : j = i := by omega
          rw [hx] at hy; cases hy; exact hpx)
    (by
      rintro s ⟨rfl, hT⟩
      refine ⟨(.exit 0, [.any], []), by simp [slices_IndexFunc_Suint64_uint64_l1, trim, allBelow], .inr ⟨rfl, ?_⟩⟩
      rw [List.any_eq_false]
      intro x hx
      obtain ⟨j, hj, rfl⟩ := List.mem_iff_getElem.1 hx
      simpa using hT j _ hj (List.getElem?_eq_getElem hj))
  have hq' := fun (k : Ex → List A → Heap → Option (Out × Heap)) => hq k
  rcases hQ with ⟨n, rfl, h⟩ | ⟨rfl, h⟩
  · exact ⟨n, by rw [hq']; simp [slices_IndexFunc_Suint64_uint64_k2, finish_val], by rw [h]; simp⟩
  · exact ⟨-1, by rw [hq']; simp [slices_IndexFunc_Suint64_uint64_k2, finish_val], by rw [h]; simp⟩
theorem ContainsU_v (En : String → CallFn) (nm : String) (caps : List A) (p : Int → Bool) (xs : List Int) (hp : pureL caps = true) (hc : ∀ x ∈ xs, En nm (.s (.int .u64 x) :: caps) [] = some (.ok (.s (.bool (p x))), [])) (hl : xs.length < 2 ^ 63) :
    slices_ContainsFunc_Suint64_uint64 En [mkF 1 (xs.map (cellC .u64)), .fn nm caps] [] = some (.ok (.s (.bool (xs.any p))), []) := by
  obtain ⟨n, h1, h2⟩ := IndexU_v En nm caps p xs hp hc hl
  have hC : ∀ (β : Type) (h : Heap) (kp k : A → Heap → Option β), oLend (slices_IndexFunc_Suint64_uint64 En) [mkF 1 (xs.map (cellC .u64)), .fn nm caps] h kp k = k (.s (.int .i64 n)) h := fun β h kp k => oLend_val _ _ _ _ _ _ (by simp [pureA, hp]) (by simp) h1
  simp [slices_ContainsFunc_Suint64_uint64, hC, finish_val, ← h2]
theorem IndexT_v (En : String → CallFn) (nm : String) (caps : List A) (p : Thing → Bool) (xs : List Thing) (hp : pureL caps = true) (hc : ∀ x ∈ xs, En nm (.agg (thingC x) :: caps) [] = some (.ok (.s (.bool (p x))), [])) (hl : xs.length < 2 ^ 63) :
    ∃ n : Int, slices_IndexFunc_Sapi_Thing_api_Thing En [mkF 26 (xs.map thingC), .fn nm caps] [] = some (.ok (.s (.int .i64 n)), []) ∧ decide (0 ≤ n) = xs.any p := by
  simp only [slices_IndexFunc_Sapi_Thing_api_Thing, oLen_mkF, List.length_map]
  obtain ⟨q, hQ, hq⟩ := oLoop_inv' (step := slices_IndexFunc_Sapi_Thing_api_Thing_l1 En (.s (.int .i64 xs.length)) (mkF 26 (xs.map thingC)) (.fn nm caps) []) (s0 := ([.s (.int .i64 0)], []))
    (fun i s => s = ([.s (.int .i64 i)], []) ∧ ∀ (j : Nat) x, j < i → xs[j]? = some x → p x = false) (fun q => (∃ n : Nat, q = (.ret, [.s (.int .i64 n)], []) ∧ xs.any p = true) ∨ q = (.exit 0, [.any], []) ∧ xs.any p = false) xs.length ⟨rfl, fun j x hj => by omega⟩ hl
    (by
      rintro i s hi ⟨rfl, hT⟩
      have hx : xs[i]? = some xs[i] := List.getElem?_eq_getElem hi
      have hm := List.mem_of_getElem? hx
      generalize xs[i] = x at hx hm
      have hw := wrap_succ hi hl
      have hC : ∀ (β : Type) (h : Heap) (kp k : A → Heap → Option β), oLend (En nm) (.agg (thingC x) :: caps) h kp k = k (.s (.bool (p x))) h := fun β h kp k => oLend_val _ _ _ _ _ _ (by simp [hp]) (by simp) (hc x hm)
      cases hpx : p x with
      | true => exact .inr ⟨_, by simp [slices_IndexFunc_Sapi_Thing_api_Thing_l1, hi, oIdxA_mkF _ _ _ _ _ _ _ hx, hC, hpx, trim, allBelow], .inl ⟨i, rfl, List.any_eq_true.2 ⟨x, hm, hpx⟩⟩⟩
      | false =>
        refine .inl ⟨([.s (.int .i64 (i + 1 : Nat))], []), by simp [slices_IndexFunc_Sapi_Thing_api_Thing_l1, hi, oIdxA_mkF _ _ _ _ _ _ _ hx, hC, hpx, hw, trim, allBelow], rfl, fun j y hj hy => ?_⟩
        rcases Nat.lt_or_ge j i with h | h
        · exact hT j y h hy
        · obtain rfl : j = i := by omega
          rw [hx] at hy; cases hy; exact hpx)
    (by
      rintro s ⟨rfl, hT⟩
      refine ⟨(.exit 0, [.any], []), by simp [slices_IndexFunc_Sapi_Thing_api_Thing_l1, trim, allBelow], .inr ⟨rfl, ?_⟩⟩
      rw [List.any_eq_false]
      intro x hx
      obtain ⟨j, hj, rfl⟩ := List.mem_iff_getElem.1 hx
      simpa using hT j _ hj (List.getElem?_eq_getElem hj))
  have hq' := fun (k : Ex → List A → Heap → Option (Out × Heap)) => hq k
  rcases hQ with ⟨n, rfl, h⟩ | ⟨rfl, h⟩
  · exact ⟨n, by rw [hq']; simp [slices_IndexFunc_Sapi_Thing_api_Thing_k2, finish_val], by rw [h]; simp⟩
  · exact ⟨-1, by rw [hq']; simp [slices_IndexFunc_Sapi_Thing_api_Thing_k2, finish_val], by rw [h]; simp⟩
theorem ContainsT_v (En : String → CallFn) (nm : String) (caps : List A) (p : Thing → Bool) (xs : List Thing) (hp : pureL caps = true) (hc : ∀ x ∈ xs, En nm (.agg (thingC x) :: caps) [] = some (.ok (.s (.bool (p x))), [])) (hl : xs.length < 2 ^ 63) :
    slices_ContainsFunc_Sapi_Thing_api_Thing En [mkF 26 (xs.map thingC), .fn nm caps] [] = some (.ok (.s (.bool (xs.any p))), []) := by
  obtain ⟨n, h1, h2⟩ := IndexT_v En nm caps p xs hp hc hl
  have hC : ∀ (β : Type) (h : Heap) (kp k : A → Heap → Option β), oLend (slices_IndexFunc_Sapi_Thing_api_Thing En) [mkF 26 (xs.map thingC), .fn nm caps] h kp k = k (.s (.int .i64 n)) h := fun β h kp k => oLend_val _ _ _ _ _ _ (by simp [pureA, hp]) (by simp) h1
  simp [slices_ContainsFunc_Sapi_Thing_api_Thing, hC, finish_val, ← h2]

/-! hidden -/
def hidden (t : Thing) (cats : List Int) : Bool := cats.any fun c => decide (4 ≤ level t.label c)
theorem level_call (l : Label) (c : Int) (hl : l.cats.length < 2 ^ 63) {β : Type} (h : Heap) (kp k : A → Heap → Option β) : oLend label_Level [.agg (labelC l), .s (.int .u64 c)] h kp k = k (.s (.int .i64 (level l c))) h :=
  oLend_val _ _ _ _ _ _ (by simp) (by simp) (label_Level_v l c hl)
theorem rlevel_call (l : Label) (c : Int) (hl : l.cats.length < 2 ^ 63) {β : Type} (h : Heap) (kp k : A → Heap → Option β) : oLend ref09_Level [.agg (labelC l), .s (.int .u64 c)] h kp k = k (.s (.int .i64 (level l c))) h :=
  oLend_val _ _ _ _ _ _ (by simp) (by simp) ((ref09_Level_v l c hl).trans rfl)
theorem Hidden_v (t : Thing) (cats : List Int) (h1 : t.label.cats.length < 2 ^ 63) (h2 : cats.length < 2 ^ 63) : twin_Hidden [.agg (thingC t), mkF 1 (cats.map (cellC .u64))] [] = some (.ok (.s (.bool (hidden t cats))), []) := by
  have hc : ∀ c ∈ cats, En_twin_Hidden "bailey/twin.Hidden$1" [.s (.int .u64 c), .cptr (thingC t)] [] = some (.ok (.s (.bool (decide (4 ≤ level t.label c)))), []) := fun c _ => by
    have hL := fun (h : Heap) (kp k : A → Heap → Option (Out × Heap)) => level_call t.label c h1 h kp k
    simp [En_twin_Hidden, twin_Hidden_c1, hL, finish_val]
  have hC : ∀ (β : Type) (kp k : A → Heap → Option β), oLend (slices_ContainsFunc_Suint64_uint64 En_twin_Hidden) [mkF 1 (cats.map (cellC .u64)), .fn "bailey/twin.Hidden$1" [.ptr 0 0 0 0]] [.live ⟨0, 26, [thingC t]⟩] kp k = k (.s (.bool (hidden t cats))) [.live ⟨0, 26, [thingC t]⟩] := fun β kp k =>
    oLend_lent _ _ [mkF 1 (cats.map (cellC .u64)), .fn "bailey/twin.Hidden$1" [.cptr (thingC t)]] _ _ _ _ (by
      simp only [show (idsL [mkF 1 (cats.map (cellC .u64)), A.fn "bailey/twin.Hidden$1" [.ptr 0 0 0 0]]).isEmpty = false by simp, Bool.false_eq_true, if_false]
      exact lend_cap1 _ _ 0 26 _ _ (by simp) (by simp) rfl (by simp)) (by simp) rfl (ContainsU_v _ _ _ _ _ (by simp [pureA]) hc h2)
  simp [twin_Hidden, hC, finish_val]
theorem ref24_Hidden_v (t : Thing) (cats : List Int) (h1 : t.label.cats.length < 2 ^ 63) (h2 : cats.length < 2 ^ 63) : ref24_Hidden [.agg (thingC t), mkF 1 (cats.map (cellC .u64))] [] = some (.ok (.s (.bool (hidden t cats))), []) := by
  simp [ref24_Hidden]
  refine Eq.trans (oLoop_find (enc := fun i => ([.s (.int .i64 i)], [Go.Ab.Slot.live ⟨0, 26, [thingC t]⟩])) (fun c : Int => decide (4 ≤ level t.label c))
    (fun c => (.ret, [.s (.bool true)], [Go.Ab.Slot.live ⟨0, 26, [thingC t]⟩])) (.exit 0, [.any], [Go.Ab.Slot.live ⟨0, 26, [thingC t]⟩]) cats (by simp) h2 ?_ ?_) ?_
  · intro i c hc hi
    have hw := wrap_succ hi h2
    have hL := fun (h : Heap) (kp k : A → Heap → Option ((List A × Heap) ⊕ (Ex × List A × Heap))) => rlevel_call t.label c h1 h kp k
    by_cases h : 4 ≤ level t.label c
    · have h' : 3 < level t.label c := by omega
      simp [ref24_Hidden_l1, oIdxA_mkF _ _ _ _ _ _ _ hc, hi, hL, h, h', hw, trim, allBelow]
    · have h' : ¬ 3 < level t.label c := by omega
      simp [ref24_Hidden_l1, oIdxA_mkF _ _ _ _ _ _ _ hc, hi, hL, h, h', hw, trim, allBelow]
  · simp [ref24_Hidden_l1, trim, allBelow]
  · unfold hidden
    cases hf : cats.find? (fun c => decide (4 ≤ level t.label c)) with
    | some c =>
      have : (cats.any fun c => decide (4 ≤ level t.label c)) = true := List.any_eq_true.2 ⟨c, List.mem_of_find?_eq_some hf, by have := List.find?_some (p := fun c => decide (4 ≤ level t.label c)) hf; exact this⟩
      simp [ref24_Hidden_k2, finish_val, this]
    | none =>
      have : (cats.any fun c => decide (4 ≤ level t.label c)) = false := by
        rw [List.any_eq_false]; exact List.find?_eq_none.1 hf
      simp only [ref24_Hidden_k2, if_true, this]
      simp [finish_val]

theorem hidden_call (t : Thing) (cats : List Int) (h1 : t.label.cats.length < 2 ^ 63) (h2 : cats.length < 2 ^ 63) {β : Type} (h : Heap) (kp k : A → Heap → Option β) : oLend twin_Hidden [.agg (thingC t), mkF 1 (cats.map (cellC .u64))] h kp k = k (.s (.bool (hidden t cats))) h :=
  oLend_val _ _ _ _ _ _ (by simp) (by simp) (Hidden_v t cats h1 h2)
theorem rhidden_call (t : Thing) (cats : List Int) (h1 : t.label.cats.length < 2 ^ 63) (h2 : cats.length < 2 ^ 63) {β : Type} (h : Heap) (kp k : A → Heap → Option β) : oLend ref24_Hidden [.agg (thingC t), mkF 1 (cats.map (cellC .u64))] h kp k = k (.s (.bool (hidden t cats))) h :=
  oLend_val _ _ _ _ _ _ (by simp) (by simp) (ref24_Hidden_v t cats h1 h2)

/-! owned -/
def owners (g : List Thing) (c : Int) : List Int := (g.filter fun t => decide (level t.label c = 0)).map Thing.id
theorem owners_succ (g : List Thing) (c : Int) (i : Nat) (t : Thing) (h : g[i]? = some t) : owners (g.take (i + 1)) c = owners (g.take i) c ++ if level t.label c = 0 then [t.id] else [] := by
  rw [List.take_add_one, h]
  by_cases hz : level t.label c = 0 <;> simp [owners, List.filter_append, hz]
theorem owners_le (g : List Thing) (c : Int) : (owners g c).length ≤ g.length := by simp [owners]; exact List.length_filter_le _ _

/-- One thing's owner. -/
theorem Owners_step (g : List Thing) (c : Int) (hL : ∀ t ∈ g, t.label.cats.length < 2 ^ 63) (hg : g.length < 1000000) (h3 : Heap) (hh : h3.length = 1) (i : Nat) (hi : i < g.length) (ver : Nat) (out : List Int) (ho : out = owners (g.take i) c) :
    ∃ ver', watch_Owners_l2 (.s (.int .i64 g.length)) (mkF 26 (g.map thingC)) (.s (.int .u64 c)) h3 ([.osl 0 ver 1 0 out.length, .s (.int .i64 i)], [.live ⟨ver, 1, out.map (cellC .u64)⟩]) =
      some (.inl ([.osl 0 ver' 1 0 (owners (g.take (i + 1)) c).length, .s (.int .i64 (i + 1 : Nat))], [.live ⟨ver', 1, (owners (g.take (i + 1)) c).map (cellC .u64)⟩])) := by
  have hx : g[i]? = some g[i] := List.getElem?_eq_getElem hi
  have hm := List.mem_of_getElem? hx
  have hos := owners_succ g c i g[i] hx
  generalize g[i] = t at hx hm hos
  have hw := wrap_succ hi (by omega)
  have hlt := hL t hm
  have hle : out.length ≤ i := by
    have := owners_le (g.take i) c
    rw [← ho, List.length_take] at this; omega
  have hLv := fun (h : Heap) (kp k : A → Heap → Option (Ex × List A × Heap)) => level_call t.label c hlt h kp k
  have hcell : idsRows (out.map (cellC .u64)) = [] := ids_rows out
  rw [hos, ← ho]
  by_cases hz : level t.label c = 0
  · have hap : appendOk (out.length + 1) 8 := by constructor <;> omega
    have happ : ∀ {β : Type} (s2 : Go.Ab.Slot) (k : A → Heap → Option β), oAppend none 1 8 (.osl 0 ver 1 0 out.length) (.osl 2 0 1 0 1) [.live ⟨ver, 1, out.map (cellC .u64)⟩, s2, .live ⟨0, 1, [[.s (.int .u64 t.id)]]⟩] k =
        k (.osl 0 (ver + 1) 1 0 (out.length + 1)) [.live ⟨ver + 1, 1, (out ++ [t.id]).map (cellC .u64)⟩, s2, .live ⟨0, 1, [[.s (.int .u64 t.id)]]⟩] := fun s2 k => by
      simp [oAppend_osl, rowsOf_osl, hap, List.take_of_length_le, cellC]
    have happ' := fun (s2 : Go.Ab.Slot) (k : A → Heap → Option (Ex × List A × Heap)) => happ s2 k
    have hcell2 : idsRows (out.map (cellC .u64) ++ [cellC .u64 t.id]) = [] := by have := ids_rows (out ++ [t.id]); rwa [List.map_append] at this
    simp only [List.map_append, List.map_cons, List.map_nil] at happ'
    refine ⟨ver + 1, ?_⟩
    simp [watch_Owners_l2, watch_Owners_k1, hi, oIdxA_mkF _ _ _ _ _ _ _ hx, hLv, hz, happ', hh, hw, hcell, hcell2, trim, allBelow, drop_thing, put_thing]
  · refine ⟨ver, ?_⟩
    simp [watch_Owners_l2, watch_Owners_k1, hi, oIdxA_mkF _ _ _ _ _ _ _ hx, hLv, hz, hh, hw, hcell, trim, allBelow, drop_thing, put_thing]

theorem Owners_v (g : List Thing) (c : Int) (hL : ∀ t ∈ g, t.label.cats.length < 2 ^ 63) (hg : g.length < 1000000) : ∃ ver, watch_Owners [mkF 26 (g.map thingC), .s (.int .u64 c)] [] =
    some (.ok (.osl 0 ver 1 0 (owners g c).length), [.live ⟨ver, 1, (owners g c).map (cellC .u64)⟩]) := by
  obtain ⟨q, ⟨ver, hQ⟩, hq⟩ := oLoop_inv' (step := watch_Owners_l2 (.s (.int .i64 g.length)) (mkF 26 (g.map thingC)) (.s (.int .u64 c)) [.live ⟨0, 1, []⟩]) (s0 := ([.osl 0 0 1 0 0, .s (.int .i64 0)], [.live ⟨0, 1, []⟩]))
    (fun i s => ∃ ver, s = ([.osl 0 ver 1 0 (owners (g.take i) c).length, .s (.int .i64 i)], [.live ⟨ver, 1, (owners (g.take i) c).map (cellC .u64)⟩]))
    (fun q => ∃ ver, q = (.exit 0, [.osl 0 ver 1 0 (owners g c).length], [.live ⟨ver, 1, (owners g c).map (cellC .u64)⟩])) g.length ⟨0, by simp [owners]⟩ (by omega)
    (by
      rintro i s hi ⟨ver, rfl⟩
      obtain ⟨ver', h⟩ := Owners_step g c hL hg [.live ⟨0, 1, []⟩] rfl i hi ver _ rfl
      exact .inl ⟨_, h, ver', rfl⟩)
    (by
      rintro s ⟨ver, rfl⟩
      refine ⟨_, ?_, ver, rfl⟩
      rw [List.take_length]
      simp [watch_Owners_l2, trim, allBelow, ids_rows])
  subst hQ
  refine ⟨ver, ?_⟩
  have hf := finish_own 0 ver 1 (owners g c).length ((owners g c).map (cellC .u64)) [.live ⟨ver, 1, (owners g c).map (cellC .u64)⟩] rfl (ids_rows _) (fun f => renRow_ids f _)
  have hq' := fun (k : Ex → List A → Heap → Option (Out × Heap)) => hq k
  simp [watch_Owners, oProm]
  rw [hq']
  simp [watch_Owners_k3, hf]

def owned (g : List Thing) (cats : List Int) : Bool := cats.any fun c => decide (0 < (owners g c).length)
theorem Owned_v (g : List Thing) (cats : List Int) (hL : ∀ t ∈ g, t.label.cats.length < 2 ^ 63) (hg : g.length < 1000000) (h2 : cats.length < 2 ^ 63) : twin_Owned [mkF 26 (g.map thingC), mkF 1 (cats.map (cellC .u64))] [] = some (.ok (.s (.bool (owned g cats))), []) := by
  have hc : ∀ c ∈ cats, En_twin_Owned "bailey/twin.Owned$1" [.s (.int .u64 c), .cptr [mkF 26 (g.map thingC)]] [] = some (.ok (.s (.bool (decide (0 < (owners g c).length)))), []) := fun c _ => by
    obtain ⟨ver, hO⟩ := Owners_v g c hL hg
    have hC : ∀ {β : Type} (h : Heap) (kp k : A → Heap → Option β), oLend watch_Owners [mkF 26 (g.map thingC), .s (.int .u64 c)] h kp k = k (.osl h.length ver 1 0 (owners g c).length) (h ++ [.live ⟨ver, 1, (owners g c).map (cellC .u64)⟩]) := fun h kp k =>
      oLend_own _ _ _ h kp k ver 1 _ _ (by simp) (lendL_pure _ _ _ (by simp)) (fun f => renRow_ids f _) hO
    have hC' := fun (h : Heap) (kp k : A → Heap → Option (Out × Heap)) => hC h kp k
    have hZ : ∀ (k : A → Heap → Option (Out × Heap)), oFrz (.osl 0 ver 1 0 (owners g c).length) [.live ⟨ver, 1, (owners g c).map (cellC .u64)⟩] k = k (mkF 1 ((owners g c).map (cellC .u64))) [.dead] := fun k =>
      (oFrz_own _ 0 ver 1 (owners g c).length ((owners g c).map (cellC .u64)) k rfl (by simp) (ids_pure _)).trans (by simp)
    simp [En_twin_Owned, twin_Owned_c1, hC', hZ, finish_val]
  have hC : ∀ (β : Type) (kp k : A → Heap → Option β), oLend (slices_ContainsFunc_Suint64_uint64 En_twin_Owned) [mkF 1 (cats.map (cellC .u64)), .fn "bailey/twin.Owned$1" [.ptr 0 0 0 0]] [.live ⟨0, 1, [[mkF 26 (g.map thingC)]]⟩] kp k = k (.s (.bool (owned g cats))) [.live ⟨0, 1, [[mkF 26 (g.map thingC)]]⟩] := fun β kp k =>
    oLend_lent _ _ [mkF 1 (cats.map (cellC .u64)), .fn "bailey/twin.Owned$1" [.cptr [mkF 26 (g.map thingC)]]] _ _ _ _ (by
      simp only [show (idsL [mkF 1 (cats.map (cellC .u64)), A.fn "bailey/twin.Owned$1" [.ptr 0 0 0 0]]).isEmpty = false by simp, Bool.false_eq_true, if_false]
      exact lend_cap1 _ _ 0 1 _ _ (by simp) (by simp) rfl (by simp)) (by simp) rfl (ContainsU_v _ _ _ _ _ (by simp [pureA]) hc h2)
  simp [twin_Owned, hC, finish_val]

theorem Owned_inner (t : Thing) (cats : List Int) (h1 : t.label.cats.length < 2 ^ 63) (h2 : cats.length < 2 ^ 63) {β : Type} (k : Ex → List A → Heap → Option β) :
    oLoop (ref24_Owned_l1 (.s (.int .i64 cats.length)) (mkF 1 (cats.map (cellC .u64))) (.ptr 0 0 0 0) [.live ⟨0, 26, [thingC t]⟩]) ([.s (.int .i64 0)], [.live ⟨0, 26, [thingC t]⟩]) k =
      if (cats.any fun c => decide (level t.label c = 0)) = true then k .ret [.s (.bool true)] [.live ⟨0, 26, [thingC t]⟩] else k (.exit 2) [.any] [.live ⟨0, 26, [thingC t]⟩] := by
  refine Eq.trans (oLoop_find (enc := fun i => ([.s (.int .i64 i)], [Go.Ab.Slot.live ⟨0, 26, [thingC t]⟩])) (fun c : Int => decide (level t.label c = 0))
    (fun c => (.ret, [.s (.bool true)], [Go.Ab.Slot.live ⟨0, 26, [thingC t]⟩])) (.exit 2, [.any], [Go.Ab.Slot.live ⟨0, 26, [thingC t]⟩]) cats rfl h2 ?_ ?_) ?_
  · intro i c hc hi
    have hw := wrap_succ hi h2
    have hL := fun (h : Heap) (kp k : A → Heap → Option ((List A × Heap) ⊕ (Ex × List A × Heap))) => rlevel_call t.label c h1 h kp k
    by_cases h : level t.label c = 0 <;> simp [ref24_Owned_l1, oIdxA_mkF _ _ _ _ _ _ _ hc, hi, hL, h, hw, trim, allBelow]
  · simp [ref24_Owned_l1, trim, allBelow]
  · cases hf : cats.find? (fun c => decide (level t.label c = 0)) with
    | some c =>
      have hh := List.find?_some (p := fun c => decide (level t.label c = 0)) hf
      have : (cats.any fun c => decide (level t.label c = 0)) = true := List.any_eq_true.2 ⟨c, List.mem_of_find?_eq_some hf, hh⟩
      simp only [this, if_true]
    | none =>
      have : (cats.any fun c => decide (level t.label c = 0)) = false := by
        rw [List.any_eq_false]; exact List.find?_eq_none.1 hf
      simp only [this, Bool.false_eq_true, if_false]

theorem ref24_Owned_v (g : List Thing) (cats : List Int) (hL : ∀ t ∈ g, t.label.cats.length < 2 ^ 63) (hg : g.length < 1000000) (h2 : cats.length < 2 ^ 63) :
    ref24_Owned [mkF 26 (g.map thingC), mkF 1 (cats.map (cellC .u64))] [] = some (.ok (.s (.bool (g.any fun t => cats.any fun c => decide (level t.label c = 0)))), []) := by
  simp [ref24_Owned]
  have h3 : g.length < 2 ^ 63 := by omega
  refine Eq.trans (oLoop_find (enc := fun i => ([.s (.int .i64 i)], ([] : Heap))) (fun t : Thing => decide (t ∈ g) && cats.any fun c => decide (level t.label c = 0))
    (fun c => (.ret, [.s (.bool true)], [])) (.exit 0, [.any], []) g rfl h3 ?_ ?_) ?_
  · intro i t ht hi
    have hw := wrap_succ hi h3
    have hm := List.mem_of_getElem? ht
    have hI := fun (k : Ex → List A → Heap → Option ((List A × Heap) ⊕ (Ex × List A × Heap))) => Owned_inner t cats (hL t hm) h2 k
    cases h : cats.any fun c => decide (level t.label c = 0) <;> simp [ref24_Owned_l3, ref24_Owned_k2, oIdxA_mkF _ _ _ _ _ _ _ ht, hi, hI, h, hm, hw, trim, allBelow, drop_thing, put_thing]
  · simp [ref24_Owned_l3, trim, allBelow]
  · have e : (g.any fun t => cats.any fun c => decide (level t.label c = 0)) = (g.find? fun t => decide (t ∈ g) && cats.any fun c => decide (level t.label c = 0)).isSome := by
      rw [Bool.eq_iff_iff, List.any_eq_true, List.find?_isSome]
      exact ⟨fun ⟨x, h1, h2⟩ => ⟨x, h1, by simp [h1] ; simpa using h2⟩, fun ⟨x, h1, h2⟩ => ⟨x, h1, by simp [h1] at h2; simpa using h2⟩⟩
    rw [e]
    cases g.find? (fun t => decide (t ∈ g) && cats.any fun c => decide (level t.label c = 0)) <;> simp [ref24_Owned_k4, finish_val]
theorem owned_eq (g : List Thing) (cats : List Int) : owned g cats = g.any fun t => cats.any fun c => decide (level t.label c = 0) := by
  rw [Bool.eq_iff_iff]
  simp only [owned, List.any_eq_true, decide_eq_true_eq, owners, List.length_map, List.length_pos_iff_exists_mem, List.mem_filter]
  exact ⟨fun ⟨c, h1, t, h2, h3⟩ => ⟨t, h2, c, h1, h3⟩, fun ⟨t, h2, c, h1, h3⟩ => ⟨c, h1, t, h2, h3⟩⟩
end Go.Ab.T

/-
  NESTED, AND FINDING IN ORDER.
-/
set_option linter.unusedSimpArgs false
set_option linter.unusedVariables false
namespace Go.Ab.T
open Go Go.Ab Go.Ab.F

/-! finding by halves -/
theorem keyL_has (g : List Thing) (id : Int) : has (keyL g) id = (findT g id).isSome := by
  rw [has, findT, Bool.eq_iff_iff, List.find?_isSome, List.find?_isSome]
  constructor
  · rintro ⟨l, hl, h⟩
    obtain ⟨t, ht, rfl⟩ := List.mem_map.1 hl
    exact ⟨t, ht, h⟩
  · rintro ⟨t, ht, h⟩
    exact ⟨⟨t.id, 0⟩, List.mem_map.2 ⟨t, ht, rfl⟩, h⟩
theorem find_place : ∀ (g : List Thing) (hs : sortedL (keyL g)) (id : Int), findT g id = if has (keyL g) id = true then g[place (keyL g) id]? else none
  | [], _, id => by simp [findT, has, keyL]
  | a :: g, hs, id => by
    have ih := find_place g (sortedL_tail hs) id
    have hk : keyL (a :: g) = ⟨a.id, 0⟩ :: keyL g := rfl
    by_cases h1 : a.id < id
    · have hp : place (keyL (a :: g)) id = place (keyL g) id + 1 := by simp [hk, place, h1]
      have hne : (a.id == id) = false := by simp; omega
      have hh : has (keyL (a :: g)) id = has (keyL g) id := by simp [hk, has, List.find?_cons, hne]
      have hf : findT (a :: g) id = findT g id := by simp [findT, List.find?_cons, hne]
      rw [hp, hh, hf, ih]
      simp
    · have hp : place (keyL (a :: g)) id = 0 := by simp [hk, place, h1]
      by_cases h2 : a.id = id
      · have hb : (a.id == id) = true := by simpa using h2
        have hh : has (keyL (a :: g)) id = true := by simp [hk, has, List.find?_cons, hb]
        rw [hp, hh]
        simp [findT, List.find?_cons, hb]
      · have hnone : findT (a :: g) id = none := by
          rw [findT, List.find?_eq_none]
          intro t ht
          rcases List.mem_cons.1 ht with rfl | ht
          · simpa using h2
          · have := sortedL_lt (hk ▸ hs) ⟨t.id, 0⟩ (List.mem_map.2 ⟨t, ht, rfl⟩)
            simp at this ⊢; omega
        have hh : has (keyL (a :: g)) id = false := by rw [keyL_has, hnone]; rfl
        rw [hh, hnone]; simp

theorem search_thing (En : String → CallFn) : slices_BinarySearchFunc_Sapi_Thing_api_Thing_uint64 En = gSearch 26 (some 26) En := by
  funext args objs; rcases args with _ | ⟨a0, _ | ⟨a1, _ | ⟨a2, _ | ⟨a3, r⟩⟩⟩⟩ <;> rfl
theorem graph_place_c1_v (t : Thing) (id : Int) : graph_place_c1 [.agg (thingC t), .s (.int .u64 id)] [] = some (.ok (.s (.int .i64 (cmpI t.id id))), []) := by
  have h : ∀ (β : Type) (x y : Int) (h : Heap) (kp k : A → Heap → Option β), oLend cmp_Compare_uint64 [.s (.int .u64 x), .s (.int .u64 y)] h kp k = k (.s (.int .i64 (cmpI x y))) h := fun β x y h kp k =>
    oLend_val _ _ _ _ _ _ (by simp [pureL, pureA]) (by simp) (cmp_Compare_v x y)
  simp [graph_place_c1, h, finish_val]
theorem graph_place_v (g : List Thing) (id : Int) (hg : g.length < 2 ^ 63) (hs : sortedL (keyL g)) :
    graph_place [mkF 26 (g.map thingC), .s (.int .u64 id)] [] = some (.ok (.tup [.s (.int .i64 (place (keyL g) id)), .s (.bool (has (keyL g) id))]), []) := by
  have h1 := gSearch_v thingE En_graph_place "bailey/graph.place$1" [] (.s (.int .u64 id)) (fun t => cmpI t.id id) g (place (keyL g) id) (by simp [pureL]) rfl rfl rfl
    (fun x _ => by simpa [En_graph_place, thingE] using graph_place_c1_v x id) hg (by have := place_le (keyL g) id; simpa [keyL] using this)
    (fun i t ht => by
      rw [← place_lt hs id i ⟨t.id, 0⟩ (by rw [keyL_get, ht]; rfl)]
      unfold cmpI; by_cases h1 : t.id < id <;> by_cases h2 : id < t.id <;> simp [h1, h2])
  have e : (g[place (keyL g) id]?.any fun x => decide (cmpI x.id id = 0)) = has (keyL g) id := by
    rw [← place_has hs, keyL_get]
    cases g[place (keyL g) id]? <;> rfl
  rw [e] at h1
  have h : ∀ (β : Type) (h : Heap) (kp k : A → Heap → Option β), oLend (gSearch 26 (some 26) En_graph_place) [mkF 26 (g.map thingC), .s (.int .u64 id), .fn "bailey/graph.place$1" []] h kp k = k (.tup [.s (.int .i64 (place (keyL g) id)), .s (.bool (has (keyL g) id))]) h := fun β h kp k =>
    oLend_val _ _ _ _ _ _ (by simp [pureL, pureA]) (by simp) h1
  simp only [graph_place, search_thing]
  simp [h, finish_val, oFrz_pure, pureA, pureL]

/-- A copy that is lent. -/
theorem Copy_frz (t : Thing) (sm : small t) {β : Type} (h : Heap) (kp k : A → Heap → Option β) :
    (oLend thing_Copy [.agg (thingC t)] h kp fun w h' => oFrz w h' k) = k (.agg (thingC t)) (h ++ dead4) := by
  rw [Copy_call t sm]
  refine oFrz_agg (l' := thingC t) (H' := h ++ dead4) ?_ (by simp) (by simp) k
  have hcells : FrzCells (ownRow t h.length (h.length + 1) (h.length + 2) (h.length + 3) 1 t.links.length) (h ++ own4 t 1 t.links)
      (List.map normA [.s (.int .u64 t.id), .s (.int .i64 t.kind), .s (.int .i64 t.label.df)] ++ (mkF 2 (t.label.cats.map catC) :: normA (.s (.int .i64 t.clear.df)) :: mkF 2 (t.clear.cats.map catC) :: normA (.s (.int .i64 t.quota)) :: normA (.s (.int .i64 t.next)) :: mkF 2 (t.links.map linkC) :: mkF 1 (t.data.map (cellC .u8)) ::
        List.map normA [.s (.int .u64 t.r0), .s (.int .u64 t.r1), .s (.int .u64 t.r2), .s (.int .u64 t.r3), .s (.int .i64 t.minted), .s (.int .i64 t.boot), .s (.bool t.halted), .s (.int .u64 t.value), .s (.int .u64 t.s0.dir), .s (.int .u64 t.s0.seg), .s (.int .u64 t.s1.dir), .s (.int .u64 t.s1.seg), .s (.int .u64 t.s2.dir), .s (.int .u64 t.s2.seg), .s (.int .u64 t.s3.dir), .s (.int .u64 t.s3.seg)]))
      ((((((h ++ own4 t 1 t.links).set h.length .dead).set (h.length + 1) .dead).set (h.length + 2) .dead).set (h.length + 3) .dead)) := by
    refine .flat _ _ _ _ _ rfl (.flat _ _ _ _ _ rfl (.flat _ _ _ _ _ rfl (.own _ 1 2 _ (t.label.cats.map catC) _ _ _ _ (by simp [own4]) (by simp) (pureRows_map _ (fun x => by simp) _)
      (.flat _ _ _ _ _ rfl (.own _ 1 2 _ (t.clear.cats.map catC) _ _ _ _ (by rw [List.getElem?_set_ne (by omega), List.getElem?_append_right (by omega)]; simp [own4]) (by simp) (pureRows_map _ (fun x => by simp) _)
      (.flat _ _ _ _ _ rfl (.flat _ _ _ _ _ rfl (.own _ 1 2 _ (t.links.map linkC) _ _ _ _ (by rw [List.getElem?_set_ne (by omega), List.getElem?_set_ne (by omega), List.getElem?_append_right (by omega)]; simp [own4]) (by simp) (pureRows_map _ (fun x => by simp) _)
      (.own _ 1 1 _ (t.data.map (cellC .u8)) _ _ _ _ (by rw [List.getElem?_set_ne (by omega), List.getElem?_set_ne (by omega), List.getElem?_set_ne (by omega), List.getElem?_append_right (by omega)]; simp [own4]) (by simp) (pureRows_map _ (fun x => by simp) _) ?_)))))))))
    repeat (first | exact .nil _ | refine .flat _ _ _ _ _ rfl ?_)
  have hH : ((((h ++ own4 t 1 t.links).set h.length .dead).set (h.length + 1) .dead).set (h.length + 2) .dead).set (h.length + 3) .dead = h ++ dead4 := by
    rw [List.set_append_right _ _ (by omega), List.set_append_right _ _ (by omega), List.set_append_right _ _ (by omega), List.set_append_right _ _ (by omega)]
    simp [own4, dead4]
  rw [hH] at hcells
  exact hcells

theorem graph_Find_v (g : List Thing) (id : Int) (hg : g.length < 2 ^ 63) (hs : sortedL (keyL g)) (hsm : ∀ t ∈ g, small t) : graph_Find [mkF 26 (g.map thingC), .s (.int .u64 id)] [] =
    some (.ok (match findT g id with | some t => .tup [.agg (thingC t), .s (.bool true)] | none => .tup [.agg zeroRow, .s (.bool false)]), []) := by
  have hP : ∀ (β : Type) (h : Heap) (kp k : A → Heap → Option β), oLend graph_place [mkF 26 (g.map thingC), .s (.int .u64 id)] h kp k = k (.tup [.s (.int .i64 (place (keyL g) id)), .s (.bool (has (keyL g) id))]) h := fun β h kp k =>
    oLend_val _ _ _ _ _ _ (by simp) (by simp) (graph_place_v g id hg hs)
  have hfp := find_place g hs id
  simp only [graph_Find]
  rw [show ([A.s (.int .u64 0), .s (.int .i64 0), .s (.int .i64 0), .s (.slice none 0 0), .s (.int .i64 0), .s (.slice none 0 0), .s (.int .i64 0), .s (.int .i64 0), .s (.slice none 0 0), .s (.slice none 0 0), .s (.int .u64 0), .s (.int .u64 0), .s (.int .u64 0), .s (.int .u64 0), .s (.int .i64 0), .s (.int .i64 0), .s (.bool false), .s (.int .u64 0), .s (.int .u64 0), .s (.int .u64 0), .s (.int .u64 0), .s (.int .u64 0), .s (.int .u64 0), .s (.int .u64 0), .s (.int .u64 0), .s (.int .u64 0)]) = zeroRow from rfl]
  have hzne : ¬ zeroRow = [] := by simp [zeroRow]
  cases hh : has (keyL g) id with
  | false =>
    rw [hh] at hfp
    have hf : fillA zeroRow [] = some zeroRow := rfl
    simp [hP, hh, hf, hfp, hzne, zeroRow_len, zeroRow_at, zeroRow_ids, zeroRow_drop, finish_val]
  | true =>
    rw [hh] at hfp
    simp only [if_true] at hfp
    have hsome : (findT g id).isSome = true := by rw [← keyL_has, hh]
    obtain ⟨t, ht⟩ := Option.isSome_iff_exists.1 hsome
    rw [ht] at hfp
    have hi : ∀ (β : Type) (k : A → Option β), oIdxA 26 (mkF 26 (g.map thingC)) (.s (.int .i64 (place (keyL g) id))) k = k (.cptr (thingC t)) := fun β k => oIdxA_mkF 26 thingC g .i64 _ t k hfp.symm
    have hcp := fun (h : Heap) (kp k : A → Heap → Option (Out × Heap)) => Copy_frz t (hsm t (List.mem_of_getElem? hfp.symm)) h kp k
    simp [hP, hh, hi, hcp, ht, hzne, zeroRow_len, zeroRow_at, zeroRow_ids, zeroRow_drop, dead4, put_thing, drop_thing, finish_val]
theorem graph_Find_call (g : List Thing) (id : Int) (hg : g.length < 2 ^ 63) (hs : sortedL (keyL g)) (hsm : ∀ t ∈ g, small t) {β : Type} (h : Heap) (kp k : A → Heap → Option β) :
    (oLend graph_Find [mkF 26 (g.map thingC), .s (.int .u64 id)] h kp fun w h' => oFrz w h' k) = k (.tup [.agg (thingC ((findT g id).getD zeroT)), .s (.bool (findT g id).isSome)]) h := by
  have hv := graph_Find_v g id hg hs hsm
  cases hf : findT g id with
  | some t =>
    rw [hf] at hv
    rw [oLend_val _ _ _ _ _ _ (by simp) (by simp) hv]
    simp
  | none =>
    rw [hf] at hv
    rw [oLend_val _ _ _ _ _ _ (by simp) (by simp [zeroRow_ids]) hv]
    exact oFrz_tup (zeroRow_frz h) (by simp [zeroRow, notSlice]) (by simp [zeroRow]) [.s (.bool false)] (by simp) k
end Go.Ab.T

/-
  NESTED, AND THE VIEW.
-/
set_option linter.unusedSimpArgs false
set_option linter.unusedVariables false
namespace Go.Ab.T
open Go Go.Ab Go.Ab.F

/-- What is asked of a graph. -/
structure okN (g : List Thing) : Prop where
  len : g.length < 1000000
  rising : sortedL (keyL g)
  each : ∀ t ∈ g, okT t
theorem okN.lab {g : List Thing} (h : okN g) : ∀ t ∈ g, t.label.cats.length < 2 ^ 63 := fun t ht => by have := (h.each t ht).small.label; omega
theorem okN.small {g : List Thing} (h : okN g) : ∀ t ∈ g, small t := fun t ht => (h.each t ht).small
theorem okN.t1 {g : List Thing} (h : okN g) : ∀ t ∈ g, t.links.length < 2 ^ 63 := fun t ht => by have := (h.each t ht).few; omega
theorem find_self {g : List Thing} (hs : sortedL (keyL g)) {t : Thing} (ht : t ∈ g) : findT g t.id = some t := by
  induction g with
  | nil => cases ht
  | cons a g ih =>
    have hk : keyL (a :: g) = ⟨a.id, 0⟩ :: keyL g := rfl
    rw [hk] at hs
    by_cases he : a = t
    · subst he
      have hb : (a.id == a.id) = true := by simp
      rw [findT, List.find?_cons, hb]
    · have ht' : t ∈ g := by
        rcases List.mem_cons.1 ht with h | h
        · exact absurd h.symm he
        · exact h
      have h1 := sortedL_lt hs ⟨t.id, 0⟩ (List.mem_map.2 ⟨t, ht', rfl⟩)
      have hne : (a.id == t.id) = false := by simp at h1 ⊢; omega
      have h2 := ih (sortedL_tail hs) ht'
      rw [findT, List.find?_cons, hne]
      exact h2
theorem find_mem {g : List Thing} {id : Int} {t : Thing} (h : findT g id = some t) : t ∈ g ∧ t.id = id := ⟨List.mem_of_find?_eq_some h, by have := List.find?_some h; simpa using this⟩
theorem found_lab {g : List Thing} (h : okN g) (id : Int) : ((findT g id).getD zeroT).label.cats.length < 2 ^ 63 := by
  cases hf : findT g id with
  | none => simp [zeroT, bareT]
  | some t => simpa using h.lab t (find_mem hf).1

/-! nested -/
def badL (g : List Thing) (cats : List Int) (d : Thing) (l : Link) : Bool := (findT g l.id).isSome && (hidden d cats && !hidden ((findT g l.id).getD zeroT) cats)
def badR (cats : List Int) (d t : Thing) : Bool := hidden d cats && (has d.links t.id && !hidden t cats)
theorem any_find {α : Type} (p : α → Bool) (xs : List α) : xs.any p = (xs.find? p).isSome := by
  rw [Bool.eq_iff_iff, List.any_eq_true, List.find?_isSome]

theorem Nested_inner (g : List Thing) (h : okN g) (cats : List Int) (h2 : cats.length < 2 ^ 63) (d : Thing) (hd : d ∈ g) {β : Type} (k : Ex → List A → Heap → Option β) :
    oLoop (twin_Nested_l2 (.s (.int .i64 d.links.length)) (mkF 2 (d.links.map linkC)) (mkF 26 (g.map thingC)) (.ptr 0 0 0 0) (mkF 1 (cats.map (cellC .u64))) [.live ⟨0, 26, [thingC d]⟩]) ([.s (.int .i64 0)], [.live ⟨0, 26, [thingC d]⟩]) k =
      if (d.links.any (badL g cats d)) = true then k .ret [.s (.bool false)] [.live ⟨0, 26, [thingC d]⟩] else k (.exit 2) [.any] [.live ⟨0, 26, [thingC d]⟩] := by
  have hl := h.t1 d hd
  refine Eq.trans (oLoop_find (enc := fun i => ([.s (.int .i64 i)], [Go.Ab.Slot.live ⟨0, 26, [thingC d]⟩])) (badL g cats d)
    (fun c => (.ret, [.s (.bool false)], [Go.Ab.Slot.live ⟨0, 26, [thingC d]⟩])) (.exit 2, [.any], [Go.Ab.Slot.live ⟨0, 26, [thingC d]⟩]) d.links rfl hl ?_ ?_) ?_
  · intro i l hc hi
    have hw := wrap_succ hi hl
    have hF := fun (H : Heap) (kp k : A → Heap → Option ((List A × Heap) ⊕ (Ex × List A × Heap))) => graph_Find_call g l.id (by have := h.len; omega) h.rising h.small H kp k
    have hD := fun (H : Heap) (kp k : A → Heap → Option (Ex × List A × Heap)) => hidden_call d cats (h.lab d hd) h2 H kp k
    have hT := fun (H : Heap) (kp k : A → Heap → Option (Ex × List A × Heap)) => hidden_call ((findT g l.id).getD zeroT) cats (found_lab h l.id) h2 H kp k
    have hput : putCells [A.s (.int .u64 0), .s (.int .i64 0)] 0 (linkC l) = linkC l := rfl
    unfold badL
    generalize (findT g l.id).getD zeroT = t at hF hT
    generalize (findT g l.id).isSome = b at hF
    cases b with
    | false => simp [twin_Nested_l2, twin_Nested_k1, oIdxA_mkF _ _ _ _ _ _ _ hc, hi, hF, hput, hw, trim, allBelow, drop_thing, put_thing]
    | true =>
      cases hd1 : hidden d cats with
      | false => simp [twin_Nested_l2, twin_Nested_k1, oIdxA_mkF _ _ _ _ _ _ _ hc, hi, hF, hD, hd1, hput, hw, trim, allBelow, drop_thing, put_thing]
      | true => cases ht1 : hidden t cats <;> simp [twin_Nested_l2, twin_Nested_k1, oIdxA_mkF _ _ _ _ _ _ _ hc, hi, hF, hD, hT, hd1, ht1, hput, hw, trim, allBelow, drop_thing, put_thing]
  · simp [twin_Nested_l2, trim, allBelow]
  · rw [any_find]
    cases d.links.find? (badL g cats d) <;> simp

theorem Nested_v (g : List Thing) (h : okN g) (cats : List Int) (h2 : cats.length < 2 ^ 63) :
    twin_Nested [mkF 26 (g.map thingC), mkF 1 (cats.map (cellC .u64))] [] = some (.ok (.s (.bool (!(g.any fun d => d.links.any (badL g cats d))))), []) := by
  have h3 : g.length < 2 ^ 63 := by have := h.len; omega
  simp only [twin_Nested, oLen_mkF, List.length_map]
  refine Eq.trans (oLoop_find (enc := fun i => ([.s (.int .i64 i)], ([] : Heap))) (fun d : Thing => d.links.any (badL g cats d))
    (fun c => (.ret, [.s (.bool false)], [])) (.exit 0, [.any], []) g rfl h3 ?_ ?_) ?_
  · intro i t ht hi
    have hw := wrap_succ hi h3
    have hm := List.mem_of_getElem? ht
    have hI := fun (k : Ex → List A → Heap → Option ((List A × Heap) ⊕ (Ex × List A × Heap))) => Nested_inner g h cats h2 t hm k
    cases hb : t.links.any (badL g cats t) <;> simp only [hb, Bool.false_eq_true, if_false, if_true] at hI <;> simp [twin_Nested_l4, twin_Nested_k3, oIdxA_mkF _ _ _ _ _ _ _ ht, hi, hI, hw, trim, allBelow, drop_thing, put_thing]
  · simp [twin_Nested_l4, trim, allBelow]
  · rw [any_find]
    cases g.find? (fun d => d.links.any (badL g cats d)) <;> simp [twin_Nested_k5, finish_val]

theorem rNested_inner (g : List Thing) (h : okN g) (cats : List Int) (h2 : cats.length < 2 ^ 63) (d : Thing) (hd : d ∈ g) {β : Type} (k : Ex → List A → Heap → Option β) :
    oLoop (ref24_Nested_l2 (.s (.int .i64 g.length)) (mkF 26 (g.map thingC)) (.ptr 0 0 0 0) (mkF 1 (cats.map (cellC .u64))) [.live ⟨0, 26, [thingC d]⟩]) ([.s (.int .i64 0)], [.live ⟨0, 26, [thingC d]⟩]) k =
      if (g.any (badR cats d)) = true then k .ret [.s (.bool false)] [.live ⟨0, 26, [thingC d]⟩] else k (.exit 2) [.any] [.live ⟨0, 26, [thingC d]⟩] := by
  have h3 : g.length < 2 ^ 63 := by have := h.len; omega
  refine Eq.trans (oLoop_find (enc := fun i => ([.s (.int .i64 i)], [Go.Ab.Slot.live ⟨0, 26, [thingC d]⟩])) (badR cats d)
    (fun c => (.ret, [.s (.bool false)], [Go.Ab.Slot.live ⟨0, 26, [thingC d]⟩])) (.exit 2, [.any], [Go.Ab.Slot.live ⟨0, 26, [thingC d]⟩]) g rfl h3 ?_ ?_) ?_
  · intro i t hc hi
    have hw := wrap_succ hi h3
    have hm := List.mem_of_getElem? hc
    have hD := fun (H : Heap) (kp k : A → Heap → Option (Ex × List A × Heap)) => rhidden_call d cats (h.lab d hd) h2 H kp k
    have hT := fun (H : Heap) (kp k : A → Heap → Option (Ex × List A × Heap)) => rhidden_call t cats (h.lab t hm) h2 H kp k
    have hH : ∀ (H : Heap) (kp k : A → Heap → Option (Ex × List A × Heap)), oLend ref12_Has [.agg (thingC d), .s (.int .u64 t.id)] H kp k = k (.s (.bool (has d.links t.id))) H := fun H kp k => oLend_val _ _ _ _ _ _ (by simp) (by simp) (ref12_Has_v d t.id (h.t1 d hd))
    unfold badR
    cases hd1 : hidden d cats with
    | false => simp [ref24_Nested_l2, ref24_Nested_k1, oIdxA_mkF _ _ _ _ _ _ _ hc, hi, hD, hd1, hw, trim, allBelow, drop_thing, put_thing]
    | true =>
      cases hh1 : has d.links t.id with
      | false => simp [ref24_Nested_l2, ref24_Nested_k1, oIdxA_mkF _ _ _ _ _ _ _ hc, hi, hD, hH, hd1, hh1, hw, trim, allBelow, drop_thing, put_thing]
      | true => cases ht1 : hidden t cats <;> simp [ref24_Nested_l2, ref24_Nested_k1, oIdxA_mkF _ _ _ _ _ _ _ hc, hi, hD, hH, hT, hd1, hh1, ht1, hw, trim, allBelow, drop_thing, put_thing]
  · simp [ref24_Nested_l2, trim, allBelow]
  · rw [any_find]
    cases g.find? (badR cats d) <;> simp

theorem rNested_v (g : List Thing) (h : okN g) (cats : List Int) (h2 : cats.length < 2 ^ 63) :
    ref24_Nested [mkF 26 (g.map thingC), mkF 1 (cats.map (cellC .u64))] [] = some (.ok (.s (.bool (!(g.any fun d => g.any (badR cats d))))), []) := by
  have h3 : g.length < 2 ^ 63 := by have := h.len; omega
  simp only [ref24_Nested, oLen_mkF, List.length_map]
  refine Eq.trans (oLoop_find (enc := fun i => ([.s (.int .i64 i)], ([] : Heap))) (fun d : Thing => g.any (badR cats d))
    (fun c => (.ret, [.s (.bool false)], [])) (.exit 0, [.any], []) g rfl h3 ?_ ?_) ?_
  · intro i t ht hi
    have hw := wrap_succ hi h3
    have hm := List.mem_of_getElem? ht
    have hI := fun (k : Ex → List A → Heap → Option ((List A × Heap) ⊕ (Ex × List A × Heap))) => rNested_inner g h cats h2 t hm k
    cases hb : g.any (badR cats t) <;> simp only [hb, Bool.false_eq_true, if_false, if_true] at hI <;> simp [ref24_Nested_l4, ref24_Nested_k3, oIdxA_mkF _ _ _ _ _ _ _ ht, hi, hI, hw, trim, allBelow, drop_thing, put_thing]
  · simp [ref24_Nested_l4, trim, allBelow]
  · rw [any_find]
    cases g.find? (fun d => g.any (badR cats d)) <;> simp [ref24_Nested_k5, finish_val]

theorem has_iff (ls : List Link) (id : Int) : has ls id = true ↔ ∃ l ∈ ls, l.id = id := by
  rw [has, List.find?_isSome]; simp
theorem nested_eq (g : List Thing) (h : okN g) (cats : List Int) : (g.any fun d => d.links.any (badL g cats d)) = (g.any fun d => g.any (badR cats d)) := by
  rw [Bool.eq_iff_iff]
  simp only [List.any_eq_true, badL, badR, Bool.and_eq_true, Bool.not_eq_true', has_iff]
  constructor
  · rintro ⟨d, hd, l, hl, h1, h2, h3⟩
    obtain ⟨t, ht⟩ := Option.isSome_iff_exists.1 h1
    rw [ht] at h3
    obtain ⟨m1, m2⟩ := find_mem ht
    exact ⟨d, hd, t, m1, h2, ⟨l, hl, m2.symm⟩, h3⟩
  · rintro ⟨d, hd, t, ht, h2, ⟨l, hl, e⟩, h3⟩
    have := find_self h.rising ht
    exact ⟨d, hd, l, hl, by rw [e, this]; rfl, h2, by rw [e, this]; exact h3⟩

/-! the view -/
def held (g : List Thing) (cats : List Int) (t : Thing) : Bool := g.any fun d => has d.links t.id && !hidden d cats
/-- One thing of the view: whole, or bare. -/
abbrev VR := Thing × Bool
def bareV (t : Thing) : Thing := bareT t.id t.kind ⟨0, []⟩ t.quota
def bareVRow (t : Thing) : List A := [.s (.int .u64 t.id), .s (.int .i64 t.kind), .s (.int .i64 0), .s (.slice none 0 0), .s (.int .i64 0), .s (.slice none 0 0), .s (.int .i64 t.quota), .s (.int .i64 0), .s (.slice none 0 0), .s (.slice none 0 0), .s (.int .u64 0), .s (.int .u64 0), .s (.int .u64 0), .s (.int .u64 0), .s (.int .i64 0), .s (.int .i64 0), .s (.bool false), .s (.int .u64 0), .s (.int .u64 0), .s (.int .u64 0), .s (.int .u64 0), .s (.int .u64 0), .s (.int .u64 0), .s (.int .u64 0), .s (.int .u64 0), .s (.int .u64 0)]
def vrC (v : VR) : List A := if v.2 then bareVRow v.1 else thingC v.1
def vrT (v : VR) : Thing := if v.2 then bareV v.1 else v.1
def viewOne (g : List Thing) (cats : List Int) (t : Thing) : Option VR :=
  if (!hidden t cats || (held g cats t && decide (t.kind = 3))) = true then some (t, false) else if held g cats t = true then some (t, true) else none
def viewR (g : List Thing) (cats : List Int) (ts : List Thing) : List VR := ts.filterMap (viewOne g cats)
def view (g : List Thing) (cats : List Int) : List Thing := (viewR g cats g).map vrT
theorem viewR_succ (g : List Thing) (cats : List Int) (ts : List Thing) (i : Nat) (t : Thing) (h : ts[i]? = some t) : viewR g cats (ts.take (i + 1)) = viewR g cats (ts.take i) ++ (viewOne g cats t).toList := by
  rw [List.take_add_one, h]
  cases hv : viewOne g cats t <;> simp [viewR, List.filterMap_append, hv]
theorem viewR_le (g : List Thing) (cats : List Int) (ts : List Thing) : (viewR g cats ts).length ≤ ts.length := List.length_filterMap_le _ _
theorem vrC_len (v : VR) : (vrC v).length = 26 := by unfold vrC; split <;> rfl
theorem vrC_ids (v : VR) : idsL (vrC v) = [] := by unfold vrC; split <;> rfl
theorem vrC_flat (v : VR) : ∀ a ∈ vrC v, flatA a = true := by unfold vrC; split <;> simp [bareVRow, thingC]
theorem vrC_norm (v : VR) : (vrC v).map normA = thingC (vrT v) := by
  unfold vrC vrT; split
  · rfl
  · simp [thingC]
theorem vr_ids (l : List VR) : idsRows (l.map vrC) = [] := idsRows_map _ vrC_ids l
theorem vr_ren (f : Nat → Option Nat) (l : List VR) : renRows f (l.map vrC) = some (l.map vrC) := renRows_map f vrC (fun v => by
  unfold vrC; split
  · simp [bareVRow]
  · simp [thingC]) l

/-- What is frozen of rows of flat cells. -/
theorem frzL_flat (h : Heap) : ∀ (l : List A) (n : Nat), (∀ a ∈ l, flatA a = true) → frzL (n + l.length + 2) l h = some (l.map normA, h)
  | [], n, _ => by simp [frzL]
  | a :: r, n, hf => by
    rw [show n + (a :: r).length + 2 = (n + r.length + 2) + 1 by simp; omega, frzL]
    split
    · rename_i hp
      rw [norm_pure hp hf]
    · have e1 : frzA (n + r.length + 2) a h = some (normA a, h) := by
        have hfa := hf a (by simp)
        cases a <;> simp [flatA] at hfa <;> simp [frzA, normA]
      rw [e1, Option.bind_some]
      simp only
      rw [frzL_flat h r n fun x hx => hf x (by simp [hx])]
      simp
theorem frzRows_flat (h : Heap) : ∀ (rows : List (List A)) (n : Nat), (∀ r ∈ rows, (∀ a ∈ r, flatA a = true) ∧ r.length ≤ 30) → frzRows (n + rows.length + 40) rows h = some (rows.map (List.map normA), h)
  | [], n, _ => by simp [frzRows, pureRows]
  | r :: rs, n, hf => by
    have hr := hf r (by simp)
    rw [show n + (r :: rs).length + 40 = (n + rs.length + 40) + 1 by simp; omega, frzRows]
    split
    · rename_i hp
      have hall : ∀ x ∈ r :: rs, x.map normA = x := fun x hx => norm_pure (by simp only [pureRows, List.all_eq_true] at hp; exact hp x hx) (hf x hx).1
      have : (r :: rs).map (List.map normA) = (r :: rs).map fun x => x := List.map_congr_left hall
      rw [this]; simp
    · have e1 : frzL (n + rs.length + 40) r h = some (r.map normA, h) := by
        have := frzL_flat h r (n + rs.length + 38 - r.length) hr.1
        rwa [show n + rs.length + 38 - r.length + r.length + 2 = n + rs.length + 40 by omega] at this
      rw [e1, Option.bind_some]
      simp only
      rw [frzRows_flat h rs n fun x hx => hf x (by simp [hx])]
      simp
theorem oFrz_vr (H : Heap) (id ver : Nat) (l : List VR) (hl : l.length < 900) {β : Type} (k : A → Heap → Option β) (hk : H[id]? = some (.live ⟨ver, 26, l.map vrC⟩)) :
    oFrz (.osl id ver 26 0 l.length) H k = k (mkF 26 ((l.map vrT).map thingC)) (H.set id .dead) := by
  have e : frzRows 999 (l.map vrC) (H.set id .dead) = some ((l.map vrC).map (List.map normA), H.set id .dead) := by
    have := frzRows_flat (H.set id .dead) (l.map vrC) (959 - l.length) (fun r hr => by
      obtain ⟨v, _, rfl⟩ := List.mem_map.1 hr
      exact ⟨vrC_flat v, by rw [vrC_len]; decide⟩)
    rwa [show 959 - l.length + (l.map vrC).length + 40 = 999 by simp; omega] at this
  have e2 : (l.map vrC).map (List.map normA) = (l.map vrT).map thingC := by
    simp [vrC_norm]
  have e3 : frzA 1000 (.osl id ver 26 0 l.length) H = some (mkF 26 ((l.map vrT).map thingC), H.set id .dead) := by
    rw [show (1000 : Nat) = 999 + 1 from rfl, frzA, hk]
    simp only [List.length_map, List.drop_zero]
    rw [if_pos ⟨trivial, by omega⟩, List.take_of_length_le (by simp), e, e2]
    rfl
  simp only [oFrz, pureA, Bool.false_eq_true, if_false, e3]
end Go.Ab.T

/-
  THE VIEW.
-/
set_option linter.unusedSimpArgs false
set_option linter.unusedVariables false
namespace Go.Ab.T
open Go Go.Ab Go.Ab.F

theorem View_c1_v (x t : Thing) (cats : List Int) (hx : okT x) (h2 : cats.length < 2 ^ 63) : twin_View_c1 [.agg (thingC x), .cptr (thingC t), .cptr [mkF 1 (cats.map (cellC .u64))]] [] = some (.ok (.s (.bool (has x.links t.id && !hidden x cats))), []) := by
  have hl := hx.small.label
  have hf := hx.few
  have hD := fun (H : Heap) (kp k : A → Heap → Option (Out × Heap)) => hidden_call x cats (by omega) h2 H kp k
  have hH : ∀ (H : Heap) (kp k : A → Heap → Option (Out × Heap)), oLend dir_Has [.agg (thingC x), .s (.int .u64 t.id)] H kp k = k (.s (.bool (has x.links t.id))) H := fun H kp k => oLend_val _ _ _ _ _ _ (by simp) (by simp) (dir_Has_v x t.id (by omega) hx.links)
  cases hh : has x.links t.id <;> simp [twin_View_c1, hD, hH, hh, finish_val]

theorem app_whole (ver n : Nat) (rows : List (List A)) (row : List A) (o0 o2 : Go.Ab.Slot) (hn : n = rows.length) (hap : appendOk (n + 1) 272) {β : Type} (k : A → Heap → Option β) :
    oAppend none 26 272 (.osl 1 ver 26 0 n) (.osl 7 0 26 0 1) [o0, .live ⟨ver, 26, rows⟩, o2, .dead, .dead, .dead, .dead, .live ⟨0, 26, [row]⟩] k =
      k (.osl 1 (ver + 1) 26 0 (n + 1)) [o0, .live ⟨ver + 1, 26, rows ++ [row]⟩, o2, .dead, .dead, .dead, .dead, .live ⟨0, 26, [row]⟩] := by
  subst hn
  simp [oAppend_osl, rowsOf_osl, hap, List.take_of_length_le]
theorem app_bare (ver n : Nat) (rows : List (List A)) (row : List A) (o0 o2 : Go.Ab.Slot) (hn : n = rows.length) (hap : appendOk (n + 1) 272) {β : Type} (k : A → Heap → Option β) :
    oAppend none 26 272 (.osl 1 ver 26 0 n) (.osl 3 0 26 0 1) [o0, .live ⟨ver, 26, rows⟩, o2, .live ⟨0, 26, [row]⟩] k =
      k (.osl 1 (ver + 1) 26 0 (n + 1)) [o0, .live ⟨ver + 1, 26, rows ++ [row]⟩, o2, .live ⟨0, 26, [row]⟩] := by
  subst hn
  simp [oAppend_osl, rowsOf_osl, hap, List.take_of_length_le]
theorem app_view (ver n : Nat) (rows : List (List A)) (row : List A) (o1 : Go.Ab.Slot) (hn : n = rows.length) (hap : appendOk (n + 1) 272) {β : Type} (k : A → Heap → Option β) :
    oAppend none 26 272 (.osl 0 ver 26 0 n) (.osl 2 0 26 0 1) [.live ⟨ver, 26, rows⟩, o1, .live ⟨0, 26, [row]⟩] k =
      k (.osl 0 (ver + 1) 26 0 (n + 1)) [.live ⟨ver + 1, 26, rows ++ [row]⟩, o1, .live ⟨0, 26, [row]⟩] := by
  subst hn
  simp [oAppend_osl, rowsOf_osl, hap, List.take_of_length_le]
theorem rows_one (rows : List VR) (v : VR) : idsRows (rows.map vrC ++ [vrC v]) = [] := by have := vr_ids (rows ++ [v]); rwa [List.map_append] at this
theorem rows_whole (rows : List VR) (t : Thing) : idsRows (rows.map vrC ++ [thingC t]) = [] := rows_one rows (t, false)
theorem rows_bare (rows : List VR) (t : Thing) : idsRows (rows.map vrC ++ [bareVRow t]) = [] := rows_one rows (t, true)

def vHeap (cats : List Int) (rows : List VR) (ver : Nat) : Heap := [.live ⟨0, 1, [[mkF 1 (cats.map (cellC .u64))]]⟩, .live ⟨ver, 26, rows.map vrC⟩]
def vSt (cats : List Int) (rows : List VR) (ver i : Nat) : List A × Heap := ([.osl 1 ver 26 0 rows.length, .s (.int .i64 i)], vHeap cats rows ver)

set_option maxHeartbeats 1000000 in
theorem View_step (g : List Thing) (h : okN g) (cats : List Int) (h2 : cats.length < 2 ^ 63) (h5 : Heap) (hh5 : h5.length = 2) (i : Nat) (hi : i < g.length) (ver : Nat) (rows : List VR) (hrows : rows.length ≤ i) :
    ∃ ver', twin_View_l3 En_twin_View (.s (.int .i64 g.length)) (mkF 26 (g.map thingC)) (.ptr 0 0 0 0) h5 (vSt cats rows ver i) = some (.inl (vSt cats (rows ++ (viewOne g cats g[i]).toList) ver' (i + 1))) := by
  have hlen := h.len
  have hx : g[i]? = some g[i] := List.getElem?_eq_getElem hi
  have hm := List.mem_of_getElem? hx
  generalize g[i] = t at hx hm
  have hw := wrap_succ hi (by omega)
  have ht := h.each t hm
  have hlab := ht.small.label
  have hap : appendOk (rows.length + 1) 272 := by constructor <;> omega
  have hC : ∀ (kp k : A → Heap → Option (Ex × List A × Heap)), oLend (slices_ContainsFunc_Sapi_Thing_api_Thing En_twin_View) [mkF 26 (g.map thingC), .fn "bailey/twin.View$1" [.ptr 2 0 0 0, .ptr 0 0 0 0]] [.live ⟨0, 1, [[mkF 1 (cats.map (cellC .u64))]]⟩, .live ⟨ver, 26, rows.map vrC⟩, .live ⟨0, 26, [thingC t]⟩] kp k = k (.s (.bool (held g cats t))) [.live ⟨0, 1, [[mkF 1 (cats.map (cellC .u64))]]⟩, .live ⟨ver, 26, rows.map vrC⟩, .live ⟨0, 26, [thingC t]⟩] := fun kp k =>
    oLend_lent _ _ [mkF 26 (g.map thingC), .fn "bailey/twin.View$1" [.cptr (thingC t), .cptr [mkF 1 (cats.map (cellC .u64))]]] _ _ _ _ (by
      simp only [show (idsL [mkF 26 (g.map thingC), A.fn "bailey/twin.View$1" [.ptr 2 0 0 0, .ptr 0 0 0 0]]).isEmpty = false by simp, Bool.false_eq_true, if_false]
      exact lend_cap2 _ _ 2 0 26 1 _ _ _ (by simp) (by simp) rfl (by simp) rfl (by simp)) (by simp) rfl (ContainsT_v _ _ _ (fun d => has d.links t.id && !hidden d cats) _ (by simp [pureA]) (fun d hd => by
        have := View_c1_v d t cats (h.each d hd) h2
        simpa [En_twin_View] using this) (by omega))
  have hD := fun (H : Heap) (kp k : A → Heap → Option (Ex × List A × Heap)) => hidden_call t cats (by omega) h2 H kp k
  have hcp := fun (H : Heap) (kp k : A → Heap → Option (Ex × List A × Heap)) => Copy_frz t ht.small H kp k
  have hA1 := fun (row : List A) (o0 o2 : Go.Ab.Slot) (k : A → Heap → Option (Ex × List A × Heap)) => app_whole ver rows.length (rows.map vrC) row o0 o2 (by simp) hap k
  have hA2 := fun (row : List A) (o0 o2 : Go.Ab.Slot) (k : A → Heap → Option (Ex × List A × Heap)) => app_bare ver rows.length (rows.map vrC) row o0 o2 (by simp) hap k
  have hr0 := vr_ids rows
  have hr1 := rows_whole rows t
  have hr2 := rows_bare rows t
  have hv1 : vrC (t, false) = thingC t := rfl
  have hv2 : vrC (t, true) = bareVRow t := rfl
  unfold viewOne
  cases c1 : hidden t cats with
  | false =>
    refine ⟨ver + 1, ?_⟩
    simp [twin_View_l3, twin_View_k1, twin_View_k2, vSt, vHeap, hi, oIdxA_mkF _ _ _ _ _ _ _ hx, hC, hD, hcp, hA1, c1, dead4, hw, hh5, hr0, hr1, hv1, trim, allBelow, drop_thing, put_thing]
  | true =>
    cases c2 : held g cats t with
    | false =>
      refine ⟨ver, ?_⟩
      simp [twin_View_l3, twin_View_k1, twin_View_k2, vSt, vHeap, hi, oIdxA_mkF _ _ _ _ _ _ _ hx, hC, hD, c1, c2, hw, hh5, hr0, trim, allBelow, drop_thing, put_thing]
    | true =>
      by_cases c3 : t.kind = 3
      · refine ⟨ver + 1, ?_⟩
        simp [twin_View_l3, twin_View_k1, twin_View_k2, vSt, vHeap, hi, oIdxA_mkF _ _ _ _ _ _ _ hx, hC, hD, hcp, hA1, c1, c2, c3, dead4, hw, hh5, hr0, hr1, hv1, trim, allBelow, drop_thing, put_thing]
      · refine ⟨ver + 1, ?_⟩
        simp only [bareVRow] at hr2 hv2
        simp [twin_View_l3, twin_View_k1, twin_View_k2, vSt, vHeap, hi, oIdxA_mkF _ _ _ _ _ _ _ hx, hC, hD, hA2, c1, c2, c3, hw, hh5, hr0, hr2, hv2, trim, allBelow, drop_thing, put_thing, putCells]

theorem View_v (g : List Thing) (h : okN g) (cats : List Int) (h2 : cats.length < 2 ^ 63) : ∃ ver, twin_View [mkF 26 (g.map thingC), mkF 1 (cats.map (cellC .u64))] [] =
    some (.ok (.osl 0 ver 26 0 (viewR g cats g).length), [.live ⟨ver, 26, (viewR g cats g).map vrC⟩]) := by
  have hlen := h.len
  have h0 : vSt cats (viewR g cats (g.take 0)) 0 0 = ([.osl 1 0 26 0 0, .s (.int .i64 0)], [.live ⟨0, 1, [[mkF 1 (cats.map (cellC .u64))]]⟩, .live ⟨0, 26, []⟩]) := by simp [vSt, vHeap, viewR]
  obtain ⟨q, ⟨ver, hQ⟩, hq⟩ := oLoop_inv' (step := twin_View_l3 En_twin_View (.s (.int .i64 g.length)) (mkF 26 (g.map thingC)) (.ptr 0 0 0 0) [.live ⟨0, 1, [[mkF 1 (cats.map (cellC .u64))]]⟩, .live ⟨0, 26, []⟩]) (s0 := ([.osl 1 0 26 0 0, .s (.int .i64 0)], [.live ⟨0, 1, [[mkF 1 (cats.map (cellC .u64))]]⟩, .live ⟨0, 26, []⟩]))
    (fun i s => ∃ ver, s = vSt cats (viewR g cats (g.take i)) ver i)
    (fun q => ∃ ver, q = (.exit 0, [.osl 1 ver 26 0 (viewR g cats g).length], vHeap cats (viewR g cats g) ver)) g.length ⟨0, h0.symm⟩ (by omega)
    (by
      rintro i s hi ⟨ver, rfl⟩
      obtain ⟨ver', hs⟩ := View_step g h cats h2 [.live ⟨0, 1, [[mkF 1 (cats.map (cellC .u64))]]⟩, .live ⟨0, 26, []⟩] rfl i hi ver (viewR g cats (g.take i)) (by
        have := viewR_le g cats (g.take i)
        rw [List.length_take] at this; omega)
      refine .inl ⟨_, hs, ver', ?_⟩
      rw [viewR_succ g cats g i g[i] (List.getElem?_eq_getElem hi)])
    (by
      rintro s ⟨ver, rfl⟩
      refine ⟨_, ?_, ver, rfl⟩
      rw [List.take_length]
      simp [twin_View_l3, vSt, vHeap, trim, allBelow, vr_ids])
  subst hQ
  refine ⟨ver, ?_⟩
  have hf : finish 0 (.ok (.osl 1 ver 26 0 (viewR g cats g).length)) (vHeap cats (viewR g cats g) ver) = some (.ok (.osl 0 ver 26 0 (viewR g cats g).length), [.live ⟨ver, 26, (viewR g cats g).map vrC⟩]) :=
    finish_own 1 ver 26 _ _ _ rfl (vr_ids _) (fun f => vr_ren f _)
  have hq' := fun (k : Ex → List A → Heap → Option (Out × Heap)) => hq k
  simp [twin_View, oProm]
  rw [hq']
  simp [twin_View_k4, hf]
theorem View_call (g : List Thing) (h : okN g) (hg : g.length < 900) (cats : List Int) (h2 : cats.length < 2 ^ 63) {β : Type} (H : Heap) (kp k : A → Heap → Option β) :
    (oLend twin_View [mkF 26 (g.map thingC), mkF 1 (cats.map (cellC .u64))] H kp fun w h' => oFrz w h' k) = k (mkF 26 ((view g cats).map thingC)) (H ++ [.dead]) := by
  obtain ⟨ver, hv⟩ := View_v g h cats h2
  have hle := viewR_le g cats g
  rw [oLend_own _ _ _ H kp _ ver 26 _ _ (by simp) (lendL_pure _ _ _ (by simp)) (fun f => vr_ren f _) hv]
  rw [oFrz_vr _ H.length ver _ (by omega) k (by simp)]
  simp [view]

/-! the document's view -/
theorem held_take (g : List Thing) (cats : List Int) (t : Thing) (i : Nat) (d : Thing) (h : g[i]? = some d) : held (g.take (i + 1)) cats t = (held (g.take i) cats t || (has d.links t.id && !hidden d cats)) := by
  rw [List.take_add_one, h]
  simp [held]
theorem rView_inner (g : List Thing) (h : okN g) (cats : List Int) (h2 : cats.length < 2 ^ 63) (t : Thing) (o0 : Go.Ab.Slot) (i0 : o0.ids = []) {β : Type} (k : Ex → List A → Heap → Option β) :
    oLoop (ref24_View_l2 (.s (.int .i64 g.length)) (mkF 26 (g.map thingC)) (mkF 1 (cats.map (cellC .u64))) (.ptr 1 0 0 0) [o0, .live ⟨0, 26, [thingC t]⟩]) ([.s (.bool false), .s (.int .i64 0)], [o0, .live ⟨0, 26, [thingC t]⟩]) k =
      k (.exit 2) [.s (.bool (held g cats t))] [o0, .live ⟨0, 26, [thingC t]⟩] := by
  have h3 : g.length < 2 ^ 63 := by have := h.len; omega
  obtain ⟨q, rfl, hq⟩ := oLoop_inv' (step := ref24_View_l2 (.s (.int .i64 g.length)) (mkF 26 (g.map thingC)) (mkF 1 (cats.map (cellC .u64))) (.ptr 1 0 0 0) [o0, .live ⟨0, 26, [thingC t]⟩]) (s0 := ([.s (.bool false), .s (.int .i64 0)], [o0, .live ⟨0, 26, [thingC t]⟩]))
    (fun i s => s = ([.s (.bool (held (g.take i) cats t)), .s (.int .i64 i)], [o0, .live ⟨0, 26, [thingC t]⟩])) (fun q => q = (.exit 2, [.s (.bool (held g cats t))], [o0, .live ⟨0, 26, [thingC t]⟩])) g.length (by simp [held]) h3
    (by
      rintro i s hi rfl
      left
      have hx : g[i]? = some g[i] := List.getElem?_eq_getElem hi
      have hm := List.mem_of_getElem? hx
      have hs := held_take g cats t i g[i] hx
      generalize g[i] = d at hx hm hs
      have hw := wrap_succ hi h3
      have hD := fun (H : Heap) (kp k : A → Heap → Option (Ex × List A × Heap)) => rhidden_call d cats (h.lab d hm) h2 H kp k
      have hH : ∀ (H : Heap) (kp k : A → Heap → Option (Ex × List A × Heap)), oLend ref12_Has [.agg (thingC d), .s (.int .u64 t.id)] H kp k = k (.s (.bool (has d.links t.id))) H := fun H kp k => oLend_val _ _ _ _ _ _ (by simp) (by simp) (ref12_Has_v d t.id (h.t1 d hm))
      refine ⟨_, ?_, rfl⟩
      rw [hs]
      cases c0 : held (g.take i) cats t with
      | true => simp [ref24_View_l2, ref24_View_k1, oIdxA_mkF _ _ _ _ _ _ _ hx, hi, hw, i0, trim, allBelow, drop_thing, put_thing]
      | false =>
        cases c1 : hidden d cats with
        | true => simp [ref24_View_l2, ref24_View_k1, oIdxA_mkF _ _ _ _ _ _ _ hx, hi, hD, c1, hw, i0, trim, allBelow, drop_thing, put_thing]
        | false => cases c2 : has d.links t.id <;> simp [ref24_View_l2, ref24_View_k1, oIdxA_mkF _ _ _ _ _ _ _ hx, hi, hD, hH, c1, c2, hw, i0, trim, allBelow, drop_thing, put_thing])
    (by
      rintro s rfl
      refine ⟨_, ?_, rfl⟩
      rw [List.take_length]
      simp [ref24_View_l2, trim, allBelow, i0])
  exact hq k

def rSt (rows : List VR) (ver i : Nat) : List A × Heap := ([.osl 0 ver 26 0 rows.length, .s (.int .i64 i)], [.live ⟨ver, 26, rows.map vrC⟩])
set_option maxHeartbeats 1000000 in
theorem rView_step (g : List Thing) (h : okN g) (cats : List Int) (h2 : cats.length < 2 ^ 63) (h5 : Heap) (hh5 : h5.length = 1) (i : Nat) (hi : i < g.length) (ver : Nat) (rows : List VR) (hrows : rows.length ≤ i) :
    ∃ ver', ref24_View_l6 (.s (.int .i64 g.length)) (mkF 26 (g.map thingC)) (mkF 1 (cats.map (cellC .u64))) h5 (rSt rows ver i) = some (.inl (rSt (rows ++ (viewOne g cats g[i]).toList) ver' (i + 1))) := by
  have hlen := h.len
  have hx : g[i]? = some g[i] := List.getElem?_eq_getElem hi
  have hm := List.mem_of_getElem? hx
  generalize g[i] = t at hx hm
  have hw := wrap_succ hi (by omega)
  have ht := h.each t hm
  have hlab := ht.small.label
  have hap : appendOk (rows.length + 1) 272 := by constructor <;> omega
  have hI := fun (k : Ex → List A → Heap → Option (Ex × List A × Heap)) => rView_inner g h cats h2 t (.live ⟨ver, 26, rows.map vrC⟩) (vr_ids rows) k
  have hD := fun (H : Heap) (kp k : A → Heap → Option (Ex × List A × Heap)) => rhidden_call t cats (by omega) h2 H kp k
  have hA1 := fun (row : List A) (o1 : Go.Ab.Slot) (k : A → Heap → Option (Ex × List A × Heap)) => app_view ver rows.length (rows.map vrC) row o1 (by simp) hap k
  have hr0 := vr_ids rows
  have hr1 := rows_whole rows t
  have hr2 := rows_bare rows t
  have hv1 : vrC (t, false) = thingC t := rfl
  have hv2 : vrC (t, true) = bareVRow t := rfl
  unfold viewOne
  cases c1 : hidden t cats with
  | false =>
    refine ⟨ver + 1, ?_⟩
    simp [ref24_View_l6, ref24_View_k3, ref24_View_k4, ref24_View_k5, rSt, hi, oIdxA_mkF _ _ _ _ _ _ _ hx, hI, hD, hA1, c1, hw, hh5, hr0, hr1, hv1, trim, allBelow, drop_thing, put_thing]
  | true =>
    cases c2 : held g cats t with
    | false =>
      refine ⟨ver, ?_⟩
      simp [ref24_View_l6, ref24_View_k3, ref24_View_k4, ref24_View_k5, rSt, hi, oIdxA_mkF _ _ _ _ _ _ _ hx, hI, hD, c1, c2, hw, hh5, hr0, trim, allBelow, drop_thing, put_thing]
    | true =>
      by_cases c3 : t.kind = 3
      · refine ⟨ver + 1, ?_⟩
        simp [ref24_View_l6, ref24_View_k3, ref24_View_k4, ref24_View_k5, rSt, hi, oIdxA_mkF _ _ _ _ _ _ _ hx, hI, hD, hA1, c1, c2, c3, hw, hh5, hr0, hr1, hv1, trim, allBelow, drop_thing, put_thing]
      · refine ⟨ver + 1, ?_⟩
        simp only [bareVRow] at hr2 hv2
        simp [ref24_View_l6, ref24_View_k3, ref24_View_k4, ref24_View_k5, rSt, hi, oIdxA_mkF _ _ _ _ _ _ _ hx, hI, hD, hA1, c1, c2, c3, hw, hh5, hr0, hr2, hv2, trim, allBelow, drop_thing, put_thing, putCells]
theorem rView_v (g : List Thing) (h : okN g) (cats : List Int) (h2 : cats.length < 2 ^ 63) : ∃ ver, ref24_View [mkF 26 (g.map thingC), mkF 1 (cats.map (cellC .u64))] [] =
    some (.ok (.osl 0 ver 26 0 (viewR g cats g).length), [.live ⟨ver, 26, (viewR g cats g).map vrC⟩]) := by
  have hlen := h.len
  have h0 : rSt (viewR g cats (g.take 0)) 0 0 = ([.osl 0 0 26 0 0, .s (.int .i64 0)], [.live ⟨0, 26, []⟩]) := by simp [rSt, viewR]
  obtain ⟨q, ⟨ver, hQ⟩, hq⟩ := oLoop_inv' (step := ref24_View_l6 (.s (.int .i64 g.length)) (mkF 26 (g.map thingC)) (mkF 1 (cats.map (cellC .u64))) [.live ⟨0, 26, []⟩]) (s0 := ([.osl 0 0 26 0 0, .s (.int .i64 0)], [.live ⟨0, 26, []⟩]))
    (fun i s => ∃ ver, s = rSt (viewR g cats (g.take i)) ver i)
    (fun q => ∃ ver, q = (.exit 0, [.osl 0 ver 26 0 (viewR g cats g).length], [.live ⟨ver, 26, (viewR g cats g).map vrC⟩])) g.length ⟨0, h0.symm⟩ (by omega)
    (by
      rintro i s hi ⟨ver, rfl⟩
      obtain ⟨ver', hs⟩ := rView_step g h cats h2 [.live ⟨0, 26, []⟩] rfl i hi ver (viewR g cats (g.take i)) (by
        have := viewR_le g cats (g.take i)
        rw [List.length_take] at this; omega)
      refine .inl ⟨_, hs, ver', ?_⟩
      rw [viewR_succ g cats g i g[i] (List.getElem?_eq_getElem hi)])
    (by
      rintro s ⟨ver, rfl⟩
      refine ⟨_, ?_, ver, rfl⟩
      rw [List.take_length]
      simp [ref24_View_l6, rSt, trim, allBelow, vr_ids])
  subst hQ
  refine ⟨ver, ?_⟩
  have hf : finish 0 (.ok (.osl 0 ver 26 0 (viewR g cats g).length)) [.live ⟨ver, 26, (viewR g cats g).map vrC⟩] = some (.ok (.osl 0 ver 26 0 (viewR g cats g).length), [.live ⟨ver, 26, (viewR g cats g).map vrC⟩]) :=
    finish_own 0 ver 26 _ _ _ rfl (vr_ids _) (fun f => vr_ren f _)
  have hq' := fun (k : Ex → List A → Heap → Option (Out × Heap)) => hq k
  simp [ref24_View]
  rw [hq']
  simp [ref24_View_k7, hf]
theorem rView_call (g : List Thing) (h : okN g) (hg : g.length < 900) (cats : List Int) (h2 : cats.length < 2 ^ 63) {β : Type} (H : Heap) (kp k : A → Heap → Option β) :
    (oLend ref24_View [mkF 26 (g.map thingC), mkF 1 (cats.map (cellC .u64))] H kp fun w h' => oFrz w h' k) = k (mkF 26 ((view g cats).map thingC)) (H ++ [.dead]) := by
  obtain ⟨ver, hv⟩ := rView_v g h cats h2
  have hle := viewR_le g cats g
  rw [oLend_own _ _ _ H kp _ ver 26 _ _ (by simp) (lendL_pure _ _ _ (by simp)) (fun f => vr_ren f _) hv]
  rw [oFrz_vr _ H.length ver _ (by omega) k (by simp)]
  simp [view]
end Go.Ab.T
