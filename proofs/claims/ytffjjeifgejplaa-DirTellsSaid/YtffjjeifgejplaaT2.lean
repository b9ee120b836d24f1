/-
  DIRECTORIES: what small functions come to.
-/
import Derived.Test.YtffjjeifgejplaaTSearch
import Derived.Test.YtffjjeifgejplaaFnF
set_option linter.unusedSimpArgs false
set_option linter.unusedVariables false
namespace Go.Ab.T
open Go Go.Ab Go.Ab.F

/-- How much a directory uses. -/
def used (t : Thing) : Int := t.links.foldl (fun n l => IntKind.i64.wrap (n + l.quota)) 1

theorem dir_Used_v (t : Thing) (hl : t.links.length < 2 ^ 63) : dir_Used [.agg (thingC t)] [] = some (.ok (.s (.int .i64 (used t))), []) := by
  simp [dir_Used]
  refine Eq.trans (oLoop_fold (enc := fun i n => ([.s (.int .i64 n), .s (.int .i64 i)], [Slot.live ⟨0, 26, [thingC t]⟩])) (fun n (l : Link) => IntKind.i64.wrap (n + l.quota))
    (fun n => (Ex.exit 0, [.s (.int .i64 n)], [Slot.live ⟨0, 26, [thingC t]⟩])) t.links 1 (by simp) hl ?_ ?_) ?_
  · intro i n c hc hi
    simp [dir_Used_l1, oIdxA_mkF _ _ _ _ _ _ _ hc, hi, wrap_succ hi hl, trim, allBelow]
  · intro n
    simp [dir_Used_l1, trim, allBelow]
  · simp [dir_Used_k2, finish_val, used]

theorem ref12_Used_v (t : Thing) (hl : t.links.length < 2 ^ 63) : ref12_Used [.agg (thingC t)] [] = some (.ok (.s (.int .i64 (used t))), []) := by
  simp [ref12_Used]
  refine Eq.trans (oLoop_fold (enc := fun i n => ([.s (.int .i64 n), .s (.int .i64 i)], [Slot.live ⟨0, 26, [thingC t]⟩])) (fun n (l : Link) => IntKind.i64.wrap (n + l.quota))
    (fun n => (Ex.exit 0, [.s (.int .i64 n)], [Slot.live ⟨0, 26, [thingC t]⟩])) t.links 1 (by simp) hl ?_ ?_) ?_
  · intro i n c hc hi
    simp [ref12_Used_l1, oIdxA_mkF _ _ _ _ _ _ _ hc, hi, wrap_succ hi hl, trim, allBelow]
  · intro n
    simp [ref12_Used_l1, trim, allBelow]
  · simp [ref12_Used_k2, finish_val, used]

theorem ref12_Has_v (t : Thing) (id : Int) (hl : t.links.length < 2 ^ 63) : ref12_Has [.agg (thingC t), .s (.int .u64 id)] [] = some (.ok (.s (.bool ((t.links.find? (fun l => l.id == id)).isSome))), []) := by
  simp [ref12_Has]
  refine Eq.trans (oLoop_find (enc := fun i => ([.s (.int .i64 i)], [Slot.live ⟨0, 26, [thingC t]⟩])) (fun (l : Link) => l.id == id)
    (fun c => (Ex.ret, [.s (.bool true)], [Slot.live ⟨0, 26, [thingC t]⟩])) (Ex.exit 0, [.any], [Slot.live ⟨0, 26, [thingC t]⟩]) t.links (by simp) hl ?_ ?_) ?_
  · intro i c hc hi
    simp [ref12_Has_l1, oIdxA_mkF _ _ _ _ _ _ _ hc, hi, wrap_succ hi hl, trim, allBelow]
  · simp [ref12_Has_l1, trim, allBelow]
  · cases h : t.links.find? (fun l => l.id == id) <;> simp [ref12_Has_k2, finish_val]


/-- The next name. -/
def fresh (t : Thing) : Int × Int :=
  if t.next < 63 ∧ t.id < 4398046511104 then (IntKind.u64.wrap (IntKind.u64.wrap (IntKind.u64.wrap (t.id * 64) + IntKind.u64.wrap t.next) + 1), 0) else (0, 125)
def rfresh (t : Thing) : Int × Int :=
  if t.next ≠ 63 ∧ ¬ 4398046511103 < t.id then (IntKind.u64.wrap (IntKind.u64.wrap (64 * t.id) + IntKind.u64.wrap (IntKind.i64.wrap (t.next + 1))), 0) else (0, 125)

theorem dir_Fresh_v (t : Thing) : dir_Fresh [.agg (thingC t)] [] = some (.ok (.tup [.s (.int .u64 (fresh t).1), .s (.int .i64 (fresh t).2)]), []) := by
  by_cases h1 : t.next < 63 <;> by_cases h2 : t.id < 4398046511104 <;> simp [dir_Fresh, dir_Fresh_k1, trim, allBelow, finish_val, fresh, h1, h2]
theorem ref12_Fresh_v (t : Thing) : ref12_Fresh [.agg (thingC t)] [] = some (.ok (.tup [.s (.int .u64 (rfresh t).1), .s (.int .i64 (rfresh t).2)]), []) := by
  by_cases h1 : t.next = 63 <;> by_cases h2 : 4398046511103 < t.id <;> simp [ref12_Fresh, ref12_Fresh_k1, trim, allBelow, finish_val, rfresh, h1, h2]
theorem ref11_id_v (id : Int) : ref11_id [.s (.int .u64 id)] [] = some (.ok (.s (.bool (decide (1 ≤ id ∧ id < 281474976710656)))), []) := by
  by_cases h1 : 1 ≤ id <;> simp [ref11_id, finish_val, h1]

/-- Compared numbers. -/
def cmpI (a b : Int) : Int := if a < b then -1 else if b < a then 1 else 0
theorem cmp_isNaN_v (a : Int) : cmp_isNaN_uint64 [.s (.int .u64 a)] [] = some (.ok (.s (.bool false)), []) := by
  simp [cmp_isNaN_uint64, finish_val]
theorem cmp_Compare_v (a b : Int) : cmp_Compare_uint64 [.s (.int .u64 a), .s (.int .u64 b)] [] = some (.ok (.s (.int .i64 (cmpI a b))), []) := by
  have h : ∀ (β : Type) (x : Int) (h : Heap) (kp k : A → Heap → Option β), oLend cmp_isNaN_uint64 [.s (.int .u64 x)] h kp k = k (.s (.bool false)) h := fun β x h kp k =>
    oLend_val _ _ _ _ _ _ (by simp [pureL, pureA]) (by simp) (cmp_isNaN_v x)
  simp only [cmp_Compare_uint64, h, oFrz_bool, oCond_s, oCmp_s, if_true, cmpInt_lss, cmpInt_gtr, cmpI]
  by_cases h1 : a < b <;> by_cases h2 : b < a <;> simp [h1, h2, finish_val]

theorem dir_place_c1_v (l : Link) (id : Int) : dir_place_c1 [.agg (linkC l), .s (.int .u64 id)] [] = some (.ok (.s (.int .i64 (cmpI l.id id))), []) := by
  have h : ∀ (β : Type) (x y : Int) (h : Heap) (kp k : A → Heap → Option β), oLend cmp_Compare_uint64 [.s (.int .u64 x), .s (.int .u64 y)] h kp k = k (.s (.int .i64 (cmpI x y))) h := fun β x y h kp k =>
    oLend_val _ _ _ _ _ _ (by simp [pureL, pureA]) (by simp) (cmp_Compare_v x y)
  simp [dir_place_c1, h, finish_val]

/-- Links in order. -/
def sortedL (ls : List Link) : Prop := ∀ (i : Nat) a b, ls[i]? = some a → ls[i + 1]? = some b → a.id < b.id
/-- Where a link is, or would be. -/
def place (ls : List Link) (id : Int) : Nat := (ls.takeWhile (fun l => decide (l.id < id))).length
def has (ls : List Link) (id : Int) : Bool := (ls.find? (fun l => l.id == id)).isSome

theorem sortedL_tail {a : Link} {ls : List Link} (h : sortedL (a :: ls)) : sortedL ls := fun i x y hx hy => h (i + 1) x y (by simpa using hx) (by simpa using hy)
theorem sortedL_lt {a : Link} {ls : List Link} (h : sortedL (a :: ls)) : ∀ x ∈ ls, a.id < x.id := by
  induction ls generalizing a with
  | nil => simp
  | cons b ls ih =>
    have hab : a.id < b.id := h 0 a b (by simp) (by simp)
    intro x hx
    rcases List.mem_cons.1 hx with rfl | hx
    · exact hab
    · exact Int.lt_trans hab (ih (sortedL_tail h) x hx)
theorem place_le (ls : List Link) (id : Int) : place ls id ≤ ls.length := (List.takeWhile_sublist _).length_le
theorem place_lt {ls : List Link} (h : sortedL ls) (id : Int) : ∀ i l, ls[i]? = some l → (l.id < id ↔ i < place ls id) := by
  induction ls with
  | nil => simp
  | cons a ls ih =>
    have ih := ih (sortedL_tail h)
    intro i l hl
    by_cases ha : a.id < id
    · cases i with
      | zero => simp at hl; subst hl; simp [place, ha]
      | succ i =>
        simp only [List.getElem?_cons_succ] at hl
        rw [ih i l hl]; simp [place, ha]
    · have hp : place (a :: ls) id = 0 := by simp [place, ha]
      rw [hp]
      constructor
      · intro hli
        cases i with
        | zero => simp at hl; subst hl; exact absurd hli ha
        | succ i =>
          simp only [List.getElem?_cons_succ] at hl
          have := sortedL_lt h l (List.mem_of_getElem? hl)
          omega
      · intro hi; omega
theorem place_has {ls : List Link} (h : sortedL ls) (id : Int) : (ls[place ls id]?.any fun x => decide (cmpI x.id id = 0)) = has ls id := by
  have hz : ∀ a b : Int, decide (cmpI a b = 0) = decide (a = b) := fun a b => by
    unfold cmpI; by_cases h1 : a < b <;> by_cases h2 : b < a <;> simp [h1, h2] <;> omega
  induction ls with
  | nil => simp [has, place]
  | cons a ls ih =>
    have ih := ih (sortedL_tail h)
    by_cases ha : a.id < id
    · have hp : place (a :: ls) id = place ls id + 1 := by simp [place, ha]
      rw [hp]
      simp only [List.getElem?_cons_succ]
      rw [ih]
      have : (a.id == id) = false := by simp; omega
      simp [has, this]
    · have hp : place (a :: ls) id = 0 := by simp [place, ha]
      rw [hp]
      simp only [List.getElem?_cons_zero, hz]
      by_cases he : a.id = id
      · simp [has, he]
      · have h1 : (a.id == id) = false := by simpa using he
        have h2 : ls.find? (fun l => l.id == id) = none := by
          rw [List.find?_eq_none]
          intro x hx
          have := sortedL_lt h x hx
          simp; omega
        simp [has, h1, h2, he]

theorem search_link (En : String → CallFn) : slices_BinarySearchFunc_Sapi_Link_api_Link_uint64 En = gSearch 2 (some 2) En := by
  funext args objs; rcases args with _ | ⟨a0, _ | ⟨a1, _ | ⟨a2, _ | ⟨a3, r⟩⟩⟩⟩ <;> rfl
theorem dir_place_v (t : Thing) (id : Int) (hl : t.links.length < 2 ^ 63) (hs : sortedL t.links) :
    dir_place [.agg (thingC t), .s (.int .u64 id)] [] = some (.ok (.tup [.s (.int .i64 (place t.links id)), .s (.bool (has t.links id))]), []) := by
  have h1 := gSearch_v linkE En_dir_place "bailey/dir.place$1" [] (.s (.int .u64 id)) (fun l => cmpI l.id id) t.links (place t.links id) (by simp [pureL]) rfl rfl rfl
    (fun x _ => by simpa [En_dir_place, linkE] using dir_place_c1_v x id) hl (place_le _ _)
    (fun i l hl => by
      rw [← place_lt hs id i l hl]
      unfold cmpI; by_cases h1 : l.id < id <;> by_cases h2 : id < l.id <;> simp [h1, h2])
  rw [place_has hs] at h1
  have h : ∀ (β : Type) (h : Heap) (kp k : A → Heap → Option β), oLend (gSearch 2 (some 2) En_dir_place) [mkF 2 (t.links.map linkC), .s (.int .u64 id), .fn "bailey/dir.place$1" []] h kp k = k (.tup [.s (.int .i64 (place t.links id)), .s (.bool (has t.links id))]) h := fun β h kp k =>
    oLend_val _ _ _ _ _ _ (by simp [pureL, pureA]) (by simp) h1
  simp only [dir_place, search_link]
  simp [h, finish_val, oFrz_pure, pureA, pureL]
theorem dir_Has_v (t : Thing) (id : Int) (hl : t.links.length < 2 ^ 63) (hs : sortedL t.links) :
    dir_Has [.agg (thingC t), .s (.int .u64 id)] [] = some (.ok (.s (.bool (has t.links id))), []) := by
  have h : ∀ (β : Type) (h : Heap) (kp k : A → Heap → Option β), oLend dir_place [.agg (thingC t), .s (.int .u64 id)] h kp k = k (.tup [.s (.int .i64 (place t.links id)), .s (.bool (has t.links id))]) h := fun β h kp k =>
    oLend_val _ _ _ _ _ _ (by simp [pureL, pureA]) (by simp) (dir_place_v t id hl hs)
  simp [dir_Has, h, finish_val, oFrz_pure, pureA, pureL]
end Go.Ab.T
