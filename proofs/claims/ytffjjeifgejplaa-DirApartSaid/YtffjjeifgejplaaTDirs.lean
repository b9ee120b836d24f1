import Derived.Test.YtffjjeifgejplaaTKit
import Derived.Test.YtffjjeifgejplaaFnF
import Derived.Test.YtffjjeifgejplaaTLab
/-
  DIRECTORIES: what small functions come to.
-/
set_option linter.unusedSimpArgs false
set_option linter.unusedVariables false
namespace Go.Ab.T
open Go Go.Ab Go.Ab.F

/-- How much a directory uses. -/
def used (t : Thing) : Int := t.links.foldl (fun n l => IntKind.i64.wrap (n + l.quota)) 1

theorem dir_Used_v (t : Thing) (hl : t.links.length < 2 ^ 63) : dir_Used [.agg (thingC t)] [] = some (.ok (.s (.int .i64 (used t))), []) := by
  simp [dir_Used]
  refine Eq.trans (oLoop_fold (enc := fun i n => ([.s (.int .i64 n), .s (.int .i64 i)], [Slot.live ⟨0, 26, [thingC t]⟩])) (fun n (l : Link) => IntKind.i64.wrap (n + l.quota))
    (fun n => (Ex.exit 0, [.s (.int .i64 n)], [Slot.live ⟨0, 26, [thingC t]⟩])) t.links 1 (by simp) hl ?_ ?_) ?_
  · intro i n c hc hi
    simp [dir_Used_l1, oIdxA_mkF _ _ _ _ _ _ _ hc, hi, wrap_succ hi hl, trim, allBelow]
  · intro n
    simp [dir_Used_l1, trim, allBelow]
  · simp [dir_Used_k2, finish_val, used]

theorem ref12_Used_v (t : Thing) (hl : t.links.length < 2 ^ 63) : ref12_Used [.agg (thingC t)] [] = some (.ok (.s (.int .i64 (used t))), []) := by
  simp [ref12_Used]
  refine Eq.trans (oLoop_fold (enc := fun i n => ([.s (.int .i64 n), .s (.int .i64 i)], [Slot.live ⟨0, 26, [thingC t]⟩])) (fun n (l : Link) => IntKind.i64.wrap (n + l.quota))
    (fun n => (Ex.exit 0, [.s (.int .i64 n)], [Slot.live ⟨0, 26, [thingC t]⟩])) t.links 1 (by simp) hl ?_ ?_) ?_
  · intro i n c hc hi
    simp [ref12_Used_l1, oIdxA_mkF _ _ _ _ _ _ _ hc, hi, wrap_succ hi hl, trim, allBelow]
  · intro n
    simp [ref12_Used_l1, trim, allBelow]
  · simp [ref12_Used_k2, finish_val, used]

theorem ref12_Has_v (t : Thing) (id : Int) (hl : t.links.length < 2 ^ 63) : ref12_Has [.agg (thingC t), .s (.int .u64 id)] [] = some (.ok (.s (.bool ((t.links.find? (fun l => l.id == id)).isSome))), []) := by
  simp [ref12_Has]
  refine Eq.trans (oLoop_find (enc := fun i => ([.s (.int .i64 i)], [Slot.live ⟨0, 26, [thingC t]⟩])) (fun (l : Link) => l.id == id)
    (fun c => (Ex.ret, [.s (.bool true)], [Slot.live ⟨0, 26, [thingC t]⟩])) (Ex.exit 0, [.any], [Slot.live ⟨0, 26, [thingC t]⟩]) t.links (by simp) hl ?_ ?_) ?_
  · intro i c hc hi
    simp [ref12_Has_l1, oIdxA_mkF _ _ _ _ _ _ _ hc, hi, wrap_succ hi hl, trim, allBelow]
  · simp [ref12_Has_l1, trim, allBelow]
  · cases h : t.links.find? (fun l => l.id == id) <;> simp [ref12_Has_k2, finish_val]


/-- The next name. -/
def fresh (t : Thing) : Int × Int :=
  if t.next < 63 ∧ t.id < 4398046511104 then (IntKind.u64.wrap (IntKind.u64.wrap (IntKind.u64.wrap (t.id * 64) + IntKind.u64.wrap t.next) + 1), 0) else (0, 125)
def rfresh (t : Thing) : Int × Int :=
  if t.next ≠ 63 ∧ ¬ 4398046511103 < t.id then (IntKind.u64.wrap (IntKind.u64.wrap (64 * t.id) + IntKind.u64.wrap (IntKind.i64.wrap (t.next + 1))), 0) else (0, 125)

theorem dir_Fresh_v (t : Thing) : dir_Fresh [.agg (thingC t)] [] = some (.ok (.tup [.s (.int .u64 (fresh t).1), .s (.int .i64 (fresh t).2)]), []) := by
  by_cases h1 : t.next < 63 <;> by_cases h2 : t.id < 4398046511104 <;> simp [dir_Fresh, dir_Fresh_k1, trim, allBelow, finish_val, fresh, h1, h2]
theorem ref12_Fresh_v (t : Thing) : ref12_Fresh [.agg (thingC t)] [] = some (.ok (.tup [.s (.int .u64 (rfresh t).1), .s (.int .i64 (rfresh t).2)]), []) := by
  by_cases h1 : t.next = 63 <;> by_cases h2 : 4398046511103 < t.id <;> simp [ref12_Fresh, ref12_Fresh_k1, trim, allBelow, finish_val, rfresh, h1, h2]
theorem ref11_id_v (id : Int) : ref11_id [.s (.int .u64 id)] [] = some (.ok (.s (.bool (decide (1 ≤ id ∧ id < 281474976710656)))), []) := by
  by_cases h1 : 1 ≤ id <;> simp [ref11_id, finish_val, h1]

/-- Compared numbers. -/
def cmpI (a b : Int) : Int := if a < b then -1 else if b < a then 1 else 0
theorem cmp_isNaN_v (a : Int) : cmp_isNaN_uint64 [.s (.int .u64 a)] [] = some (.ok (.s (.bool false)), []) := by
  simp [cmp_isNaN_uint64, finish_val]
theorem cmp_Compare_v (a b : Int) : cmp_Compare_uint64 [.s (.int .u64 a), .s (.int .u64 b)] [] = some (.ok (.s (.int .i64 (cmpI a b))), []) := by
  have h : ∀ (β : Type) (x : Int) (h : Heap) (kp k : A → Heap → Option β), oLend cmp_isNaN_uint64 [.s (.int .u64 x)] h kp k = k (.s (.bool false)) h := fun β x h kp k =>
    oLend_val _ _ _ _ _ _ (by simp [pureL, pureA]) (by simp) (cmp_isNaN_v x)
  simp only [cmp_Compare_uint64, h, oFrz_bool, oCond_s, oCmp_s, if_true, cmpInt_lss, cmpInt_gtr, cmpI]
  by_cases h1 : a < b <;> by_cases h2 : b < a <;> simp [h1, h2, finish_val]

theorem dir_place_c1_v (l : Link) (id : Int) : dir_place_c1 [.agg (linkC l), .s (.int .u64 id)] [] = some (.ok (.s (.int .i64 (cmpI l.id id))), []) := by
  have h : ∀ (β : Type) (x y : Int) (h : Heap) (kp k : A → Heap → Option β), oLend cmp_Compare_uint64 [.s (.int .u64 x), .s (.int .u64 y)] h kp k = k (.s (.int .i64 (cmpI x y))) h := fun β x y h kp k =>
    oLend_val _ _ _ _ _ _ (by simp [pureL, pureA]) (by simp) (cmp_Compare_v x y)
  simp [dir_place_c1, h, finish_val]

/-- Links in order. -/
def sortedL (ls : List Link) : Prop := ∀ (i : Nat) a b, ls[i]? = some a → ls[i + 1]? = some b → a.id < b.id
/-- Where a link is, or would be. -/
def place (ls : List Link) (id : Int) : Nat := (ls.takeWhile (fun l => decide (l.id < id))).length
def has (ls : List Link) (id : Int) : Bool := (ls.find? (fun l => l.id == id)).isSome

theorem sortedL_tail {a : Link} {ls : List Link} (h : sortedL (a :: ls)) : sortedL ls := fun i x y hx hy => h (i + 1) x y (by simpa using hx) (by simpa using hy)
theorem sortedL_lt {a : Link} {ls : List Link} (h : sortedL (a :: ls)) : ∀ x ∈ ls, a.id < x.id := by
  induction ls generalizing a with
  | nil => simp
  | cons b ls ih =>
    have hab : a.id < b.id := h 0 a b (by simp) (by simp)
    intro x hx
    rcases List.mem_cons.1 hx with rfl | hx
    · exact hab
    · exact Int.lt_trans hab (ih (sortedL_tail h) x hx)
theorem place_le (ls : List Link) (id : Int) : place ls id ≤ ls.length := (List.takeWhile_sublist _).length_le
theorem place_lt {ls : List Link} (h : sortedL ls) (id : Int) : ∀ i l, ls[i]? = some l → (l.id < id ↔ i < place ls id) := by
  induction ls with
  | nil => simp
  | cons a ls ih =>
    have ih := ih (sortedL_tail h)
    intro i l hl
    by_cases ha : a.id < id
    · cases i with
      | zero => simp at hl; subst hl; simp [place, ha]
      | succ i =>
        simp only [List.getElem?_cons_succ] at hl
        rw [ih i l hl]; simp [place, ha]
    · have hp : place (a :: ls) id = 0 := by simp [place, ha]
      rw [hp]
      constructor
      · intro hli
        cases i with
        | zero => simp at hl; subst hl; exact absurd hli ha
        | succ i =>
          simp only [List.getElem?_cons_succ] at hl
          have := sortedL_lt h l (List.mem_of_getElem? hl)
          omega
      · intro hi; omega
theorem place_has {ls : List Link} (h : sortedL ls) (id : Int) : (ls[place ls id]?.any fun x => decide (cmpI x.id id = 0)) = has ls id := by
  have hz : ∀ a b : Int, decide (cmpI a b = 0) = decide (a = b) := fun a b => by
    unfold cmpI; by_cases h1 : a < b <;> by_cases h2 : b < a <;> simp [h1, h2] <;> omega
  induction ls with
  | nil => simp [has, place]
  | cons a ls ih =>
    have ih := ih (sortedL_tail h)
    by_cases ha : a.id < id
    · have hp : place (a :: ls) id = place ls id + 1 := by simp [place, ha]
      rw [hp]
      simp only [List.getElem?_cons_succ]
      rw [ih]
      have : (a.id == id) = false := by simp; omega
      simp [has, this]
    · have hp : place (a :: ls) id = 0 := by simp [place, ha]
      rw [hp]
      simp only [List.getElem?_cons_zero, hz]
      by_cases he : a.id = id
      · simp [has, he]
      · have h1 : (a.id == id) = false := by simpa using he
        have h2 : ls.find? (fun l => l.id == id) = none := by
          rw [List.find?_eq_none]
          intro x hx
          have := sortedL_lt h x hx
          simp; omega
        simp [has, h1, h2, he]

theorem search_link (En : String → CallFn) : slices_BinarySearchFunc_Sapi_Link_api_Link_uint64 En = gSearch 2 (some 2) En := by
  funext args objs; rcases args with _ | ⟨a0, _ | ⟨a1, _ | ⟨a2, _ | ⟨a3, r⟩⟩⟩⟩ <;> rfl
theorem dir_place_v (t : Thing) (id : Int) (hl : t.links.length < 2 ^ 63) (hs : sortedL t.links) :
    dir_place [.agg (thingC t), .s (.int .u64 id)] [] = some (.ok (.tup [.s (.int .i64 (place t.links id)), .s (.bool (has t.links id))]), []) := by
  have h1 := gSearch_v linkE En_dir_place "bailey/dir.place$1" [] (.s (.int .u64 id)) (fun l => cmpI l.id id) t.links (place t.links id) (by simp [pureL]) rfl rfl rfl
    (fun x _ => by simpa [En_dir_place, linkE] using dir_place_c1_v x id) hl (place_le _ _)
    (fun i l hl => by
      rw [← place_lt hs id i l hl]
      unfold cmpI; by_cases h1 : l.id < id <;> by_cases h2 : id < l.id <;> simp [h1, h2])
  rw [place_has hs] at h1
  have h : ∀ (β : Type) (h : Heap) (kp k : A → Heap → Option β), oLend (gSearch 2 (some 2) En_dir_place) [mkF 2 (t.links.map linkC), .s (.int .u64 id), .fn "bailey/dir.place$1" []] h kp k = k (.tup [.s (.int .i64 (place t.links id)), .s (.bool (has t.links id))]) h := fun β h kp k =>
    oLend_val _ _ _ _ _ _ (by simp [pureL, pureA]) (by simp) h1
  simp only [dir_place, search_link]
  simp [h, finish_val, oFrz_pure, pureA, pureL]
theorem dir_Has_v (t : Thing) (id : Int) (hl : t.links.length < 2 ^ 63) (hs : sortedL t.links) :
    dir_Has [.agg (thingC t), .s (.int .u64 id)] [] = some (.ok (.s (.bool (has t.links id))), []) := by
  have h : ∀ (β : Type) (h : Heap) (kp k : A → Heap → Option β), oLend dir_place [.agg (thingC t), .s (.int .u64 id)] h kp k = k (.tup [.s (.int .i64 (place t.links id)), .s (.bool (has t.links id))]) h := fun β h kp k =>
    oLend_val _ _ _ _ _ _ (by simp [pureL, pureA]) (by simp) (dir_place_v t id hl hs)
  simp [dir_Has, h, finish_val, oFrz_pure, pureA, pureL]
end Go.Ab.T

/-
  THE DOCUMENT'S THINGS: which directories can be?
-/
set_option linter.unusedSimpArgs false
set_option linter.unusedVariables false
namespace Go.Ab.T
open Go Go.Ab Go.Ab.F

/-- A link that can stand at a place. -/
def goodAt (ls : List Link) (j : Nat) (l : Link) : Prop := 1 ≤ l.id ∧ l.id < 281474976710656 ∧ 1 ≤ l.quota ∧ l.quota ≤ 48 ∧ (0 < j → ∀ p, ls[j - 1]? = some p → p.id < l.id) ∧ j < 16
def goodL (ls : List Link) : Prop := ∀ (j : Nat) (l : Link), ls[j]? = some l → goodAt ls j l

/-- A bare thing. -/
def bareT (id kind : Int) (label : Label) (quota : Int) : Thing := ⟨id, kind, label, ⟨0, []⟩, quota, 0, [], [], 0, 0, 0, 0, 0, 0, false, 0, ⟨0, 0⟩, ⟨0, 0⟩, ⟨0, 0⟩, ⟨0, 0⟩⟩

def sumTo (ls : List Link) (i : Nat) : Int := (ls.take i).foldl (fun n l => IntKind.i64.wrap (n + l.quota)) 1
theorem sumTo_succ (ls : List Link) (i : Nat) (l : Link) (h : ls[i]? = some l) : sumTo ls (i + 1) = IntKind.i64.wrap (sumTo ls i + l.quota) := by
  have hi : i < ls.length := by
    rcases Nat.lt_or_ge i ls.length with h' | h'
    · exact h'
    · rw [List.getElem?_eq_none h'] at h; exact absurd h (by simp)
  have : ls[i] = l := by rw [List.getElem?_eq_getElem hi] at h; simpa using h
  simp [sumTo, List.take_add_one, h]

theorem Right_links (t : Thing) (hl : t.links.length < 2 ^ 63) (row : List A) (hr : idsL row = []) :
    ∃ q : Ex × List A × Heap, ((∃ n, q = (.ret, [.s (.bool false), .s (.int .i64 n)], [Go.Ab.Slot.live ⟨0, 26, [thingC t]⟩, Go.Ab.Slot.live ⟨0, 26, [row]⟩]) ∧ ¬ goodL t.links) ∨ (q = (.exit 1, [.any, .s (.int .i64 (used t))], [Go.Ab.Slot.live ⟨0, 26, [thingC t]⟩, Go.Ab.Slot.live ⟨0, 26, [row]⟩]) ∧ goodL t.links)) ∧
      ∀ {β : Type} (k : Ex → List A → Heap → Option β), oLoop (ref11_Right_l2 (.s (.int .i64 t.links.length)) (mkF 2 (t.links.map linkC)) (.ptr 0 0 0 0) [Go.Ab.Slot.live ⟨0, 26, [thingC t]⟩, Go.Ab.Slot.live ⟨0, 26, [row]⟩]) ([.s (.int .i64 1), .s (.int .i64 0)], [Go.Ab.Slot.live ⟨0, 26, [thingC t]⟩, Go.Ab.Slot.live ⟨0, 26, [row]⟩]) k = k q.1 q.2.1 q.2.2 := by
  have hid : ∀ (β : Type) (n0 : Nat) (wr : List Nat) (id : Int) (h : Heap) (k : A → Heap → Option β), oCallF n0 wr ref11_id [.s (.int .u64 id)] h k = k (.s (.bool (decide (1 ≤ id ∧ id < 281474976710656)))) h := fun β n0 wr id h k =>
    oCallF_val _ _ _ _ _ _ _ (by simp) (by simp) (ref11_id_v id)
  exact oLoop_inv' (step := ref11_Right_l2 (.s (.int .i64 t.links.length)) (mkF 2 (t.links.map linkC)) (.ptr 0 0 0 0) [Go.Ab.Slot.live ⟨0, 26, [thingC t]⟩, Go.Ab.Slot.live ⟨0, 26, [row]⟩]) (s0 := ([.s (.int .i64 1), .s (.int .i64 0)], [Go.Ab.Slot.live ⟨0, 26, [thingC t]⟩, Go.Ab.Slot.live ⟨0, 26, [row]⟩]))
    (fun i s => s = ([.s (.int .i64 (sumTo t.links i)), .s (.int .i64 i)], [Go.Ab.Slot.live ⟨0, 26, [thingC t]⟩, Go.Ab.Slot.live ⟨0, 26, [row]⟩]) ∧ ∀ j l, j < i → t.links[j]? = some l → goodAt t.links j l)
    (fun q => (∃ n, q = (.ret, [.s (.bool false), .s (.int .i64 n)], [Go.Ab.Slot.live ⟨0, 26, [thingC t]⟩, Go.Ab.Slot.live ⟨0, 26, [row]⟩]) ∧ ¬ goodL t.links) ∨ (q = (.exit 1, [.any, .s (.int .i64 (used t))], [Go.Ab.Slot.live ⟨0, 26, [thingC t]⟩, Go.Ab.Slot.live ⟨0, 26, [row]⟩]) ∧ goodL t.links))
    t.links.length ⟨rfl, fun j l hj => by omega⟩ hl
    (by
      rintro i s hi ⟨rfl, hg⟩
      have hx : t.links[i]? = some t.links[i] := by simp [hi]
      have hw := wrap_succ hi hl
      have hbad : ¬ goodAt t.links i t.links[i] → ¬ goodL t.links := fun hb hgl => hb (hgl i _ hx)
      have hss := sumTo_succ t.links i _ hx
      generalize hlk : t.links[i] = l at hx hbad hss
      have hok : goodAt t.links i l → ∀ j m, j < i + 1 → t.links[j]? = some m → goodAt t.links j m := fun hgi j m hj hm => by
        rcases Nat.lt_or_ge j i with h | h
        · exact hg j m h hm
        · obtain rfl : j = i := by omega
          rw [hx] at hm; cases hm; exact hgi
      by_cases c1 : 1 ≤ l.id ∧ l.id < 281474976710656
      · by_cases c2 : l.quota < 1
        · right
          exact ⟨(.ret, [.s (.bool false), .s (.int .i64 (sumTo t.links i))], [Go.Ab.Slot.live ⟨0, 26, [thingC t]⟩, Go.Ab.Slot.live ⟨0, 26, [row]⟩]), by simp [ref11_Right_l2, ref11_Right_k1, oLoadD, hi, oIdxA_mkF _ _ _ _ _ _ _ hx, hid, trim, allBelow, hr, c1, c2], .inl ⟨_, rfl, hbad fun g => by have := g.2.2.1; omega⟩⟩
        · by_cases c3 : 48 < l.quota
          · right
            exact ⟨(.ret, [.s (.bool false), .s (.int .i64 (sumTo t.links i))], [Go.Ab.Slot.live ⟨0, 26, [thingC t]⟩, Go.Ab.Slot.live ⟨0, 26, [row]⟩]), by simp [ref11_Right_l2, ref11_Right_k1, oLoadD, hi, oIdxA_mkF _ _ _ _ _ _ _ hx, hid, trim, allBelow, hr, c1, c2, c3], .inl ⟨_, rfl, hbad fun g => by have := g.2.2.2.1; omega⟩⟩
          · by_cases c4 : i = 0
            · left
              have c4' : ¬ (0 : Int) < i := by omega
              have c4n : ¬ 0 < i := by omega
              have c6 : ¬ (16 : Int) ≤ i := by omega
              exact ⟨([.s (.int .i64 (sumTo t.links (i + 1))), .s (.int .i64 (i + 1 : Nat))], [Go.Ab.Slot.live ⟨0, 26, [thingC t]⟩, Go.Ab.Slot.live ⟨0, 26, [row]⟩]), by rw [hss]; simp [ref11_Right_l2, ref11_Right_k1, oLoadD, hi, oIdxA_mkF _ _ _ _ _ _ _ hx, hid, trim, allBelow, hr, hw, c1, c2, c3, c4', c4n, c6], rfl, hok ⟨c1.1, c1.2, by omega, by omega, fun h => by omega, by omega⟩⟩
            · have hprev : t.links[i - 1]? = some t.links[i - 1] := List.getElem?_eq_getElem (by omega)
              have hwm : IntKind.i64.wrap ((i : Int) - 1) = ((i - 1 : Nat) : Int) := by rw [wrap64_id (by omega) (by omega)]; omega
              generalize t.links[i - 1] = p at hprev
              have c4' : (0 : Int) < i := by omega
              have c4n : 0 < i := by omega
              have hpm := fun {β : Type} (k : A → Option β) => oIdxA_mkF 2 linkC t.links .i64 (i - 1) p k hprev
              by_cases c5 : l.id ≤ p.id
              · right
                exact ⟨(.ret, [.s (.bool false), .s (.int .i64 (sumTo t.links i))], [Go.Ab.Slot.live ⟨0, 26, [thingC t]⟩, Go.Ab.Slot.live ⟨0, 26, [row]⟩]), by simp [ref11_Right_l2, ref11_Right_k1, oLoadD, hi, oIdxA_mkF _ _ _ _ _ _ _ hx, hid, trim, allBelow, hr, c1, c2, c3, c4', c4n, c5, hwm, hpm], .inl ⟨_, rfl, hbad fun g => by have := g.2.2.2.2.1 (by omega) p hprev; omega⟩⟩
              · by_cases c6 : (16 : Int) ≤ i
                · right
                  exact ⟨(.ret, [.s (.bool false), .s (.int .i64 (sumTo t.links i))], [Go.Ab.Slot.live ⟨0, 26, [thingC t]⟩, Go.Ab.Slot.live ⟨0, 26, [row]⟩]), by simp [ref11_Right_l2, ref11_Right_k1, oLoadD, hi, oIdxA_mkF _ _ _ _ _ _ _ hx, hid, trim, allBelow, hr, c1, c2, c3, c4', c4n, c5, c6, hwm, hpm], .inl ⟨_, rfl, hbad fun g => by have := g.2.2.2.2.2; omega⟩⟩
                · left
                  exact ⟨([.s (.int .i64 (sumTo t.links (i + 1))), .s (.int .i64 (i + 1 : Nat))], [Go.Ab.Slot.live ⟨0, 26, [thingC t]⟩, Go.Ab.Slot.live ⟨0, 26, [row]⟩]), by rw [hss]; simp [ref11_Right_l2, ref11_Right_k1, oLoadD, hi, oIdxA_mkF _ _ _ _ _ _ _ hx, hid, trim, allBelow, hr, hw, c1, c2, c3, c4', c4n, c5, c6, hwm, hpm], rfl, hok ⟨c1.1, c1.2, by omega, by omega, fun h q hq => by rw [hprev] at hq; cases hq; omega, by omega⟩⟩
      · right
        exact ⟨(.ret, [.s (.bool false), .s (.int .i64 (sumTo t.links i))], [Go.Ab.Slot.live ⟨0, 26, [thingC t]⟩, Go.Ab.Slot.live ⟨0, 26, [row]⟩]), by simp [ref11_Right_l2, ref11_Right_k1, oLoadD, hi, oIdxA_mkF _ _ _ _ _ _ _ hx, hid, trim, allBelow, hr, c1], .inl ⟨_, rfl, hbad fun g => c1 ⟨g.1, g.2.1⟩⟩⟩)
    (by
      rintro s ⟨rfl, hg⟩
      refine ⟨_, ?_, .inr ⟨rfl, fun j l hj => hg j l (by
        rcases Nat.lt_or_ge j t.links.length with h' | h'
        · exact h'
        · rw [List.getElem?_eq_none h'] at hj; exact absurd hj (by simp)) hj⟩⟩
      have hs : sumTo t.links t.links.length = used t := by simp [sumTo, used]
      simp [ref11_Right_l2, hs, trim, allBelow, hr])
end Go.Ab.T

/-
  THE DOCUMENT'S THINGS: which directories can be?
-/
set_option linter.unusedSimpArgs false
set_option linter.unusedVariables false
namespace Go.Ab.T
open Go Go.Ab Go.Ab.F

/-- Can it be a label? -/
noncomputable def lr (l : Label) : Bool := if h : l.cats.length < 2 ^ 63 then Classical.choose (ref09_Right_v l h) else false
theorem lr_v (l : Label) (h : l.cats.length < 2 ^ 63) : ref09_Right [.agg (labelC l)] [] = some (.ok (.s (.bool (lr l))), []) := by
  unfold lr; rw [dif_pos h]; exact (Classical.choose_spec (ref09_Right_v l h)).1
theorem lr_len (l : Label) (h : lr l = true) : l.cats.length ≤ 6 := by
  unfold lr at h
  split at h
  · rename_i hl; exact (Classical.choose_spec (ref09_Right_v l hl)).2 h
  · cases h

def bareOf (t : Thing) : Thing := { t with next := 0, links := [] }
/-- Can it be a directory? -/
structure dirRight (t : Thing) : Prop where
  id1 : 1 ≤ t.id
  id2 : t.id < 281474976710656
  label : lr t.label = true
  pure : pure t.label = true
  links : goodL t.links
  quota1 : 1 ≤ t.quota
  quota2 : t.quota ≤ 48
  room : used t ≤ t.quota
  next1 : 0 ≤ t.next
  next2 : t.next ≤ 63
  bare : bareOf t = bareT t.id t.kind t.label t.quota

def rowB (t : Thing) : List A := [.s (.int .u64 t.id), .s (.int .i64 t.kind), .s (.int .i64 t.label.df), mkF 2 (t.label.cats.map catC), .s (.int .i64 t.clear.df), mkF 2 (t.clear.cats.map catC), .s (.int .i64 t.quota), .s (.int .i64 0), .s (.slice none 0 0), mkF 1 (t.data.map (cellC .u8)), .s (.int .u64 t.r0), .s (.int .u64 t.r1), .s (.int .u64 t.r2), .s (.int .u64 t.r3), .s (.int .i64 t.minted), .s (.int .i64 t.boot), .s (.bool t.halted), .s (.int .u64 t.value), .s (.int .u64 t.s0.dir), .s (.int .u64 t.s0.seg), .s (.int .u64 t.s1.dir), .s (.int .u64 t.s1.seg), .s (.int .u64 t.s2.dir), .s (.int .u64 t.s2.seg), .s (.int .u64 t.s3.dir), .s (.int .u64 t.s3.seg)]
theorem rowB_ids (t : Thing) : idsL (rowB t) = [] := rfl
def rowL (t : Thing) : List A := [.s (.int .u64 t.id), .s (.int .i64 t.kind), .s (.int .i64 t.label.df), mkF 2 (t.label.cats.map catC), .s (.int .i64 0), .s (.slice none 0 0), .s (.int .i64 t.quota), .s (.int .i64 0), .s (.slice none 0 0), .s (.slice none 0 0), .s (.int .u64 0), .s (.int .u64 0), .s (.int .u64 0), .s (.int .u64 0), .s (.int .i64 0), .s (.int .i64 0), .s (.bool false), .s (.int .u64 0), .s (.int .u64 0), .s (.int .u64 0), .s (.int .u64 0), .s (.int .u64 0), .s (.int .u64 0), .s (.int .u64 0), .s (.int .u64 0), .s (.int .u64 0)]

theorem put_next (t : Thing) : putCells (putCells (thingC t) 7 [.s (.int .i64 0)]) 8 [.s (.slice none 0 0)] = rowB t := rfl
theorem Right_start (t : Thing) (hk : t.kind = 1) (h1 : t.label.cats.length < 2 ^ 63) : ref11_Right [.agg (thingC t)] [] =
    ref11_Right_k14 [] (.ptr 0 0 0 0) .normal [.s (.bool (!(decide (1 ≤ t.id ∧ t.id < 281474976710656) && (lr t.label && pure t.label))))] [Go.Ab.Slot.live ⟨0, 26, [thingC t]⟩] := by
  have hid : ∀ (β : Type) (id : Int) (h : Heap) (kp k : A → Heap → Option β), oLend ref11_id [.s (.int .u64 id)] h kp k = k (.s (.bool (decide (1 ≤ id ∧ id < 281474976710656)))) h := fun β id h kp k =>
    oLend_val _ _ _ _ _ _ (by simp) (by simp) (ref11_id_v id)
  have hlr : ∀ (β : Type) (h : Heap) (kp k : A → Heap → Option β), oLend ref09_Right [.agg (labelC t.label)] h kp k = k (.s (.bool (lr t.label))) h := fun β h kp k =>
    oLend_val _ _ _ _ _ _ (by simp) (by simp) (lr_v _ h1)
  have hpu : ∀ (β : Type) (h : Heap) (kp k : A → Heap → Option β), oLend ref10_Pure [.agg (labelC t.label)] h kp k = k (.s (.bool (pure t.label))) h := fun β h kp k =>
    oLend_val _ _ _ _ _ _ (by simp) (by simp) (ref10_Pure_v _ h1)
  by_cases c1 : 1 ≤ t.id ∧ t.id < 281474976710656
  · cases c2 : lr t.label <;> simp [ref11_Right, hid, hlr, hpu, hk, c1, c2, trim, allBelow]
  · simp [ref11_Right, hid, hlr, hpu, hk, c1, trim, allBelow]

theorem Right_dir (t : Thing) (ok : okT1 t) (hk : t.kind = 1) : ∃ b : Bool, ref11_Right [.agg (thingC t)] [] = some (.ok (.s (.bool b)), []) ∧ (b = true ↔ dirRight t) := by
  have hS : ∀ (β : Type) (h : Heap) (kp k : A → Heap → Option β), oLend ref11_Same [.agg (rowB t), .agg (rowL t)] h kp k = k (.s (.bool (decide (bareOf t = bareT t.id t.kind t.label t.quota)))) h := fun β h kp k =>
    oLend_val' _ _ [.agg (thingC (bareOf t)), .agg (thingC (bareT t.id t.kind t.label t.quota))] _ _ _ _ (by simp [rowB, rowL]) (lend_agg2 _ _ _ _ _ (by simp [rowB]) (by simp [rowB]) (by simp [rowB, thingC, bareOf]) (by simp [rowL]) (by simp [rowL]) (by simp [rowL, thingC, bareT])) (by simp)
      (ref11_Same_v _ _ ⟨ok.label, ok.clear, by simp [bareOf], ok.data⟩ ⟨ok.label, by simp [bareT], by simp [bareT], by intro n hn; simp [bareT] at hn⟩)
  rw [Right_start t hk ok.label]
  by_cases c1 : (1 ≤ t.id ∧ t.id < 281474976710656) ∧ lr t.label = true ∧ pure t.label = true
  · obtain ⟨c1, c2, c3⟩ := c1
    obtain ⟨q, hQ, hq⟩ := Right_links t ok.links (rowB t) (rowB_ids t)
    have hB : (decide (1 ≤ t.id ∧ t.id < 281474976710656) && (lr t.label && pure t.label)) = true := by simp [c1, c2, c3]
    have hpl : (putCells (thingC t) 7 [.s (.int .i64 0)]).length = 26 := rfl
    rw [hB]
    have hrun : ref11_Right_k14 [] (.ptr 0 0 0 0) .normal [.s (.bool (!true))] [Go.Ab.Slot.live ⟨0, 26, [thingC t]⟩] =
        oJoin (oLoop (ref11_Right_l2 (.s (.int .i64 t.links.length)) (mkF 2 (t.links.map linkC)) (.ptr 0 0 0 0) [Go.Ab.Slot.live ⟨0, 26, [thingC t]⟩, Go.Ab.Slot.live ⟨0, 26, [rowB t]⟩]) ([.s (.int .i64 1), .s (.int .i64 0)], [Go.Ab.Slot.live ⟨0, 26, [thingC t]⟩, Go.Ab.Slot.live ⟨0, 26, [rowB t]⟩])
          (ref11_Right_k4 (.ptr 0 0 0 0) [Go.Ab.Slot.live ⟨0, 26, [thingC t]⟩, Go.Ab.Slot.live ⟨0, 26, [thingC t]⟩] (.s (.int .i64 t.quota)))) (ref11_Right_k13 (.ptr 0 0 0 0) (.ptr 1 0 0 0) []) := by
      simp [ref11_Right_k14, hk, put_next, hpl]
    rw [hrun, hq]
    have no : ∀ vs H, (∃ a, vs = [A.s (.bool false), a]) → ref11_Right_k13 (.ptr 0 0 0 0) (.ptr 1 0 0 0) [] .ret vs H = some (.ok (.s (.bool false)), []) := by
      rintro vs H ⟨a, rfl⟩
      simp [ref11_Right_k13, finish_val]
    rcases hQ with ⟨⟨n, rfl, hg⟩⟩ | ⟨rfl, hg⟩
    · refine ⟨false, ?_, by simp only [Bool.false_eq_true, false_iff]; exact fun h => hg h.links⟩
      simp [ref11_Right_k4, trim, allBelow, rowB_ids, ref11_Right_k13, finish_val]
    · by_cases d : 1 ≤ t.quota ∧ t.quota ≤ 48 ∧ used t ≤ t.quota ∧ 0 ≤ t.next ∧ t.next ≤ 63
      · obtain ⟨d1, d2, d3, d4, d5⟩ := d
        have e1 : ¬ t.quota < 1 := by omega
        have e2 : ¬ 48 < t.quota := by omega
        have e3 : ¬ t.quota < used t := by omega
        have e4 : ¬ t.next < 0 := by omega
        have e5 : ¬ 63 < t.next := by omega
        refine ⟨decide (bareOf t = bareT t.id t.kind t.label t.quota), ?_, ?_⟩
        · simp [ref11_Right_k4, ref11_Right_k3, trim, allBelow, rowB_ids, e1, e2, e3, e4, e5]
          have hB2 : cellsAt (some 26) (rowB t) 0 = some (.agg (rowB t)) := rfl
          simp only [rowL] at hS
          simp [ref11_Right_k13, hB2, putCells, labelC, hS, finish_val]
        · simp only [decide_eq_true_eq]
          exact ⟨fun h => ⟨c1.1, c1.2, c2, c3, hg, d1, d2, d3, d4, d5, h⟩, fun h => h.bare⟩
      · refine ⟨false, ?_, by simp only [Bool.false_eq_true, false_iff]; exact fun h => d ⟨h.quota1, h.quota2, h.room, h.next1, h.next2⟩⟩
        by_cases e1 : t.quota < 1
        · simp [ref11_Right_k4, ref11_Right_k3, trim, allBelow, rowB_ids, e1, ref11_Right_k13, finish_val]
        by_cases e2 : 48 < t.quota
        · simp [ref11_Right_k4, ref11_Right_k3, trim, allBelow, rowB_ids, e1, e2, ref11_Right_k13, finish_val]
        by_cases e3 : t.quota < used t
        · simp [ref11_Right_k4, ref11_Right_k3, trim, allBelow, rowB_ids, e1, e2, e3, ref11_Right_k13, finish_val]
        by_cases e4 : t.next < 0
        · simp [ref11_Right_k4, ref11_Right_k3, trim, allBelow, rowB_ids, e1, e2, e3, e4, ref11_Right_k13, finish_val]
        have e5 : 63 < t.next := by omega
        simp [ref11_Right_k4, ref11_Right_k3, trim, allBelow, rowB_ids, e1, e2, e3, e4, e5, ref11_Right_k13, finish_val]
  · refine ⟨false, ?_, ?_⟩
    · have : (decide (1 ≤ t.id ∧ t.id < 281474976710656) && (lr t.label && pure t.label)) = false := by
        simpa using c1
      rw [this]
      simp [ref11_Right_k14, finish_val]
    · simp only [Bool.false_eq_true, false_iff]
      exact fun h => c1 ⟨⟨h.id1, h.id2⟩, h.label, h.pure⟩
end Go.Ab.T

/-
  COPIES OF THINGS.
-/
set_option linter.unusedSimpArgs false
set_option linter.unusedVariables false
namespace Go.Ab
open Go

theorem oCallF_own {β : Type} (n0 : Nat) (wr : List Nat) (F : CallFn) (args : List A) (h : Heap) (k : A → Heap → Option β) (ver sz n : Nat) (rows : List (List A)) (ha : pureL args = true) (hp : ∀ f, renRows f rows = some rows)
    (hF : F args [] = some (.ok (.osl 0 ver sz 0 n), [.live ⟨ver, sz, rows⟩])) :
    oCallF n0 wr F args h k = k (.osl h.length ver sz 0 n) (h ++ [.live ⟨ver, sz, rows⟩]) := by
  have hi : (idsL args).isEmpty = true := by rw [pureL_ids args ha]; rfl
  have hl : lendL lendFuel args [] = some args := lendL_pure 999 _ _ ha
  unfold oCallF
  rw [if_pos hi, hl]
  simp only [hF]
  simp [hi, giveBack, backIdx, hp, setAll]

theorem renHeap_flat (f : Nat → Option Nat) : ∀ (l : Heap), (∀ s ∈ l, renSlot f s = some s) → renHeap f l = some l
  | [], _ => rfl
  | s :: l, h => by simp [renHeap_cons, h s (by simp), renHeap_flat f l fun x hx => h x (by simp [hx])]

/-- The last act of a function whose value leads to some objects, of pure rows. -/
theorem finish_flat (a a' : A) (l : List Nat) (H : Heap) (ha : idsA a = l) (hnd : l.Nodup) (hl : l.length < 1000) (hs : ∀ id ∈ l, (H.getD id .dead).ids = [] ∧ ∀ f, renSlot f (H.getD id .dead) = some (H.getD id .dead)) (hr : renA (idx l) a = some a') :
    finish 0 (.ok a) H = some (.ok a', l.map fun id => H.getD id .dead) := by
  have h1 : reach H reachFuel [] l = l := by
    rw [reach_flat H l [] reachFuel (fun id hid => (hs id hid).1) (by simpa using hnd) (by simp [reachFuel]; omega)]; simp
  have h2 : renHeap (idx l) (l.map fun id => H.getD id .dead) = some (l.map fun id => H.getD id .dead) := renHeap_flat _ _ fun s hm => by
    obtain ⟨id, hid, rfl⟩ := List.mem_map.1 hm
    exact (hs id hid).2 _
  simp only [finish, ha, List.range_zero, List.take_zero, List.flatMap_nil, List.append_nil, h1, renOut_ok, hr, Option.map_some, Option.bind_some, h2]

namespace T
open Go.Ab.F

theorem clone_v (sz bytes : Nat) (rows : List (List A)) (ok : appendOk rows.length bytes) (hz : sz ≠ 0) : primClone sz bytes [mkF sz rows] [] = some (.ok (.osl 0 1 sz 0 rows.length), [.live ⟨1, sz, rows⟩]) := by
  simp [primClone, ok, hz]

/-- A copy's cells, its lists in objects of its own. -/
def copyRow (t : Thing) (a b c d : Nat) : List A := [.s (.int .u64 t.id), .s (.int .i64 t.kind), .s (.int .i64 t.label.df), .osl a 1 2 0 t.label.cats.length, .s (.int .i64 t.clear.df), .osl b 1 2 0 t.clear.cats.length, .s (.int .i64 t.quota), .s (.int .i64 t.next), .osl c 1 2 0 t.links.length, .osl d 1 1 0 t.data.length, .s (.int .u64 t.r0), .s (.int .u64 t.r1), .s (.int .u64 t.r2), .s (.int .u64 t.r3), .s (.int .i64 t.minted), .s (.int .i64 t.boot), .s (.bool t.halted), .s (.int .u64 t.value), .s (.int .u64 t.s0.dir), .s (.int .u64 t.s0.seg), .s (.int .u64 t.s1.dir), .s (.int .u64 t.s1.seg), .s (.int .u64 t.s2.dir), .s (.int .u64 t.s2.seg), .s (.int .u64 t.s3.dir), .s (.int .u64 t.s3.seg)]
@[simp] theorem copyRow_ids (t : Thing) (a b c d : Nat) : idsL (copyRow t a b c d) = [a, b, c, d] := rfl
@[simp] theorem copyRow_len (t : Thing) (a b c d : Nat) : (copyRow t a b c d).length = 26 := rfl

/-- What a thing must be to be copied. -/
structure small (t : Thing) : Prop where
  label : t.label.cats.length < 1000000
  clear : t.clear.cats.length < 1000000
  links : t.links.length < 1000000
  data : t.data.length < 1000000

theorem thing_Copy_v (t : Thing) (sm : small t) : thing_Copy [.agg (thingC t)] [] =
    some (.ok (.agg (copyRow t 0 1 2 3)), [.live ⟨1, 2, t.label.cats.map catC⟩, .live ⟨1, 2, t.clear.cats.map catC⟩, .live ⟨1, 2, t.links.map linkC⟩, .live ⟨1, 1, t.data.map (cellC .u8)⟩]) := by
  have s1 := sm.label; have s2 := sm.clear; have s3 := sm.links; have s4 := sm.data
  have ok16 : ∀ n, n < 1000000 → appendOk n 16 := fun n h => by constructor <;> omega
  have ok1 : ∀ n, n < 1000000 → appendOk n 1 := fun n h => by constructor <;> omega
  have hc : ∀ (n0 : Nat) (wr : List Nat) (cs : List Cat) (h : Heap) (k : A → Heap → Option (Out × Heap)), cs.length < 1000000 → oCallF n0 wr (primClone 2 16) [mkF 2 (cs.map catC)] h k = k (.osl h.length 1 2 0 cs.length) (h ++ [.live ⟨1, 2, cs.map catC⟩]) := fun n0 wr cs h k hl => by
    have := clone_v 2 16 (cs.map catC) (by simpa using ok16 _ hl) (by decide)
    simp only [List.length_map] at this
    exact oCallF_own n0 wr _ _ h k 1 2 _ _ (by simp) (fun f => renRows_map f _ (fun x => by simp [catC]) _) this
  have hl : ∀ (n0 : Nat) (wr : List Nat) (cs : List Link) (h : Heap) (k : A → Heap → Option (Out × Heap)), cs.length < 1000000 → oCallF n0 wr (primClone 2 16) [mkF 2 (cs.map linkC)] h k = k (.osl h.length 1 2 0 cs.length) (h ++ [.live ⟨1, 2, cs.map linkC⟩]) := fun n0 wr cs h k hl => by
    have := clone_v 2 16 (cs.map linkC) (by simpa using ok16 _ hl) (by decide)
    simp only [List.length_map] at this
    exact oCallF_own n0 wr _ _ h k 1 2 _ _ (by simp) (fun f => renRows_map f _ (fun x => by simp [linkC]) _) this
  have hd : ∀ (n0 : Nat) (wr : List Nat) (cs : List Int) (h : Heap) (k : A → Heap → Option (Out × Heap)), cs.length < 1000000 → oCallF n0 wr (primClone 1 1) [mkF 1 (cs.map (cellC .u8))] h k = k (.osl h.length 1 1 0 cs.length) (h ++ [.live ⟨1, 1, cs.map (cellC .u8)⟩]) := fun n0 wr cs h k hl => by
    have := clone_v 1 1 (cs.map (cellC .u8)) (by simpa using ok1 _ hl) (by decide)
    simp only [List.length_map] at this
    exact oCallF_own n0 wr _ _ h k 1 1 _ _ (by simp) (fun f => renRows_map f _ (fun x => by simp [cellC]) _) this
  have hrow : putCells (putCells (putCells (putCells (thingC t) 3 [.osl 2 1 2 0 t.label.cats.length]) 5 [.osl 3 1 2 0 t.clear.cats.length]) 8 [.osl 4 1 2 0 t.links.length]) 9 [.osl 5 1 1 0 t.data.length] = copyRow t 2 3 4 5 := rfl
  simp [thing_Copy, oLoadD, hc _ _ _ _ _ s1, hc _ _ _ _ _ s2, hl _ _ _ _ _ s3, hd _ _ _ _ _ s4, putCells, thingC, cellsAt]
  refine (finish_flat _ (.agg (copyRow t 0 1 2 3)) [2, 3, 4, 5] _ (by simp) (by decide) (by decide) (by
    intro id hid
    simp only [List.mem_cons, List.not_mem_nil, or_false] at hid
    rcases hid with rfl | rfl | rfl | rfl <;> refine ⟨by simp [idsRows_map _ catC_ids, idsRows_map _ linkC_ids, idsRows_map _ (cellC_ids .u8)], fun f => ?_⟩
    · simp [renRows_map f catC (fun x => by simp [catC])]
    · simp [renRows_map f catC (fun x => by simp [catC])]
    · simp [renRows_map f linkC (fun x => by simp [linkC])]
    · simp [renRows_map f (cellC .u8) (fun x => by simp [cellC])]) (by simp [copyRow, idx, List.idxOf?_cons])).trans ?_
  simp
end T
end Go.Ab

/-
  WHAT IS FROZEN OF CELLS THAT OWN THEIR LISTS.
-/
set_option linter.unusedSimpArgs false
set_option linter.unusedVariables false
namespace Go.Ab
open Go

inductive FrzCells : List A → Heap → List A → Heap → Prop where
  | nil (H : Heap) : FrzCells [] H [] H
  | flat (a : A) (r r' : List A) (H H' : Heap) (hf : flatA a = true) (h : FrzCells r H r' H') : FrzCells (a :: r) H (normA a :: r') H'
  | own (id ver sz m : Nat) (rows : List (List A)) (r r' : List A) (H H' : Heap) (hk : H[id]? = some (.live ⟨ver, sz, rows⟩)) (hm : m = rows.length) (hp : pureRows rows = true)
      (h : FrzCells r (H.set id .dead) r' H') : FrzCells (.osl id ver sz 0 m :: r) H (mkF sz rows :: r') H'

theorem FrzCells.pure {l l' : List A} {H H' : Heap} (h : FrzCells l H l' H') (hp : pureL l = true) : l' = l ∧ H' = H := by
  induction h with
  | nil H => exact ⟨rfl, rfl⟩
  | flat a r r' H H' hf h ih =>
    simp only [pureL_cons, Bool.and_eq_true] at hp
    obtain ⟨rfl, rfl⟩ := ih hp.2
    rw [normA_pure hp.1 hf]
    exact ⟨rfl, rfl⟩
  | own => simp [pureA] at hp

theorem frzL_cells {l l' : List A} {H H' : Heap} (h : FrzCells l H l' H') : ∀ n, l.length + 3 ≤ n → frzL n l H = some (l', H') := by
  induction h with
  | nil H => intro n hn; obtain ⟨n, rfl⟩ : ∃ m, n = m + 1 := ⟨n - 1, by omega⟩; simp [frzL]
  | flat a r r' H H' hf h ih =>
    intro n hn
    obtain ⟨n, rfl⟩ : ∃ m, n = m + 1 := ⟨n - 1, by omega⟩
    rw [frzL]
    split
    · rename_i hp
      obtain ⟨e1, e2⟩ := (FrzCells.flat a r r' H H' hf h).pure hp
      rw [e1, e2]
    · obtain ⟨n, rfl⟩ : ∃ m, n = m + 1 := ⟨n - 1, by simp at hn; omega⟩
      have e : frzA (n + 1) a H = some (normA a, H) := by cases a <;> simp [flatA] at hf <;> simp [frzA, normA]
      rw [e, Option.bind_some]
      simp only
      rw [ih (n + 1) (by simp at hn; omega)]
      rfl
  | own id ver sz m rows r r' H H' hk hm hp h ih =>
    intro n hn
    obtain ⟨n, rfl⟩ : ∃ m, n = m + 1 := ⟨n - 1, by omega⟩
    rw [frzL, if_neg (by simp [pureA])]
    obtain ⟨n, rfl⟩ : ∃ m, n = m + 2 := ⟨n - 2, by simp at hn; omega⟩
    rw [frz_own n id ver sz m rows H hk hm hp, Option.bind_some]
    simp only
    rw [ih (n + 2) (by simp at hn; omega)]
    rfl

/-- A bundle of cells, and another result. -/
theorem oFrz_tup {β : Type} {l l' : List A} {H H' : Heap} (h : FrzCells l H l' H') (hn : pureL l = false) (hl : l.length < 900) (es : List A) (he : pureL es = true) (k : A → Heap → Option β) : oFrz (.tup (.agg l :: es)) H k = k (.tup (.agg l' :: es)) H' := by
  have e1 : frzA 998 (.agg l) H = some (.agg l', H') := by
    rw [show (998 : Nat) = 997 + 1 from rfl]
    simp only [frzA, frzL_cells h 997 (by omega), Option.map_some]
  have e2 : frzL 998 es H' = some (es, H') := by
    rw [show (998 : Nat) = 997 + 1 from rfl]
    cases es with
    | nil => simp [frzL]
    | cons a r => rw [frzL, if_pos he]
  have e3 : frzL 999 (.agg l :: es) H = some (.agg l' :: es, H') := by
    rw [show (999 : Nat) = 998 + 1 from rfl, frzL, if_neg (by simp [hn]), e1, Option.bind_some]
    simp only [e2, Option.map_some]
  have e4 : frzA 1000 (.tup (.agg l :: es)) H = some (.tup (.agg l' :: es), H') := by
    rw [show (1000 : Nat) = 999 + 1 from rfl]
    simp only [frzA, e3, Option.map_some]
  simp only [oFrz, pureA_tup, pureL_cons, pureA_agg, hn, Bool.false_and, Bool.false_eq_true, if_false, e4]
/-- A bundle of cells alone. -/
theorem oFrz_agg {β : Type} {l l' : List A} {H H' : Heap} (h : FrzCells l H l' H') (hn : pureL l = false) (hl : l.length < 900) (k : A → Heap → Option β) : oFrz (.agg l) H k = k (.agg l') H' := by
  have e1 : frzA 1000 (.agg l) H = some (.agg l', H') := by
    rw [show (1000 : Nat) = 999 + 1 from rfl]
    simp only [frzA, frzL_cells h 999 (by omega), Option.map_some]
  simp only [oFrz, pureA_agg, hn, Bool.false_eq_true, if_false, e1]
end Go.Ab

/-
  DIRECTORIES THAT CHANGE: dir.Add, dir.Drop, dir.Born.
-/
set_option linter.unusedSimpArgs false
set_option linter.unusedVariables false
namespace Go.Ab.T
open Go Go.Ab Go.Ab.F

/-- A thing's cells, its lists in objects of its own. -/
def ownRow (t : Thing) (a b c d vc nl : Nat) : List A := [.s (.int .u64 t.id), .s (.int .i64 t.kind), .s (.int .i64 t.label.df), .osl a 1 2 0 t.label.cats.length, .s (.int .i64 t.clear.df), .osl b 1 2 0 t.clear.cats.length, .s (.int .i64 t.quota), .s (.int .i64 t.next), .osl c vc 2 0 nl, .osl d 1 1 0 t.data.length, .s (.int .u64 t.r0), .s (.int .u64 t.r1), .s (.int .u64 t.r2), .s (.int .u64 t.r3), .s (.int .i64 t.minted), .s (.int .i64 t.boot), .s (.bool t.halted), .s (.int .u64 t.value), .s (.int .u64 t.s0.dir), .s (.int .u64 t.s0.seg), .s (.int .u64 t.s1.dir), .s (.int .u64 t.s1.seg), .s (.int .u64 t.s2.dir), .s (.int .u64 t.s2.seg), .s (.int .u64 t.s3.dir), .s (.int .u64 t.s3.seg)]
@[simp] theorem ownRow_ids (t : Thing) (a b c d vc nl : Nat) : idsL (ownRow t a b c d vc nl) = [a, b, c, d] := rfl
@[simp] theorem ownRow_len (t : Thing) (a b c d vc nl : Nat) : (ownRow t a b c d vc nl).length = 26 := rfl
@[simp] theorem ownRow_pure (t : Thing) (a b c d vc nl : Nat) : pureL (ownRow t a b c d vc nl) = false := by simp [ownRow, pureA]

/-- A thing's lists as objects. -/
def own4 (t : Thing) (vc : Nat) (ls : List Link) : Heap := [.live ⟨1, 2, t.label.cats.map catC⟩, .live ⟨1, 2, t.clear.cats.map catC⟩, .live ⟨vc, 2, ls.map linkC⟩, .live ⟨1, 1, t.data.map (cellC .u8)⟩]
def dead4 : Heap := [.dead, .dead, .dead, .dead]

theorem renRow_links (f : Nat → Option Nat) (ls : List Link) : renRows f (ls.map linkC) = some (ls.map linkC) := renRows_map f linkC (fun x => by simp [linkC]) ls
theorem renRow_cats (f : Nat → Option Nat) (ls : List Cat) : renRows f (ls.map catC) = some (ls.map catC) := renRows_map f catC (fun x => by simp [catC]) ls
theorem renRow_data (f : Nat → Option Nat) (ls : List Int) : renRows f (ls.map (cellC .u8)) = some (ls.map (cellC .u8)) := renRows_map f _ (fun x => by simp [cellC]) ls

theorem own4_finish (t : Thing) (a b c d vc : Nat) (ls : List Link) (es : List A) (H : Heap) (he : idsL es = []) (hd : [a, b, c, d].Nodup)
    (ha : H[a]? = some (.live ⟨1, 2, t.label.cats.map catC⟩)) (hb : H[b]? = some (.live ⟨1, 2, t.clear.cats.map catC⟩)) (hc : H[c]? = some (.live ⟨vc, 2, ls.map linkC⟩)) (hdd : H[d]? = some (.live ⟨1, 1, t.data.map (cellC .u8)⟩)) :
    finish 0 (.ok (.tup (.agg (ownRow t a b c d vc ls.length) :: es))) H = some (.ok (.tup (.agg (ownRow t 0 1 2 3 vc ls.length) :: es)), own4 t vc ls) := by
  have hd' := hd
  simp only [List.nodup_cons, List.mem_cons, List.not_mem_nil, or_false, not_or, List.nodup_nil, and_true, not_false_eq_true] at hd'
  obtain ⟨⟨n1, n2, n3⟩, ⟨n4, n5⟩, n6⟩ := hd'
  refine (finish_flat _ (.tup (.agg (ownRow t 0 1 2 3 vc ls.length) :: es)) [a, b, c, d] H (by simp [he]) hd (by simp) (by
    intro id hid
    simp only [List.mem_cons, List.not_mem_nil, or_false] at hid
    rcases hid with rfl | rfl | rfl | rfl
    · refine ⟨by simp [ha, idsRows_map _ catC_ids], fun f => by simp [ha, renRow_cats]⟩
    · refine ⟨by simp [hb, idsRows_map _ catC_ids], fun f => by simp [hb, renRow_cats]⟩
    · refine ⟨by simp [hc, idsRows_map _ linkC_ids], fun f => by simp [hc, renRow_links]⟩
    · refine ⟨by simp [hdd, idsRows_map _ (cellC_ids .u8)], fun f => by simp [hdd, renRow_data]⟩) (by
    have e := renL_of_ids es (idx [a, b, c, d]) he
    have b1 : (a == b) = false := by simpa using n1
    have b2 : (a == c) = false := by simpa using n2
    have b3 : (a == d) = false := by simpa using n3
    have b4 : (b == c) = false := by simpa using n4
    have b5 : (b == d) = false := by simpa using n5
    have b6 : (c == d) = false := by simpa using n6
    simp [ownRow, idx, List.idxOf?_cons, e, b1, b2, b3, b4, b5, b6])).trans ?_
  simp [own4, ha, hb, hc, hdd]

theorem Copy_call {β : Type} (t : Thing) (sm : small t) (h : Heap) (kp k : A → Heap → Option β) :
    oLend thing_Copy [.agg (thingC t)] h kp k = k (.agg (ownRow t h.length (h.length + 1) (h.length + 2) (h.length + 3) 1 t.links.length)) (h ++ own4 t 1 t.links) := by
  have hF := thing_Copy_v t sm
  have hi : (idsL [A.agg (thingC t)]).isEmpty = true := by simp
  have hl : lendL lendFuel [.agg (thingC t)] (if (idsL [A.agg (thingC t)]).isEmpty = true then [] else h) = some [.agg (thingC t)] := lendL_pure 999 _ _ (by simp)
  unfold oLend
  rw [hl]
  simp only [hF]
  simp [copyRow, ownRow, own4, giveBack, backIdx, renRow_cats, renRow_links, renRow_data, setAll]

/-- What a caller gets of a thing whose lists are its own. -/
theorem own4_call {β : Type} (F : CallFn) (args : List A) (t : Thing) (vc : Nat) (ls : List Link) (es : List A) (h : Heap) (kp k : A → Heap → Option β) (ha : pureL args = true) (he : idsL es = []) (hep : pureL es = true)
    (hF : F args [] = some (.ok (.tup (.agg (ownRow t 0 1 2 3 vc ls.length) :: es)), own4 t vc ls)) :
    (oLend F args h kp fun w h' => oFrz w h' k) = k (.tup (.agg (thingC { t with links := ls }) :: es)) (h ++ dead4) := by
  have hi : (idsL args).isEmpty = true := by rw [pureL_ids args ha]; rfl
  have hl : lendL lendFuel args (if (idsL args).isEmpty = true then [] else h) = some args := lendL_pure 999 _ _ ha
  have e1 : (oLend F args h kp fun w h' => oFrz w h' k) = oFrz (.tup (.agg (ownRow t h.length (h.length + 1) (h.length + 2) (h.length + 3) vc ls.length) :: es)) (h ++ own4 t vc ls) k := by
    unfold oLend
    rw [hl]
    simp only [hF]
    have e := renL_of_ids es (backIdx [] h.length) he
    simp [hi, ownRow, own4, giveBack, backIdx, renRow_cats, renRow_links, renRow_data, setAll, renL_of_ids es _ he]
  rw [e1]
  refine oFrz_tup (l' := thingC { t with links := ls }) (H' := h ++ dead4) ?_ (by simp) (by simp) es hep k
  have g0 : (h ++ own4 t vc ls)[h.length]? = some (.live ⟨1, 2, t.label.cats.map catC⟩) := by simp [own4]
  have hcells : FrzCells (ownRow t h.length (h.length + 1) (h.length + 2) (h.length + 3) vc ls.length) (h ++ own4 t vc ls)
      (List.map normA [.s (.int .u64 t.id), .s (.int .i64 t.kind), .s (.int .i64 t.label.df)] ++ (mkF 2 (t.label.cats.map catC) :: normA (.s (.int .i64 t.clear.df)) :: mkF 2 (t.clear.cats.map catC) :: normA (.s (.int .i64 t.quota)) :: normA (.s (.int .i64 t.next)) :: mkF 2 (ls.map linkC) :: mkF 1 (t.data.map (cellC .u8)) ::
        List.map normA [.s (.int .u64 t.r0), .s (.int .u64 t.r1), .s (.int .u64 t.r2), .s (.int .u64 t.r3), .s (.int .i64 t.minted), .s (.int .i64 t.boot), .s (.bool t.halted), .s (.int .u64 t.value), .s (.int .u64 t.s0.dir), .s (.int .u64 t.s0.seg), .s (.int .u64 t.s1.dir), .s (.int .u64 t.s1.seg), .s (.int .u64 t.s2.dir), .s (.int .u64 t.s2.seg), .s (.int .u64 t.s3.dir), .s (.int .u64 t.s3.seg)]))
      ((((((h ++ own4 t vc ls).set h.length .dead).set (h.length + 1) .dead).set (h.length + 2) .dead).set (h.length + 3) .dead)) := by
    refine .flat _ _ _ _ _ rfl (.flat _ _ _ _ _ rfl (.flat _ _ _ _ _ rfl (.own _ 1 2 _ (t.label.cats.map catC) _ _ _ _ (by simp [own4]) (by simp) (pureRows_map _ (fun x => by simp) _)
      (.flat _ _ _ _ _ rfl (.own _ 1 2 _ (t.clear.cats.map catC) _ _ _ _ (by rw [List.getElem?_set_ne (by omega), List.getElem?_append_right (by omega)]; simp [own4]) (by simp) (pureRows_map _ (fun x => by simp) _)
      (.flat _ _ _ _ _ rfl (.flat _ _ _ _ _ rfl (.own _ vc 2 _ (ls.map linkC) _ _ _ _ (by rw [List.getElem?_set_ne (by omega), List.getElem?_set_ne (by omega), List.getElem?_append_right (by omega)]; simp [own4]) (by simp) (pureRows_map _ (fun x => by simp) _)
      (.own _ 1 1 _ (t.data.map (cellC .u8)) _ _ _ _ (by rw [List.getElem?_set_ne (by omega), List.getElem?_set_ne (by omega), List.getElem?_set_ne (by omega), List.getElem?_append_right (by omega)]; simp [own4]) (by simp) (pureRows_map _ (fun x => by simp) _) ?_)))))))))
    repeat (first | exact .nil _ | refine .flat _ _ _ _ _ rfl ?_)
  have hH : ((((h ++ own4 t vc ls).set h.length .dead).set (h.length + 1) .dead).set (h.length + 2) .dead).set (h.length + 3) .dead = h ++ dead4 := by
    rw [List.set_append_right _ _ (by omega), List.set_append_right _ _ (by omega), List.set_append_right _ _ (by omega), List.set_append_right _ _ (by omega)]
    simp [own4, dead4]
  rw [hH] at hcells
  exact hcells
end Go.Ab.T

/-
  DIRECTORIES THAT CHANGE: dir.Add, dir.Drop, dir.Born.
-/
set_option linter.unusedSimpArgs false
set_option linter.unusedVariables false
namespace Go.Ab.T
open Go Go.Ab Go.Ab.F

def addLinks (ls : List Link) (id q : Int) : List Link := ls.take (place ls id) ++ ⟨id, q⟩ :: ls.drop (place ls id)
def dropLinks (ls : List Link) (id : Int) : List Link := ls.take (place ls id) ++ ls.drop (place ls id + 1)
/-- May it not be added? -/
def addErr (t : Thing) (id q : Int) : Int :=
  if has t.links id then 123 else if 16 ≤ t.links.length then 122 else if q < 1 ∨ IntKind.i64.wrap (t.quota - used t) < q then 121 else 0
def withLinks (t : Thing) (ls : List Link) : Thing := { t with links := ls }
/-- One more link. -/
def add (t : Thing) (id q : Int) : Thing := if addErr t id q = 0 then withLinks t (addLinks t.links id q) else t
def drop (t : Thing) (id : Int) : Thing := if has t.links id then withLinks t (dropLinks t.links id) else t

theorem zero_row (t : Thing) : cellsAt (some 26) (thingC t) 0 = some (.agg (thingC t)) := rfl

theorem place_lt_len {ls : List Link} {id : Int} (hs : sortedL ls) (h : has ls id = true) : place ls id < ls.length := by
  rw [← place_has hs] at h
  cases hx : ls[place ls id]? with
  | none => simp [hx] at h
  | some x => exact (List.getElem?_eq_some_iff.1 hx).1

theorem addLinks_len (ls : List Link) (id q : Int) : (addLinks ls id q).length = ls.length + 1 := by
  have := place_le ls id
  simp [addLinks]; omega
theorem dropLinks_len {ls : List Link} {id : Int} (h : place ls id < ls.length) : (dropLinks ls id).length = ls.length - 1 := by
  simp [dropLinks]; omega

theorem dir_Add_run (t : Thing) (id q : Int) (sm : small t) (hs : sortedL t.links) :
    (addErr t id q ≠ 0 ∧ dir_Add [.agg (thingC t), .s (.int .u64 id), .s (.int .i64 q)] [] = some (.ok (.tup [.agg (thingC t), .s (.int .i64 (addErr t id q))]), [])) ∨
    (addErr t id q = 0 ∧ dir_Add [.agg (thingC t), .s (.int .u64 id), .s (.int .i64 q)] [] = some (.ok (.tup [.agg (ownRow t 0 1 2 3 2 (addLinks t.links id q).length), .s (.int .i64 0)]), own4 t 2 (addLinks t.links id q))) := by
  have s3 := sm.links
  have hp : ∀ (β : Type) (h : Heap) (kp k : A → Heap → Option β), oLend dir_place [.agg (thingC t), .s (.int .u64 id)] h kp k = k (.tup [.s (.int .i64 (place t.links id)), .s (.bool (has t.links id))]) h := fun β h kp k =>
    oLend_val _ _ _ _ _ _ (by simp) (by simp) (dir_place_v t id (by omega) hs)
  have hu : ∀ (β : Type) (n0 : Nat) (wr : List Nat) (h : Heap) (k : A → Heap → Option β), oCallF n0 wr dir_Used [.agg (thingC t)] h k = k (.s (.int .i64 (used t))) h := fun β n0 wr h k =>
    oCallF_val _ _ _ _ _ _ _ (by simp) (by simp) (dir_Used_v t (by omega))
  by_cases c1 : has t.links id = true
  · left
    refine ⟨by simp [addErr, c1], ?_⟩
    simp [dir_Add, hp, c1, zero_row, addErr, finish_val]
  have c1' : has t.links id = false := by simpa using c1
  by_cases c2 : 16 ≤ t.links.length
  · left
    have c2' : (16 : Int) ≤ t.links.length := by omega
    refine ⟨by simp [addErr, c1', c2], ?_⟩
    simp [dir_Add, hp, c1', c2, c2', zero_row, addErr, finish_val]
  have c2' : ¬ (16 : Int) ≤ t.links.length := by omega
  by_cases c3 : q < 1
  · left
    refine ⟨by simp [addErr, c1', c2, c3], ?_⟩
    simp [dir_Add, hp, c1', c2, c2', c3, zero_row, addErr, finish_val, trim, allBelow, dir_Add_k1]
  by_cases c4 : IntKind.i64.wrap (t.quota - used t) < q
  · left
    refine ⟨by simp [addErr, c1', c2, c4], ?_⟩
    simp [dir_Add, hp, hu, c1', c2, c2', c3, c4, zero_row, addErr, finish_val, trim, allBelow, dir_Add_k1, oLoadD]
  · right
    refine ⟨by simp [addErr, c1', c2, c3, c4], ?_⟩
    have hle := place_le t.links id
    have hcp := fun (h : Heap) (kp k : A → Heap → Option (Out × Heap)) => Copy_call t sm h kp k
    have hins : ∀ (H : Heap) (kp k : A → Heap → Option (Out × Heap)), H[4]? = some (.live ⟨1, 2, t.links.map linkC⟩) → H[6]? = some (.live ⟨0, 2, [[.s (.int .u64 id), .s (.int .i64 q)]]⟩) →
        oCall (primInsert 2 16) [.osl 4 1 2 0 t.links.length, .s (.int .i64 (place t.links id)), .osl 6 0 2 0 1] H kp k = k (.osl 4 2 2 0 (t.links.length + 1)) (H.set 4 (.live ⟨2, 2, (addLinks t.links id q).map linkC⟩)) := fun H kp k h4 h6 => by
      refine (oCall_insert 2 16 H 4 1 t.links.length (place t.links id) 6 (t.links.map linkC) (linkC ⟨id, q⟩) kp k h4 h6 (by simp) (by decide) hle (by constructor <;> omega) (idsRows_map _ linkC_ids _) (by simp) (fun f => renRow_links f _) (fun f => by simp [linkC])).trans ?_
      simp [addLinks, List.map_take, List.map_drop]
    simp [dir_Add, hp, hu, c1', c2, c2', c3, c4, zero_row, trim, allBelow, dir_Add_k1, oLoadD, hcp, own4]
    simp [putCells, thingC, ownRow, hins, cellsAt]
    rw [← addLinks_len t.links id q]
    exact own4_finish t 2 3 4 5 2 (addLinks t.links id q) [.s (.int .i64 0)] _ (by simp) (by decide) rfl rfl rfl rfl
end Go.Ab.T

/-
  DIRECTORIES THAT CHANGE: dir.Drop, dir.Born, and what their callers get.
-/
set_option linter.unusedSimpArgs false
set_option linter.unusedVariables false
namespace Go.Ab.T
open Go Go.Ab Go.Ab.F

theorem val_call {β : Type} (F : CallFn) (args : List A) (a : A) (h : Heap) (kp k : A → Heap → Option β) (ha : pureL args = true) (hp : pureA a = true) (hr : idsA a = []) (hF : F args [] = some (.ok a, [])) :
    (oLend F args h kp fun w h' => oFrz w h' k) = k a h := by
  rw [oLend_val _ _ _ _ _ _ ha hr hF, oFrz_pure _ _ _ hp]

theorem Add_call (t : Thing) (id q : Int) (sm : small t) (hs : sortedL t.links) : ∃ ex : Heap, (ex = [] ∧ addErr t id q ≠ 0 ∨ ex = dead4 ∧ addErr t id q = 0) ∧ ∀ {β : Type} (h : Heap) (kp k : A → Heap → Option β),
    (oLend dir_Add [.agg (thingC t), .s (.int .u64 id), .s (.int .i64 q)] h kp fun w h' => oFrz w h' k) = k (.tup [.agg (thingC (add t id q)), .s (.int .i64 (addErr t id q))]) (h ++ ex) := by
  rcases dir_Add_run t id q sm hs with ⟨he, hF⟩ | ⟨he, hF⟩
  · refine ⟨[], .inl ⟨rfl, he⟩, fun h kp k => ?_⟩
    rw [val_call _ _ _ h kp k (by simp) (by simp) (by simp) hF]
    simp [add, he]
  · refine ⟨dead4, .inr ⟨rfl, he⟩, fun h kp k => ?_⟩
    rw [own4_call _ _ t 2 _ [.s (.int .i64 0)] h kp k (by simp) (by simp) (by simp) hF]
    simp [add, he, withLinks]

def dropErr (t : Thing) (id : Int) : Int := if has t.links id then 0 else 124
theorem dir_Drop_run (t : Thing) (id : Int) (sm : small t) (hs : sortedL t.links) :
    (has t.links id = false ∧ dir_Drop [.agg (thingC t), .s (.int .u64 id)] [] = some (.ok (.tup [.agg (thingC t), .s (.int .i64 124)]), [])) ∨
    (has t.links id = true ∧ dir_Drop [.agg (thingC t), .s (.int .u64 id)] [] = some (.ok (.tup [.agg (ownRow t 0 1 2 3 2 (dropLinks t.links id).length), .s (.int .i64 0)]), own4 t 2 (dropLinks t.links id))) := by
  have s3 := sm.links
  have hp : ∀ (β : Type) (h : Heap) (kp k : A → Heap → Option β), oLend dir_place [.agg (thingC t), .s (.int .u64 id)] h kp k = k (.tup [.s (.int .i64 (place t.links id)), .s (.bool (has t.links id))]) h := fun β h kp k =>
    oLend_val _ _ _ _ _ _ (by simp) (by simp) (dir_place_v t id (by omega) hs)
  cases c1 : has t.links id with
  | false =>
    left
    refine ⟨rfl, ?_⟩
    simp [dir_Drop, hp, c1, zero_row, finish_val]
  | true =>
    right
    refine ⟨rfl, ?_⟩
    have hlt := place_lt_len hs c1
    have hcp := fun (h : Heap) (kp k : A → Heap → Option (Out × Heap)) => Copy_call t sm h kp k
    have hw : IntKind.i64.wrap ((place t.links id : Int) + 1) = ((place t.links id + 1 : Nat) : Int) := by rw [wrap64_id (by omega) (by omega)]; simp
    have hdel : ∀ (H : Heap) (kp k : A → Heap → Option (Out × Heap)), H[4]? = some (.live ⟨1, 2, t.links.map linkC⟩) →
        oCall (primDelete 2 16) [.osl 4 1 2 0 t.links.length, .s (.int .i64 (place t.links id)), .s (.int .i64 ((place t.links id : Int) + 1))] H kp k = k (.osl 4 2 2 0 (t.links.length - 1)) (H.set 4 (.live ⟨2, 2, (dropLinks t.links id).map linkC⟩)) := fun H kp k h4 => by
      rw [show ((place t.links id : Int) + 1) = ((place t.links id + 1 : Nat) : Int) by omega]
      refine (oCall_delete 2 16 H 4 1 t.links.length (place t.links id) (t.links.map linkC) kp k h4 (by simp) hlt (idsRows_map _ linkC_ids _) (fun f l hl => ?_)).trans ?_
      · clear h4
        induction l with
        | nil => rfl
        | cons a r ih =>
          obtain ⟨x, _, rfl⟩ := List.mem_map.1 (hl a (by simp))
          simp [ih fun y hy => hl y (by simp [hy]), linkC]
      · simp [dropLinks, List.map_take, List.map_drop]
    simp [dir_Drop, hp, c1, zero_row, hcp, own4, hw]
    simp [putCells, thingC, ownRow, hdel, cellsAt]
    rw [← dropLinks_len hlt]
    exact own4_finish t 2 3 4 5 2 (dropLinks t.links id) [.s (.int .i64 0)] _ (by simp) (by decide) rfl rfl rfl rfl
theorem Drop_call (t : Thing) (id : Int) (sm : small t) (hs : sortedL t.links) : ∃ ex : Heap, (ex = [] ∨ ex = dead4) ∧ ∀ {β : Type} (h : Heap) (kp k : A → Heap → Option β),
    (oLend dir_Drop [.agg (thingC t), .s (.int .u64 id)] h kp fun w h' => oFrz w h' k) = k (.tup [.agg (thingC (drop t id)), .s (.int .i64 (dropErr t id))]) (h ++ ex) := by
  rcases dir_Drop_run t id sm hs with ⟨he, hF⟩ | ⟨he, hF⟩
  · refine ⟨[], .inl rfl, fun h kp k => ?_⟩
    rw [val_call _ _ _ h kp k (by simp) (by simp) (by simp) hF]
    simp [drop, dropErr, he]
  · refine ⟨dead4, .inr rfl, fun h kp k => ?_⟩
    rw [own4_call _ _ t 2 _ [.s (.int .i64 0)] h kp k (by simp) (by simp) (by simp) hF]
    simp [drop, dropErr, he, withLinks]

/-- One more link, under a name of its own. -/
def born (t : Thing) (q : Int) : Thing × Int × Int :=
  if (fresh t).2 ≠ 0 then (t, 0, (fresh t).2)
  else if addErr t (fresh t).1 q ≠ 0 then (t, 0, addErr t (fresh t).1 q)
  else ({ add t (fresh t).1 q with next := IntKind.i64.wrap (t.next + 1) }, (fresh t).1, 0)
theorem add_next (t : Thing) (id q : Int) : (add t id q).next = t.next := by unfold add; split <;> rfl
theorem dir_Born_v (t : Thing) (q : Int) (sm : small t) (hs : sortedL t.links) :
    dir_Born [.agg (thingC t), .s (.int .i64 q)] [] = some (.ok (.tup [.agg (thingC (born t q).1), .s (.int .u64 (born t q).2.1), .s (.int .i64 (born t q).2.2)]), []) := by
  have hf : ∀ (β : Type) (h : Heap) (kp k : A → Heap → Option β), oLend dir_Fresh [.agg (thingC t)] h kp k = k (.tup [.s (.int .u64 (fresh t).1), .s (.int .i64 (fresh t).2)]) h := fun β h kp k =>
    oLend_val _ _ _ _ _ _ (by simp) (by simp) (dir_Fresh_v t)
  by_cases c1 : (fresh t).2 = 0
  · obtain ⟨ex, hex, hcall⟩ := Add_call t (fresh t).1 q sm hs
    have hcall' := fun (h : Heap) (kp k : A → Heap → Option (Out × Heap)) => hcall h kp k
    have hnx := add_next t (fresh t).1 q
    rcases hex with ⟨rfl, he⟩ | ⟨rfl, he⟩
    · simp [dir_Born, hf, c1, hcall', he, born, zero_row, finish_val]
    · have hp7 : putCells (thingC (add t (fresh t).1 q)) 7 [.s (.int .i64 (IntKind.i64.wrap ((add t (fresh t).1 q).next + 1)))] = thingC { add t (fresh t).1 q with next := IntKind.i64.wrap (t.next + 1) } := by rw [hnx]; rfl
      simp [dir_Born, hf, c1, hcall', he, born, zero_row, finish_val, dead4, hp7]
  · simp [dir_Born, hf, c1, born, zero_row, finish_val]
end Go.Ab.T
